import Derived.Test.YtnnepclpggbjgaaSxN03c
namespace Go.Sx
/-- four words; limbs -/
def W4 (a : List Nat) : Prop := ∃ a0 a1 a2 a3, a = [a0, a1, a2, a3] ∧ a0 < 18446744073709551616 ∧ a1 < 18446744073709551616 ∧ a2 < 18446744073709551616 ∧ a3 < 18446744073709551616
def num (a : List Nat) : Nat := v64 (a.getD 0 0) (a.getD 1 0) (a.getD 2 0) (a.getD 3 0)
def LB (l : List Nat) : Prop := ∃ l0 l1 l2 l3 l4, l = [l0, l1, l2, l3, l4] ∧ l0 < 2251799813685248 + 57 ∧ l1 < 2251799813685248 ∧ l2 < 2251799813685248 ∧ l3 < 2251799813685248 ∧ l4 < 2251799813685248
def nv (l : List Nat) : Nat := v51 (l.getD 0 0) (l.getD 1 0) (l.getD 2 0) (l.getD 3 0) (l.getD 4 0)
theorem PP_pos : 0 < PP := by decide
theorem fe_W4 (x : Nat) : W4 (fe x) := ⟨_, _, _, _, rfl, by omega, by omega, by omega, by omega⟩
theorem num_fe {x : Nat} (h : x < 115792089237316195423570985008687907853269984665640564039457584007913129639936) : num (fe x) = x := by
  show v64 (x % 18446744073709551616) (x / 18446744073709551616 % 18446744073709551616) (x / 340282366920938463463374607431768211456 % 18446744073709551616) (x / 6277101735386680763835789423207666416102355444464034512896 % 18446744073709551616) = x
  unfold v64
  omega
theorem fe_num {a : List Nat} (h : W4 a) : fe (num a) = a := by
  obtain ⟨a0, a1, a2, a3, rfl, h0, h1, h2, h3⟩ := h
  show fe (v64 a0 a1 a2 a3) = _
  have z0 : v64 a0 a1 a2 a3 % 18446744073709551616 = a0 := by unfold v64; omega
  have z1 : v64 a0 a1 a2 a3 / 18446744073709551616 % 18446744073709551616 = a1 := by unfold v64; omega
  have z2 : v64 a0 a1 a2 a3 / 340282366920938463463374607431768211456 % 18446744073709551616 = a2 := by unfold v64; omega
  have z3 : v64 a0 a1 a2 a3 / 6277101735386680763835789423207666416102355444464034512896 % 18446744073709551616 = a3 := by unfold v64; omega
  unfold fe
  rw [z0, z1, z2, z3]
def fm (x : Nat) : List Nat := fe (x % PP)
theorem mod_lt256 (x : Nat) : x % PP < 115792089237316195423570985008687907853269984665640564039457584007913129639936 := Nat.lt_trans (Nat.mod_lt _ PP_pos) (by decide)
theorem num_fm (x : Nat) : num (fm x) = x % PP := num_fe (mod_lt256 x)
theorem fm_congr {x y : Nat} (h : x % PP = y % PP) : fm x = fm y := by unfold fm; rw [h]
theorem load4 {a : List Nat} (h : W4 a) : g37ok realA a = true ∧ LB (g37r0 realA a) ∧ nv (g37r0 realA a) % PP = num a % PP := by
  obtain ⟨a0, a1, a2, a3, rfl, h0, h1, h2, h3⟩ := h
  obtain ⟨k, r0, r1, r2, r3, r4, c, q1, q2, q3, q4, q5, q6, q7⟩ := loadOk h0 h1 h2 h3
  refine ⟨k, ⟨r0, r1, r2, r3, r4, q7, q5, q1, q2, q3, q4⟩, ?_⟩
  rw [q7]
  show v51 r0 r1 r2 r3 r4 % PP = v64 a0 a1 a2 a3 % PP
  rw [← q6, Nat.add_mul_mod_self_left]
theorem times5 {l m : List Nat} (hl : LB l) (hm : LB m) : g42ok realA l m = true ∧ LB (g42r0 realA l m) ∧ nv (g42r0 realA l m) % PP = (nv l * nv m) % PP := by
  obtain ⟨l0, l1, l2, l3, l4, rfl, a0, a1, a2, a3, a4⟩ := hl
  obtain ⟨m0, m1, m2, m3, m4, rfl, b0, b1, b2, b3, b4⟩ := hm
  obtain ⟨k, r0, r1, r2, r3, r4, q1, q2, q3, q4, q5, q6, q7⟩ := timesOk (l0 := l0) (m0 := m0) (l1 := l1) (m1 := m1) (l2 := l2) (m2 := m2) (l3 := l3) (m3 := m3) (l4 := l4) (m4 := m4) (by omega) (by omega) (by omega) (by omega) (by omega) (by omega) (by omega) (by omega) (by omega) (by omega)
  refine ⟨k, ⟨r0, r1, r2, r3, r4, q7, q5, q1, q2, q3, q4⟩, ?_⟩
  rw [q7]
  exact q6
theorem store5 {l : List Nat} (hl : LB l) : g38ok realA l = true ∧ g38r0 realA l = fm (nv l) := by
  obtain ⟨l0, l1, l2, l3, l4, rfl, a0, a1, a2, a3, a4⟩ := hl
  exact storeOk (by omega) (by omega) (by omega) (by omega) (by omega)
theorem mulOk {a b : List Nat} (ha : W4 a) (hb : W4 b) : g16ok realA a b = true ∧ g16r0 realA a b = fm (num a * num b) := by
  obtain ⟨k1, x1, y1⟩ := load4 ha
  obtain ⟨k2, x2, y2⟩ := load4 hb
  obtain ⟨k3, x3, y3⟩ := times5 x1 x2
  obtain ⟨k4, y4⟩ := store5 x3
  have e : g16v realA a b = some (.v (.agg [.nums .u64 4 (fm (num a * num b))])) := by
    unfold g16v
    generalize 100000 = n
    unfold g16
    rw [k1, k2, k3, k4, y4]
    rw [fm_congr (y3.trans (show nv (g37r0 realA a) * nv (g37r0 realA b) % PP = num a * num b % PP by rw [Nat.mul_mod, y1, y2, ← Nat.mul_mod]))]
  exact ⟨by unfold g16ok; rw [e]; rfl, by unfold g16r0; rw [e]; rfl⟩
theorem addStep (n m i : Nat) (d l b : List Nat) (hi : i < 5) (hs : l.getD i 0 + b.getD i 0 < 18446744073709551616) : g12L3 realA n (fun v _ => some v) (m + 1) i d l b = g12L3 realA n (fun v _ => some v) m ((i + 1 : Nat) : Int) d (l.set i (l.getD i 0 + b.getD i 0)) b := by
  have e1 : realA.ib .add .i64 (i : Int) 1 = ((i + 1 : Nat) : Int) := addN 1 (by omega)
  rw [g12L3, lssT (show (i : Int) < 5 by omega)]
  simp only [g12J4, negN, toNN, ltT hi, nadd hs]
  rw [e1]
theorem v51_add (a0 a1 a2 a3 a4 b0 b1 b2 b3 b4 : Nat) : v51 (a0 + b0) (a1 + b1) (a2 + b2) (a3 + b3) (a4 + b4) = v51 a0 a1 a2 a3 a4 + v51 b0 b1 b2 b3 b4 := by unfold v51; omega
theorem addOk {a b : List Nat} (ha : W4 a) (hb : W4 b) : g12ok realA a b = true ∧ g12r0 realA a b = fm (num a + num b) := by
  obtain ⟨k1, ⟨l0, l1, l2, l3, l4, el, a0, a1, a2, a3, a4⟩, y1⟩ := load4 ha
  obtain ⟨k2, ⟨m0, m1, m2, m3, m4, em, b0, b1, b2, b3, b4⟩, y2⟩ := load4 hb
  rw [el] at y1
  rw [em] at y2
  obtain ⟨k4, y4⟩ := storeOk (l0 := l0 + m0) (l1 := l1 + m1) (l2 := l2 + m2) (l3 := l3 + m3) (l4 := l4 + m4) (by omega) (by omega) (by omega) (by omega) (by omega)
  have hm : v51 (l0 + m0) (l1 + m1) (l2 + m2) (l3 + m3) (l4 + m4) % PP = (num a + num b) % PP := by
    rw [v51_add, Nat.add_mod, show v51 l0 l1 l2 l3 l4 % PP = num a % PP from y1, show v51 m0 m1 m2 m3 m4 % PP = num b % PP from y2, ← Nat.add_mod]
  have e : g12v realA a b = some (.v (.agg [.nums .u64 4 (fm (num a + num b))])) := by
    unfold g12v
    rw [show (100000 : Nat) = 99994 + 6 from rfl]
    generalize 99994 = m
    unfold g12
    rw [k1, k2, el, em]
    have s0 := addStep (m + 6) (m + 5) 0 [0, 0, 0, 0] [l0, l1, l2, l3, l4] [m0, m1, m2, m3, m4] (by decide) (show l0 + m0 < _ by omega)
    have s1 := addStep (m + 6) (m + 4) 1 [0, 0, 0, 0] [l0 + m0, l1, l2, l3, l4] [m0, m1, m2, m3, m4] (by decide) (show l1 + m1 < _ by omega)
    have s2 := addStep (m + 6) (m + 3) 2 [0, 0, 0, 0] [l0 + m0, l1 + m1, l2, l3, l4] [m0, m1, m2, m3, m4] (by decide) (show l2 + m2 < _ by omega)
    have s3 := addStep (m + 6) (m + 2) 3 [0, 0, 0, 0] [l0 + m0, l1 + m1, l2 + m2, l3, l4] [m0, m1, m2, m3, m4] (by decide) (show l3 + m3 < _ by omega)
    have s4 := addStep (m + 6) (m + 1) 4 [0, 0, 0, 0] [l0 + m0, l1 + m1, l2 + m2, l3 + m3, l4] [m0, m1, m2, m3, m4] (by decide) (show l4 + m4 < _ by omega)
    refine Eq.trans (b := g12L3 realA (m + 6) (fun v _ => some v) (m + 5 + 1) ((0 : Nat) : Int) [0, 0, 0, 0] [l0, l1, l2, l3, l4] [m0, m1, m2, m3, m4]) rfl ?_
    refine s0.trans (s1.trans (s2.trans (s3.trans (s4.trans ?_))))
    have hx : g12L3 realA (m + 6) (fun v _ => some v) (m + 1) ((5 : Nat) : Int) [0, 0, 0, 0] [l0 + m0, l1 + m1, l2 + m2, l3 + m3, l4 + m4] [m0, m1, m2, m3, m4] = some (.v (.agg [.nums .u64 4 (fm (num a + num b))])) := by
      rw [g12L3, show realA.ic .lss (((5 : Nat)) : Int) 5 = false from rfl]
      rw [k4, y4, hm]
      rfl
    exact hx
  exact ⟨by unfold g12ok; rw [e]; rfl, by unfold g12r0; rw [e]; rfl⟩
theorem subStep (n m i : Nat) (d l b f : List Nat) (hi : i < 5) (hf : b.getD i 0 ≤ f.getD i 0) (hs : l.getD i 0 + (f.getD i 0 - b.getD i 0) < 18446744073709551616) (hf2 : f.getD i 0 < 18446744073709551616) : g14L4 realA n (fun v _ => some v) (m + 1) i d l b f = g14L4 realA n (fun v _ => some v) m ((i + 1 : Nat) : Int) d (l.set i (l.getD i 0 + (f.getD i 0 - b.getD i 0))) b f := by
  have e1 : realA.ib .add .i64 (i : Int) 1 = ((i + 1 : Nat) : Int) := addN 1 (by omega)
  have e2 : realA.nb .sub .u64 (f.getD i 0) (b.getD i 0) = f.getD i 0 - b.getD i 0 := by
    show (f.getD i 0 + 18446744073709551616 - b.getD i 0) % 18446744073709551616 = _
    omega
  rw [g14L4, lssT (show (i : Int) < 5 by omega)]
  simp only [g14J5, negN, toNN, ltT hi, e2, nadd hs]
  rw [e1]
theorem v51_sub (a0 a1 a2 a3 a4 b0 b1 b2 b3 b4 : Nat) (h0 : b0 ≤ 9007199254740916) (h1 : b1 ≤ 9007199254740988) (h2 : b2 ≤ 9007199254740988) (h3 : b3 ≤ 9007199254740988) (h4 : b4 ≤ 9007199254740988) :
    v51 (a0 + (9007199254740916 - b0)) (a1 + (9007199254740988 - b1)) (a2 + (9007199254740988 - b2)) (a3 + (9007199254740988 - b3)) (a4 + (9007199254740988 - b4)) + v51 b0 b1 b2 b3 b4 = v51 a0 a1 a2 a3 a4 + PP * 4 := by unfold v51 PP; omega
/-- what the difference comes to: its sum with b is a -/
theorem subOk {a b : List Nat} (ha : W4 a) (hb : W4 b) : ∃ x, g14ok realA a b = true ∧ g14r0 realA a b = fm x ∧ (x + num b) % PP = num a % PP := by
  obtain ⟨k1, ⟨l0, l1, l2, l3, l4, el, a0, a1, a2, a3, a4⟩, y1⟩ := load4 ha
  obtain ⟨k2, ⟨m0, m1, m2, m3, m4, em, b0, b1, b2, b3, b4⟩, y2⟩ := load4 hb
  rw [el] at y1
  rw [em] at y2
  obtain ⟨k4, y4⟩ := storeOk (l0 := l0 + (9007199254740916 - m0)) (l1 := l1 + (9007199254740988 - m1)) (l2 := l2 + (9007199254740988 - m2)) (l3 := l3 + (9007199254740988 - m3)) (l4 := l4 + (9007199254740988 - m4)) (by omega) (by omega) (by omega) (by omega) (by omega)
  have hv := v51_sub l0 l1 l2 l3 l4 m0 m1 m2 m3 m4 (by omega) (by omega) (by omega) (by omega) (by omega)
  refine ⟨v51 (l0 + (9007199254740916 - m0)) (l1 + (9007199254740988 - m1)) (l2 + (9007199254740988 - m2)) (l3 + (9007199254740988 - m3)) (l4 + (9007199254740988 - m4)), ?_⟩
  have e : g14v realA a b = some (.v (.agg [.nums .u64 4 (fm (v51 (l0 + (9007199254740916 - m0)) (l1 + (9007199254740988 - m1)) (l2 + (9007199254740988 - m2)) (l3 + (9007199254740988 - m3)) (l4 + (9007199254740988 - m4))))])) := by
    unfold g14v
    rw [show (100000 : Nat) = 99994 + 6 from rfl]
    generalize 99994 = m
    unfold g14
    rw [k1, k2, el, em]
    have s0 := subStep (m + 6) (m + 5) 0 [0, 0, 0, 0] [l0, l1, l2, l3, l4] [m0, m1, m2, m3, m4] [9007199254740916, 9007199254740988, 9007199254740988, 9007199254740988, 9007199254740988] (by decide) (show m0 ≤ 9007199254740916 by omega) (show l0 + (9007199254740916 - m0) < _ by omega) (by decide)
    have s1 := subStep (m + 6) (m + 4) 1 [0, 0, 0, 0] [l0 + (9007199254740916 - m0), l1, l2, l3, l4] [m0, m1, m2, m3, m4] [9007199254740916, 9007199254740988, 9007199254740988, 9007199254740988, 9007199254740988] (by decide) (show m1 ≤ 9007199254740988 by omega) (show l1 + (9007199254740988 - m1) < _ by omega) (by decide)
    have s2 := subStep (m + 6) (m + 3) 2 [0, 0, 0, 0] [l0 + (9007199254740916 - m0), l1 + (9007199254740988 - m1), l2, l3, l4] [m0, m1, m2, m3, m4] [9007199254740916, 9007199254740988, 9007199254740988, 9007199254740988, 9007199254740988] (by decide) (show m2 ≤ 9007199254740988 by omega) (show l2 + (9007199254740988 - m2) < _ by omega) (by decide)
    have s3 := subStep (m + 6) (m + 2) 3 [0, 0, 0, 0] [l0 + (9007199254740916 - m0), l1 + (9007199254740988 - m1), l2 + (9007199254740988 - m2), l3, l4] [m0, m1, m2, m3, m4] [9007199254740916, 9007199254740988, 9007199254740988, 9007199254740988, 9007199254740988] (by decide) (show m3 ≤ 9007199254740988 by omega) (show l3 + (9007199254740988 - m3) < _ by omega) (by decide)
    have s4 := subStep (m + 6) (m + 1) 4 [0, 0, 0, 0] [l0 + (9007199254740916 - m0), l1 + (9007199254740988 - m1), l2 + (9007199254740988 - m2), l3 + (9007199254740988 - m3), l4] [m0, m1, m2, m3, m4] [9007199254740916, 9007199254740988, 9007199254740988, 9007199254740988, 9007199254740988] (by decide) (show m4 ≤ 9007199254740988 by omega) (show l4 + (9007199254740988 - m4) < _ by omega) (by decide)
    refine Eq.trans (b := g14L4 realA (m + 6) (fun v _ => some v) (m + 5 + 1) ((0 : Nat) : Int) [0, 0, 0, 0] [l0, l1, l2, l3, l4] [m0, m1, m2, m3, m4] [9007199254740916, 9007199254740988, 9007199254740988, 9007199254740988, 9007199254740988]) rfl ?_
    refine s0.trans (s1.trans (s2.trans (s3.trans (s4.trans ?_))))
    have hx : g14L4 realA (m + 6) (fun v _ => some v) (m + 1) ((5 : Nat) : Int) [0, 0, 0, 0] [l0 + (9007199254740916 - m0), l1 + (9007199254740988 - m1), l2 + (9007199254740988 - m2), l3 + (9007199254740988 - m3), l4 + (9007199254740988 - m4)] [m0, m1, m2, m3, m4] [9007199254740916, 9007199254740988, 9007199254740988, 9007199254740988, 9007199254740988] = some (.v (.agg [.nums .u64 4 (fm (v51 (l0 + (9007199254740916 - m0)) (l1 + (9007199254740988 - m1)) (l2 + (9007199254740988 - m2)) (l3 + (9007199254740988 - m3)) (l4 + (9007199254740988 - m4))))])) := by
      rw [g14L4, show realA.ic .lss (((5 : Nat)) : Int) 5 = false from rfl]
      rw [k4, y4]
      rfl
    exact hx
  refine ⟨by unfold g14ok; rw [e]; rfl, by unfold g14r0; rw [e]; rfl, ?_⟩
  have y1' : v51 l0 l1 l2 l3 l4 % PP = num a % PP := y1
  have y2' : v51 m0 m1 m2 m3 m4 % PP = num b % PP := y2
  rw [Nat.add_mod, ← y2', ← Nat.add_mod, hv, Nat.add_mul_mod_self_left, y1']
theorem negOk {a : List Nat} (ha : W4 a) : ∃ x, g18ok realA a = true ∧ g18r0 realA a = fm x ∧ (x + num a) % PP = 0 := by
  obtain ⟨x, h1, h2, h3⟩ := subOk (a := [0, 0, 0, 0]) ⟨0, 0, 0, 0, rfl, by decide, by decide, by decide, by decide⟩ ha
  have e : g18v realA a = some (.v (.agg [.nums .u64 4 (fm x)])) := by
    unfold g18v
    generalize 100000 = n
    unfold g18
    rw [h1, h2]
  exact ⟨x, by unfold g18ok; rw [e]; rfl, by unfold g18r0; rw [e]; rfl, h3⟩
theorem lqE (a b : List Nat) : realA.lq a b = decide (a = b) := rfl
theorem rightOk {a : List Nat} (ha : W4 a) : g20ok realA a = true ∧ g20r0 realA a = decide (num a < PP) := by
  obtain ⟨k1, x1, y1⟩ := load4 ha
  obtain ⟨k4, y4⟩ := store5 x1
  rw [fm_congr y1] at y4
  have e : g20v realA a = some (.v (.cell (.bool (decide (num a < PP))))) := by
    unfold g20v
    generalize 100000 = n
    unfold g20
    rw [k1, k4, y4, lqE, Bool.and_true]
    have : (fm (num a) = a) ↔ num a < PP := by
      constructor
      · intro h
        rw [← h, num_fm]
        exact Nat.mod_lt _ PP_pos
      · intro h
        unfold fm
        rw [Nat.mod_eq_of_lt h]
        exact fe_num ha
    rw [decide_eq_decide.2 this]
  exact ⟨by unfold g20ok; rw [e]; rfl, by unfold g20r0; rw [e]; rfl⟩
theorem smallOk {x : Nat} (hx : x < 18446744073709551616) : g23ok realA x = true ∧ g23r0 realA x = fe x := by
  have e : g23v realA x = some (.v (.agg [.nums .u64 4 [x, 0, 0, 0]])) := rfl
  refine ⟨by unfold g23ok; rw [e]; rfl, ?_⟩
  unfold g23r0
  rw [e]
  show [x, 0, 0, 0] = _
  unfold fe
  rw [Nat.mod_eq_of_lt hx, Nat.div_eq_of_lt hx, Nat.div_eq_of_lt (Nat.lt_trans hx (by decide)), Nat.div_eq_of_lt (Nat.lt_trans hx (by decide))]
theorem oddB (y : Nat) : (!(decide ((y % 18446744073709551616) % 2 = 0))) = decide (y % 2 = 1) := by
  have h1 : y % 18446744073709551616 % 2 = y % 2 := by omega
  rw [h1]
  by_cases h : y % 2 = 0
  · rw [decide_eq_true h, decide_eq_false (by omega)]; rfl
  · rw [decide_eq_false h, decide_eq_true (by omega)]; rfl
theorem oddC (a : List Nat) (y : Nat) (h : a.getD 0 0 = y % 18446744073709551616) : realA.nc .neq (realA.nb .and .u64 (a.getD 0 0) 1) 0 = decide (y % 2 = 1) := by
  have : realA.nc .neq (realA.nb .and .u64 (a.getD 0 0) 1) 0 = !(decide ((a.getD 0 0 &&& 1) = 0)) := rfl
  rw [this, h, Nat.and_one_is_mod]
  exact oddB y
theorem oddOk {a : List Nat} (ha : W4 a) : g22ok realA a = true ∧ g22r0 realA a = decide (num a % PP % 2 = 1) := by
  obtain ⟨k1, x1, y1⟩ := load4 ha
  obtain ⟨k4, y4⟩ := store5 x1
  rw [fm_congr y1] at y4
  have e : g22v realA a = some (.v (.cell (.bool (decide (num a % PP % 2 = 1))))) := by
    unfold g22v
    generalize 100000 = n
    unfold g22
    rw [k1, k4, y4, oddC (fm (num a)) (num a % PP) rfl]
  exact ⟨by unfold g22ok; rw [e]; rfl, by unfold g22r0; rw [e]; rfl⟩
end Go.Sx
