import Derived.Test.YtnnepclpggbjgaaSxN03
namespace Go.Sx
theorem qStep (n m i q : Nat) (kk : AV → Heap → Option AV) (l x3 : List Nat) (hi : i < 5) (hc : l.getD i 0 + q < 18446744073709551616) :
    g38L4 realA n kk (m + 1) q i l x3 = g38L4 realA n kk m ((l.getD i 0 + q) / 2251799813685248) ((i + 1 : Nat) : Int) l x3 := by
  have e1 : realA.ib .add .i64 (i : Int) 1 = ((i + 1 : Nat) : Int) := addN 1 (by omega)
  rw [g38L4, lssT (show (i : Int) < 5 by omega)]
  simp only [g38J6, negN, toNN, ltT hi, nadd hc, nshr51]
  rw [e1]
theorem lastStep (n m i c : Nat) (kk : AV → Heap → Option AV) (l x3 : List Nat) (hi : i < 5) (hl : l.length = 5) (hc : l.getD i 0 + c < 18446744073709551616) :
    g38L10 realA n kk (m + 1) c i l x3 = g38L10 realA n kk m ((l.getD i 0 + c) / 2251799813685248) ((i + 1 : Nat) : Int) (l.set i ((l.getD i 0 + c) % 2251799813685248)) x3 := by
  have e1 : realA.ib .add .i64 (i : Int) 1 = ((i + 1 : Nat) : Int) := addN 1 (by omega)
  rw [g38L10, lssT (show (i : Int) < 5 by omega)]
  simp only [g38J11, negN, toNN, ltT hi, nadd hc, getD_set_same l i _ (by omega), nand51, nshr51, List.set_set]
  rw [e1]
theorem word (x y a b : Nat) (ha : a ≤ 64) (hx : x / 2 ^ b < 2 ^ a) : realA.nb .or .u64 (realA.nsh .shr .u64 x b) (realA.nsh .shl .u64 y a) = x / 2 ^ b + 2 ^ a * (y % 2 ^ (64 - a)) := by
  show ((x / 2 ^ b) ||| (y * 2 ^ a % 2 ^ 64)) = _
  have e : y * 2 ^ a % 2 ^ 64 = 2 ^ a * (y % 2 ^ (64 - a)) := by
    rw [Nat.mul_comm, ← Nat.mul_mod_mul_left, ← Nat.pow_add, show a + (64 - a) = 64 by omega]
  rw [e, Nat.or_comm, orlo a _ _ hx, Nat.add_comm]
theorem word0 (x y : Nat) (hx : x < 2251799813685248) : realA.nb .or .u64 x (realA.nsh .shl .u64 y 51) = x + 2251799813685248 * (y % 8192) := by
  have := word x y 51 0 (by omega) (by omega)
  simpa [show realA.nsh .shr .u64 x 0 = x from Nat.div_one x] using this
/-- a number's four words -/
def fe (v : Nat) : List Nat := [v % 18446744073709551616, v / 18446744073709551616 % 18446744073709551616, v / 340282366920938463463374607431768211456 % 18446744073709551616, v / 6277101735386680763835789423207666416102355444464034512896 % 18446744073709551616]
theorem chain (u0 u1 u2 u3 u4 a0 a1 a2 a3 a4 d1 d2 d3 d4 d5 : Nat) (h0 : u0 + 2251799813685248 * d1 = a0) (h1 : u1 + 2251799813685248 * d2 = a1 + d1) (h2 : u2 + 2251799813685248 * d3 = a2 + d2) (h3 : u3 + 2251799813685248 * d4 = a3 + d3) (h4 : u4 + 2251799813685248 * d5 = a4 + d4) :
    v51 u0 u1 u2 u3 u4 + 57896044618658097711785492504343953926634992332820282019728792003956564819968 * d5 = v51 a0 a1 a2 a3 a4 := by unfold v51; omega
theorem v51_lt {u0 u1 u2 u3 u4 : Nat} (h0 : u0 < 2251799813685248) (h1 : u1 < 2251799813685248) (h2 : u2 < 2251799813685248) (h3 : u3 < 2251799813685248) (h4 : u4 < 2251799813685248) : v51 u0 u1 u2 u3 u4 < 57896044618658097711785492504343953926634992332820282019728792003956564819968 := by unfold v51; omega
theorem finmod {U V q d : Nat} (h : U + 57896044618658097711785492504343953926634992332820282019728792003956564819968 * d = V + 19 * q) (hU : U < 57896044618658097711785492504343953926634992332820282019728792003956564819968) (hV : V < PP + 38)
    (hq : q = (V + 19) / 57896044618658097711785492504343953926634992332820282019728792003956564819968) : U = V % PP := by
  by_cases hc : V < PP
  · rw [Nat.mod_eq_of_lt hc]
    have h0 : q = 0 := by unfold PP at *; omega
    subst h0
    have h1 : d = 0 := by unfold PP at *; omega
    subst h1
    omega
  · rw [Nat.mod_eq_sub_mod (by omega), Nat.mod_eq_of_lt (by unfold PP at *; omega)]
    have h0 : q = 1 := by unfold PP at *; omega
    rw [h0] at h
    have h1 : d = 1 := by unfold PP at *; omega
    rw [h1] at h
    unfold PP at *
    omega
theorem divq {W V q : Nat} (h : W + 57896044618658097711785492504343953926634992332820282019728792003956564819968 * q = V) (hW : W < 57896044618658097711785492504343953926634992332820282019728792003956564819968) : q = V / 57896044618658097711785492504343953926634992332820282019728792003956564819968 := by omega
theorem dm (x q r : Nat) (hq : x / 2251799813685248 = q) (hr : x % 2251799813685248 = r) : r + 2251799813685248 * q = x := by omega
theorem v51_add0 (a0 a1 a2 a3 a4 k : Nat) : v51 (a0 + k) a1 a2 a3 a4 = v51 a0 a1 a2 a3 a4 + k := by unfold v51; omega
theorem fe_words {u0 u1 u2 u3 u4 : Nat} (b0 : u0 < 2251799813685248) (b1 : u1 < 2251799813685248) (b2 : u2 < 2251799813685248) (b3 : u3 < 2251799813685248) (b4 : u4 < 2251799813685248) :
    fe (v51 u0 u1 u2 u3 u4) = [u0 + 2251799813685248 * (u1 % 8192), u1 / 8192 + 274877906944 * (u2 % 67108864), u2 / 67108864 + 33554432 * (u3 % 549755813888), u3 / 549755813888 + 4096 * (u4 % 4503599627370496)] := by
  have v0 : v51 u0 u1 u2 u3 u4 = v64 (u0 + 2251799813685248 * (u1 % 8192)) (u1 / 8192 + 274877906944 * (u2 % 67108864)) (u2 / 67108864 + 33554432 * (u3 % 549755813888)) (u3 / 549755813888 + 4096 * (u4 % 4503599627370496)) := by
    unfold v51 v64; omega
  rw [v0]
  have x0 : u0 + 2251799813685248 * (u1 % 8192) < 18446744073709551616 := by omega
  have x1 : u1 / 8192 + 274877906944 * (u2 % 67108864) < 18446744073709551616 := by omega
  have x2 : u2 / 67108864 + 33554432 * (u3 % 549755813888) < 18446744073709551616 := by omega
  have x3 : u3 / 549755813888 + 4096 * (u4 % 4503599627370496) < 18446744073709551616 := by omega
  clear v0
  generalize u0 + 2251799813685248 * (u1 % 8192) = y0 at *
  generalize u1 / 8192 + 274877906944 * (u2 % 67108864) = y1 at *
  generalize u2 / 67108864 + 33554432 * (u3 % 549755813888) = y2 at *
  generalize u3 / 549755813888 + 4096 * (u4 % 4503599627370496) = y3 at *
  clear b0 b1 b2 b3 b4
  have z0 : v64 y0 y1 y2 y3 % 18446744073709551616 = y0 := by unfold v64; omega
  have z1 : v64 y0 y1 y2 y3 / 18446744073709551616 % 18446744073709551616 = y1 := by unfold v64; omega
  have z2 : v64 y0 y1 y2 y3 / 340282366920938463463374607431768211456 % 18446744073709551616 = y2 := by unfold v64; omega
  have z3 : v64 y0 y1 y2 y3 / 6277101735386680763835789423207666416102355444464034512896 % 18446744073709551616 = y3 := by unfold v64; omega
  unfold fe
  rw [z0, z1, z2, z3]
theorem storeOk {l0 l1 l2 l3 l4 : Nat} (h0 : l0 < 9223372036854775808) (h1 : l1 < 9223372036854775808) (h2 : l2 < 9223372036854775808) (h3 : l3 < 9223372036854775808) (h4 : l4 < 9223372036854775808) :
    g38ok realA [l0, l1, l2, l3, l4] = true ∧ g38r0 realA [l0, l1, l2, l3, l4] = fe (v51 l0 l1 l2 l3 l4 % PP) := by
  obtain ⟨k, r0, r1, r2, r3, r4, c, q1, q2, q3, q4, q5, q6, q7, q8⟩ := carryOk h0 h1 h2 h3 h4
  have hc : c < 8192 := by omega
  obtain ⟨k', t0, t1, t2, t3, t4, c', p1, p2, p3, p4, p5, p6, p7, p8⟩ := carryOk (l0 := r0) (l1 := r1) (l2 := r2) (l3 := r3) (l4 := r4) (by omega) (by omega) (by omega) (by omega) (by omega)
  have hc' : c' ≤ 1 := by omega
  have hV : v51 t0 t1 t2 t3 t4 < PP + 38 := by unfold v51 PP; omega
  have hM : v51 l0 l1 l2 l3 l4 % PP = v51 t0 t1 t2 t3 t4 % PP := by rw [← q7, ← p7, Nat.add_mul_mod_self_left, Nat.add_mul_mod_self_left]
  have fin : ∃ u0 u1 u2 u3 u4, u0 < 2251799813685248 ∧ u1 < 2251799813685248 ∧ u2 < 2251799813685248 ∧ u3 < 2251799813685248 ∧ u4 < 2251799813685248 ∧ v51 u0 u1 u2 u3 u4 = v51 t0 t1 t2 t3 t4 % PP ∧
      ∀ m, g38L4 realA (m + 6) (fun v _ => some v) (m + 6) ((t0 + 19) / 2251799813685248) 1 [t0, t1, t2, t3, t4] [0, 0, 0, 0] = g38J16 realA (m + 6) (fun v _ => some v) [u0, u1, u2, u3, u4] [0, 0, 0, 0] := by
    generalize hQ0 : (t0 + 19) / 2251799813685248 = q0
    generalize hP0 : (t0 + 19) % 2251799813685248 = p0
    generalize hQ1 : (t1 + q0) / 2251799813685248 = q1
    generalize hP1 : (t1 + q0) % 2251799813685248 = p1'
    generalize hQ2 : (t2 + q1) / 2251799813685248 = q2
    generalize hP2 : (t2 + q1) % 2251799813685248 = p2'
    generalize hQ3 : (t3 + q2) / 2251799813685248 = q3
    generalize hP3 : (t3 + q2) % 2251799813685248 = p3'
    generalize hQ4 : (t4 + q3) / 2251799813685248 = q4
    generalize hP4 : (t4 + q3) % 2251799813685248 = p4'
    have bq0 : q0 ≤ 1 := by omega
    have bq1 : q1 ≤ 1 := by omega
    have bq2 : q2 ≤ 1 := by omega
    have bq3 : q3 ≤ 1 := by omega
    have bq4 : q4 ≤ 1 := by omega
    have ch := chain p0 p1' p2' p3' p4' (t0 + 19) t1 t2 t3 t4 q0 q1 q2 q3 q4 (dm _ _ _ hQ0 hP0) (dm _ _ _ hQ1 hP1) (dm _ _ _ hQ2 hP2) (dm _ _ _ hQ3 hP3) (dm _ _ _ hQ4 hP4)
    rw [v51_add0] at ch
    have hq4 := divq ch (v51_lt (hP0 ▸ Nat.mod_lt _ (by decide)) (hP1 ▸ Nat.mod_lt _ (by decide)) (hP2 ▸ Nat.mod_lt _ (by decide)) (hP3 ▸ Nat.mod_lt _ (by decide)) (hP4 ▸ Nat.mod_lt _ (by decide)))
    clear ch
    generalize hd1 : (t0 + 19 * q4 + 0) / 2251799813685248 = d1
    generalize hu0 : (t0 + 19 * q4 + 0) % 2251799813685248 = u0
    generalize hd2 : (t1 + d1) / 2251799813685248 = d2
    generalize hu1 : (t1 + d1) % 2251799813685248 = u1
    generalize hd3 : (t2 + d2) / 2251799813685248 = d3
    generalize hu2 : (t2 + d2) % 2251799813685248 = u2
    generalize hd4 : (t3 + d3) / 2251799813685248 = d4
    generalize hu3 : (t3 + d3) % 2251799813685248 = u3
    generalize hd5 : (t4 + d4) / 2251799813685248 = d5
    generalize hu4 : (t4 + d4) % 2251799813685248 = u4
    have bd1 : d1 ≤ 1 := by omega
    have bd2 : d2 ≤ 1 := by omega
    have bd3 : d3 ≤ 1 := by omega
    have bd4 : d4 ≤ 1 := by omega
    have bu0 : u0 < 2251799813685248 := hu0 ▸ Nat.mod_lt _ (by decide)
    have bu1 : u1 < 2251799813685248 := hu1 ▸ Nat.mod_lt _ (by decide)
    have bu2 : u2 < 2251799813685248 := hu2 ▸ Nat.mod_lt _ (by decide)
    have bu3 : u3 < 2251799813685248 := hu3 ▸ Nat.mod_lt _ (by decide)
    have bu4 : u4 < 2251799813685248 := hu4 ▸ Nat.mod_lt _ (by decide)
    refine ⟨u0, u1, u2, u3, u4, bu0, bu1, bu2, bu3, bu4, ?_, ?_⟩
    · have ch := chain u0 u1 u2 u3 u4 (t0 + 19 * q4 + 0) t1 t2 t3 t4 d1 d2 d3 d4 d5 (dm _ _ _ hd1 hu0) (dm _ _ _ hd2 hu1) (dm _ _ _ hd3 hu2) (dm _ _ _ hd4 hu3) (dm _ _ _ hd5 hu4)
      rw [Nat.add_zero, v51_add0] at ch
      exact finmod ch (v51_lt bu0 bu1 bu2 bu3 bu4) hV hq4
    · intro m
      have s1 := qStep (m + 6) (m + 5) 1 q0 (fun v _ => some v) [t0, t1, t2, t3, t4] [0, 0, 0, 0] (by omega) (show t1 + q0 < _ by omega)
      have s2 := qStep (m + 6) (m + 4) 2 q1 (fun v _ => some v) [t0, t1, t2, t3, t4] [0, 0, 0, 0] (by omega) (show t2 + q1 < _ by omega)
      have s3 := qStep (m + 6) (m + 3) 3 q2 (fun v _ => some v) [t0, t1, t2, t3, t4] [0, 0, 0, 0] (by omega) (show t3 + q2 < _ by omega)
      have s4 := qStep (m + 6) (m + 2) 4 q3 (fun v _ => some v) [t0, t1, t2, t3, t4] [0, 0, 0, 0] (by omega) (show t4 + q3 < _ by omega)
      have w0 := lastStep (m + 6) (m + 5) 0 0 (fun v _ => some v) [t0 + 19 * q4, t1, t2, t3, t4] [0, 0, 0, 0] (by omega) rfl (show t0 + 19 * q4 + 0 < _ by omega)
      have w1 := lastStep (m + 6) (m + 4) 1 d1 (fun v _ => some v) [u0, t1, t2, t3, t4] [0, 0, 0, 0] (by omega) rfl (show t1 + d1 < _ by omega)
      have w2 := lastStep (m + 6) (m + 3) 2 d2 (fun v _ => some v) [u0, u1, t2, t3, t4] [0, 0, 0, 0] (by omega) rfl (show t2 + d2 < _ by omega)
      have w3 := lastStep (m + 6) (m + 2) 3 d3 (fun v _ => some v) [u0, u1, u2, t3, t4] [0, 0, 0, 0] (by omega) rfl (show t3 + d3 < _ by omega)
      have w4 := lastStep (m + 6) (m + 1) 4 d4 (fun v _ => some v) [u0, u1, u2, u3, t4] [0, 0, 0, 0] (by omega) rfl (show t4 + d4 < _ by omega)
      simp only [List.getD_cons_zero, List.getD_cons_succ, List.set_cons_succ, List.set_cons_zero, hQ1, hQ2, hQ3, hQ4] at s1 s2 s3 s4
      simp only [List.getD_cons_zero, List.getD_cons_succ, List.set_cons_succ, List.set_cons_zero, hd1, hu0, hd2, hu1, hd3, hu2, hd4, hu3, hd5, hu4] at w0 w1 w2 w3 w4
      refine Eq.trans s1 (s2.trans (s3.trans (s4.trans ?_)))
      rw [g38L4, lssF (by omega)]
      simp only [g38J7, List.getD_cons_zero, List.set_cons_zero, nmul (show 19 * q4 < 18446744073709551616 by omega), nadd (show t0 + 19 * q4 < 18446744073709551616 by omega)]
      refine Eq.trans w0 (w1.trans (w2.trans (w3.trans (w4.trans ?_))))
      rw [g38L10, lssF (by omega)]
  obtain ⟨u0, u1, u2, u3, u4, b0, b1, b2, b3, b4, hu, hs⟩ := fin
  have g0 := word0 u0 u1 b0
  have g1 := word u1 u2 38 13 (by omega) (by omega)
  have g2 := word u2 u3 25 26 (by omega) (by omega)
  have g3 := word u3 u4 12 39 (by omega) (by omega)
  simp only [Nat.reducePow, Nat.reduceSub] at g1 g2 g3
  have ew := fe_words b0 b1 b2 b3 b4
  have e : g38v realA [l0, l1, l2, l3, l4] = some (.v (.agg [.nums .u64 4 (fe (v51 l0 l1 l2 l3 l4 % PP))])) := by
    rw [hM, ← hu, ew]
    unfold g38v
    rw [show (100000 : Nat) = 99994 + 6 from rfl]
    generalize 99994 = m
    unfold g38
    rw [k, q8, k', p8]
    simp only [List.getD_cons_zero, nadd (show t0 + 19 < 18446744073709551616 by omega), nshr51]
    refine Eq.trans (hs m) ?_
    simp only [g38J16, List.getD_cons_zero, List.getD_cons_succ, List.set_cons_succ, List.set_cons_zero, g0, g1, g2, g3]
  exact ⟨by unfold g38ok; rw [e]; rfl, by unfold g38r0; rw [e]; rfl⟩
end Go.Sx
