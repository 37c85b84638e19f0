import Derived.Test.YtcgjapkajaflpaaSxNr04
namespace Go.Sx
theorem neqF {a b : Nat} (h : a = b) : realA.nc .neq a b = false := show (!(decide (a = b))) = false by rw [decide_eq_true h]; rfl
theorem neqT {a b : Nat} (h : a ≠ b) : realA.nc .neq a b = true := show (!(decide (a = b))) = true by rw [decide_eq_false h]; rfl
theorem lessStep (n m i : Nat) (a b : List Nat) (hi : i < 5) :
    g29L2 realA n (fun v _ => some v) (m + 1) i a b = (match decide (a.getD i 0 = b.getD i 0) with
      | true => g29L2 realA n (fun v _ => some v) m ((i : Int) - 1) a b
      | false => some (.v (.cell (.bool (decide (a.getD i 0 < b.getD i 0)))))) := by
  rw [g29L2, geqT (show (0 : Int) ≤ i by omega)]
  by_cases h : a.getD i 0 = b.getD i 0
  · simp only [g29J4, negN, toNN, ltT hi, neqF h, decide_eq_true h]
    rw [subI (by omega)]
  · simp only [g29J4, negN, toNN, ltT hi, neqT h, decide_eq_false h]
    rfl
theorem lessE (m : Nat) (a0 a1 a2 a3 a4 b0 b1 b2 b3 b4 : Nat) (A0 : a0 < 18446744073709551616) (A1 : a1 < 18446744073709551616) (A2 : a2 < 18446744073709551616) (A3 : a3 < 18446744073709551616)
    (B0 : b0 < 18446744073709551616) (B1 : b1 < 18446744073709551616) (B2 : b2 < 18446744073709551616) (B3 : b3 < 18446744073709551616) :
    g29 realA (m + 6) (fun v _ => some v) [a0, a1, a2, a3, a4] [b0, b1, b2, b3, b4] = some (.v (.cell (.bool (decide (v5 a0 a1 a2 a3 a4 < v5 b0 b1 b2 b3 b4))))) := by
  have s4 := lessStep (m + 6) (m + 5) 4 [a0, a1, a2, a3, a4] [b0, b1, b2, b3, b4] (by omega)
  have s3 := lessStep (m + 6) (m + 4) 3 [a0, a1, a2, a3, a4] [b0, b1, b2, b3, b4] (by omega)
  have s2 := lessStep (m + 6) (m + 3) 2 [a0, a1, a2, a3, a4] [b0, b1, b2, b3, b4] (by omega)
  have s1 := lessStep (m + 6) (m + 2) 1 [a0, a1, a2, a3, a4] [b0, b1, b2, b3, b4] (by omega)
  have s0 := lessStep (m + 6) (m + 1) 0 [a0, a1, a2, a3, a4] [b0, b1, b2, b3, b4] (by omega)
  have se : g29L2 realA (m + 6) (fun v _ => some v) (m + 1) (-1) [a0, a1, a2, a3, a4] [b0, b1, b2, b3, b4] = some (.v (.cell (.bool false))) := rfl
  simp only [List.getD_cons_zero, List.getD_cons_succ] at s0 s1 s2 s3 s4
  have e : g29 realA (m + 6) (fun v _ => some v) [a0, a1, a2, a3, a4] [b0, b1, b2, b3, b4] = g29L2 realA (m + 6) (fun v _ => some v) (m + 5 + 1) ((4 : Nat) : Int) [a0, a1, a2, a3, a4] [b0, b1, b2, b3, b4] := rfl
  rw [e, s4]
  by_cases h4 : a4 = b4
  · rw [decide_eq_true h4]
    refine (s3.trans ?_)
    by_cases h3 : a3 = b3
    · rw [decide_eq_true h3]
      refine (s2.trans ?_)
      by_cases h2 : a2 = b2
      · rw [decide_eq_true h2]
        refine (s1.trans ?_)
        by_cases h1 : a1 = b1
        · rw [decide_eq_true h1]
          refine (s0.trans ?_)
          by_cases h0 : a0 = b0
          · rw [decide_eq_true h0]
            refine Eq.trans (b := some (.v (.cell (.bool false)))) rfl ?_
            rw [decide_eq_false (by unfold v5; omega)]
          · rw [decide_eq_false h0]
            have : (a0 < b0) ↔ (v5 a0 a1 a2 a3 a4 < v5 b0 b1 b2 b3 b4) := by unfold v5; omega
            rw [decide_eq_decide.2 this]
        · rw [decide_eq_false h1]
          have : (a1 < b1) ↔ (v5 a0 a1 a2 a3 a4 < v5 b0 b1 b2 b3 b4) := by unfold v5; omega
          rw [decide_eq_decide.2 this]
      · rw [decide_eq_false h2]
        have : (a2 < b2) ↔ (v5 a0 a1 a2 a3 a4 < v5 b0 b1 b2 b3 b4) := by unfold v5; omega
        rw [decide_eq_decide.2 this]
    · rw [decide_eq_false h3]
      have : (a3 < b3) ↔ (v5 a0 a1 a2 a3 a4 < v5 b0 b1 b2 b3 b4) := by unfold v5; omega
      rw [decide_eq_decide.2 this]
  · rw [decide_eq_false h4]
    have : (a4 < b4) ↔ (v5 a0 a1 a2 a3 a4 < v5 b0 b1 b2 b3 b4) := by unfold v5; omega
    rw [decide_eq_decide.2 this]
def LL : Nat := 7237005577332262213973186563042994240857116359379907606001950938285454250989
theorem minusOk (c : Nat) (a0 a1 a2 a3 a4 : Nat) (hc : c < 18446744073709551616) (A0 : a0 < 18446744073709551616) (A1 : a1 < 18446744073709551616) (A2 : a2 < 18446744073709551616) (A3 : a3 < 18446744073709551616) (A4 : a4 < 18446744073709551616) (hle : LL * c ≤ v5 a0 a1 a2 a3 a4) :
    g28ok realA [a0, a1, a2, a3, a4] [6346243789798364141, 1503914060200516822, 0, 1152921504606846976, 0] c = true ∧ ∃ y0 y1 y2 y3 y4, y0 < 18446744073709551616 ∧ y1 < 18446744073709551616 ∧ y2 < 18446744073709551616 ∧ y3 < 18446744073709551616 ∧ y4 < 18446744073709551616 ∧ v5 y0 y1 y2 y3 y4 + LL * c = v5 a0 a1 a2 a3 a4 ∧
      g28r0 realA [a0, a1, a2, a3, a4] [6346243789798364141, 1503914060200516822, 0, 1152921504606846976, 0] c = [y0, y1, y2, y3, y4] := by
  obtain ⟨y0, y1, y2, y3, y4, h0, h1, h2, h3, h4, hv, he⟩ := minusE 99994 c a0 a1 a2 a3 a4 6346243789798364141 1503914060200516822 0 1152921504606846976 0 hc A0 A1 A2 A3 A4 (by omega) (by omega) (by omega) (by omega) (by omega) hle
  have e : g28v realA [a0, a1, a2, a3, a4] [6346243789798364141, 1503914060200516822, 0, 1152921504606846976, 0] c = some (.v (.agg [.nums .u64 5 [y0, y1, y2, y3, y4]])) := he
  refine ⟨by unfold g28ok; rw [e]; rfl, y0, y1, y2, y3, y4, h0, h1, h2, h3, h4, hv, by unfold g28r0; rw [e]; rfl⟩
theorem lessOk (a0 a1 a2 a3 a4 : Nat) (A0 : a0 < 18446744073709551616) (A1 : a1 < 18446744073709551616) (A2 : a2 < 18446744073709551616) (A3 : a3 < 18446744073709551616) :
    g29ok realA [a0, a1, a2, a3, a4] [6346243789798364141, 1503914060200516822, 0, 1152921504606846976, 0] = true ∧ g29r0 realA [a0, a1, a2, a3, a4] [6346243789798364141, 1503914060200516822, 0, 1152921504606846976, 0] = decide (v5 a0 a1 a2 a3 a4 < LL) := by
  have e : g29v realA [a0, a1, a2, a3, a4] [6346243789798364141, 1503914060200516822, 0, 1152921504606846976, 0] = some (.v (.cell (.bool (decide (v5 a0 a1 a2 a3 a4 < v5 6346243789798364141 1503914060200516822 0 1152921504606846976 0))))) :=
    lessE 99994 a0 a1 a2 a3 a4 6346243789798364141 1503914060200516822 0 1152921504606846976 0 A0 A1 A2 A3 (by omega) (by omega) (by omega) (by omega)
  exact ⟨by unfold g29ok; rw [e]; rfl, by unfold g29r0; rw [e]; rfl⟩
theorem loopL (n m : Nat) (x1 : List Nat) (a0 a1 a2 a3 a4 : Nat) (A0 : a0 < 18446744073709551616) (A1 : a1 < 18446744073709551616) (A2 : a2 < 18446744073709551616) (A3 : a3 < 18446744073709551616) (A4 : a4 < 18446744073709551616) (h2 : v5 a0 a1 a2 a3 a4 < 2 * LL) :
    ∃ z0 z1 z2 z3 z4, z0 < 18446744073709551616 ∧ z1 < 18446744073709551616 ∧ z2 < 18446744073709551616 ∧ z3 < 18446744073709551616 ∧ z4 < 18446744073709551616 ∧ v5 z0 z1 z2 z3 z4 = v5 a0 a1 a2 a3 a4 % LL ∧
      g22L11 realA n (fun v _ => some v) (m + 2) [a0, a1, a2, a3, a4] x1 [6346243789798364141, 1503914060200516822, 0, 1152921504606846976, 0] = some (.v (.agg [.nums .u64 5 [z0, z1, z2, z3, z4]])) := by
  obtain ⟨k, r⟩ := lessOk a0 a1 a2 a3 a4 A0 A1 A2 A3
  by_cases h : v5 a0 a1 a2 a3 a4 < LL
  · refine ⟨a0, a1, a2, a3, a4, A0, A1, A2, A3, A4, (Nat.mod_eq_of_lt h).symm, ?_⟩
    rw [g22L11, k, r, decide_eq_true h]
    rfl
  · obtain ⟨k1, y0, y1, y2, y3, y4, Y0, Y1, Y2, Y3, Y4, hv, r1⟩ := minusOk 1 a0 a1 a2 a3 a4 (by omega) A0 A1 A2 A3 A4 (by omega)
    obtain ⟨k2, r2⟩ := lessOk y0 y1 y2 y3 y4 Y0 Y1 Y2 Y3
    have hy : v5 y0 y1 y2 y3 y4 < LL := by omega
    refine ⟨y0, y1, y2, y3, y4, Y0, Y1, Y2, Y3, Y4, ?_, ?_⟩
    · rw [Nat.mod_eq_sub_mod (by omega), Nat.mod_eq_of_lt (by omega)]
      omega
    · rw [g22L11, k, r, decide_eq_false h]
      simp only [Bool.not_false, k1, r1]
      rw [g22L11, k2, r2, decide_eq_true hy]
      rfl
theorem or8 (x y : Nat) (hy : y < 18446744073709551616) : realA.nb .or .u64 (realA.nsh .shl .u64 x 8) (realA.nsh .shr .u64 y 56) = 256 * (x % 72057594037927936) + y / 72057594037927936 := by
  show (x * 2 ^ 8 % 2 ^ 64) ||| (y / 2 ^ 56) = _
  have e : x * 2 ^ 8 % 2 ^ 64 = 2 ^ 8 * (x % 72057594037927936) := by omega
  rw [e, ← Nat.two_pow_add_eq_or_of_lt (by omega)]
theorem orb (x b : Nat) (hb : b < 256) : realA.nb .or .u64 (realA.nsh .shl .u64 x 8) b = 256 * (x % 72057594037927936) + b := by
  show (x * 2 ^ 8 % 2 ^ 64) ||| b = _
  have e : x * 2 ^ 8 % 2 ^ 64 = 2 ^ 8 * (x % 72057594037927936) := by omega
  rw [e, ← Nat.two_pow_add_eq_or_of_lt (by omega)]
theorem orq (x y : Nat) (hx : x < 18446744073709551616) (hy : y < 1152921504606846976) : realA.nb .or .u64 (realA.nsh .shr .u64 x 60) (realA.nsh .shl .u64 y 4) = 16 * y + x / 1152921504606846976 := by
  show (x / 2 ^ 60) ||| (y * 2 ^ 4 % 2 ^ 64) = _
  have e : y * 2 ^ 4 % 2 ^ 64 = 2 ^ 4 * y := by omega
  rw [e, Nat.or_comm, ← Nat.two_pow_add_eq_or_of_lt (by omega)]
theorem pushStep (n m b i : Nat) (a x3 : List Nat) (hi : i + 1 < 5) (ha : a.getD i 0 < 18446744073709551616) :
    g22L2 realA n (fun v _ => some v) (m + 1) b ((i + 1 : Nat) : Int) a x3 = g22L2 realA n (fun v _ => some v) m b i (a.set (i + 1) (256 * (a.getD (i + 1) 0 % 72057594037927936) + a.getD i 0 / 72057594037927936)) x3 := by
  rw [g22L2, gtrT (by omega)]
  have e : realA.ib .sub .i64 ((i + 1 : Nat) : Int) 1 = (i : Int) := by rw [subI (by omega)]; omega
  simp only [g22J4, negN, toNN, e, ltT hi, ltT (show i < 5 by omega), or8 _ _ ha]
theorem ok27 : g27ok realA = true := by kernel_rfl
theorem r27 : g27r0 realA = [6346243789798364141, 1503914060200516822, 0, 1152921504606846976, 0] := by kernel_rfl
theorem pushE (m b a0 a1 a2 a3 a4 : Nat) (hb : b < 256) (A0 : a0 < 18446744073709551616) (A1 : a1 < 18446744073709551616) (A2 : a2 < 18446744073709551616) (A3 : a3 < 18446744073709551616) (A4 : a4 < 18446744073709551616) (hL : v5 a0 a1 a2 a3 a4 < LL) :
    ∃ z0 z1 z2 z3 z4, z0 < 18446744073709551616 ∧ z1 < 18446744073709551616 ∧ z2 < 18446744073709551616 ∧ z3 < 18446744073709551616 ∧ z4 < 18446744073709551616 ∧ v5 z0 z1 z2 z3 z4 = (256 * v5 a0 a1 a2 a3 a4 + b) % LL ∧
      g22 realA (m + 6) (fun v _ => some v) [a0, a1, a2, a3, a4] b = some (.v (.agg [.nums .u64 5 [z0, z1, z2, z3, z4]])) := by
  have s4 := pushStep (m + 6) (m + 5) b 3 [a0, a1, a2, a3, a4] [0, 0, 0, 0, 0] (by omega) A3
  have s3 := pushStep (m + 6) (m + 4) b 2 [a0, a1, a2, a3, 256 * (a4 % 72057594037927936) + a3 / 72057594037927936] [0, 0, 0, 0, 0] (by omega) A2
  have s2 := pushStep (m + 6) (m + 3) b 1 [a0, a1, a2, 256 * (a3 % 72057594037927936) + a2 / 72057594037927936, 256 * (a4 % 72057594037927936) + a3 / 72057594037927936] [0, 0, 0, 0, 0] (by omega) A1
  have s1 := pushStep (m + 6) (m + 2) b 0 [a0, a1, 256 * (a2 % 72057594037927936) + a1 / 72057594037927936, 256 * (a3 % 72057594037927936) + a2 / 72057594037927936, 256 * (a4 % 72057594037927936) + a3 / 72057594037927936] [0, 0, 0, 0, 0] (by omega) A0
  simp only [List.getD_cons_zero, List.getD_cons_succ, List.set_cons_succ, List.set_cons_zero] at s1 s2 s3 s4
  have h4 : a4 = 0 := by unfold v5 LL at hL; omega
  have hx : v5 (256 * (a0 % 72057594037927936) + b) (256 * (a1 % 72057594037927936) + a0 / 72057594037927936) (256 * (a2 % 72057594037927936) + a1 / 72057594037927936) (256 * (a3 % 72057594037927936) + a2 / 72057594037927936) (256 * (a4 % 72057594037927936) + a3 / 72057594037927936) = 256 * v5 a0 a1 a2 a3 a4 + b := by
    unfold v5; omega
  have X0 : 256 * (a0 % 72057594037927936) + b < 18446744073709551616 := by omega
  have X1 : 256 * (a1 % 72057594037927936) + a0 / 72057594037927936 < 18446744073709551616 := by omega
  have X2 : 256 * (a2 % 72057594037927936) + a1 / 72057594037927936 < 18446744073709551616 := by omega
  have X3 : 256 * (a3 % 72057594037927936) + a2 / 72057594037927936 < 18446744073709551616 := by omega
  have X4 : 256 * (a4 % 72057594037927936) + a3 / 72057594037927936 < 256 := by omega
  have e0 : g22 realA (m + 6) (fun v _ => some v) [a0, a1, a2, a3, a4] b = g22L2 realA (m + 6) (fun v _ => some v) (m + 5 + 1) b ((3 + 1 : Nat) : Int) [a0, a1, a2, a3, a4] [0, 0, 0, 0, 0] := rfl
  rw [e0, s4, show ((3 : Nat) : Int) = ((2 + 1 : Nat) : Int) from rfl, s3, show ((2 : Nat) : Int) = ((1 + 1 : Nat) : Int) from rfl, s2, show ((1 : Nat) : Int) = ((0 + 1 : Nat) : Int) from rfl, s1, ← hx]
  clear s1 s2 s3 s4 e0
  have hxL : v5 (256 * (a0 % 72057594037927936) + b) (256 * (a1 % 72057594037927936) + a0 / 72057594037927936) (256 * (a2 % 72057594037927936) + a1 / 72057594037927936) (256 * (a3 % 72057594037927936) + a2 / 72057594037927936) (256 * (a4 % 72057594037927936) + a3 / 72057594037927936) < 256 * LL := by rw [hx]; omega
  rw [g22L2, gtrF (by omega)]
  simp only [g22J5, ok27, r27, List.set_cons_zero, List.getD_cons_zero, List.getD_cons_succ, orb _ _ hb, orq _ _ X3 (show 256 * (a4 % 72057594037927936) + a3 / 72057594037927936 < 1152921504606846976 by omega)]
  generalize 256 * (a0 % 72057594037927936) + b = x0 at *
  generalize 256 * (a1 % 72057594037927936) + a0 / 72057594037927936 = x1 at *
  generalize 256 * (a2 % 72057594037927936) + a1 / 72057594037927936 = x2 at *
  generalize 256 * (a3 % 72057594037927936) + a2 / 72057594037927936 = x3 at *
  generalize 256 * (a4 % 72057594037927936) + a3 / 72057594037927936 = x4 at *
  clear A0 A1 A2 A3 A4 hL hx
  have go : ∀ q, q < 18446744073709551616 → LL * q ≤ v5 x0 x1 x2 x3 x4 → v5 x0 x1 x2 x3 x4 < LL * q + 2 * LL → ∃ z0 z1 z2 z3 z4, z0 < 18446744073709551616 ∧ z1 < 18446744073709551616 ∧ z2 < 18446744073709551616 ∧ z3 < 18446744073709551616 ∧ z4 < 18446744073709551616 ∧ v5 z0 z1 z2 z3 z4 = v5 x0 x1 x2 x3 x4 % LL ∧
      g22J10 realA (m + 6) (fun v _ => some v) q [x0, x1, x2, x3, x4] [0, 0, 0, 0, 0] [6346243789798364141, 1503914060200516822, 0, 1152921504606846976, 0] = some (.v (.agg [.nums .u64 5 [z0, z1, z2, z3, z4]])) := by
    intro q hq h1 h2
    obtain ⟨k1, y0, y1, y2, y3, y4, Y0, Y1, Y2, Y3, Y4, hv, r1⟩ := minusOk q x0 x1 x2 x3 x4 hq X0 X1 X2 X3 (by omega) h1
    obtain ⟨z0, z1, z2, z3, z4, Z0, Z1, Z2, Z3, Z4, hz, r2⟩ := loopL (m + 6) (m + 4) [0, 0, 0, 0, 0] y0 y1 y2 y3 y4 Y0 Y1 Y2 Y3 Y4 (by omega)
    refine ⟨z0, z1, z2, z3, z4, Z0, Z1, Z2, Z3, Z4, ?_, ?_⟩
    · rw [hz, ← hv, Nat.add_mul_mod_self_left]
    · unfold g22J10
      rw [k1, r1]
      exact r2
  by_cases hq : 0 < 16 * x4 + x3 / 1152921504606846976
  · have e1 : realA.nc .gtr (16 * x4 + x3 / 1152921504606846976) 0 = true := show decide (0 < 16 * x4 + x3 / 1152921504606846976) = true from decide_eq_true hq
    have e2 : realA.nb .sub .u64 (16 * x4 + x3 / 1152921504606846976) 1 = 16 * x4 + x3 / 1152921504606846976 - 1 := by
      show (16 * x4 + x3 / 1152921504606846976 + 2 ^ 64 - 1) % 2 ^ 64 = _
      omega
    rw [e1]
    simp only [e2]
    exact go _ (by omega) (by unfold v5 LL; omega) (by unfold v5 LL; omega)
  · have e1 : realA.nc .gtr (16 * x4 + x3 / 1152921504606846976) 0 = false := show decide (0 < 16 * x4 + x3 / 1152921504606846976) = false from decide_eq_false hq
    rw [e1]
    exact go _ (by omega) (by unfold v5 LL; omega) (by unfold v5 LL; omega)
end Go.Sx
