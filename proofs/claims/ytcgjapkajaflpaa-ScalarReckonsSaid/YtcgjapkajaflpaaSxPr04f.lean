import Derived.Test.YtcgjapkajaflpaaSxPr04e
namespace Go.Sx
theorem g3path {R : Type} (A : Ar) (n : Nat) (kk : AV → Heap → Option R) (a b c : List Nat)
    (p0 : (g9ok A) = true)
    (p1 : (!(g9r0 A)) = false) :
    g3 A n kk a b c = g3J4 A n kk  a b c (g9r0 A) := by
  rw [g3.eq_def, SxR04bmt p0, SxR04bmf p1]
theorem g3J4path {R : Type} (A : Ar) (n : Nat) (kk : AV → Heap → Option R) (x0 x1 x2 : List Nat) (x3 : Bool)
    (p0 : (A.neg (A.mn (A.ofN x0.length) 80)) = false)
    (p1 : (A.le (A.toN (A.mn (A.ofN x0.length) 80)) x0.length) = true)
    (p2 : (A.neg (A.mn (A.ofN x1.length) 80)) = false)
    (p3 : (A.le (A.toN (A.mn (A.ofN x1.length) 80)) x1.length) = true)
    (p4 : (A.neg (A.mn (A.ofN x2.length) 80)) = false)
    (p5 : (A.le (A.toN (A.mn (A.ofN x2.length) 80)) x2.length) = true)
    (p6 : (x3) = true)
    (p7 : (g10ok A ((x0.take (A.toN (A.mn (A.ofN x0.length) 80))).drop 0)) = true)
    (p8 : (g11ok A ((x0.take (A.toN (A.mn (A.ofN x0.length) 80))).drop 0)) = true)
    (p9 : (A.sc .eql (g10r0 A ((x0.take (A.toN (A.mn (A.ofN x0.length) 80))).drop 0)) (g11r0 A ((x0.take (A.toN (A.mn (A.ofN x0.length) 80))).drop 0))) = true)
    (p10 : (g12ok A ((x0.take (A.toN (A.mn (A.ofN x0.length) 80))).drop 0)) = true)
    (p11 : (g13ok A ((x0.take (A.toN (A.mn (A.ofN x0.length) 80))).drop 0)) = true)
    (p12 : ((g12r0 A ((x0.take (A.toN (A.mn (A.ofN x0.length) 80))).drop 0)) == (g13r0 A ((x0.take (A.toN (A.mn (A.ofN x0.length) 80))).drop 0))) = true)
    (p13 : (g14ok A ((x0.take (A.toN (A.mn (A.ofN x0.length) 80))).drop 0) ((x1.take (A.toN (A.mn (A.ofN x1.length) 80))).drop 0) ((x2.take (A.toN (A.mn (A.ofN x2.length) 80))).drop 0)) = true)
    (p14 : (g15ok A ((x0.take (A.toN (A.mn (A.ofN x0.length) 80))).drop 0) ((x1.take (A.toN (A.mn (A.ofN x1.length) 80))).drop 0) ((x2.take (A.toN (A.mn (A.ofN x2.length) 80))).drop 0)) = true) :
    g3J4 A n kk x0 x1 x2 x3 = kk (bO (A.sc .eql (g3t0 A x0 x1 x2) (g3t1 A x0 x1 x2))) [] := by
  rw [g3J4.eq_def, SxR04bmf p0, SxR04bmt p1, SxR04bmf p2, SxR04bmt p3, SxR04bmf p4, SxR04bmt p5, SxR04bmt p6, SxR04bmt p7, SxR04bmt p8, SxR04bmt p9, SxR04bmt p10, SxR04bmt p11, SxR04bmt p12, SxR04bmt p13, SxR04bmt p14]

theorem ma15 {a b c : List Nat} (ha : ∀ x ∈ a, x < 256) (hb : ∀ x ∈ b, x < 256) (hc : ∀ x ∈ c, x < 256) : g15v realA a b c = some (tS (le32 ((leval (a.take 32) * leval (b.take 32) + leval (c.take 32)) % LL))) := by
  unfold g15v g15
  obtain ⟨a1, a2, a3⟩ := clip a 32
  obtain ⟨b1, b2, b3⟩ := clip b 32
  obtain ⟨c1, c2, c3⟩ := clip c 32
  rw [show (((32 : Nat) : Int)) = (32 : Int) from rfl] at a1 a2 a3 b1 b2 b3 c1 c2 c3
  have ta := bytes_take ha 32
  have tb := bytes_take hb 32
  have tc := bytes_take hc 32
  have la : (a.take 32).length ≤ 32 := by rw [List.length_take]; omega
  have lb : (b.take 32).length ≤ 32 := by rw [List.length_take]; omega
  have lc : (c.take 32).length ≤ 32 := by rw [List.length_take]; omega
  simp only [a1, a2, a3, b1, b2, b3, c1, c2, c3, ar_le, decide_eq_true (Nat.le_refl 64), decide_eq_true (show 512 ≤ 140737488355328 by omega), zi_rep]
  generalize a.take 32 = p at *
  generalize b.take 32 = q at *
  generalize c.take 32 = r at *
  have hp := Nat.lt_of_lt_of_le (leval_lt ta) (Nat.pow_le_pow_right (show 0 < 256 by omega) la)
  have hq := Nat.lt_of_lt_of_le (leval_lt tb) (Nat.pow_le_pow_right (show 0 < 256 by omega) lb)
  have hr := Nat.lt_of_lt_of_le (leval_lt tc) (Nat.pow_le_pow_right (show 0 < 256 by omega) lc)
  have hz : ∀ j, (List.replicate 64 0).getD j 0 = 0 := by
    intro j
    rw [List.getD_eq_getElem?_getD, List.getElem?_replicate]
    split <;> rfl
  obtain ⟨x1, k1, k2, k3, k4⟩ := outer15 100000 (by omega) p q r ta tb la lb p.length 0 100000 (List.replicate 64 0) (by omega) (by omega) (by simp) (fun j => by rw [hz]; exact Nat.zero_le _)
  obtain ⟨x2, m1, m2, m3, m4⟩ := third15 100000 r tc lc (65025 * 32) (by omega) r.length 0 100000 x1 (by omega) (by omega) k1 (fun j => Nat.le_trans (k2 j) (by omega)) (fun j _ => k2 j)
  obtain ⟨o, c', n1, n2, n3, n4⟩ := carry15 100000 x2 m1 (65025 * 32 + 255) (by omega) m2 64 0 100000 0 (List.replicate 64 0) (by omega) (by omega) (by simp) (by intro x hx; rw [(List.mem_replicate.1 hx).2]; decide) (Nat.zero_le _)
  refine (k4.trans ?_)
  simp only [g15J12]
  refine m4.trans ?_
  simp only [g15J16, ar_le, decide_eq_true (Nat.le_refl 64), decide_eq_true (show 64 ≤ 140737488355328 by omega)]
  refine n4.trans ?_
  simp only [List.take_zero, List.drop_zero, leval, Nat.pow_zero, Nat.one_mul, Nat.zero_add] at n3 m3 k3
  rw [rep0, Nat.zero_add] at k3
  rw [m3, k3] at n3
  have hV : leval p * leval q + leval r < 256 ^ 64 := by
    have h1 : (leval p + 1) * (leval q + 1) ≤ 256 ^ 32 * 256 ^ 32 := Nat.mul_le_mul hp hq
    rw [show 256 ^ 32 * 256 ^ 32 = 256 ^ 64 from by decide] at h1
    have h2 : (leval p + 1) * (leval q + 1) = leval p * leval q + leval p + leval q + 1 := by grind
    rcases Nat.eq_zero_or_pos (leval p) with z | z
    · rw [z, Nat.zero_mul, Nat.zero_add]
      exact Nat.lt_of_lt_of_le hr (by decide)
    · rcases Nat.eq_zero_or_pos (leval q) with z2 | z2
      · rw [z2, Nat.mul_zero, Nat.zero_add]
        exact Nat.lt_of_lt_of_le hr (by decide)
      · have h3 : (leval p) * (leval q) ≤ (256 ^ 32 - 1) * (256 ^ 32 - 1) := Nat.mul_le_mul (by omega) (by omega)
        have h4 : (256 ^ 32 - 1) * (256 ^ 32 - 1) + 256 ^ 32 < 256 ^ 64 := by decide
        omega
  have hc0 : c' = 0 := by
    rcases Nat.eq_zero_or_pos c' with h | h
    · exact h
    · have : 256 ^ 64 * 1 ≤ 256 ^ 64 * c' := Nat.mul_le_mul_left _ h
      omega
  rw [hc0, Nat.mul_zero, Nat.add_zero] at n3
  rw [n3]
theorem g15g0_some (y : List Nat) : g15g0 (some (tS y)) = y := rfl
theorem g15is_some (y : List Nat) : g15is (some (tS y)) = true := rfl
theorem ma_ok {a b c : List Nat} (ha : ∀ x ∈ a, x < 256) (hb : ∀ x ∈ b, x < 256) (hc : ∀ x ∈ c, x < 256) : g15ok realA a b c = true := (congrArg g15is (ma15 ha hb hc)).trans (g15is_some _)
theorem ma_0 {a b c : List Nat} (ha : ∀ x ∈ a, x < 256) (hb : ∀ x ∈ b, x < 256) (hc : ∀ x ∈ c, x < 256) : g15r0 realA a b c = le32 ((leval (a.take 32) * leval (b.take 32) + leval (c.take 32)) % LL) := (congrArg g15g0 (ma15 ha hb hc)).trans (g15g0_some _)
theorem g12g0_some (y : Bool) : g12g0 (some (bO y)) = y := rfl
theorem g12is_some (y : Bool) : g12is (some (bO y)) = true := rfl
theorem g13g0_some (y : Bool) : g13g0 (some (bO y)) = y := rfl
theorem g13is_some (y : Bool) : g13is (some (bO y)) = true := rfl
theorem right2 {s : List Nat} (hs : ∀ x ∈ s, x < 256) (hl : s.length < 9223372036854775808) : g12ok realA s = true ∧ g13ok realA s = true ∧ g12r0 realA s = g13r0 realA s := by
  obtain ⟨h1, h2⟩ := reduceOk hs hl
  have k1 := red_ok hs
  have k2 := red_0 hs
  have : ∃ t, g12v realA s = some (bO t) ∧ g13v realA s = some (bO t) := by
    unfold g12v g13v g12 g13
    by_cases h : s.length = 32
    · rw [ar_ofN, ar_eql, decide_eq_true (by omega)]
      simp only [h1, h2, k1, k2]
      exact ⟨_, rfl, rfl⟩
    · rw [ar_ofN, ar_eql, decide_eq_false (by omega)]
      exact ⟨false, rfl, rfl⟩
  obtain ⟨t, e1, e2⟩ := this
  exact ⟨(congrArg g12is e1).trans (g12is_some _), (congrArg g13is e2).trans (g13is_some _), ((congrArg g12g0 e1).trans (g12g0_some _)).trans ((congrArg g13g0 e2).trans (g13g0_some _)).symm⟩
theorem g3g0_some (y : Bool) : g3g0 (some (bO y)) = y := rfl
theorem g3is_some (y : Bool) : g3is (some (bO y)) = true := rfl
theorem law3 (a : List Nat) (ha : ∀ x ∈ a, x < 256) (_ : a.length < 2 ^ 47) (b : List Nat) (hb : ∀ x ∈ b, x < 256) (_ : b.length < 2 ^ 47) (c : List Nat) (hc : ∀ x ∈ c, x < 256) (_ : c.length < 2 ^ 47) :
    g3o realA [.v (.cell (.str a)), .v (.cell (.str b)), .v (.cell (.str c))] = some (true, .v (.cell (.bool true))) := by
  have hv : g3v realA a b c = some (bO true) := by
    refine (g3path realA 100000 (fun v _ => some v) a b c ok9 (by rw [r9]; rfl)).trans ?_
    rw [r9]
    obtain ⟨a1, a2, a3⟩ := clip a 80
    obtain ⟨b1, b2, b3⟩ := clip b 80
    obtain ⟨c1, c2, c3⟩ := clip c 80
    rw [show (((80 : Nat) : Int)) = (80 : Int) from rfl] at a1 a2 a3 b1 b2 b3 c1 c2 c3
    have ta := bytes_take ha 80
    have tb := bytes_take hb 80
    have tc := bytes_take hc 80
    rw [← a1] at ta
    rw [← b1] at tb
    rw [← c1] at tc
    have la : ((a.take (realA.toN (realA.mn (realA.ofN a.length) 80))).drop 0).length < 9223372036854775808 := by rw [a1, List.length_take]; omega
    obtain ⟨h1, h2⟩ := reduceOk ta la
    obtain ⟨w1, w2, w3⟩ := right2 ta la
    obtain ⟨m1, m2⟩ := mulAddOk ta tb tc
    refine (g3J4path realA 100000 (fun v _ => some v) a b c true a2 a3 b2 b3 c2 c3 rfl h1 (red_ok ta) (scT (h2.trans (red_0 ta).symm)) w1 w2 (by rw [w3]; exact beq_self_eq_true _) m1 (ma_ok ta tb tc)).trans ?_
    exact congrArg (fun b => some (bO b)) (scT (m2.trans (ma_0 ta tb tc).symm))
  have e1 : g3ok realA a b c = true := (congrArg g3is hv).trans (g3is_some _)
  have e2 : g3r0 realA a b c = true := (congrArg g3g0 hv).trans (g3g0_some _)
  show some (g3ok realA a b c, AV.v (.cell (.bool (g3r0 realA a b c)))) = _
  rw [e1, e2]
end Go.Sx
