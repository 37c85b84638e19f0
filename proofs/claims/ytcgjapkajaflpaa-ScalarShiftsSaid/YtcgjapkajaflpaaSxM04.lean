import Derived.Test.YtcgjapkajaflpaaSxN04d
import Derived.Test.YtcgjapkajaflpaaSxE04
import Derived.Test.YtcgjapkajaflpaaSxP04c
namespace Go.Sx
theorem bytes_take {a : List Nat} (h : ∀ x ∈ a, x < 256) (k : Nat) : ∀ x ∈ a.take k, x < 256 := fun x hx => h x (List.mem_of_mem_take hx)
theorem clip (a : List Nat) (k : Nat) : (a.take (realA.toN (realA.mn (realA.ofN a.length) (k : Int)))).drop 0 = a.take k ∧ realA.neg (realA.mn (realA.ofN a.length) (k : Int)) = false ∧ realA.le (realA.toN (realA.mn (realA.ofN a.length) (k : Int))) a.length = true := by
  have e : realA.mn (realA.ofN a.length) (k : Int) = ((min a.length k : Nat) : Int) := by
    show (if (k : Int) < (a.length : Int) then (k : Int) else (a.length : Int)) = _
    split <;> omega
  rw [e, negN, toNN, List.drop_zero]
  refine ⟨?_, rfl, leT (by omega)⟩
  rw [Nat.min_comm, ← List.take_take, List.take_length]
def MM (x : Nat) : List Nat := le32 (x % LL)
theorem LL_lt : LL < 256 ^ 32 := by decide
theorem leval_MM (x : Nat) : leval (MM x) = x % LL := leval_le32 _ (Nat.lt_trans (Nat.mod_lt _ LL_pos) LL_lt)
theorem MM_lt (x : Nat) : ∀ y ∈ MM x, y < 256 := le32_lt _
theorem MM_len (x : Nat) : (MM x).length = 32 := le32_length _
theorem MM_congr {x y : Nat} (h : x % LL = y % LL) : MM x = MM y := by unfold MM; rw [h]
theorem rd {s : List Nat} (hs : ∀ x ∈ s, x < 256) (hl : s.length ≤ 64) : g10ok s = true ∧ g10r0 s = MM (leval s) := by
  obtain ⟨h1, h2⟩ := reduceOk hs (by omega)
  rw [List.take_of_length_le hl] at h2
  exact ⟨h1, h2⟩
theorem ma {a b c : List Nat} (ha : ∀ x ∈ a, x < 256) (hb : ∀ x ∈ b, x < 256) (hc : ∀ x ∈ c, x < 256) (la : a.length ≤ 32) (lb : b.length ≤ 32) (lc : c.length ≤ 32) : g14ok a b c = true ∧ g14r0 a b c = MM (leval a * leval b + leval c) := by
  obtain ⟨h1, h2⟩ := mulAddOk ha hb hc
  rw [List.take_of_length_le la, List.take_of_length_le lb, List.take_of_length_le lc] at h2
  exact ⟨h1, h2⟩
theorem scT {a b : List Nat} (h : a = b) : realA.sc .eql a b = true := show decide (a = b) = true from decide_eq_true h
theorem eqlT {a b : Int} (h : a = b) : realA.ic .eql a b = true := show decide (a = b) = true from decide_eq_true h
theorem lt1 : ∀ x ∈ [1], x < 256 := by decide
theorem lt0 : ∀ x ∈ ([] : List Nat), x < 256 := by decide
theorem lt01 : ∀ x ∈ [0, 1], x < 256 := by decide
theorem ltord : ∀ x ∈ [237, 211, 245, 92, 26, 99, 18, 88, 214, 156, 247, 162, 222, 249, 222, 20, 0, 0, 0, 0, 0, 0, 0, 0, 0, 0, 0, 0, 0, 0, 0, 16], x < 256 := by decide
theorem right {s : List Nat} (hs : ∀ x ∈ s, x < 256) (hl : s.length = 32) (hv : leval s < LL) : g12ok s = true ∧ g12r0 s = true := by
  obtain ⟨h1, h2⟩ := rd hs (by omega)
  have e2 : g10r0 s = s := by
    rw [h2]
    unfold MM
    rw [Nat.mod_eq_of_lt hv]
    exact le32_leval hs hl
  have e : g12v s = some (.v (.cell (.bool true))) := by
    unfold g12v
    generalize 100000 = n
    unfold g12
    rw [eqlT (show realA.ofN s.length = 32 by rw [hl]; rfl), h1, scT e2]
  exact ⟨by unfold g12ok; rw [e]; rfl, by unfold g12r0; rw [e]; rfl⟩
theorem modmul (x y z : Nat) : (x % LL * (y % LL) + z % LL) % LL = (x * y + z) % LL := by
  rw [Nat.add_mod, Nat.mod_mod, ← Nat.mul_mod, ← Nat.add_mod]
theorem law4 (a : List Nat) (ha : ∀ x ∈ a, x < 256) (_ : a.length < 2 ^ 47) (b : List Nat) (hb : ∀ x ∈ b, x < 256) (_ : b.length < 2 ^ 47) (c : List Nat) (hc : ∀ x ∈ c, x < 256) (_ : c.length < 2 ^ 47) :
    g4o [.v (.cell (.str a)), .v (.cell (.str b)), .v (.cell (.str c))] = some (true, .v (.cell (.bool true))) := by
  have e : g4v a b c = some (.v (.cell (.bool true))) := by
    unfold g4v
    generalize 100000 = n
    have ta := bytes_take ha 32
    have tb := bytes_take hb 32
    have tc := bytes_take hc 32
    have la : (a.take 32).length ≤ 32 := by rw [List.length_take]; omega
    have lb : (b.take 32).length ≤ 32 := by rw [List.length_take]; omega
    have lc : (c.take 32).length ≤ 32 := by rw [List.length_take]; omega
    obtain ⟨ca1, ca2, ca3⟩ := clip a 32
    obtain ⟨cb1, cb2, cb3⟩ := clip b 32
    obtain ⟨cc1, cc2, cc3⟩ := clip c 32
    unfold g4 g4J4
    rw [show (32 : Int) = ((32 : Nat) : Int) from rfl, ca1, ca2, ca3, cb1, cb2, cb3, cc1, cc2, cc3, ok9, r9]
    generalize a.take 32 = A at *
    generalize b.take 32 = B at *
    generalize c.take 32 = C at *
    obtain ⟨ra, ra'⟩ := rd ta (by omega)
    obtain ⟨rb, rb'⟩ := rd tb (by omega)
    obtain ⟨rc, rc'⟩ := rd tc (by omega)
    obtain ⟨rr, rr'⟩ := rd (MM_lt (leval A)) (by rw [MM_len]; omega)
    obtain ⟨p, p'⟩ := right (MM_lt (leval A)) (MM_len _) (by rw [leval_MM]; exact Nat.mod_lt _ LL_pos)
    obtain ⟨m1, m1'⟩ := ma ta tb tc la lb lc
    obtain ⟨m2, m2'⟩ := ma tb ta tc lb la lc
    obtain ⟨m3, m3'⟩ := ma (MM_lt (leval A)) (MM_lt (leval B)) (MM_lt (leval C)) (by rw [MM_len]; omega) (by rw [MM_len]; omega) (by rw [MM_len]; omega)
    obtain ⟨m4, m4'⟩ := ma ta lt1 ltord la (by decide) (by decide)
    obtain ⟨m5, m5'⟩ := ma ta lt0 tc la (by decide) lc
    rw [leval_MM] at rr'
    rw [leval_MM, leval_MM, leval_MM] at m3'
    rw [ok16, r16, ra, ra', rb, rb', rc, rc', rr, rr', p, p', m1, m1', m2, m2', m3, m3', m4, m4', m5, m5']
    have q1 : MM (leval A % LL) = MM (leval A) := MM_congr (Nat.mod_mod _ _)
    have q2 : MM (leval A * leval B + leval C) = MM (leval B * leval A + leval C) := by rw [Nat.mul_comm]
    have q3 : MM (leval A * leval B + leval C) = MM (leval A % LL * (leval B % LL) + leval C % LL) := MM_congr (modmul _ _ _).symm
    have q4 : MM (leval A * leval [1] + leval [237, 211, 245, 92, 26, 99, 18, 88, 214, 156, 247, 162, 222, 249, 222, 20, 0, 0, 0, 0, 0, 0, 0, 0, 0, 0, 0, 0, 0, 0, 0, 16]) = MM (leval A) := MM_congr (by
      have h1 : leval [1] = 1 := rfl
      have h2 : leval [237, 211, 245, 92, 26, 99, 18, 88, 214, 156, 247, 162, 222, 249, 222, 20, 0, 0, 0, 0, 0, 0, 0, 0, 0, 0, 0, 0, 0, 0, 0, 16] = LL := rfl
      rw [h1, h2, Nat.mul_one, Nat.add_mod_right])
    have q5 : MM (leval A * leval [] + leval C) = MM (leval C) := by rw [show leval [] = 0 from rfl, Nat.mul_zero, Nat.zero_add]
    rw [eqlT (show realA.ofN (MM (leval A)).length = ((32 : Nat) : Int) by rw [MM_len]; rfl), scT q1, scT q2, scT q3, scT q4, scT q5]
    rfl
  simp only [g4o, g4ok, g4r0, e, g4is, g4g0]
end Go.Sx
