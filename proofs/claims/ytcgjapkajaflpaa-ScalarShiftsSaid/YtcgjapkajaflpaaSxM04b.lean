import Derived.Test.YtcgjapkajaflpaaSxM04
namespace Go.Sx
theorem lt00 : ∀ x ∈ [0, 0], x < 256 := by decide
theorem ltcat {a b : List Nat} (ha : ∀ x ∈ a, x < 256) (hb : ∀ x ∈ b, x < 256) : ∀ x ∈ a ++ b, x < 256 := fun x hx => (List.mem_append.1 hx).elim (ha x) (hb x)
theorem law5 (a : List Nat) (ha : ∀ x ∈ a, x < 256) (_ : a.length < 2 ^ 47) (b : List Nat) (hb : ∀ x ∈ b, x < 256) (_ : b.length < 2 ^ 47) (c : List Nat) (hc : ∀ x ∈ c, x < 256) (_ : c.length < 2 ^ 47) :
    g5o [.v (.cell (.str a)), .v (.cell (.str b)), .v (.cell (.str c))] = some (true, .v (.cell (.bool true))) := by
  have e : g5v a b c = some (.v (.cell (.bool true))) := by
    unfold g5v
    generalize 100000 = n
    have ta := bytes_take ha 30
    have tb := bytes_take hb 30
    have tc := bytes_take hc 30
    have la : (a.take 30).length ≤ 30 := by rw [List.length_take]; omega
    have lb : (b.take 30).length ≤ 30 := by rw [List.length_take]; omega
    have lc : (c.take 30).length ≤ 30 := by rw [List.length_take]; omega
    obtain ⟨ca1, ca2, ca3⟩ := clip a 30
    obtain ⟨cb1, cb2, cb3⟩ := clip b 30
    obtain ⟨cc1, cc2, cc3⟩ := clip c 30
    unfold g5 g5J4
    rw [show (30 : Int) = ((30 : Nat) : Int) from rfl, ca1, ca2, ca3, cb1, cb2, cb3, cc1, cc2, cc3, ok9, r9]
    generalize a.take 30 = A at *
    generalize b.take 30 = B at *
    generalize c.take 30 = C at *
    obtain ⟨m1, m1'⟩ := ma ta lt1 tb (by omega) (by decide) (by omega)
    obtain ⟨m2, m2'⟩ := ma (MM_lt (leval A * leval [1] + leval B)) tc lt0 (by rw [MM_len]; omega) (by omega) (by decide)
    obtain ⟨m3, m3'⟩ := ma tb tc lt0 (by omega) (by omega) (by decide)
    obtain ⟨m4, m4'⟩ := ma ta tc (MM_lt (leval B * leval C + leval [])) (by omega) (by omega) (by rw [MM_len]; omega)
    obtain ⟨m5, m5'⟩ := rd (ltcat ta lt00) (by simp; omega)
    obtain ⟨m6, m6'⟩ := rd ta (by omega)
    obtain ⟨m7, m7'⟩ := ma tb lt1 ta (by omega) (by decide) (by omega)
    rw [leval_MM] at m2' m4'
    have e1 : leval [1] = 1 := rfl
    have e0 : leval [] = 0 := rfl
    rw [m1, m1', m2, m2', m3, m3', m4, m4', m5, m5', m6, m6', m7, m7']
    have q1 : MM ((leval A * leval [1] + leval B) % LL * leval C + leval []) = MM (leval A * leval C + (leval B * leval C + leval []) % LL) := MM_congr (by
      rw [e0, e1, Nat.mul_one, Nat.add_zero, Nat.add_zero, Nat.mod_mul_mod, Nat.add_mod_mod, Nat.add_mul])
    have q2 : MM (leval (A ++ [0, 0])) = MM (leval A) := by rw [leval_append, show leval [0, 0] = 0 from rfl, Nat.mul_zero, Nat.add_zero]
    have q3 : MM (leval A * leval [1] + leval B) = MM (leval B * leval [1] + leval A) := by rw [e1, Nat.mul_one, Nat.mul_one, Nat.add_comm]
    have q4 : realA.le (A.length + [0, 0].length) 9223372036854775807 = true := leT (by simp; omega)
    rw [scT q1, scT q2, scT q3, q4]
    rfl
  simp only [g5o, g5ok, g5r0, e, g5is, g5g0]
end Go.Sx
