import Derived.Test.YtnnepclpggbjgaaSxFq
import Derived.Test.YtnnepclpggbjgaaSxN03k
namespace Go.Sx
theorem prP : Pr PP := pr_57896044618658097711785492504343953926634992332820282019728792003956564819949
def PM : Nat := 57896044618658097711785492504343953926634992332820282019728792003956564819948
theorem PP1 : PP - 1 = PM := by decide
theorem fermat {a : Nat} (h : a % PP ≠ 0) : a ^ PM % PP = 1 := by
  rw [← PP1]
  exact prP.2 a fun hd => h (Nat.mod_eq_zero_of_dvd hd)
theorem sqE {x y : Nat} (hx : x < PP) (hy : y < PP) (h : x * x % PP = y * y % PP) : x = y ∨ (x + y) % PP = 0 := by
  have main : ∀ {x y : Nat}, y ≤ x → x < PP → y < PP → x * x % PP = y * y % PP → x = y ∨ (x + y) % PP = 0 := by
    intro x y hle hx hy h
    obtain ⟨d, rfl⟩ : ∃ d, x = y + d := ⟨x - y, by omega⟩
    have e : (y + d) * (y + d) = y * y + d * (y + d + y) := by grind
    rw [e] at h
    have hz : d * (y + d + y) % PP = 0 := by
      generalize d * (y + d + y) = z at *
      generalize y * y = w at *
      have : (w + z) % PP = w % PP → z % PP = 0 := by unfold PP; omega
      exact this h
    rcases euclid prP (Nat.dvd_of_mod_eq_zero hz) with h1 | h1
    · have := Nat.mod_eq_zero_of_dvd h1
      rw [Nat.mod_eq_of_lt (by omega)] at this
      exact Or.inl (by omega)
    · exact Or.inr (Nat.mod_eq_zero_of_dvd h1)
  rcases Nat.le_total y x with hle | hle
  · exact main hle hx hy h
  · rcases main hle hy hx h.symm with h1 | h1
    · exact Or.inl h1.symm
    · exact Or.inr (by rw [Nat.add_comm]; exact h1)
-- the inverse
theorem finN_lt {x : Nat} (h : x < PP) : finN x < PP ∧ finN x % 2 = 0 ∧ finN x * finN x % PP = x * x % PP ∧ (finN x = x ∨ finN x = PP - x) := by
  unfold finN
  cases hb : Nat.beq (x % 2) 1 with
  | true =>
    have h1 := beq_true hb
    refine ⟨show PP - x < PP by unfold PP at *; omega, show (PP - x) % 2 = 0 by unfold PP at *; omega, ?_, Or.inr rfl⟩
    show (PP - x) * (PP - x) % PP = x * x % PP
    obtain ⟨y, hy⟩ : ∃ y, PP = x + y := ⟨PP - x, by omega⟩
    rw [hy, show x + y - x = y by omega]
    have e : x * x + (x + y) * y = y * y + (x + y) * x := by grind
    rw [← Nat.add_mul_mod_self_left (y * y) (x + y) x, ← e, Nat.add_mul_mod_self_left]
  | false =>
    have h1 := Nat.ne_of_beq_eq_false hb
    exact ⟨h, by show x % 2 = 0; omega, rfl, Or.inl rfl⟩
theorem iSq : pw 2 QQ * pw 2 QQ % PP = PP - 1 := by decide +kernel
theorem negSq (X : Nat) : (X * pw 2 QQ % PP) * (X * pw 2 QQ % PP) % PP = X * X * (PP - 1) % PP := by
  rw [← Nat.mul_mod, show X * pw 2 QQ * (X * pw 2 QQ) = X * X * (pw 2 QQ * pw 2 QQ) by grind]
  exact mmod rfl (by rw [iSq]; rfl)
theorem negMul (c : Nat) : (c * (PP - 1) % PP + c % PP) % PP = 0 := by
  rw [← Nat.add_mod, ← Nat.mul_succ, show (PP - 1).succ = PP from rfl, Nat.mul_mod_left]
theorem vNeg (v X : Nat) : (v * ((X * pw 2 QQ % PP) * (X * pw 2 QQ % PP) % PP) % PP + v * (X * X % PP) % PP) % PP = 0 := by
  rw [negSq, Nat.mul_mod_mod, Nat.mul_mod_mod, ← Nat.mul_assoc]
  exact negMul _
theorem rn1 {u v : Nat} (h : Nat.beq (rootC u v) (u % PP) = true) : rootN u v = (finN (rootX u v), true) := by unfold rootN; rw [h]
theorem rn2 {u v : Nat} (h : Nat.beq (rootC u v) (u % PP) = false) (h2 : Nat.beq ((rootC u v + u % PP) % PP) 0 = true) : rootN u v = (finN (rootX u v * pw 2 QQ % PP), true) := by unfold rootN; rw [h, h2]
theorem rn3 {u v : Nat} (h : Nat.beq (rootC u v) (u % PP) = false) (h2 : Nat.beq ((rootC u v + u % PP) % PP) 0 = false) : rootN u v = (0, false) := by unfold rootN; rw [h, h2]
theorem rootN_true {u v : Nat} (hu : u < PP) (h : (rootN u v).2 = true) : v * ((rootN u v).1 * (rootN u v).1 % PP) % PP = u ∧ (rootN u v).1 < PP ∧ (rootN u v).1 % 2 = 0 := by
  have hX : rootX u v < PP := Nat.mod_lt _ PP_pos
  have hC : rootC u v < PP := Nat.mod_lt _ PP_pos
  cases h1 : Nat.beq (rootC u v) (u % PP) with
  | true =>
    rw [rn1 h1]
    dsimp only
    obtain ⟨f1, f2, f3, _⟩ := finN_lt hX
    refine ⟨?_, f1, f2⟩
    have := beq_true h1
    rw [Nat.mod_eq_of_lt hu] at this
    rw [f3]
    exact this
  | false =>
    cases h2 : Nat.beq ((rootC u v + u % PP) % PP) 0 with
    | false => rw [rn3 h1 h2] at h; cases h
    | true =>
      rw [rn2 h1 h2]
      dsimp only
      have hY : rootX u v * pw 2 QQ % PP < PP := Nat.mod_lt _ PP_pos
      obtain ⟨f1, f2, f3, _⟩ := finN_lt hY
      refine ⟨?_, f1, f2⟩
      rw [f3]
      have h3 := vNeg v (rootX u v)
      have h4 := beq_true h2
      rw [Nat.mod_eq_of_lt hu] at h4
      have h5 : v * ((rootX u v * pw 2 QQ % PP) * (rootX u v * pw 2 QQ % PP) % PP) % PP < PP := Nat.mod_lt _ PP_pos
      unfold rootC at h4 hC
      generalize v * ((rootX u v * pw 2 QQ % PP) * (rootX u v * pw 2 QQ % PP) % PP) % PP = z at *
      generalize v * (rootX u v * rootX u v % PP) % PP = c at *
      clear h1 h2 h hX hY f1 f2 f3
      unfold PP at *
      omega
theorem rootN_false {u v : Nat} (h : (rootN u v).2 = false) : (rootN u v).1 = 0 := by
  cases h1 : Nat.beq (rootC u v) (u % PP) with
  | true => rw [rn1 h1] at h; cases h
  | false =>
    cases h2 : Nat.beq ((rootC u v + u % PP) % PP) 0 with
    | false => rw [rn3 h1 h2]
    | true => rw [rn2 h1 h2] at h; cases h
theorem KKe : 4 * (KK + 1) = 2 + (PM / 2) + 0 ∧ PM / 2 * 2 = PM := by decide
theorem halfPow (a : Nat) : a ^ (PM / 2) % PP * (a ^ (PM / 2) % PP) % PP * a % PP = a % PP := by
  rw [← Nat.mul_mod, ← Nat.pow_add, ← Nat.mul_two, KKe.2]
  by_cases h : a % PP = 0
  · rw [Nat.mul_mod, h, Nat.mul_zero]; rfl
  · rw [fermat h, Nat.one_mul]
theorem rootX1 (W : Nat) : rootX W 1 % PP = W ^ (KK + 1) % PP := by
  unfold rootX
  rw [Nat.mod_mod, show 1 * (1 * 1 % PP) % PP = 1 by decide, show 1 * (1 * 1 % PP) % PP = 1 by decide, Nat.mul_one, pw_spec _ KK (by decide), Nat.pow_succ, Nat.mul_comm (W ^ KK) W]
  exact mmod (Nat.mod_mod _ _) (by rw [Nat.mod_mod]; exact powM (Nat.mod_mod _ _) _)
theorem rootSq {u : Nat} (hu : u < PP) : (rootN (u * u % PP) 1).2 = true ∧ ((rootN (u * u % PP) 1).1 = u ∨ ((rootN (u * u % PP) 1).1 + u) % PP = 0) := by
  have hW : u * u % PP < PP := Nat.mod_lt _ PP_pos
  have ht : (rootN (u * u % PP) 1).2 = true := by
    have hC : rootC (u * u % PP) 1 < PP := Nat.mod_lt _ PP_pos
    have e1 : rootC (u * u % PP) 1 % PP = u * u * u ^ (PM / 2) % PP := by
      unfold rootC
      rw [Nat.one_mul, Nat.mod_mod, Nat.mod_mod, mmod (rootX1 _) (rootX1 _), ← Nat.pow_add, show KK + 1 + (KK + 1) = 2 * (KK + 1) by omega, Nat.pow_mul, Nat.pow_two]
      rw [powM (x' := u * u * (u * u)) (by rw [← Nat.mul_mod]) (KK + 1), show u * u * (u * u) = u ^ 4 by grind, ← Nat.pow_mul, KKe.1, Nat.add_zero, Nat.pow_add, Nat.pow_two]
    have e2 : rootC (u * u % PP) 1 * rootC (u * u % PP) 1 % PP = (u * u % PP) * (u * u % PP) % PP := by
      rw [mmod e1 e1, ← Nat.mul_mod]
      have hh := halfPow u
      rw [← Nat.mul_mod, Nat.mod_mul_mod] at hh
      have := mmod hh (show u * u * u % PP = u * u * u % PP from rfl)
      rw [show u * (u * u * u) = u * u * (u * u) by grind] at this
      rw [← this]
      generalize u ^ (PM / 2) = t
      exact congrArg (· % PP) (show u * u * t * (u * u * t) = t * t * u * (u * u * u) by grind)
    cases h1 : Nat.beq (rootC (u * u % PP) 1) (u * u % PP % PP) with
    | true => exact congrArg Prod.snd (rn1 h1)
    | false =>
      rcases sqE hC hW e2 with h | h
      · rw [h, Nat.mod_mod, Nat.beq_refl] at h1
        cases h1
      · exact congrArg Prod.snd (rn2 h1 (by rw [Nat.mod_mod, h]; rfl))
  refine ⟨ht, ?_⟩
  obtain ⟨h1, h2, h3⟩ := rootN_true hW ht
  rw [Nat.one_mul, Nat.mod_mod] at h1
  exact sqE h2 hu h1
end Go.Sx
