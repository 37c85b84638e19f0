/- sum512: roots of primes. -/
import Derived.Test.YtaiehobmadflkaaSxN02
namespace Go.Sx
def lst (R : Nat) : List Nat := [R % B64, R / B64, 0, 0, 0, 0]
theorem lst_N6 {R : Nat} (h : R < 2 ^ 70) : N6 (lst R) := by
  refine ⟨rfl, fun x hx => ?_⟩
  simp only [lst, List.mem_cons, List.not_mem_nil, or_false] at hx
  have : (2 : Nat) ^ 70 = 1180591620717411303424 := by decide
  simp only [B64] at *
  rcases hx with h1 | h1 | h1 | h1 | h1 | h1 <;> omega
theorem lst_dw (R : Nat) : dw (lst R) = R := by
  simp only [lst, dw, B64]; omega
theorem setbit {R b : Nat} (hb : b < 70) (hR : R + 2 ^ b < 2 ^ 70) (hm : R % 2 ^ (b + 1) = 0) : (lst R).set (b / 64) ((lst R).getD (b / 64) 0 ||| 2 ^ (b % 64)) = lst (R + 2 ^ b) := by
  have hc : 2 ^ (b + 1) * (R / 2 ^ (b + 1)) = R := by have := Nat.div_add_mod R (2 ^ (b + 1)); omega
  generalize R / 2 ^ (b + 1) = t at hc
  by_cases h : b < 64
  · have e1 : b / 64 = 0 := by omega
    have e2 : b % 64 = b := by omega
    rw [e1, e2]
    -- the low word
    have hB : B64 = 2 ^ (b + 1) * 2 ^ (63 - b) := by rw [← Nat.pow_add, show b + 1 + (63 - b) = 64 by omega]
    have hlow : R % B64 = 2 ^ (b + 1) * (t % 2 ^ (63 - b)) := by rw [← hc, hB, Nat.mul_mod_mul_left]
    have hlt : t % 2 ^ (63 - b) < 2 ^ (63 - b) := Nat.mod_lt _ (Nat.pow_pos (by omega))
    have hsum : R % B64 + 2 ^ b < B64 := by
      rw [hlow, hB]
      have h1 : 2 ^ (b + 1) * (t % 2 ^ (63 - b)) + 2 ^ (b + 1) ≤ 2 ^ (b + 1) * 2 ^ (63 - b) := by
        rw [← Nat.mul_succ]; exact Nat.mul_le_mul_left _ hlt
      have h2 : 2 ^ b < 2 ^ (b + 1) := Nat.pow_lt_pow_right (by omega) (by omega)
      omega
    have hor : R % B64 ||| 2 ^ b = R % B64 + 2 ^ b := by
      rw [hlow]
      exact (Nat.two_pow_add_eq_or_of_lt (Nat.pow_lt_pow_right (by omega) (by omega)) _).symm
    show [R % B64 ||| 2 ^ b, R / B64, 0, 0, 0, 0] = [(R + 2 ^ b) % B64, (R + 2 ^ b) / B64, 0, 0, 0, 0]
    rw [hor]
    generalize 2 ^ b = z at *
    simp only [B64] at *
    have a1 : (R + z) % 18446744073709551616 = R % 18446744073709551616 + z := by omega
    have a2 : (R + z) / 18446744073709551616 = R / 18446744073709551616 := by omega
    rw [a1, a2]
  · have e1 : b / 64 = 1 := by omega
    obtain ⟨s, rfl⟩ : ∃ s, b = 64 + s := ⟨b - 64, by omega⟩
    have e2 : (64 + s) % 64 = s := by omega
    rw [e1, e2]
    have hB : (2 : Nat) ^ (64 + s) = B64 * 2 ^ s := by rw [Nat.pow_add]
    have hB1 : (2 : Nat) ^ (64 + s + 1) = B64 * 2 ^ (s + 1) := by rw [Nat.add_assoc, Nat.pow_add]
    have hhi : R / B64 = 2 ^ (s + 1) * t := by
      rw [← hc, hB1, Nat.mul_assoc, Nat.mul_div_cancel_left _ (by decide)]
    have hlo : R % B64 = 0 := by rw [← hc, hB1, Nat.mul_assoc, Nat.mul_mod_right]
    have hor : R / B64 ||| 2 ^ s = R / B64 + 2 ^ s := by
      rw [hhi]
      exact (Nat.two_pow_add_eq_or_of_lt (Nat.pow_lt_pow_right (by omega) (by omega)) _).symm
    show [R % B64, R / B64 ||| 2 ^ s, 0, 0, 0, 0] = [(R + 2 ^ (64 + s)) % B64, (R + 2 ^ (64 + s)) / B64, 0, 0, 0, 0]
    rw [hor, hB]
    generalize 2 ^ s = z at *
    simp only [B64] at *
    have a1 : (R + 18446744073709551616 * z) % 18446744073709551616 = R % 18446744073709551616 := by omega
    have a2 : (R + 18446744073709551616 * z) / 18446744073709551616 = R / 18446744073709551616 + z := by omega
    rw [a1, a2]
def pw (t : Bool) (x : Nat) : Nat := if t then x * x * x else x * x
theorem pw_mono {t : Bool} {x y : Nat} (h : x ≤ y) : pw t x ≤ pw t y := by
  unfold pw; split
  · exact Nat.mul_le_mul (Nat.mul_le_mul h h) h
  · exact Nat.mul_le_mul h h
theorem mod_step {R b : Nat} (h : R % 2 ^ (b + 1) = 0) : R % 2 ^ b = 0 := by
  have : (2 : Nat) ^ (b + 1) = 2 ^ b * 2 := Nat.pow_succ ..
  rw [this] at h
  exact Nat.mod_eq_zero_of_dvd (Nat.dvd_trans (Nat.dvd_mul_right _ _) (Nat.dvd_of_mod_eq_zero h))
theorem mod_step2 {R b : Nat} (h : R % 2 ^ (b + 1) = 0) : (R + 2 ^ b) % 2 ^ b = 0 := by
  rw [Nat.add_mod_right]; exact mod_step h
theorem EE6 : EE ^ 6 = 39402006196394479212279040100143613805079739270465446667948293404245721771497210611414266254884915640806627990306816 := by decide
theorem fit2 {x : Nat} (h : x < 2 ^ 70) : x * x < 2 ^ 140 ∧ x * x * x < 2 ^ 210 := by
  have h1 : x * x < 2 ^ 70 * 2 ^ 70 := Nat.mul_lt_mul'' h h
  have h2 : x * x * x < 2 ^ 140 * 2 ^ 70 := Nat.mul_lt_mul'' (by rw [← Nat.pow_add] at h1; exact h1) h
  rw [← Nat.pow_add] at h1 h2
  exact ⟨h1, h2⟩
theorem root_loop (N : Nat) (t : Bool) (w : List Nat) (hw : N6 w) : ∀ (b m R : Nat), b ≤ 70 → b < m → R % 2 ^ b = 0 → R + 2 ^ b ≤ 2 ^ 70 → pw t R ≤ dw w → dw w < pw t (R + 2 ^ b) →
    ∃ R', pw t R' ≤ dw w ∧ dw w < pw t (R' + 1) ∧ g19L6 realA N (fun v _ => some v) m t ((b : Int) - 1) w (lst R) = some (u64v (R' % B64)) := by
  intro b
  induction b with
  | zero =>
    intro m R _ hm _ hR h1 h2
    obtain ⟨m, rfl⟩ : ∃ q, m = q + 1 := ⟨m - 1, by omega⟩
    refine ⟨R, h1, by simpa using h2, ?_⟩
    rw [g19L6, ar_geq, decide_eq_false (by omega)]
    rfl
  | succ b ih =>
    intro m R hb hm hmod hR h1 h2
    obtain ⟨m, rfl⟩ : ∃ q, m = q + 1 := ⟨m - 1, by omega⟩
    have hp : (2 : Nat) ^ (b + 1) = 2 ^ b + 2 ^ b := by rw [Nat.pow_succ]; omega
    have hpos : 0 < (2 : Nat) ^ b := Nat.pow_pos (by omega)
    have hRx : R + 2 ^ b < 2 ^ 70 := by omega
    have e0 : (((b + 1 : Nat) : Int) - 1) = (b : Int) := by omega
    have e1 : realA.ib .sub .i64 (b : Int) 1 = (b : Int) - 1 := ar_sub (by omega)
    have q1 : realA.ib .quo .i64 (b : Int) 64 = ((b / 64 : Nat) : Int) := by rw [ar_quo (by omega) (by omega) (by omega)]; omega
    have q2 : realA.ib .rem .i64 (b : Int) 64 = ((b % 64 : Nat) : Int) := by rw [ar_rem (by omega)]; omega
    have q3 : realA.nsh .shl .u64 1 (b % 64) = 2 ^ (b % 64) := by
      rw [ar_nshl, Nat.one_mul]
      exact Nat.mod_eq_of_lt (Nat.pow_lt_pow_right (by omega) (show b % 64 < 64 by omega))
    have q4 : ∀ x y, realA.nb .or .u64 x y = x ||| y := fun _ _ => rfl
    have hset := setbit (by omega) hRx hmod
    have hxN := lst_N6 hRx
    have hx2 : dw (lst (R + 2 ^ b)) * dw (lst (R + 2 ^ b)) < EE ^ 6 := by
      rw [lst_dw, EE6]
      have := (fit2 hRx).1
      have h3 : (2 : Nat) ^ 140 < 39402006196394479212279040100143613805079739270465446667948293404245721771497210611414266254884915640806627990306816 := by decide
      omega
    obtain ⟨n1, n2, n3⟩ := times_fit _ _ hxN hxN hx2
    rw [lst_dw] at n2
    have hx3 : dw (g25r0 realA (lst (R + 2 ^ b)) (lst (R + 2 ^ b))) * dw (lst (R + 2 ^ b)) < EE ^ 6 := by
      rw [n2, lst_dw, EE6]
      have := (fit2 hRx).2
      have h3 : (2 : Nat) ^ 210 < 39402006196394479212279040100143613805079739270465446667948293404245721771497210611414266254884915640806627990306816 := by decide
      omega
    obtain ⟨m1, m2, m3⟩ := times_fit _ _ n1 hxN hx3
    rw [n2, lst_dw] at m2
    have q5 : b / 64 < 6 := by omega
    rw [g19L6, e0, ar_geq, decide_eq_true (show (0 : Int) ≤ (b : Int) by omega)]
    simp only [g19J8, g19t0, g19t1, q1, q2, ar_negN, ar_toNN, ar_lt, decide_eq_true q5, q3, q4, hset, n3]
    -- whichever power
    have fin : ∀ y, N6 y → dw y = pw t (R + 2 ^ b) → ∃ R', pw t R' ≤ dw w ∧ dw w < pw t (R' + 1) ∧ g19J13 realA N (fun v _ => some v) (g19L6 realA N (fun v _ => some v) m) t (b : Int) w (lst R) (lst (R + 2 ^ b)) y = some (u64v (R' % B64)) := by
      intro y hy hyv
      simp only [g19J13, above_ok y w hy hw, above_0 y w hy hw, e1, hyv]
      by_cases hgt : dw w < pw t (R + 2 ^ b)
      · simp only [decide_eq_true hgt]
        exact ih m R (by omega) (by omega) (mod_step hmod) (by omega) h1 hgt
      · simp only [decide_eq_false hgt]
        exact ih m (R + 2 ^ b) (by omega) (by omega) (mod_step2 hmod) (by omega) (by omega) (by rw [Nat.add_assoc, ← hp]; exact h2)
    cases t with
    | true => simp only [m3]; exact fin _ m1 (by rw [m2]; rfl)
    | false => exact fin _ n1 (by rw [n2]; rfl)
def wantN (t : Bool) (p : Nat) : Nat := if t then p * EE ^ 3 else p * EE ^ 2
theorem root_v (p : Nat) (t : Bool) (hp : p < 4096) : ∃ R, pw t R ≤ wantN t p ∧ wantN t p < pw t (R + 1) ∧ g19v realA p t = some (u64v (R % B64)) := by
  have hl : lst 0 = [0, 0, 0, 0, 0, 0] := rfl
  cases t with
  | true =>
    have hw : N6 ([0, 0, 0, 0, 0, 0].set 3 p) := ⟨rfl, by
      intro x hx
      simp only [List.set_cons_succ, List.set_cons_zero, List.mem_cons, List.not_mem_nil, or_false] at hx
      simp only [B64]
      rcases hx with h1 | h1 | h1 | h1 | h1 | h1 <;> omega⟩
    have hv : dw ([0, 0, 0, 0, 0, 0].set 3 p) = wantN true p := by
      simp only [List.set_cons_succ, List.set_cons_zero, dw, wantN, if_true, EE]; omega
    have h := root_loop 100000 true _ hw 70 100000 0 (by omega) (by omega) rfl (by omega) (by rw [hv]; exact Nat.zero_le _) (by
      rw [hv]
      have : pw true (0 + 2 ^ 70) = 2 ^ 210 := by decide
      rw [this]
      have : wantN true p ≤ 4095 * EE ^ 3 := Nat.mul_le_mul_right _ (by omega)
      have h3 : 4095 * EE ^ 3 < 2 ^ 210 := by decide
      omega)
    rw [hv] at h
    obtain ⟨R, a1, a2, a3⟩ := h
    exact ⟨R, a1, a2, a3⟩
  | false =>
    have hw : N6 ([0, 0, 0, 0, 0, 0].set 2 p) := ⟨rfl, by
      intro x hx
      simp only [List.set_cons_succ, List.set_cons_zero, List.mem_cons, List.not_mem_nil, or_false] at hx
      simp only [B64]
      rcases hx with h1 | h1 | h1 | h1 | h1 | h1 <;> omega⟩
    have hv : dw ([0, 0, 0, 0, 0, 0].set 2 p) = wantN false p := by
      simp only [List.set_cons_succ, List.set_cons_zero, dw, wantN, EE]; simp; omega
    have h := root_loop 100000 false _ hw 70 100000 0 (by omega) (by omega) rfl (by omega) (by rw [hv]; exact Nat.zero_le _) (by
      rw [hv]
      have : pw false (0 + 2 ^ 70) = 2 ^ 140 := by decide
      rw [this]
      have : wantN false p ≤ 4095 * EE ^ 2 := Nat.mul_le_mul_right _ (by omega)
      have h3 : 4095 * EE ^ 2 < 2 ^ 140 := by decide
      omega)
    rw [hv] at h
    obtain ⟨R, a1, a2, a3⟩ := h
    exact ⟨R, a1, a2, a3⟩
theorem root_is {p : Nat} {t : Bool} (hp : p < 4096) {c : Nat} (h1 : pw t c ≤ wantN t p) (h2 : wantN t p < pw t (c + 1)) : g19v realA p t = some (u64v (c % B64)) := by
  obtain ⟨R, a1, a2, a3⟩ := root_v p t hp
  have : R = c := by
    rcases Nat.lt_trichotomy R c with h | h | h
    · have := pw_mono (t := t) (show R + 1 ≤ c from h); omega
    · exact h
    · have := pw_mono (t := t) (show c + 1 ≤ R from h); omega
  rw [a3, this]
end Go.Sx
