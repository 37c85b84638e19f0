/- Sx, part Fp: primes by a root of all (Lucas, Pratt), with Fermat's law; no library of mathematics. -/
namespace Go.Sx
/-- a prime, by Fermat's law -/
def Pr (n : Nat) : Prop := 1 < n ∧ ∀ a, ¬ n ∣ a → a ^ (n - 1) % n = 1
theorem mulM {n x x' y y' : Nat} (hx : x % n = x' % n) (hy : y % n = y' % n) : x * y % n = x' * y' % n := by rw [Nat.mul_mod, hx, hy, ← Nat.mul_mod]
theorem powM {n x x' : Nat} (hx : x % n = x' % n) (k : Nat) : x ^ k % n = x' ^ k % n := by rw [Nat.pow_mod, hx, ← Nat.pow_mod]
theorem pow1M {n g m : Nat} (h1 : 1 < n) (h : g ^ m % n = 1) (k : Nat) : g ^ (m * k) % n = 1 := by
  rw [Nat.pow_mul, powM (x' := 1) (by rw [h, Nat.mod_eq_of_lt h1]), Nat.one_pow, Nat.mod_eq_of_lt h1]
theorem gcdM {n g : Nat} (h1 : 1 < n) (a b : Nat) : g ^ a % n = 1 → g ^ b % n = 1 → g ^ (Nat.gcd a b) % n = 1 := by
  induction a, b using Nat.gcd.induction with
  | H0 b => intro _ h; rw [Nat.gcd_zero_left]; exact h
  | H1 a b hp ih =>
    intro h1a h1b
    rw [Nat.gcd_rec]
    refine ih ?_ h1a
    have e : g ^ b = g ^ (a * (b / a)) * g ^ (b % a) := by rw [← Nat.pow_add, Nat.div_add_mod]
    rw [e, mulM (x' := 1) (y' := g ^ (b % a)) (by rw [pow1M h1 h1a, Nat.mod_eq_of_lt h1]) rfl, Nat.one_mul] at h1b
    exact h1b
theorem euclid {n : Nat} (h : Pr n) {a b : Nat} (hd : n ∣ a * b) : n ∣ a ∨ n ∣ b := by
  refine Classical.byContradiction fun hn => ?_
  have ha : ¬ n ∣ a := fun x => hn (Or.inl x)
  have hb : ¬ n ∣ b := fun x => hn (Or.inr x)
  have h0 := h.1
  have fa := h.2 a ha
  apply hb
  have e : a ^ (n - 1) * b = a ^ (n - 2) * (a * b) := by
    rw [show n - 1 = (n - 2) + 1 by omega, Nat.pow_succ, Nat.mul_assoc]
  have e2 : a ^ (n - 1) * b % n = 0 := by
    rw [e]
    exact Nat.mod_eq_zero_of_dvd (Nat.dvd_trans hd (Nat.dvd_mul_left _ _))
  rw [mulM (x' := 1) (y' := b) (by rw [fa, Nat.mod_eq_of_lt h0]) rfl, Nat.one_mul] at e2
  exact Nat.dvd_of_mod_eq_zero e2
theorem factor : ∀ (qs : List Nat), (∀ q ∈ qs, Pr q) → ∀ e d : Nat, e * d = qs.foldr (· * ·) 1 → 1 < e → ∃ q ∈ qs, q ∣ e := by
  intro qs
  induction qs with
  | nil =>
    intro _ e d h h1
    have : e = 1 := Nat.eq_one_of_mul_eq_one_right h
    omega
  | cons q r ih =>
    intro hq e d h h1
    have hd : q ∣ e * d := by rw [h]; exact Nat.dvd_mul_right _ _
    rcases euclid (hq q (List.mem_cons_self ..)) hd with h2 | h2
    · exact ⟨q, List.mem_cons_self .., h2⟩
    · obtain ⟨d', rfl⟩ := h2
      have hq0 : 0 < q := Nat.lt_trans Nat.zero_lt_one (hq q (List.mem_cons_self ..)).1
      have : e * d' = r.foldr (· * ·) 1 := by
        apply Nat.eq_of_mul_eq_mul_left hq0
        rw [← Nat.mul_assoc, Nat.mul_comm q e, Nat.mul_assoc]
        exact h
      obtain ⟨p, h3, h4⟩ := ih (fun x hx => hq x (List.mem_cons_of_mem _ hx)) e d' this h1
      exact ⟨p, List.mem_cons_of_mem _ h3, h4⟩
theorem pigeon : ∀ (l l' : List Nat), l.Nodup → (∀ x ∈ l, x ∈ l') → l'.length ≤ l.length → ∀ x ∈ l', x ∈ l := by
  intro l
  induction l with
  | nil =>
    intro l' _ _ h x hx
    cases l' with
    | nil => exact hx
    | cons y r => simp at h
  | cons a t ih =>
    intro l' hn hs hl x hx
    by_cases hxa : x = a
    · rw [hxa]; exact List.mem_cons_self ..
    · have ha : a ∈ l' := hs a (List.mem_cons_self ..)
      have hn' := List.nodup_cons.1 hn
      have hle := List.length_erase_of_mem ha
      have hpos : 0 < l'.length := List.length_pos_of_mem ha
      refine List.mem_cons_of_mem _ (ih (l'.erase a) hn'.2 (fun y hy => ?_) (by simp only [List.length_cons] at hl; omega) x ((List.mem_erase_of_ne hxa).2 hx))
      have : y ≠ a := fun e => hn'.1 (e ▸ hy)
      exact (List.mem_erase_of_ne this).2 (hs y (List.mem_cons_of_mem _ hy))
theorem nodup_map_inj (f : Nat → Nat) : ∀ (l : List Nat), l.Nodup → (∀ x ∈ l, ∀ y ∈ l, f x = f y → x = y) → (l.map f).Nodup := by
  intro l
  induction l with
  | nil => intro _ _; exact List.nodup_nil
  | cons a t ih =>
    intro hn hf
    have hn' := List.nodup_cons.1 hn
    rw [List.map_cons, List.nodup_cons]
    refine ⟨fun h => ?_, ih hn'.2 fun x hx y hy => hf x (List.mem_cons_of_mem _ hx) y (List.mem_cons_of_mem _ hy)⟩
    obtain ⟨y, hy, e⟩ := List.mem_map.1 h
    have := hf y (List.mem_cons_of_mem _ hy) a (List.mem_cons_self ..) e
    exact hn'.1 (this ▸ hy)
theorem pratt (n g : Nat) (qs : List Nat) (hn : 1 < n) (hq : ∀ q ∈ qs, Pr q) (hp : qs.foldr (· * ·) 1 = n - 1) (h1 : g ^ (n - 1) % n = 1) (h2 : ∀ q ∈ qs, g ^ ((n - 1) / q) % n ≠ 1) : Pr n := by
  -- no power below n - 1 is 1
  have ord : ∀ m, 0 < m → m < n - 1 → g ^ m % n ≠ 1 := by
    intro m m0 m1 hm
    have hg := gcdM hn m (n - 1) hm h1
    obtain ⟨e, he⟩ : Nat.gcd m (n - 1) ∣ n - 1 := Nat.gcd_dvd_right ..
    have hle : Nat.gcd m (n - 1) ≤ m := Nat.gcd_le_left _ m0
    have e1 : 1 < e := by
      rcases Nat.lt_or_ge 1 e with h | h
      · exact h
      · have : Nat.gcd m (n - 1) * e ≤ m * 1 := Nat.mul_le_mul hle h
        omega
    obtain ⟨q, hq1, q', hq2⟩ := factor qs hq e (Nat.gcd m (n - 1)) (by rw [hp, Nat.mul_comm]; exact he.symm) e1
    have hq0 : 0 < q := Nat.lt_trans Nat.zero_lt_one (hq q hq1).1
    apply h2 q hq1
    have : (n - 1) / q = Nat.gcd m (n - 1) * q' := by
      have : n - 1 = q * (Nat.gcd m (n - 1) * q') := by
        rw [Nat.mul_left_comm, ← hq2]; exact he
      rw [congrArg (· / q) this]
      exact Nat.mul_div_cancel_left _ hq0
    rw [this]
    exact pow1M hn hg q'
  have inj : ∀ i j, i < j → j < n - 1 → g ^ i % n ≠ g ^ j % n := by
    intro i j hij hj he
    obtain ⟨t, ht⟩ : ∃ t, i + t = (n - 1) * i := ⟨(n - 1) * i - i, by
      have : 1 * i ≤ (n - 1) * i := Nat.mul_le_mul_right _ (by omega)
      omega⟩
    have u : g ^ i * g ^ t % n = 1 := by rw [← Nat.pow_add, ht]; exact pow1M hn h1 i
    have v : g ^ j * g ^ t % n = 1 := by rw [← mulM he rfl]; exact u
    have w : g ^ j * g ^ t = g ^ (j - i) * (g ^ i * g ^ t) := by
      have : g ^ j = g ^ (j - i) * g ^ i := by rw [← Nat.pow_add, show j - i + i = j by omega]
      rw [this, Nat.mul_assoc]
    rw [w, mulM (x' := g ^ (j - i)) (y' := 1) rfl (by rw [u, Nat.mod_eq_of_lt hn]), Nat.mul_one] at v
    exact ord (j - i) (by omega) (by omega) v
  have nz : ∀ i, 0 < g ^ i % n := by
    intro i
    refine Nat.pos_of_ne_zero fun h => ?_
    have hd : n ∣ g ^ i := Nat.dvd_of_mod_eq_zero h
    have h3 := pow1M hn h1 i
    have : g ^ i ∣ g ^ ((n - 1) * i) := Nat.pow_dvd_pow _ (by
      have : 1 * i ≤ (n - 1) * i := Nat.mul_le_mul_right _ (by omega)
      omega)
    rw [Nat.mod_eq_zero_of_dvd (Nat.dvd_trans hd this)] at h3
    exact absurd h3 (by decide)
  refine ⟨hn, fun a ha => ?_⟩
  have hm : a % n ∈ (List.range (n - 1)).map (fun i => g ^ i % n) := by
    refine pigeon _ (List.range' 1 (n - 1)) (nodup_map_inj _ _ List.nodup_range fun x hx y hy h => ?_) (fun x hx => ?_) (by simp) _ ?_
    · rw [List.mem_range] at hx hy
      rcases Nat.lt_trichotomy x y with h3 | h3 | h3
      · exact absurd h (inj x y h3 hy)
      · exact h3
      · exact absurd h.symm (inj y x h3 hx)
    · obtain ⟨i, _, rfl⟩ := List.mem_map.1 hx
      have := Nat.mod_lt (g ^ i) (show 0 < n by omega)
      have := nz i
      rw [List.mem_range'_1]
      omega
    · have h4 : a % n ≠ 0 := fun h => ha (Nat.dvd_of_mod_eq_zero h)
      have := Nat.mod_lt a (show 0 < n by omega)
      rw [List.mem_range'_1]
      omega
  obtain ⟨i, _, hi⟩ := List.mem_map.1 hm
  rw [← powM hi, ← Nat.pow_mul, Nat.mul_comm]
  exact pow1M hn h1 i
/-- powers modulo n, by halves -/
def pwm (n : Nat) : Nat → Nat → Nat → Nat → Nat
  | 0, _, _, acc => acc
  | f + 1, b, e, acc => match Nat.beq e 0 with
    | true => acc
    | false => match Nat.beq (e % 2) 1 with
      | true => pwm n f (b * b % n) (e / 2) (acc * b % n)
      | false => pwm n f (b * b % n) (e / 2) acc
theorem pwm_spec (n : Nat) : ∀ (f b e acc : Nat), e < 2 ^ f → pwm n f b e acc % n = acc * b ^ e % n := by
  intro f
  induction f with
  | zero =>
    intro b e acc h
    have : e = 0 := by rw [Nat.pow_zero] at h; omega
    subst this
    rw [pwm, Nat.pow_zero, Nat.mul_one]
  | succ f ih =>
    intro b e acc h
    rw [pwm]
    cases h0 : Nat.beq e 0 with
    | true =>
      have : e = 0 := Nat.eq_of_beq_eq_true h0
      subst this
      simp
    | false =>
      have hs : b ^ e = b ^ (e % 2) * (b * b) ^ (e / 2) := by
        rw [← Nat.pow_two, ← Nat.pow_mul, ← Nat.pow_add, Nat.mod_add_div]
      have he : e / 2 < 2 ^ f := by rw [Nat.pow_succ] at h; omega
      cases h1 : Nat.beq (e % 2) 1 with
      | true =>
        have : e % 2 = 1 := Nat.eq_of_beq_eq_true h1
        simp only []
        rw [ih _ _ _ he, hs, this, Nat.pow_one, ← Nat.mul_assoc]
        exact mulM (Nat.mod_mod _ _) (powM (Nat.mod_mod _ _) _)
      | false =>
        have : e % 2 = 0 := by
          have := Nat.ne_of_beq_eq_false h1
          omega
        simp only []
        rw [ih _ _ _ he, hs, this, Nat.pow_zero, Nat.one_mul]
        exact mulM rfl (powM (Nat.mod_mod _ _) _)
/-- one step of a certificate -/
def step (n g : Nat) (qs : List Nat) : Bool := Nat.blt 1 n && Nat.blt (n - 1) (2 ^ 256) && Nat.beq (qs.foldr (· * ·) 1) (n - 1) && Nat.beq (pwm n 256 g (n - 1) 1 % n) 1 && qs.all fun q => Nat.blt ((n - 1) / q) (2 ^ 256) && !(Nat.beq (pwm n 256 g ((n - 1) / q) 1 % n) 1)
theorem step_pr (n g : Nat) (qs : List Nat) (hq : ∀ q ∈ qs, Pr q) (h : step n g qs = true) : Pr n := by
  unfold step at h
  simp only [Bool.and_eq_true, List.all_eq_true, Nat.blt_eq, Nat.beq_eq, Bool.not_eq_true'] at h
  obtain ⟨⟨⟨⟨a, b⟩, c⟩, d⟩, e⟩ := h
  refine pratt n g qs a hq c ?_ fun q hm => ?_
  · rw [pwm_spec n 256 _ _ _ b, Nat.one_mul] at d
    exact d
  · obtain ⟨e1, e2⟩ := e q hm
    rw [pwm_spec n 256 _ _ _ e1, Nat.one_mul] at e2
    intro h
    rw [h] at e2
    exact absurd e2 (by decide)
end Go.Sx
