
/- Sx, part Fp: primes by a root of all (Lucas, Pratt), with Fermat's law; no library of mathematics. -/
namespace Go.Sx
/-- a prime, by Fermat's law -/
def Pr (n : Nat) : Prop := 1 < n ∧ ∀ a, ¬ n ∣ a → a ^ (n - 1) % n = 1
theorem mulM {n x x' y y' : Nat} (hx : x % n = x' % n) (hy : y % n = y' % n) : x * y % n = x' * y' % n := by rw [Nat.mul_mod, hx, hy, ← Nat.mul_mod]
theorem powM {n x x' : Nat} (hx : x % n = x' % n) (k : Nat) : x ^ k % n = x' ^ k % n := by rw [Nat.pow_mod, hx, ← Nat.pow_mod]
theorem pow1M {n g m : Nat} (h1 : 1 < n) (h : g ^ m % n = 1) (k : Nat) : g ^ (m * k) % n = 1 := by
  rw [Nat.pow_mul, powM (x' := 1) (by rw [h, Nat.mod_eq_of_lt h1]), Nat.one_pow, Nat.mod_eq_of_lt h1]
theorem gcdM {n g : Nat} (h1 : 1 < n) (a b : Nat) : g ^ a % n = 1 → g ^ b % n = 1 → g ^ (Nat.gcd a b) % n = 1 := by
  induction a, b using Nat.gcd.induction with
  | H0 b => intro _ h; rw [Nat.gcd_zero_left]; exact h
  | H1 a b hp ih =>
    intro h1a h1b
    rw [Nat.gcd_rec]
    refine ih ?_ h1a
    have e : g ^ b = g ^ (a * (b / a)) * g ^ (b % a) := by rw [← Nat.pow_add, Nat.div_add_mod]
    rw [e, mulM (x' := 1) (y' := g ^ (b % a)) (by rw [pow1M h1 h1a, Nat.mod_eq_of_lt h1]) rfl, Nat.one_mul] at h1b
    exact h1b
theorem euclid {n : Nat} (h : Pr n) {a b : Nat} (hd : n ∣ a * b) : n ∣ a ∨ n ∣ b := by
  refine Classical.byContradiction fun hn => ?_
  have ha : ¬ n ∣ a := fun x => hn (Or.inl x)
  have hb : ¬ n ∣ b := fun x => hn (Or.inr x)
  have h0 := h.1
  have fa := h.2 a ha
  apply hb
  have e : a ^ (n - 1) * b = a ^ (n - 2) * (a * b) := by
    rw [show n - 1 = (n - 2) + 1 by omega, Nat.pow_succ, Nat.mul_assoc]
  have e2 : a ^ (n - 1) * b % n = 0 := by
    rw [e]
    exact Nat.mod_eq_zero_of_dvd (Nat.dvd_trans hd (Nat.dvd_mul_left _ _))
  rw [mulM (x' := 1) (y' := b) (by rw [fa, Nat.mod_eq_of_lt h0]) rfl, Nat.one_mul] at e2
  exact Nat.dvd_of_mod_eq_zero e2
theorem factor : ∀ (qs : List Nat), (∀ q ∈ qs, Pr q) → ∀ e d : Nat, e * d = qs.foldr (· * ·) 1 → 1 < e → ∃ q ∈ qs, q ∣ e := by
  intro qs
  induction qs with
  | nil =>
    intro _ e d h h1
    have : e = 1 := Nat.eq_one_of_mul_eq_one_right h
    omega
  | cons q r ih =>
    intro hq e d h h1
    have hd : q ∣ e * d := by rw [h]; exact Nat.dvd_mul_right _ _
    rcases euclid (hq q (List.mem_cons_self ..)) hd with h2 | h2
    · exact ⟨q, List.mem_cons_self .., h2⟩
    · obtain ⟨d', rfl⟩ := h2
      have hq0 : 0 < q := Nat.lt_trans Nat.zero_lt_one (hq q (List.mem_cons_self ..)).1
      have : e * d' = r.foldr (· * ·) 1 := by
        apply Nat.eq_of_mul_eq_mul_left hq0
        rw [← Nat.mul_assoc, Nat.mul_comm q e, Nat.mul_assoc]
        exact h
      obtain ⟨p, h3, h4⟩ := ih (fun x hx => hq x (List.mem_cons_of_mem _ hx)) e d' this h1
      exact ⟨p, List.mem_cons_of_mem _ h3, h4⟩
theorem pigeon : ∀ (l l' : List Nat), l.Nodup → (∀ x ∈ l, x ∈ l') → l'.length ≤ l.length → ∀ x ∈ l', x ∈ l := by
  intro l
  induction l with
  | nil =>
    intro l' _ _ h x hx
    cases l' with
    | nil => exact hx
    | cons y r => simp at h
  | cons a t ih =>
    intro l' hn hs hl x hx
    by_cases hxa : x = a
    · rw [hxa]; exact List.mem_cons_self ..
    · have ha : a ∈ l' := hs a (List.mem_cons_self ..)
      have hn' := List.nodup_cons.1 hn
      have hle := List.length_erase_of_mem ha
      have hpos : 0 < l'.length := List.length_pos_of_mem ha
      refine List.mem_cons_of_mem _ (ih (l'.erase a) hn'.2 (fun y hy => ?_) (by simp only [List.length_cons] at hl; omega) x ((List.mem_erase_of_ne hxa).2 hx))
      have : y ≠ a := fun e => hn'.1 (e ▸ hy)
      exact (List.mem_erase_of_ne this).2 (hs y (List.mem_cons_of_mem _ hy))
theorem nodup_map_inj (f : Nat → Nat) : ∀ (l : List Nat), l.Nodup → (∀ x ∈ l, ∀ y ∈ l, f x = f y → x = y) → (l.map f).Nodup := by
  intro l
  induction l with
  | nil => intro _ _; exact List.nodup_nil
  | cons a t ih =>
    intro hn hf
    have hn' := List.nodup_cons.1 hn
    rw [List.map_cons, List.nodup_cons]
    refine ⟨fun h => ?_, ih hn'.2 fun x hx y hy => hf x (List.mem_cons_of_mem _ hx) y (List.mem_cons_of_mem _ hy)⟩
    obtain ⟨y, hy, e⟩ := List.mem_map.1 h
    have := hf y (List.mem_cons_of_mem _ hy) a (List.mem_cons_self ..) e
    exact hn'.1 (this ▸ hy)
theorem pratt (n g : Nat) (qs : List Nat) (hn : 1 < n) (hq : ∀ q ∈ qs, Pr q) (hp : qs.foldr (· * ·) 1 = n - 1) (h1 : g ^ (n - 1) % n = 1) (h2 : ∀ q ∈ qs, g ^ ((n - 1) / q) % n ≠ 1) : Pr n := by
  -- no power below n - 1 is 1
  have ord : ∀ m, 0 < m → m < n - 1 → g ^ m % n ≠ 1 := by
    intro m m0 m1 hm
    have hg := gcdM hn m (n - 1) hm h1
    obtain ⟨e, he⟩ : Nat.gcd m (n - 1) ∣ n - 1 := Nat.gcd_dvd_right ..
    have hle : Nat.gcd m (n - 1) ≤ m := Nat.gcd_le_left _ m0
    have e1 : 1 < e := by
      rcases Nat.lt_or_ge 1 e with h | h
      · exact h
      · have : Nat.gcd m (n - 1) * e ≤ m * 1 := Nat.mul_le_mul hle h
        omega
    obtain ⟨q, hq1, q', hq2⟩ := factor qs hq e (Nat.gcd m (n - 1)) (by rw [hp, Nat.mul_comm]; exact he.symm) e1
    have hq0 : 0 < q := Nat.lt_trans Nat.zero_lt_one (hq q hq1).1
    apply h2 q hq1
    have : (n - 1) / q = Nat.gcd m (n - 1) * q' := by
      have : n - 1 = q * (Nat.gcd m (n - 1) * q') := by
        rw [Nat.mul_left_comm, ← hq2]; exact he
      rw [congrArg (· / q) this]
      exact Nat.mul_div_cancel_left _ hq0
    rw [this]
    exact pow1M hn hg q'
  have inj : ∀ i j, i < j → j < n - 1 → g ^ i % n ≠ g ^ j % n := by
    intro i j hij hj he
    obtain ⟨t, ht⟩ : ∃ t, i + t = (n - 1) * i := ⟨(n - 1) * i - i, by
      have : 1 * i ≤ (n - 1) * i := Nat.mul_le_mul_right _ (by omega)
      omega⟩
    have u : g ^ i * g ^ t % n = 1 := by rw [← Nat.pow_add, ht]; exact pow1M hn h1 i
    have v : g ^ j * g ^ t % n = 1 := by rw [← mulM he rfl]; exact u
    have w : g ^ j * g ^ t = g ^ (j - i) * (g ^ i * g ^ t) := by
      have : g ^ j = g ^ (j - i) * g ^ i := by rw [← Nat.pow_add, show j - i + i = j by omega]
      rw [this, Nat.mul_assoc]
    rw [w, mulM (x' := g ^ (j - i)) (y' := 1) rfl (by rw [u, Nat.mod_eq_of_lt hn]), Nat.mul_one] at v
    exact ord (j - i) (by omega) (by omega) v
  have nz : ∀ i, 0 < g ^ i % n := by
    intro i
    refine Nat.pos_of_ne_zero fun h => ?_
    have hd : n ∣ g ^ i := Nat.dvd_of_mod_eq_zero h
    have h3 := pow1M hn h1 i
    have : g ^ i ∣ g ^ ((n - 1) * i) := Nat.pow_dvd_pow _ (by
      have : 1 * i ≤ (n - 1) * i := Nat.mul_le_mul_right _ (by omega)
      omega)
    rw [Nat.mod_eq_zero_of_dvd (Nat.dvd_trans hd this)] at h3
    exact absurd h3 (by decide)
  refine ⟨hn, fun a ha => ?_⟩
  have hm : a % n ∈ (List.range (n - 1)).map (fun i => g ^ i % n) := by
    refine pigeon _ (List.range' 1 (n - 1)) (nodup_map_inj _ _ List.nodup_range fun x hx y hy h => ?_) (fun x hx => ?_) (by simp) _ ?_
    · rw [List.mem_range] at hx hy
      rcases Nat.lt_trichotomy x y with h3 | h3 | h3
      · exact absurd h (inj x y h3 hy)
      · exact h3
      · exact absurd h.symm (inj y x h3 hx)
    · obtain ⟨i, _, rfl⟩ := List.mem_map.1 hx
      have := Nat.mod_lt (g ^ i) (show 0 < n by omega)
      have := nz i
      rw [List.mem_range'_1]
      omega
    · have h4 : a % n ≠ 0 := fun h => ha (Nat.dvd_of_mod_eq_zero h)
      have := Nat.mod_lt a (show 0 < n by omega)
      rw [List.mem_range'_1]
      omega
  obtain ⟨i, _, hi⟩ := List.mem_map.1 hm
  rw [← powM hi, ← Nat.pow_mul, Nat.mul_comm]
  exact pow1M hn h1 i
/-- powers modulo n, by halves -/
def pwm (n : Nat) : Nat → Nat → Nat → Nat → Nat
  | 0, _, _, acc => acc
  | f + 1, b, e, acc => match Nat.beq e 0 with
    | true => acc
    | false => match Nat.beq (e % 2) 1 with
      | true => pwm n f (b * b % n) (e / 2) (acc * b % n)
      | false => pwm n f (b * b % n) (e / 2) acc
theorem pwm_spec (n : Nat) : ∀ (f b e acc : Nat), e < 2 ^ f → pwm n f b e acc % n = acc * b ^ e % n := by
  intro f
  induction f with
  | zero =>
    intro b e acc h
    have : e = 0 := by rw [Nat.pow_zero] at h; omega
    subst this
    rw [pwm, Nat.pow_zero, Nat.mul_one]
  | succ f ih =>
    intro b e acc h
    rw [pwm]
    cases h0 : Nat.beq e 0 with
    | true =>
      have : e = 0 := Nat.eq_of_beq_eq_true h0
      subst this
      simp
    | false =>
      have hs : b ^ e = b ^ (e % 2) * (b * b) ^ (e / 2) := by
        rw [← Nat.pow_two, ← Nat.pow_mul, ← Nat.pow_add, Nat.mod_add_div]
      have he : e / 2 < 2 ^ f := by rw [Nat.pow_succ] at h; omega
      cases h1 : Nat.beq (e % 2) 1 with
      | true =>
        have : e % 2 = 1 := Nat.eq_of_beq_eq_true h1
        simp only []
        rw [ih _ _ _ he, hs, this, Nat.pow_one, ← Nat.mul_assoc]
        exact mulM (Nat.mod_mod _ _) (powM (Nat.mod_mod _ _) _)
      | false =>
        have : e % 2 = 0 := by
          have := Nat.ne_of_beq_eq_false h1
          omega
        simp only []
        rw [ih _ _ _ he, hs, this, Nat.pow_zero, Nat.one_mul]
        exact mulM rfl (powM (Nat.mod_mod _ _) _)
/-- one step of a certificate -/
def step (n g : Nat) (qs : List Nat) : Bool := Nat.blt 1 n && Nat.blt (n - 1) (2 ^ 256) && Nat.beq (qs.foldr (· * ·) 1) (n - 1) && Nat.beq (pwm n 256 g (n - 1) 1 % n) 1 && qs.all fun q => Nat.blt ((n - 1) / q) (2 ^ 256) && !(Nat.beq (pwm n 256 g ((n - 1) / q) 1 % n) 1)
theorem step_pr (n g : Nat) (qs : List Nat) (hq : ∀ q ∈ qs, Pr q) (h : step n g qs = true) : Pr n := by
  unfold step at h
  simp only [Bool.and_eq_true, List.all_eq_true, Nat.blt_eq, Nat.beq_eq, Bool.not_eq_true'] at h
  obtain ⟨⟨⟨⟨a, b⟩, c⟩, d⟩, e⟩ := h
  refine pratt n g qs a hq c ?_ fun q hm => ?_
  · rw [pwm_spec n 256 _ _ _ b, Nat.one_mul] at d
    exact d
  · obtain ⟨e1, e2⟩ := e q hm
    rw [pwm_spec n 256 _ _ _ e1, Nat.one_mul] at e2
    intro h
    rw [h] at e2
    exact absurd e2 (by decide)
end Go.Sx
namespace Go.Sx
theorem pr_2 : Pr 2 := step_pr 2 1 [] (by intro q hq; cases hq) (by decide +kernel)
theorem pr_3 : Pr 3 := step_pr 3 2 [2] (by intro q hq; simp only [List.mem_cons, List.not_mem_nil, or_false] at hq; subst hq; exact pr_2) (by decide +kernel)
theorem pr_17 : Pr 17 := step_pr 17 3 [2, 2, 2, 2] (by intro q hq; simp only [List.mem_cons, List.not_mem_nil, or_false] at hq; rcases hq with rfl | rfl | rfl | rfl <;> first | exact pr_2) (by decide +kernel)
theorem pr_7 : Pr 7 := step_pr 7 3 [2, 3] (by intro q hq; simp only [List.mem_cons, List.not_mem_nil, or_false] at hq; rcases hq with rfl | rfl <;> first | exact pr_2 | exact pr_3) (by decide +kernel)
theorem pr_239 : Pr 239 := step_pr 239 7 [2, 7, 17] (by intro q hq; simp only [List.mem_cons, List.not_mem_nil, or_false] at hq; rcases hq with rfl | rfl | rfl <;> first | exact pr_2 | exact pr_7 | exact pr_17) (by decide +kernel)
theorem pr_479 : Pr 479 := step_pr 479 13 [2, 239] (by intro q hq; simp only [List.mem_cons, List.not_mem_nil, or_false] at hq; rcases hq with rfl | rfl <;> first | exact pr_2 | exact pr_239) (by decide +kernel)
theorem pr_32573 : Pr 32573 := step_pr 32573 2 [2, 2, 17, 479] (by intro q hq; simp only [List.mem_cons, List.not_mem_nil, or_false] at hq; rcases hq with rfl | rfl | rfl | rfl <;> first | exact pr_2 | exact pr_17 | exact pr_479) (by decide +kernel)
theorem pr_65147 : Pr 65147 := step_pr 65147 2 [2, 32573] (by intro q hq; simp only [List.mem_cons, List.not_mem_nil, or_false] at hq; rcases hq with rfl | rfl <;> first | exact pr_2 | exact pr_32573) (by decide +kernel)
theorem pr_5 : Pr 5 := step_pr 5 2 [2, 2] (by intro q hq; simp only [List.mem_cons, List.not_mem_nil, or_false] at hq; rcases hq with rfl | rfl <;> first | exact pr_2) (by decide +kernel)
theorem pr_11 : Pr 11 := step_pr 11 2 [2, 5] (by intro q hq; simp only [List.mem_cons, List.not_mem_nil, or_false] at hq; rcases hq with rfl | rfl <;> first | exact pr_2 | exact pr_5) (by decide +kernel)
theorem pr_353 : Pr 353 := step_pr 353 3 [2, 2, 2, 2, 2, 11] (by intro q hq; simp only [List.mem_cons, List.not_mem_nil, or_false] at hq; rcases hq with rfl | rfl | rfl | rfl | rfl | rfl <;> first | exact pr_2 | exact pr_11) (by decide +kernel)
theorem pr_29 : Pr 29 := step_pr 29 2 [2, 2, 7] (by intro q hq; simp only [List.mem_cons, List.not_mem_nil, or_false] at hq; rcases hq with rfl | rfl | rfl <;> first | exact pr_2 | exact pr_7) (by decide +kernel)
theorem pr_59 : Pr 59 := step_pr 59 2 [2, 29] (by intro q hq; simp only [List.mem_cons, List.not_mem_nil, or_false] at hq; rcases hq with rfl | rfl <;> first | exact pr_2 | exact pr_29) (by decide +kernel)
theorem pr_487 : Pr 487 := step_pr 487 3 [2, 3, 3, 3, 3, 3] (by intro q hq; simp only [List.mem_cons, List.not_mem_nil, or_false] at hq; rcases hq with rfl | rfl | rfl | rfl | rfl | rfl <;> first | exact pr_2 | exact pr_3) (by decide +kernel)
theorem pr_57467 : Pr 57467 := step_pr 57467 2 [2, 59, 487] (by intro q hq; simp only [List.mem_cons, List.not_mem_nil, or_false] at hq; rcases hq with rfl | rfl | rfl <;> first | exact pr_2 | exact pr_59 | exact pr_487) (by decide +kernel)
theorem pr_13 : Pr 13 := step_pr 13 2 [2, 2, 3] (by intro q hq; simp only [List.mem_cons, List.not_mem_nil, or_false] at hq; rcases hq with rfl | rfl | rfl <;> first | exact pr_2 | exact pr_3) (by decide +kernel)
theorem pr_131 : Pr 131 := step_pr 131 2 [2, 5, 13] (by intro q hq; simp only [List.mem_cons, List.not_mem_nil, or_false] at hq; rcases hq with rfl | rfl | rfl <;> first | exact pr_2 | exact pr_5 | exact pr_13) (by decide +kernel)
theorem pr_132049 : Pr 132049 := step_pr 132049 26 [2, 2, 2, 2, 3, 3, 7, 131] (by intro q hq; simp only [List.mem_cons, List.not_mem_nil, or_false] at hq; rcases hq with rfl | rfl | rfl | rfl | rfl | rfl | rfl | rfl <;> first | exact pr_2 | exact pr_3 | exact pr_7 | exact pr_131) (by decide +kernel)
theorem pr_43 : Pr 43 := step_pr 43 3 [2, 3, 7] (by intro q hq; simp only [List.mem_cons, List.not_mem_nil, or_false] at hq; rcases hq with rfl | rfl | rfl <;> first | exact pr_2 | exact pr_3 | exact pr_7) (by decide +kernel)
theorem pr_23 : Pr 23 := step_pr 23 5 [2, 11] (by intro q hq; simp only [List.mem_cons, List.not_mem_nil, or_false] at hq; rcases hq with rfl | rfl <;> first | exact pr_2 | exact pr_11) (by decide +kernel)
theorem pr_3727 : Pr 3727 := step_pr 3727 3 [2, 3, 3, 3, 3, 23] (by intro q hq; simp only [List.mem_cons, List.not_mem_nil, or_false] at hq; rcases hq with rfl | rfl | rfl | rfl | rfl | rfl <;> first | exact pr_2 | exact pr_3 | exact pr_23) (by decide +kernel)
theorem pr_1923133 : Pr 1923133 := step_pr 1923133 2 [2, 2, 3, 43, 3727] (by intro q hq; simp only [List.mem_cons, List.not_mem_nil, or_false] at hq; rcases hq with rfl | rfl | rfl | rfl | rfl <;> first | exact pr_2 | exact pr_3 | exact pr_43 | exact pr_3727) (by decide +kernel)
theorem pr_31 : Pr 31 := step_pr 31 3 [2, 3, 5] (by intro q hq; simp only [List.mem_cons, List.not_mem_nil, or_false] at hq; rcases hq with rfl | rfl | rfl <;> first | exact pr_2 | exact pr_3 | exact pr_5) (by decide +kernel)
theorem pr_53 : Pr 53 := step_pr 53 2 [2, 2, 13] (by intro q hq; simp only [List.mem_cons, List.not_mem_nil, or_false] at hq; rcases hq with rfl | rfl | rfl <;> first | exact pr_2 | exact pr_13) (by decide +kernel)
theorem pr_107 : Pr 107 := step_pr 107 2 [2, 53] (by intro q hq; simp only [List.mem_cons, List.not_mem_nil, or_false] at hq; rcases hq with rfl | rfl <;> first | exact pr_2 | exact pr_53) (by decide +kernel)
theorem pr_37 : Pr 37 := step_pr 37 2 [2, 2, 3, 3] (by intro q hq; simp only [List.mem_cons, List.not_mem_nil, or_false] at hq; rcases hq with rfl | rfl | rfl | rfl <;> first | exact pr_2 | exact pr_3) (by decide +kernel)
theorem pr_223 : Pr 223 := step_pr 223 3 [2, 3, 37] (by intro q hq; simp only [List.mem_cons, List.not_mem_nil, or_false] at hq; rcases hq with rfl | rfl | rfl <;> first | exact pr_2 | exact pr_3 | exact pr_37) (by decide +kernel)
theorem pr_173 : Pr 173 := step_pr 173 2 [2, 2, 43] (by intro q hq; simp only [List.mem_cons, List.not_mem_nil, or_false] at hq; rcases hq with rfl | rfl | rfl <;> first | exact pr_2 | exact pr_43) (by decide +kernel)
theorem pr_4153 : Pr 4153 := step_pr 4153 5 [2, 2, 2, 3, 173] (by intro q hq; simp only [List.mem_cons, List.not_mem_nil, or_false] at hq; rcases hq with rfl | rfl | rfl | rfl | rfl <;> first | exact pr_2 | exact pr_3 | exact pr_173) (by decide +kernel)
theorem pr_41 : Pr 41 := step_pr 41 6 [2, 2, 2, 5] (by intro q hq; simp only [List.mem_cons, List.not_mem_nil, or_false] at hq; rcases hq with rfl | rfl | rfl | rfl <;> first | exact pr_2 | exact pr_5) (by decide +kernel)
theorem pr_1723 : Pr 1723 := step_pr 1723 3 [2, 3, 7, 41] (by intro q hq; simp only [List.mem_cons, List.not_mem_nil, or_false] at hq; rcases hq with rfl | rfl | rfl | rfl <;> first | exact pr_2 | exact pr_3 | exact pr_7 | exact pr_41) (by decide +kernel)
theorem pr_430751 : Pr 430751 := step_pr 430751 17 [2, 5, 5, 5, 1723] (by intro q hq; simp only [List.mem_cons, List.not_mem_nil, or_false] at hq; rcases hq with rfl | rfl | rfl | rfl | rfl <;> first | exact pr_2 | exact pr_5 | exact pr_1723) (by decide +kernel)
theorem pr_31757755568855353 : Pr 31757755568855353 := step_pr 31757755568855353 10 [2, 2, 2, 3, 31, 107, 223, 4153, 430751] (by intro q hq; simp only [List.mem_cons, List.not_mem_nil, or_false] at hq; rcases hq with rfl | rfl | rfl | rfl | rfl | rfl | rfl | rfl | rfl <;> first | exact pr_2 | exact pr_3 | exact pr_31 | exact pr_107 | exact pr_223 | exact pr_4153 | exact pr_430751) (by decide +kernel)
theorem pr_19 : Pr 19 := step_pr 19 2 [2, 3, 3] (by intro q hq; simp only [List.mem_cons, List.not_mem_nil, or_false] at hq; rcases hq with rfl | rfl | rfl <;> first | exact pr_2 | exact pr_3) (by decide +kernel)
theorem pr_83 : Pr 83 := step_pr 83 2 [2, 41] (by intro q hq; simp only [List.mem_cons, List.not_mem_nil, or_false] at hq; rcases hq with rfl | rfl <;> first | exact pr_2 | exact pr_41) (by decide +kernel)
theorem pr_9463 : Pr 9463 := step_pr 9463 3 [2, 3, 19, 83] (by intro q hq; simp only [List.mem_cons, List.not_mem_nil, or_false] at hq; rcases hq with rfl | rfl | rfl | rfl <;> first | exact pr_2 | exact pr_3 | exact pr_19 | exact pr_83) (by decide +kernel)
theorem pr_37853 : Pr 37853 := step_pr 37853 2 [2, 2, 9463] (by intro q hq; simp only [List.mem_cons, List.not_mem_nil, or_false] at hq; rcases hq with rfl | rfl | rfl <;> first | exact pr_2 | exact pr_9463) (by decide +kernel)
theorem pr_75707 : Pr 75707 := step_pr 75707 2 [2, 37853] (by intro q hq; simp only [List.mem_cons, List.not_mem_nil, or_false] at hq; rcases hq with rfl | rfl <;> first | exact pr_2 | exact pr_37853) (by decide +kernel)
theorem pr_2437 : Pr 2437 := step_pr 2437 2 [2, 2, 3, 7, 29] (by intro q hq; simp only [List.mem_cons, List.not_mem_nil, or_false] at hq; rcases hq with rfl | rfl | rfl | rfl | rfl <;> first | exact pr_2 | exact pr_3 | exact pr_7 | exact pr_29) (by decide +kernel)
theorem pr_97 : Pr 97 := step_pr 97 5 [2, 2, 2, 2, 2, 3] (by intro q hq; simp only [List.mem_cons, List.not_mem_nil, or_false] at hq; rcases hq with rfl | rfl | rfl | rfl | rfl | rfl <;> first | exact pr_2 | exact pr_3) (by decide +kernel)
theorem pr_419 : Pr 419 := step_pr 419 2 [2, 11, 19] (by intro q hq; simp only [List.mem_cons, List.not_mem_nil, or_false] at hq; rcases hq with rfl | rfl | rfl <;> first | exact pr_2 | exact pr_11 | exact pr_19) (by decide +kernel)
theorem pr_569003 : Pr 569003 := step_pr 569003 2 [2, 7, 97, 419] (by intro q hq; simp only [List.mem_cons, List.not_mem_nil, or_false] at hq; rcases hq with rfl | rfl | rfl | rfl <;> first | exact pr_2 | exact pr_7 | exact pr_97 | exact pr_419) (by decide +kernel)
theorem pr_2773320623 : Pr 2773320623 := step_pr 2773320623 5 [2, 2437, 569003] (by intro q hq; simp only [List.mem_cons, List.not_mem_nil, or_false] at hq; rcases hq with rfl | rfl | rfl <;> first | exact pr_2 | exact pr_2437 | exact pr_569003) (by decide +kernel)
theorem pr_72106336199 : Pr 72106336199 := step_pr 72106336199 7 [2, 13, 2773320623] (by intro q hq; simp only [List.mem_cons, List.not_mem_nil, or_false] at hq; rcases hq with rfl | rfl | rfl <;> first | exact pr_2 | exact pr_13 | exact pr_2773320623) (by decide +kernel)
theorem pr_47 : Pr 47 := step_pr 47 5 [2, 23] (by intro q hq; simp only [List.mem_cons, List.not_mem_nil, or_false] at hq; rcases hq with rfl | rfl <;> first | exact pr_2 | exact pr_23) (by decide +kernel)
theorem pr_127 : Pr 127 := step_pr 127 3 [2, 3, 3, 7] (by intro q hq; simp only [List.mem_cons, List.not_mem_nil, or_false] at hq; rcases hq with rfl | rfl | rfl | rfl <;> first | exact pr_2 | exact pr_3 | exact pr_7) (by decide +kernel)
theorem pr_103 : Pr 103 := step_pr 103 5 [2, 3, 17] (by intro q hq; simp only [List.mem_cons, List.not_mem_nil, or_false] at hq; rcases hq with rfl | rfl | rfl <;> first | exact pr_2 | exact pr_3 | exact pr_17) (by decide +kernel)
theorem pr_991 : Pr 991 := step_pr 991 6 [2, 3, 3, 5, 11] (by intro q hq; simp only [List.mem_cons, List.not_mem_nil, or_false] at hq; rcases hq with rfl | rfl | rfl | rfl | rfl <;> first | exact pr_2 | exact pr_3 | exact pr_5 | exact pr_11) (by decide +kernel)
theorem pr_8574133 : Pr 8574133 := step_pr 8574133 2 [2, 2, 3, 7, 103, 991] (by intro q hq; simp only [List.mem_cons, List.not_mem_nil, or_false] at hq; rcases hq with rfl | rfl | rfl | rfl | rfl | rfl <;> first | exact pr_2 | exact pr_3 | exact pr_7 | exact pr_103 | exact pr_991) (by decide +kernel)
theorem pr_1919519569386763 : Pr 1919519569386763 := step_pr 1919519569386763 2 [2, 3, 7, 19, 47, 47, 127, 8574133] (by intro q hq; simp only [List.mem_cons, List.not_mem_nil, or_false] at hq; rcases hq with rfl | rfl | rfl | rfl | rfl | rfl | rfl | rfl <;> first | exact pr_2 | exact pr_3 | exact pr_7 | exact pr_19 | exact pr_47 | exact pr_127 | exact pr_8574133) (by decide +kernel)
theorem pr_75445702479781427272750846543864801 : Pr 75445702479781427272750846543864801 := step_pr 75445702479781427272750846543864801 7 [2, 2, 2, 2, 2, 3, 3, 5, 5, 75707, 72106336199, 1919519569386763] (by intro q hq; simp only [List.mem_cons, List.not_mem_nil, or_false] at hq; rcases hq with rfl | rfl | rfl | rfl | rfl | rfl | rfl | rfl | rfl | rfl | rfl | rfl <;> first | exact pr_2 | exact pr_3 | exact pr_5 | exact pr_75707 | exact pr_72106336199 | exact pr_1919519569386763) (by decide +kernel)
theorem pr_74058212732561358302231226437062788676166966415465897661863160754340907 : Pr 74058212732561358302231226437062788676166966415465897661863160754340907 := step_pr 74058212732561358302231226437062788676166966415465897661863160754340907 2 [2, 3, 353, 57467, 132049, 1923133, 31757755568855353, 75445702479781427272750846543864801] (by intro q hq; simp only [List.mem_cons, List.not_mem_nil, or_false] at hq; rcases hq with rfl | rfl | rfl | rfl | rfl | rfl | rfl | rfl <;> first | exact pr_2 | exact pr_3 | exact pr_353 | exact pr_57467 | exact pr_132049 | exact pr_1923133 | exact pr_31757755568855353 | exact pr_75445702479781427272750846543864801) (by decide +kernel)
theorem pr_57896044618658097711785492504343953926634992332820282019728792003956564819949 : Pr 57896044618658097711785492504343953926634992332820282019728792003956564819949 := step_pr 57896044618658097711785492504343953926634992332820282019728792003956564819949 2 [2, 2, 3, 65147, 74058212732561358302231226437062788676166966415465897661863160754340907] (by intro q hq; simp only [List.mem_cons, List.not_mem_nil, or_false] at hq; rcases hq with rfl | rfl | rfl | rfl | rfl <;> first | exact pr_2 | exact pr_3 | exact pr_65147 | exact pr_74058212732561358302231226437062788676166966415465897661863160754340907) (by decide +kernel)
end Go.Sx
