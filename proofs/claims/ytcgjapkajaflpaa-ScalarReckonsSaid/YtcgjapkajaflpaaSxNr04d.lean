import Derived.Test.YtcgjapkajaflpaaSxNr04c
namespace Go.Sx
theorem getD_setN (l : List Nat) (j y i : Nat) (h : j < l.length) : (l.set j y).getD i 0 = (match decide (i = j) with | true => y | false => l.getD i 0) := by
  by_cases e : i = j
  · subst e
    rw [decide_eq_true rfl, List.getD_eq_getElem?_getD, List.getElem?_set_self h]
    rfl
  · rw [decide_eq_false e, List.getD_eq_getElem?_getD, List.getElem?_set_ne (by omega), ← List.getD_eq_getElem?_getD]
theorem leval_set : ∀ (l : List Nat) (j y : Nat), j < l.length → leval (l.set j y) + 256 ^ j * l.getD j 0 = leval l + 256 ^ j * y := by
  intro l
  induction l with
  | nil => intro j y h; simp at h
  | cons x r ih =>
    intro j y h
    cases j with
    | zero => simp [leval]; omega
    | succ j =>
      have := ih j y (by simpa using h)
      simp only [List.set_cons_succ, leval, List.getD_cons_succ, Nat.pow_succ]
      grind
theorem leval_drop (l : List Nat) (k : Nat) (h : k < l.length) : leval (l.drop k) = l.getD k 0 + 256 * leval (l.drop (k + 1)) := by
  rw [List.drop_eq_getElem_cons h, leval, List.getD_eq_getElem?_getD, List.getElem?_eq_getElem h]
  rfl
theorem getD_take (l : List Nat) (k n : Nat) (h : k < n) : (l.take n).getD k 0 = l.getD k 0 := by
  rw [List.getD_eq_getElem?_getD, List.getElem?_take_of_lt h, ← List.getD_eq_getElem?_getD]
def Bd (l : List Nat) (t : Nat) : Prop := ∀ j, l.getD j 0 ≤ t
theorem bd_set {l : List Nat} {j y t u : Nat} (h : Bd l t) (htu : t ≤ u) (hy : y ≤ u) (hj : j < l.length) : Bd (l.set j y) u := by
  intro i
  rw [getD_setN _ _ _ _ hj]
  split
  · exact hy
  · exact Nat.le_trans (h i) htu
theorem inner (n : Nat) (kk : AV → Heap → Option AV) (lg : List Nat → List Nat → List Nat → Int → Int → List Nat → Option AV) (a b c : List Nat) (x4 : Int) (i B : Nat) (ha : ∀ x ∈ a, x < 256) (hb : ∀ x ∈ b, x < 256) (hi : i < a.length) (hi2 : i < 32) (hB : B ≤ b.length) (hB2 : B ≤ 32) :
    ∀ (r k m t : Nat) (x8 : List Nat), k + r = B → x8.length = 65 → Bd x8 t → t + 65025 * r < 4294967296 →
      ∃ y, y.length = 65 ∧ Bd y (t + 65025 * r) ∧ leval y = leval x8 + 256 ^ i * (a.getD i 0 * (256 ^ k * leval ((b.take B).drop k))) ∧
        g14L6 realA n kk lg (m + r + 1) a b c i x4 i (B : Int) k x8 = lg a b c x4 ((i + 1 : Nat) : Int) y := by
  intro r
  induction r with
  | zero =>
    intro k m t x8 hk hl hbd ht
    refine ⟨x8, hl, hbd, ?_, ?_⟩
    · rw [List.drop_of_length_le (by rw [List.length_take]; omega)]
      simp [leval]
    · rw [g14L6, lssF (by omega)]
      simp only []
      rw [show realA.ib .add .i64 (i : Int) 1 = ((i + 1 : Nat) : Int) from addN 1 (by omega)]
  | succ r ih =>
    intro k m t x8 hk hl hbd ht
    have h1 := getD_lt ha i
    have h2 := getD_lt hb k
    have hp : a.getD i 0 * b.getD k 0 ≤ 255 * 255 := Nat.mul_le_mul (by omega) (by omega)
    have h3 := hbd (i + k)
    have e1 : realA.ib .add .i64 (i : Int) (k : Int) = ((i + k : Nat) : Int) := addN k (by omega)
    have e2 : realA.ib .add .i64 (k : Int) 1 = ((k + 1 : Nat) : Int) := addN 1 (by omega)
    have e3 : ∀ x y, realA.nb .add .u32 x y = (x + y) % 4294967296 := fun x y => rfl
    have e4 : ∀ x y, realA.nb .mul .u32 x y = (x * y) % 4294967296 := fun x y => rfl
    have e5 : (x8.getD (i + k) 0 + a.getD i 0 * b.getD k 0 % 4294967296) % 4294967296 = x8.getD (i + k) 0 + a.getD i 0 * b.getD k 0 := by omega
    obtain ⟨y, hy1, hy2, hy3, hy4⟩ := ih (k + 1) m (t + 65025) (x8.set (i + k) (x8.getD (i + k) 0 + a.getD i 0 * b.getD k 0)) (by omega) (by simp [hl]) (bd_set hbd (by omega) (by omega) (by omega)) (by omega)
    refine ⟨y, hy1, ?_, ?_, ?_⟩
    · rw [show t + 65025 * (r + 1) = t + 65025 + 65025 * r from by omega]
      exact hy2
    · have := leval_set x8 (i + k) (x8.getD (i + k) 0 + a.getD i 0 * b.getD k 0) (by omega)
      rw [hy3, leval_drop (b.take B) k (by rw [List.length_take]; omega), getD_take _ _ _ (by omega)]
      simp only [Nat.pow_add, Nat.pow_succ] at this ⊢
      grind
    · rw [show m + (r + 1) + 1 = (m + r + 1) + 1 from by omega, g14L6, lssT (by omega)]
      simp only [g14J7, e1, e2, negN, toNN, ltT (show i + k < 65 by omega), ltT hi, ltT (show k < b.length by omega), e3, e4, e5]
      exact hy4
theorem outer (n0 : Nat) (kk : AV → Heap → Option AV) (a b c : List Nat) (N B : Nat) (ha : ∀ x ∈ a, x < 256) (hb : ∀ x ∈ b, x < 256) (hN : N ≤ a.length) (hN2 : N ≤ 32) (hB : B = min b.length 32) :
    ∀ (r i m t : Nat) (x5 : List Nat), i + r = N → x5.length = 65 → Bd x5 t → t + 2080800 * r < 4294967296 →
      ∃ y, y.length = 65 ∧ Bd y (t + 2080800 * r) ∧ leval y = leval x5 + 256 ^ i * (leval ((a.take N).drop i) * leval (b.take B)) ∧
        g14L3 realA (n0 + 33) kk (m + r + 1) a b c (N : Int) i x5 = g14J11 realA (n0 + 33) kk c y := by
  intro r
  induction r with
  | zero =>
    intro i m t x5 hi hl hbd ht
    refine ⟨x5, hl, hbd, ?_, ?_⟩
    · rw [List.drop_of_length_le (by rw [List.length_take]; omega)]
      simp [leval]
    · rw [g14L3, lssF (by omega)]
  | succ r ih =>
    intro i m t x5 hi hl hbd ht
    have hmn : realA.mn (realA.ofN b.length) 32 = (B : Int) := by
      show (if (32 : Int) < (b.length : Int) then (32 : Int) else (b.length : Int)) = _
      split <;> omega
    obtain ⟨z, hz1, hz2, hz3, hz4⟩ := inner (n0 + 33) kk (g14L3 realA (n0 + 33) kk (m + r + 1)) a b c (N : Int) i B ha hb (by omega) (by omega) (by omega) (by omega) B 0 (n0 + 32 - B) t x5 (by omega) hl hbd (by omega)
    obtain ⟨y, hy1, hy2, hy3, hy4⟩ := ih (i + 1) m (t + 2080800) z (by omega) hz1 (fun j => Nat.le_trans (hz2 j) (by omega)) (by omega)
    refine ⟨y, hy1, ?_, ?_, ?_⟩
    · rw [show t + 2080800 * (r + 1) = t + 2080800 + 2080800 * r from by omega]
      exact hy2
    · rw [hy3, hz3, leval_drop (a.take N) i (by rw [List.length_take]; omega), getD_take _ _ _ (by omega)]
      simp only [Nat.pow_succ, List.drop_zero, Nat.pow_zero]
      grind
    · rw [show m + (r + 1) + 1 = (m + r + 1) + 1 from by omega, g14L3, lssT (by omega)]
      simp only [g14J4]
      rw [hmn]
      rw [show n0 + 32 - B + B + 1 = n0 + 33 from by omega] at hz4
      exact hz4.trans hy4
theorem third (n : Nat) (kk : AV → Heap → Option AV) (c : List Nat) (C : Nat) (hc : ∀ x ∈ c, x < 256) (hC : C ≤ c.length) (hC2 : C ≤ 32) :
    ∀ (r i m t : Nat) (x3 : List Nat), i + r = C → x3.length = 65 → Bd x3 t → t + 255 * r < 4294967296 →
      ∃ y, y.length = 65 ∧ Bd y (t + 255 * r) ∧ leval y = leval x3 + 256 ^ i * leval ((c.take C).drop i) ∧
        g14L12 realA n kk (m + r + 1) c (C : Int) i x3 = g14J16 realA n kk y := by
  intro r
  induction r with
  | zero =>
    intro i m t x3 hi hl hbd ht
    refine ⟨x3, hl, hbd, ?_, ?_⟩
    · rw [List.drop_of_length_le (by rw [List.length_take]; omega)]
      simp [leval]
    · rw [g14L12, lssF (by omega)]
  | succ r ih =>
    intro i m t x3 hi hl hbd ht
    have h1 := getD_lt hc i
    have h3 := hbd i
    have e2 : realA.ib .add .i64 (i : Int) 1 = ((i + 1 : Nat) : Int) := addN 1 (by omega)
    have e3 : realA.nb .add .u32 (x3.getD i 0) (c.getD i 0) = x3.getD i 0 + c.getD i 0 := by
      show (x3.getD i 0 + c.getD i 0) % 4294967296 = _
      omega
    obtain ⟨y, hy1, hy2, hy3, hy4⟩ := ih (i + 1) m (t + 255) (x3.set i (x3.getD i 0 + c.getD i 0)) (by omega) (by simp [hl]) (bd_set hbd (by omega) (by omega) (by omega)) (by omega)
    refine ⟨y, hy1, ?_, ?_, ?_⟩
    · rw [show t + 255 * (r + 1) = t + 255 + 255 * r from by omega]
      exact hy2
    · have := leval_set x3 i (x3.getD i 0 + c.getD i 0) (by omega)
      rw [hy3, leval_drop (c.take C) i (by rw [List.length_take]; omega), getD_take _ _ _ (by omega)]
      simp only [Nat.pow_succ] at this ⊢
      grind
    · rw [show m + (r + 1) + 1 = (m + r + 1) + 1 from by omega, g14L12, lssT (by omega)]
      simp only [g14J13, e2, negN, toNN, ltT (show i < 65 by omega), ltT (show i < c.length by omega), e3]
      exact hy4
theorem drop_set_next (l : List Nat) (i y : Nat) (h : i < l.length) : (l.set i y).drop i = y :: l.drop (i + 1) := by
  rw [List.drop_eq_getElem_cons (by simpa using h), List.getElem_set_self, List.drop_set_of_lt (by omega)]
theorem carryLoop (n : Nat) : ∀ (r i m t : Nat) (x3 x5 : List Nat), i + r = 64 → x3.length = 65 → x5.length = 64 → (∀ x ∈ x5, x < 256) → Bd x3 (2 * t) → (∀ j, i < j → x3.getD j 0 ≤ t) → 1 ≤ t → 2 * t < 4294967296 →
    ∃ out sum, out.length = 64 ∧ (∀ x ∈ out, x < 256) ∧ leval out + 256 ^ 64 * sum = leval (x5.take i) + 256 ^ i * leval (x3.drop i) ∧
      g14L18 realA n (fun v _ => some v) (m + r + 1) 64 (realA.ofN 64) i x3 64 x5 = some (.v (.cell (.str (le32 (leval out % LL))))) := by
  intro r
  induction r with
  | zero =>
    intro i m t x3 x5 hi h3 h5 hx hb hj ht1 ht
    have e : i = 64 := by omega
    subst e
    have e5 : x5.take 64 = x5 := List.take_of_length_le (by omega)
    obtain ⟨k1, r1⟩ := reduceOk hx (by omega)
    rw [e5] at r1
    refine ⟨x5, leval (x3.drop 64), h5, hx, by rw [e5], ?_⟩
    rw [g14L18, lssF (show ¬ ((64 : Nat) : Int) < realA.ofN 64 from by show ¬ ((64 : Nat) : Int) < ((64 : Nat) : Int); omega)]
    simp only [e5, k1, r1]
  | succ r ih =>
    intro i m t x3 x5 hi h3 h5 hx hb hj ht1 ht
    have e1 : realA.ib .add .i64 (i : Int) 1 = ((i + 1 : Nat) : Int) := addN 1 (by omega)
    have hs := hb i
    have hs1 := hj (i + 1) (by omega)
    have e3 : realA.nb .add .u32 (x3.getD (i + 1) 0) (realA.nsh .shr .u32 (x3.getD i 0) 8) = x3.getD (i + 1) 0 + x3.getD i 0 / 256 := by
      show (x3.getD (i + 1) 0 + x3.getD i 0 / 256) % 4294967296 = _
      omega
    have e4 : realA.n2n .u8 (x3.getD i 0) = x3.getD i 0 % 256 := rfl
    obtain ⟨out, sum, ho, hlt, hv, he⟩ := ih (i + 1) m t (x3.set (i + 1) (x3.getD (i + 1) 0 + x3.getD i 0 / 256)) (x5.set i (x3.getD i 0 % 256)) (by omega) (by simp [h3]) (by simp [h5])
      (fun x hxx => (List.mem_or_eq_of_mem_set hxx).elim (hx x) (fun e => by omega)) (bd_set hb (Nat.le_refl _) (by omega) (by omega))
      (fun j hjj => by rw [getD_setN _ _ _ _ (by omega), decide_eq_false (by omega)]; exact hj j (by omega)) ht1 ht
    refine ⟨out, sum, ho, hlt, ?_, ?_⟩
    · rw [hv, take_set _ _ _ (by omega), leval_append, drop_set_next _ _ _ (by omega), leval_drop x3 i (by omega), leval_drop x3 (i + 1) (by omega)]
      have : (x5.take i).length = i := by rw [List.length_take]; omega
      rw [this]
      have hq : x3.getD i 0 = x3.getD i 0 % 256 + 256 * (x3.getD i 0 / 256) := by omega
      simp only [leval, Nat.pow_succ]
      grind
    · rw [show m + (r + 1) + 1 = (m + r + 1) + 1 from by omega, g14L18, lssT (show (i : Int) < realA.ofN 64 from by show (i : Int) < ((64 : Nat) : Int); omega)]
      simp only [g14J19, e1, negN, toNN, ltT (show i < 65 by omega), ltT (show i < 64 by omega), ltT (show i + 1 < 65 by omega), e3, e4]
      exact he
theorem mulAddE (m : Nat) (a b c : List Nat) (ha : ∀ x ∈ a, x < 256) (hb : ∀ x ∈ b, x < 256) (hc : ∀ x ∈ c, x < 256) :
    g14 realA (m + 100) (fun v _ => some v) a b c = some (.v (.cell (.str (le32 ((leval (a.take 32) * leval (b.take 32) + leval (c.take 32)) % LL))))) := by
  have hmn : ∀ l : List Nat, realA.mn (realA.ofN l.length) 32 = ((min l.length 32 : Nat) : Int) := by
    intro l
    show (if (32 : Int) < (l.length : Int) then (32 : Int) else (l.length : Int)) = _
    split <;> omega
  have tk : ∀ l : List Nat, l.take (min l.length 32) = l.take 32 := by
    intro l
    rw [Nat.min_comm, ← List.take_take, List.take_length]
  obtain ⟨y, hy1, hy2, hy3, hy4⟩ := outer (m + 67) (fun v _ => some v) a b c (min a.length 32) (min b.length 32) ha hb (by omega) (by omega) rfl (min a.length 32) 0 (m + 99 - min a.length 32) 0 [0, 0, 0, 0, 0, 0, 0, 0, 0, 0, 0, 0, 0, 0, 0, 0, 0, 0, 0, 0, 0, 0, 0, 0, 0, 0, 0, 0, 0, 0, 0, 0, 0, 0, 0, 0, 0, 0, 0, 0, 0, 0, 0, 0, 0, 0, 0, 0, 0, 0, 0, 0, 0, 0, 0, 0, 0, 0, 0, 0, 0, 0, 0, 0, 0] (by omega) rfl
    (fun j => by
      have : ∀ x ∈ [0, 0, 0, 0, 0, 0, 0, 0, 0, 0, 0, 0, 0, 0, 0, 0, 0, 0, 0, 0, 0, 0, 0, 0, 0, 0, 0, 0, 0, 0, 0, 0, 0, 0, 0, 0, 0, 0, 0, 0, 0, 0, 0, 0, 0, 0, 0, 0, 0, 0, 0, 0, 0, 0, 0, 0, 0, 0, 0, 0, 0, 0, 0, 0, 0], x = 0 := by decide
      rw [List.getD_eq_getElem?_getD]
      cases h : [0, 0, 0, 0, 0, 0, 0, 0, 0, 0, 0, 0, 0, 0, 0, 0, 0, 0, 0, 0, 0, 0, 0, 0, 0, 0, 0, 0, 0, 0, 0, 0, 0, 0, 0, 0, 0, 0, 0, 0, 0, 0, 0, 0, 0, 0, 0, 0, 0, 0, 0, 0, 0, 0, 0, 0, 0, 0, 0, 0, 0, 0, 0, 0, 0][j]? with
      | none => exact Nat.le_refl _
      | some x => have := this x (List.mem_of_getElem? h); simp [this]) (by omega)
  obtain ⟨z, hz1, hz2, hz3, hz4⟩ := third (m + 100) (fun v _ => some v) c (min c.length 32) hc (by omega) (by omega) (min c.length 32) 0 (m + 99 - min c.length 32) (0 + 2080800 * min a.length 32) y (by omega) hy1 hy2 (by omega)
  obtain ⟨out, sum, ho, hlt, hv, he⟩ := carryLoop (m + 100) 64 0 (m + 35) 66593760 z (List.replicate 64 0) rfl hz1 rfl (fun x hx => by rw [List.eq_of_mem_replicate hx]; omega) (fun j => Nat.le_trans (hz2 j) (by omega)) (fun j _ => Nat.le_trans (hz2 j) (by omega)) (by omega) (by omega)
  have l0 : leval [0, 0, 0, 0, 0, 0, 0, 0, 0, 0, 0, 0, 0, 0, 0, 0, 0, 0, 0, 0, 0, 0, 0, 0, 0, 0, 0, 0, 0, 0, 0, 0, 0, 0, 0, 0, 0, 0, 0, 0, 0, 0, 0, 0, 0, 0, 0, 0, 0, 0, 0, 0, 0, 0, 0, 0, 0, 0, 0, 0, 0, 0, 0, 0, 0] = 0 := rfl
  have tot : leval out + 256 ^ 64 * sum = leval (a.take 32) * leval (b.take 32) + leval (c.take 32) := by
    rw [hv, List.drop_zero, hz3, hy3, l0, tk, tk, tk]
    simp [leval]
  have bnd : ∀ l : List Nat, (∀ x ∈ l, x < 256) → leval (l.take 32) < 256 ^ 32 := fun l hl =>
    Nat.lt_of_lt_of_le (leval_lt fun x hx => hl x (List.mem_of_mem_take hx)) (Nat.pow_le_pow_right (by omega) (by rw [List.length_take]; omega))
  have hab : leval (a.take 32) * leval (b.take 32) ≤ (256 ^ 32 - 1) * (256 ^ 32 - 1) := Nat.mul_le_mul (by have := bnd a ha; omega) (by have := bnd b hb; omega)
  have hcb := bnd c hc
  have hs : leval out = leval (a.take 32) * leval (b.take 32) + leval (c.take 32) := by
    have : sum = 0 := by
      cases sum with
      | zero => rfl
      | succ s => exfalso; generalize leval (a.take 32) * leval (b.take 32) = p at *; omega
    rw [this] at tot
    omega
  rw [← hs, ← he]
  unfold g14
  rw [hmn]
  rw [show m + 99 - min a.length 32 + min a.length 32 + 1 = m + 100 from by omega] at hy4
  rw [show m + 99 - min c.length 32 + min c.length 32 + 1 = m + 100 from by omega] at hz4
  refine Eq.trans hy4 ?_
  unfold g14J11
  rw [hmn]
  refine Eq.trans hz4 ?_
  rfl
theorem mulAddOk {a b c : List Nat} (ha : ∀ x ∈ a, x < 256) (hb : ∀ x ∈ b, x < 256) (hc : ∀ x ∈ c, x < 256) :
    g14ok realA a b c = true ∧ g14r0 realA a b c = le32 ((leval (a.take 32) * leval (b.take 32) + leval (c.take 32)) % LL) := by
  have e : g14v realA a b c = some (.v (.cell (.str (le32 ((leval (a.take 32) * leval (b.take 32) + leval (c.take 32)) % LL))))) := mulAddE 99900 a b c ha hb hc
  exact ⟨by unfold g14ok; rw [e]; rfl, by unfold g14r0; rw [e]; rfl⟩
end Go.Sx
