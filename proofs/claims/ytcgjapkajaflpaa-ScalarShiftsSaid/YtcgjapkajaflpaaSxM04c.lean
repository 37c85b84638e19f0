import Derived.Test.YtcgjapkajaflpaaSxM04b
namespace Go.Sx
theorem fourE (x : Nat) (hx : x < 4294967296) : g17ok x = true ∧ (∀ y ∈ g17r0 x, y < 256) ∧ (g17r0 x).length = 4 ∧ leval (g17r0 x) = x := by
  have e : g17v x = some (.v (.cell (.str [x % 256, x / 2 ^ 8 % 256, x / 2 ^ 16 % 256, x / 2 ^ 24 % 256]))) := rfl
  have e2 : g17r0 x = [x % 256, x / 2 ^ 8 % 256, x / 2 ^ 16 % 256, x / 2 ^ 24 % 256] := by unfold g17r0; rw [e]; rfl
  refine ⟨by unfold g17ok; rw [e]; rfl, ?_, ?_, ?_⟩
  · rw [e2]
    intro y hy
    simp only [List.mem_cons, List.not_mem_nil, or_false] at hy
    omega
  · rw [e2]; rfl
  · rw [e2]
    simp only [leval]
    omega
theorem eight (n : Nat) (kk : AV → Heap → Option AV) (x0 : List Nat) (x1 x2 : Nat) (x3 : Bool) (p : Nat) (hp : p < 18446744073709551616) : ∀ (r i m : Nat) (l : List Nat), i + r = 8 → l.length = 32 → (∀ x ∈ l, x < 256) → leval l = p % 256 ^ i → (∀ j, i ≤ j → l.getD j 0 = 0) →
    ∃ y, y.length = 32 ∧ (∀ x ∈ y, x < 256) ∧ leval y = p ∧ g6L8 realA n kk (m + r + 1) x0 x1 x2 x3 p 32 i 32 l = g6J11 realA n kk x0 x1 x2 x3 32 32 y := by
  intro r
  induction r with
  | zero =>
    intro i m l hi hl hx hv hz
    have e : i = 8 := by omega
    subst e
    exact ⟨l, hl, hx, by rw [hv]; omega, by rw [g6L8, lssF (by omega)]⟩
  | succ r ih =>
    intro i m l hi hl hx hv hz
    have e1 : realA.ib .add .i64 (i : Int) 1 = ((i + 1 : Nat) : Int) := addN 1 (by omega)
    have e2 : realA.ib .mul .i64 8 (i : Int) = ((8 * i : Nat) : Int) := by rw [mulI (by omega)]; omega
    have e3 : realA.n2n .u8 (realA.nsh .shr .u64 p (8 * i)) = p / 256 ^ i % 256 := by
      show p / 2 ^ (8 * i) % 256 = _
      rw [Nat.pow_mul]
    obtain ⟨y, h1, h2, h3, h4⟩ := ih (i + 1) m (l.set i (p / 256 ^ i % 256)) (by omega) (by simp [hl]) (fun x hxx => (List.mem_or_eq_of_mem_set hxx).elim (hx x) (fun e => by omega))
      (by
        have := leval_set l i (p / 256 ^ i % 256) (by omega)
        rw [hz i (Nat.le_refl _), Nat.mul_zero, Nat.add_zero] at this
        rw [this, hv, Nat.pow_succ, Nat.mod_mul])
      (fun j hj => by rw [getD_setN _ _ _ _ (by omega), decide_eq_false (by omega)]; exact hz j (by omega))
    refine ⟨y, h1, h2, h3, ?_⟩
    rw [show m + (r + 1) + 1 = (m + r + 1) + 1 from by omega, g6L8, lssT (by omega)]
    simp only [g6J10, e1, e2, negN, toNN, ltT (show i < 32 by omega), e3]
    exact h4
theorem law6m (m : Nat) (a : List Nat) (ha : ∀ x ∈ a, x < 256) (x y : Nat) (hx : x < 4294967296) (hy : y < 4294967296) : g6 realA (m + 9) (fun v _ => some v) a x y = some (.v (.cell (.bool true))) := by
  have ta := bytes_take ha 31
  have la : (a.take 31).length ≤ 31 := by rw [List.length_take]; omega
  obtain ⟨ca1, ca2, ca3⟩ := clip a 31
  have hxy : x * y ≤ 4294967295 * 4294967295 := Nat.mul_le_mul (by omega) (by omega)
  have em : realA.nb .mul .u64 x y = x * y := by
    show x * y % 18446744073709551616 = _
    omega
  unfold g6 g6J4
  rw [show (31 : Int) = ((31 : Nat) : Int) from rfl, ca1, ca2, ca3, ok9, r9, em]
  generalize a.take 31 = A at *
  obtain ⟨l, h1, h2, h3, h4⟩ := eight (m + 9) (fun v _ => some v) A x y true (x * y) (by omega) 8 0 m (List.replicate 32 0) rfl rfl (fun x hx => by rw [List.eq_of_mem_replicate hx]; omega) (by rw [Nat.pow_zero, Nat.mod_one]; rfl)
    (fun j _ => by
      rw [List.getD_eq_getElem?_getD]
      cases h : (List.replicate 32 0)[j]? with
      | none => rfl
      | some z => exact List.eq_of_mem_replicate (List.mem_of_getElem? h))
  refine Eq.trans h4 ?_
  unfold g6J11
  obtain ⟨x1, x2, x3, x4⟩ := fourE x hx
  obtain ⟨y1, y2, y3, y4⟩ := fourE y hy
  have lt0' : ∀ x ∈ [0], x < 256 := by decide
  obtain ⟨m1, m1'⟩ := rd (ltcat lt0' ta) (by simp; omega)
  obtain ⟨m2, m2'⟩ := ma ta lt01 lt0 (by omega) (by decide) (by decide)
  obtain ⟨m3, m3'⟩ := ma x2 y2 lt0 (by omega) (by omega) (by decide)
  have e0 : leval [] = 0 := rfl
  have q1 : MM (leval ([0] ++ A)) = MM (leval A * leval [0, 1] + leval []) := congrArg MM (by
    rw [leval_append, show leval [0] = 0 from rfl, show leval [0, 1] = 256 from rfl, e0]
    simp only [List.length_cons, List.length_nil, Nat.zero_add, Nat.pow_one]
    omega)
  have q2 : MM (leval (g17r0 x) * leval (g17r0 y) + leval []) = l.take 32 := by
    have hL : x * y < LL := Nat.lt_of_le_of_lt hxy (by decide)
    have hl : le32 (leval l) = l := le32_leval h2 h1
    rw [x4, y4, e0, Nat.add_zero, List.take_of_length_le (Nat.le_of_eq h1)]
    unfold MM
    rw [Nat.mod_eq_of_lt hL, ← h3]
    exact hl
  have q4 : realA.le ([0].length + A.length) 9223372036854775807 = true := leT (by simp; omega)
  rw [q4, m1, m1', m2, m2', x1, y1, m3, m3', scT q1, scT q2]
theorem natU32 {x : Int} (h : (Lit.int .u32 x).wf = true) : x.toNat < 4294967296 := by
  have : (0 ≤ x ∧ x ≤ 4294967295) := by simpa [Lit.wf, IntKind.min, IntKind.max, IntKind.signed, IntKind.bits] using h
  omega
theorem law6 (a : List Nat) (ha : ∀ x ∈ a, x < 256) (_ : a.length < 2 ^ 47) (x : Int) (hx : (Lit.int .u32 x).wf = true) (y : Int) (hy : (Lit.int .u32 y).wf = true) :
    g6o [.v (.cell (.str a)), .v (.cell (.nat .u32 x.toNat)), .v (.cell (.nat .u32 y.toNat))] = some (true, .v (.cell (.bool true))) := by
  have e : g6v a x.toNat y.toNat = some (.v (.cell (.bool true))) := law6m 99991 a ha _ _ (natU32 hx) (natU32 hy)
  simp only [g6o, g6ok, g6r0, e, g6is, g6g0]
end Go.Sx
