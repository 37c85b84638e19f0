import Derived.Test.YtnnepclpggbjgaaSxN03i
namespace Go.Sx
theorem ngtrF : realA.nc .gtr 0 0 = false := rfl
theorem ngtrT {a : Nat} (h : 0 < a) : realA.nc .gtr a 0 = true := decide_eq_true h
theorem fold2 (n : Nat) (lg : Nat → Nat → List Nat → List Nat → List Nat → Option (AV × Heap)) (V q : Nat) (l d : List Nat) : ∀ (r i m w : Nat) (o : List Nat), i + r = 8 → w < 4294967296 → N8 o → dv o + DD ^ i * w = V →
    ∃ o' w', N8 o' ∧ dv o' + DD ^ 8 * w' = V ∧ g43L13 realA n (outH [0] none) lg (m + r + 1) w i q l d o = lg w' q l d o' := by
  intro r
  induction r with
  | zero =>
    intro i m w o hi hw ho h
    have : i = 8 := by omega
    subst this
    exact ⟨o, w, ho, h, by rw [g43L13, lssF (by omega)]⟩
  | succ r ih =>
    intro i m w o hi hw ho h
    have hol := ho.1
    have xa := getD_ltD ho.2 i
    have e1 : realA.ib .add .i64 (i : Int) 1 = ((i + 1 : Nat) : Int) := addN 1 (by omega)
    have f1 : realA.nb .add .u64 w (o.getD i 0) = w + o.getD i 0 := natadd (by omega)
    have hs := dv_set o i ((w + o.getD i 0) % 4294967296) (by omega)
    have key : (w + o.getD i 0) % 4294967296 + 4294967296 * ((w + o.getD i 0) / 4294967296) = w + o.getD i 0 := by omega
    obtain ⟨o', w', g1, g2, g3⟩ := ih (i + 1) m ((w + o.getD i 0) / 4294967296) (o.set i ((w + o.getD i 0) % 4294967296)) (by omega) (by omega) ⟨by simp [hol], set_ltD ho.2 (Nat.mod_lt _ (by decide)) i⟩ (by
      rw [Nat.pow_succ]
      generalize (w + o.getD i 0) % 4294967296 = z at *
      generalize (w + o.getD i 0) / 4294967296 = w2 at *
      generalize DD ^ i = M at *
      generalize o.getD i 0 = p at *
      generalize dv (o.set i z) = S at *
      show S + M * 4294967296 * w2 = V
      clear ih f1 e1
      grind)
    refine ⟨o', w', g1, g2, ?_⟩
    rw [show m + (r + 1) + 1 = (m + r + 1) + 1 from by omega, g43L13, lssT (by omega)]
    simp only [g43J15, negN, toNN, ltT (show i < 8 by omega), f1, shr32, n32]
    rw [e1]
    exact g3
theorem fold3 (N m c q : Nat) (l d o : List Nat) (hc : 0 < c) (hc2 : c < 100) (ho : N8 o) :
    ∃ o' c', N8 o' ∧ dv o' + DD ^ 8 * c' = dv o + 38 * c ∧ g43L9 realA (N + 9) (outH [0] none) (m + 1) c q l d o = g43L9 realA (N + 9) (outH [0] none) m c' q l d o' := by
  have f1 : realA.nb .mul .u64 c 38 = 38 * c := by rw [nmul (by omega), Nat.mul_comm]
  obtain ⟨o', c', a1, a2, a3⟩ := fold2 (N + 9) (g43L9 realA (N + 9) (outH [0] none) m) (dv o + 38 * c) q l d 8 0 N (38 * c) o rfl (by omega) ho (by rw [Nat.pow_zero, Nat.one_mul])
  refine ⟨o', c', a1, a2, ?_⟩
  rw [g43L9, ngtrT hc]
  simp only [g43J10, f1]
  exact a3
theorem fold4 (n m q : Nat) (l d o : List Nat) (ho : N8 o) :
    g43L9 realA n (outH [0] none) (m + 1) 0 q l d o = some (.v (.agg [.nums .u32 8 (g41r0 realA o)]), [(0, ⟨[.nums .u64 q l], 22, 2⟩)]) := by
  obtain ⟨b1, b2, b3⟩ := belowOk ho
  rw [g43L9, ngtrF, b1]
  rfl
theorem D8PP (x y : Nat) : (x + DD ^ 8 * y) % PP = (x + 38 * y) % PP := by
  have : DD ^ 8 = 2 * PP + 38 := by decide
  rw [this, Nat.add_mul, ← Nat.add_assoc, Nat.add_right_comm, Nat.mul_comm 2, Nat.mul_assoc, Nat.add_mul_mod_self_left]
theorem fold5 (N m c q : Nat) (l d o : List Nat) (hc2 : c < 100) (ho : N8 o) :
    ∃ o', N8 o' ∧ dv o' % PP = (dv o + DD ^ 8 * c) % PP ∧ g43L9 realA (N + 9) (outH [0] none) (m + 3) c q l d o = some (.v (.agg [.nums .u32 8 (g41r0 realA o')]), [(0, ⟨[.nums .u64 q l], 22, 2⟩)]) := by
  have lo := N8_lt ho
  rcases Nat.eq_zero_or_pos c with h0 | h0
  · subst h0
    exact ⟨o, ho, by rw [Nat.mul_zero, Nat.add_zero], fold4 _ _ _ _ _ _ ho⟩
  · obtain ⟨o1, c1, a1, a2, a3⟩ := fold3 N (m + 2) c q l d o h0 hc2 ho
    have l1 := N8_lt a1
    rw [a3]
    have hv : (dv o + DD ^ 8 * c) % PP = (dv o1 + DD ^ 8 * c1) % PP := by rw [D8PP, ← a2]
    rcases Nat.eq_zero_or_pos c1 with h1 | h1
    · subst h1
      exact ⟨o1, a1, by rw [hv, Nat.mul_zero, Nat.add_zero], fold4 _ _ _ _ _ _ a1⟩
    · have hc1 : c1 = 1 := by
        rw [D8] at a2
        omega
      subst hc1
      obtain ⟨o2, c2, b1, b2, b3⟩ := fold3 N (m + 1) 1 q l d o1 (by decide) (by decide) a1
      have l2 := N8_lt b1
      have hc2' : c2 = 0 := by
        rw [D8] at a2 b2
        omega
      subst hc2'
      refine ⟨o2, b1, ?_, b3.trans (fold4 _ _ _ _ _ _ b1)⟩
      rw [hv, D8PP, ← b2, Nat.mul_zero, Nat.add_zero]
theorem foldOk {l : List Nat} (hl : N16 l) : g43ok realA 16 16 l = true ∧ N8 (g43r0 realA 16 16 l) ∧ dv (g43r0 realA 16 16 l) = dv l % PP := by
  obtain ⟨o, c, h1, h2, h3, h4⟩ := fold1 100000 [0, 0, 0, 0, 0, 0, 0, 0] [0, 0, 0, 0, 0, 0, 0, 0] l hl 8 0 99991 0 [0, 0, 0, 0, 0, 0, 0, 0] rfl (by decide) N8_zero rfl
  obtain ⟨o', k1, k2, k3⟩ := fold5 99991 99997 c 16 l [0, 0, 0, 0, 0, 0, 0, 0] o h1 h2
  obtain ⟨b1, b2, b3⟩ := belowOk k1
  have e : g43v realA 16 16 l = some (.v (.agg [.nums .u32 8 (g41r0 realA o')]), [(0, ⟨[.nums .u64 16 l], 22, 2⟩)]) := by
    have s0 : ∀ n, g43 realA n (outH [0] none) 16 16 l = g43L4 realA n (outH [0] none) n 16 0 0 16 l [0, 0, 0, 0, 0, 0, 0, 0] [0, 0, 0, 0, 0, 0, 0, 0] := fun _ => rfl
    have s1 : ∀ n m, g43L4 realA n (outH [0] none) (m + 1) 16 c ((8 : Nat) : Int) 16 l [0, 0, 0, 0, 0, 0, 0, 0] o = g43L9 realA n (outH [0] none) n c 16 l [0, 0, 0, 0, 0, 0, 0, 0] o := fun n m => by
      rw [g43L4, lssF (by decide)]
      rfl
    exact (s0 100000).trans (h4.trans ((s1 100000 99991).trans k3))
  have r : g43r0 realA 16 16 l = g41r0 realA o' := by unfold g43r0; rw [e]; rfl
  refine ⟨by unfold g43ok; rw [e]; rfl, by rw [r]; exact b2, ?_⟩
  rw [r, b3, k2, h3, ← D8PP, ← dv_split l 8 (by rw [hl.1]; decide)]
-- the product
theorem g17Start (A : Ar) (n : Nat) (a b x y : List Nat) (k1 : g39ok A a = true) (k2 : g39r0 A a = x) (k3 : g39ok A b = true) (k4 : g39r0 A b = y) (e1 : A.le 16 16 = true) (e2 : A.le 128 140737488355328 = true) : g17 A n (fun v _ => some v) a b = g17L5 A n (fun v _ => some v) n 16 0 [0, 0, 0, 0] x y 16 (List.replicate 16 0) := by
  unfold g17
  rw [k1, k2, k3, k4, e1, e2]
theorem g17End (A : Ar) (n m : Nat) (d x y l r w : List Nat) (e : A.ic .lss ((8 : Nat) : Int) 8 = false) (k1 : g43ok A 16 16 l = true) (k2 : g43r0 A 16 16 l = r) (k3 : g40ok A r = true) (k4 : g40r0 A r = w) : g17L5 A n (fun v _ => some v) (m + 1) 16 ((8 : Nat) : Int) d x y 16 l = some (.v (.agg [.nums .u64 4 w])) := by
  rw [g17L5, e, k1, k2, k3, k4]
theorem N16_zero : N16 (List.replicate 16 0) := ⟨by decide, by decide⟩
theorem getD_zero16 (j : Nat) : (List.replicate 16 0).getD j 0 = 0 := by
  rw [List.getD_eq_getElem?_getD, List.getElem?_replicate]
  split <;> rfl
theorem refMul {a b : List Nat} (ha : W4 a) (hb : W4 b) : g17ok realA a b = true ∧ g17r0 realA a b = fm (num a * num b) := by
  obtain ⟨d1, d2, d3⟩ := digitsOk ha
  obtain ⟨e1, e2, e3⟩ := digitsOk hb
  obtain ⟨l, h1, h2, h3⟩ := rowsLoop 99991 [0, 0, 0, 0] _ _ d2 e2 8 0 99991 (List.replicate 16 0) rfl N16_zero (fun j _ => getD_zero16 j)
  obtain ⟨b1, b2, b3⟩ := foldOk h1
  obtain ⟨w1, w2⟩ := wordsOk b2
  rw [b3] at w2
  have hv : fe (dv l % PP) = fm (num a * num b) := fm_congr (x := dv l) (by
    rw [h2, List.drop_zero, d3, e3, Nat.pow_zero, Nat.one_mul, show dv (List.replicate 16 0) = 0 by decide, Nat.zero_add, ← Nat.mul_mod])
  rw [hv] at w2
  have e : g17v realA a b = some (.v (.agg [.nums .u64 4 (fm (num a * num b))])) :=
    (g17Start realA 100000 a b _ _ d1 rfl e1 rfl rfl rfl).trans (h3.trans (g17End realA 100000 99991 _ _ _ _ _ _ rfl b1 rfl w1 w2))
  exact ⟨by unfold g17ok; rw [e]; rfl, by unfold g17r0; rw [e]; rfl⟩
end Go.Sx
