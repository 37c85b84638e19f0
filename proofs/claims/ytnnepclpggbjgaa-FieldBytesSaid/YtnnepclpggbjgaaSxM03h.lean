import Derived.Test.YtnnepclpggbjgaaSxDv
import Derived.Test.YtnnepclpggbjgaaSxN03j
import Derived.Test.YtnnepclpggbjgaaSxS03L9
namespace Go.Sx
-- right
theorem g31Shape (A : Ar) (n : Nat) (t : Bool) (a d w : List Nat) (h1 : g39ok A a = true) (h2 : g39r0 A a = d) (h3 : g40ok A d = true) (h4 : g40r0 A d = w) (h5 : A.lq w a = t) : g31 A n (fun v _ => some v) a = some (.v (.cell (.bool t))) := by
  unfold g31
  rw [h1, h2, h3, h4, h5, Bool.and_true]
theorem g31of {A : Ar} {a : List Nat} {t : Bool} (e : g31v A a = some (.v (.cell (.bool t)))) : g31ok A a = true ∧ g31r0 A a = t := ⟨by unfold g31ok; rw [e]; rfl, by unfold g31r0; rw [e]; rfl⟩
theorem refRight {a : List Nat} (ha : W4 a) : g31ok realA a = true ∧ g31r0 realA a = decide (num a < PP) := by
  obtain ⟨d1, d2, d3⟩ := digitsOk ha
  obtain ⟨w1, w2⟩ := wordsOk d2
  rw [d3] at w2
  refine g31of (g31Shape realA 100000 _ a _ _ d1 rfl w1 w2 ?_)
  have hm := Nat.mod_lt (num a) PP_pos
  rw [lqE, decide_eq_decide]
  constructor
  · intro h
    have := congrArg num h
    rw [num_fe (Nat.lt_trans hm (by decide))] at this
    rwa [← this]
  · intro h
    rw [Nat.mod_eq_of_lt h, fe_num ha]
-- odd
theorem g32Shape9 (A : Ar) (n : Nat) (t : Bool) (a d : List Nat) (h1 : g39ok A a = true) (h2 : g39r0 A a = d) (h3 : A.nc .eql (A.nb .rem .u32 (d.getD 0 0) 2) 1 = t) : g32 A n (fun v _ => some v) a = some (.v (.cell (.bool t))) := by
  unfold g32
  rw [h1, h2, h3]
theorem g32of {A : Ar} {a : List Nat} {t : Bool} (e : g32v A a = some (.v (.cell (.bool t)))) : g32ok A a = true ∧ g32r0 A a = t := ⟨by unfold g32ok; rw [e]; rfl, by unfold g32r0; rw [e]; rfl⟩
theorem refOdd {a : List Nat} (ha : W4 a) : g32ok realA a = true ∧ g32r0 realA a = decide (num a % PP % 2 = 1) := by
  obtain ⟨d1, d2, d3⟩ := digitsOk ha
  refine g32of (g32Shape9 realA 100000 _ a _ d1 rfl ?_)
  show decide ((g39r0 realA a).getD 0 0 % 2 = 1) = _
  have : (g39r0 realA a).getD 0 0 % 2 = dv (g39r0 realA a) % 2 := by
    have hl := d2.1
    cases h : g39r0 realA a with
    | nil => rw [h] at hl; simp at hl
    | cons x r => simp only [List.getD_cons_zero, dv]; omega
  rw [this, d3]
-- small
theorem refSmall {x : Nat} (hx : x < 18446744073709551616) : g35ok realA x = true ∧ g35r0 realA x = fe x := by
  have e : g35v realA x = some (.v (.agg [.nums .u64 4 [x, 0, 0, 0]])) := rfl
  refine ⟨by unfold g35ok; rw [e]; rfl, ?_⟩
  unfold g35r0
  rw [e]
  show [x, 0, 0, 0] = _
  unfold fe
  rw [Nat.mod_eq_of_lt hx, Nat.div_eq_of_lt hx, Nat.div_eq_of_lt (Nat.lt_trans hx (by decide)), Nat.div_eq_of_lt (Nat.lt_trans hx (by decide))]
-- bytes
theorem ib8 {i : Nat} (hi : i < 32) : realA.ib .quo .i64 (i : Int) 8 = ((i / 8 : Nat) : Int) ∧ realA.ib .mul .i64 8 (realA.ib .rem .i64 (i : Int) 8) = ((8 * (i % 8) : Nat) : Int) := by
  constructor
  · show IntKind.wrap .i64 (Int.tdiv (i : Int) 8) = _
    rw [show Int.tdiv (i : Int) 8 = ((i / 8 : Nat) : Int) from rfl]
    exact wrap64 (by omega)
  · have : realA.ib .rem .i64 (i : Int) 8 = ((i % 8 : Nat) : Int) := by
      show (i : Int).tmod 8 = _
      rw [Int.tmod_eq_emod_of_nonneg (by omega)]
      omega
    rw [this, mulI (by omega)]
    omega
theorem refBytesLoop (n : Nat) (X : Nat) (w : List Nat) (hw : ∀ j, j < 32 → w.getD (j / 8) 0 / 2 ^ (8 * (j % 8)) % 256 = X / 256 ^ j % 256) : ∀ (r i m : Nat) (l : List Nat), i + r = 32 → l.length = 32 → l.take i = bl X i →
    g34L4 realA n (fun v _ => some v) (m + r + 1) 32 i w 32 l = some (.v (.cell (.str (bl X 32)))) := by
  intro r
  induction r with
  | zero =>
    intro i m l hi hl ht
    have : i = 32 := by omega
    subst this
    rw [g34L4, lssF (by omega), ht]
  | succ r ih =>
    intro i m l hi hl ht
    obtain ⟨q1, q2⟩ := ib8 (show i < 32 by omega)
    have e4 : realA.ib .add .i64 (i : Int) 1 = ((i + 1 : Nat) : Int) := addN 1 (by omega)
    have e5 : ∀ x y, realA.n2n .u8 (realA.nsh .shr .u64 x y) = x / 2 ^ y % 256 := fun x y => rfl
    rw [show m + (r + 1) + 1 = (m + r + 1) + 1 from by omega, g34L4, lssT (by omega)]
    simp only [g34J6, q1, q2, negN, toNN, e5, ltT (show i / 8 < 4 by omega), ltT (show i < 32 by omega), hw i (show i < 32 by omega)]
    rw [e4]
    refine ih (i + 1) m _ (by omega) (by simp [hl]) ?_
    rw [take_set _ _ _ (by omega), ht, bl_succ]
theorem g34Shape (A : Ar) (n : Nat) (a d w : List Nat) (h1 : g39ok A a = true) (h2 : g39r0 A a = d) (h3 : g40ok A d = true) (h4 : g40r0 A d = w) (e1 : A.le 32 32 = true) (e2 : A.le 32 140737488355328 = true) : g34 A n (fun v _ => some v) a = g34L4 A n (fun v _ => some v) n 32 0 w 32 (List.replicate 32 0) := by
  unfold g34
  rw [h1, h2, h3, h4, e1, e2]
theorem g34of {A : Ar} {a t : List Nat} (e : g34v A a = some (.v (.cell (.str t)))) : g34ok A a = true ∧ g34r0 A a = t := ⟨by unfold g34ok; rw [e]; rfl, by unfold g34r0; rw [e]; rfl⟩
theorem refBytes {a : List Nat} (ha : W4 a) : g34ok realA a = true ∧ g34r0 realA a = le32 (num a % PP) := by
  obtain ⟨d1, d2, d3⟩ := digitsOk ha
  obtain ⟨w1, w2⟩ := wordsOk d2
  rw [d3] at w2
  have hm := Nat.mod_lt (num a) PP_pos
  generalize num a % PP = X at *
  refine g34of ((g34Shape realA 100000 a _ _ d1 rfl w1 w2 rfl rfl).trans (refBytesLoop 100000 X (fe X) (fun j hj => ?_) 32 0 99967 (List.replicate 32 0) rfl (by decide) rfl))
  have hn := num_fe (x := X) (Nat.lt_trans hm (by decide))
  obtain ⟨w0, w1', w2', w3, hw, h0, h1, h2, h3⟩ := fe_W4 X
  rw [hw] at hn ⊢
  rw [byteW w0 w1' w2' w3 h0 h1 h2 h3 j hj]
  rw [show v64 w0 w1' w2' w3 = X from hn]
-- make
theorem orS (V b q r : Nat) (h : V < 18446744073709551616 ^ q * 2 ^ (8 * r)) (hb : b < 256) (hq : q < 4) (hr : r < 8) :
    (fe V).set q (((fe V).getD q 0) ||| (b * 2 ^ (8 * r) % 2 ^ 64)) = fe (V + 18446744073709551616 ^ q * (2 ^ (8 * r) * b)) := by
  have hM : 2 ^ (8 * r) * 256 ≤ 18446744073709551616 := by
    have : 2 ^ (8 * r) * 256 = 2 ^ (8 * r + 8) := by rw [Nat.pow_add]
    rw [this, show 18446744073709551616 = 2 ^ 64 by decide]
    exact Nat.pow_le_pow_right (by decide) (by omega)
  have hP : 0 < 2 ^ (8 * r) := Nat.pow_pos (by decide)
  have hT : 2 ^ (8 * r) * b + 2 ^ (8 * r) ≤ 18446744073709551616 := by
    have : 2 ^ (8 * r) * (b + 1) ≤ 2 ^ (8 * r) * 256 := Nat.mul_le_mul_left _ (by omega)
    rw [Nat.mul_add, Nat.mul_one] at this
    omega
  have key : ∀ w, w < 2 ^ (8 * r) → w ||| (b * 2 ^ (8 * r) % 2 ^ 64) = w + 2 ^ (8 * r) * b := fun w hw => by
    rw [Nat.mod_eq_of_lt (by rw [Nat.mul_comm]; omega), Nat.mul_comm b, Nat.or_comm, orlo (8 * r) _ _ hw, Nat.add_comm]
  generalize 2 ^ (8 * r) * b = t at *
  generalize 2 ^ (8 * r) = M at *
  have hq4 : q = 0 ∨ q = 1 ∨ q = 2 ∨ q = 3 := by omega
  unfold fe
  rcases hq4 with rfl | rfl | rfl | rfl
  · simp only [Nat.pow_zero, Nat.one_mul, List.getD_cons_zero, List.set_cons_zero] at *
    rw [key _ (by omega)]
    simp only [List.cons.injEq, and_true]
    refine ⟨by omega, by omega, by omega, by omega⟩
  · simp only [Nat.pow_one, List.getD_cons_zero, List.getD_cons_succ, List.set_cons_zero, List.set_cons_succ] at *
    rw [key _ (by omega)]
    simp only [List.cons.injEq, and_true]
    refine ⟨by omega, by omega, by omega, by omega⟩
  · simp only [Nat.reducePow, List.getD_cons_zero, List.getD_cons_succ, List.set_cons_zero, List.set_cons_succ] at *
    rw [key _ (by omega)]
    simp only [List.cons.injEq, and_true]
    refine ⟨by omega, by omega, by omega, by omega⟩
  · simp only [Nat.reducePow, List.getD_cons_zero, List.getD_cons_succ, List.set_cons_zero, List.set_cons_succ] at *
    rw [key _ (by omega)]
    simp only [List.cons.injEq, and_true]
    refine ⟨by omega, by omega, by omega, by omega⟩
theorem leval_step (s : List Nat) (i : Nat) (h : i < s.length) : leval (s.take (i + 1)) = leval (s.take i) + 256 ^ i * s.getD i 0 := by
  have : s.take (i + 1) = s.take i ++ [s.getD i 0] := by
    rw [List.take_add_one, List.getD_eq_getElem?_getD, List.getElem?_eq_getElem h]
    rfl
  rw [this, leval_append, List.length_take, Nat.min_eq_left (by omega)]
  simp only [leval, Nat.mul_zero, Nat.add_zero]
theorem pow256 (i : Nat) : 256 ^ i = 18446744073709551616 ^ (i / 8) * 2 ^ (8 * (i % 8)) := by
  rw [show 18446744073709551616 = 2 ^ 64 by decide, ← Nat.pow_mul, ← Nat.pow_add, show 256 = 2 ^ 8 by decide, ← Nat.pow_mul]
  congr 1
  omega
theorem refMakeLoop (n : Nat) (s d : List Nat) (hs : ∀ x ∈ s, x < 256) (hl : s.length = 32) : ∀ (r i m : Nat), i + r = 32 →
    g30L5 realA n (fun v _ => some v) (m + r + 1) s i d (fe (leval (s.take i))) = g30J8 realA n (fun v _ => some v) d (fe (leval s)) := by
  intro r
  induction r with
  | zero =>
    intro i m hi
    have : i = 32 := by omega
    subst this
    rw [g30L5, lssF (by omega), List.take_of_length_le (by omega)]
  | succ r ih =>
    intro i m hi
    obtain ⟨q1, q2⟩ := ib8 (show i < 32 by omega)
    have e4 : realA.ib .add .i64 (i : Int) 1 = ((i + 1 : Nat) : Int) := addN 1 (by omega)
    have e5 : ∀ x y, realA.nsh .shl .u64 x y = x * 2 ^ y % 2 ^ 64 := fun x y => rfl
    have e6 : ∀ x y, realA.nb .or .u64 x y = x ||| y := fun x y => rfl
    have hb : s.getD i 0 < 256 := getD_lt hs i
    have hV : leval (s.take i) < 256 ^ i := by
      have := leval_lt (l := s.take i) (fun x hx => hs x (List.mem_of_mem_take hx))
      rwa [List.length_take, Nat.min_eq_left (by omega)] at this
    have step := orS (leval (s.take i)) (s.getD i 0) (i / 8) (i % 8) (by rw [← pow256]; exact hV) hb (by omega) (by omega)
    rw [← Nat.mul_assoc, ← pow256, ← leval_step s i (by omega)] at step
    rw [show m + (r + 1) + 1 = (m + r + 1) + 1 from by omega, g30L5, lssT (by omega)]
    simp only [g30J7, q1, q2, negN, toNN, e5, e6, ltT (show i / 8 < 4 by omega), ltT (show i < s.length by omega)]
    rw [e4, step]
    exact ih (i + 1) m (by omega)
theorem g30of {A : Ar} {s L : List Nat} {t : Bool} (e : g30v A s = some (.tup [.agg [.nums .u64 4 L], .cell (.bool t)])) : g30ok A s = true ∧ g30r0 A s = L ∧ g30r1 A s = t := ⟨by unfold g30ok; rw [e]; rfl, by unfold g30r0; rw [e]; rfl, by unfold g30r1; rw [e]; rfl⟩
theorem g30yes (A : Ar) (n : Nat) (s : List Nat) (h : A.ic .neq (A.ofN s.length) 32 = true) : g30 A n (fun v _ => some v) s = some (.tup [.agg [.nums .u64 4 [0, 0, 0, 0]], .cell (.bool false)]) := by
  unfold g30
  rw [h]
theorem g30no (A : Ar) (n : Nat) (s : List Nat) (h : A.ic .neq (A.ofN s.length) 32 = false) : g30 A n (fun v _ => some v) s = g30L5 A n (fun v _ => some v) n s 0 [0, 0, 0, 0] [0, 0, 0, 0] := by
  unfold g30 g30J3
  rw [h]
theorem g30JT (A : Ar) (n : Nat) (d w : List Nat) (h1 : g31ok A w = true) (h2 : g31r0 A w = true) : g30J8 A n (fun v _ => some v) d w = some (.tup [.agg [.nums .u64 4 w], .cell (.bool true)]) := by
  unfold g30J8
  rw [h1, h2]
  rfl
theorem g30JF (A : Ar) (n : Nat) (d w : List Nat) (h1 : g31ok A w = true) (h2 : g31r0 A w = false) : g30J8 A n (fun v _ => some v) d w = some (.tup [.agg [.nums .u64 4 [0, 0, 0, 0]], .cell (.bool false)]) := by
  unfold g30J8
  rw [h1, h2]
  rfl
theorem refMake {s : List Nat} (hs : ∀ x ∈ s, x < 256) : g30ok realA s = true ∧ ((s.length = 32 ∧ leval s < PP ∧ g30r0 realA s = fe (leval s) ∧ g30r1 realA s = true) ∨ (¬ (s.length = 32 ∧ leval s < PP) ∧ g30r0 realA s = [0, 0, 0, 0] ∧ g30r1 realA s = false)) := by
  by_cases hl : s.length = 32
  · have hv : leval s < 2 ^ 256 := by
      have := leval_lt hs
      rw [hl] at this
      exact Nat.lt_of_lt_of_le this (by decide)
    obtain ⟨k1, k2⟩ := refRight (fe_W4 (leval s))
    rw [num_fe hv] at k2
    have hloop := refMakeLoop 100000 s [0, 0, 0, 0] hs hl 32 0 99967 rfl
    rw [List.take_zero, show fe (leval []) = [0, 0, 0, 0] by decide] at hloop
    have hstart : g30v realA s = g30J8 realA 100000 (fun v _ => some v) [0, 0, 0, 0] (fe (leval s)) :=
      (g30no realA 100000 s (ofNat32 hl)).trans hloop
    by_cases hp : leval s < PP
    · rw [decide_eq_true hp] at k2
      obtain ⟨a, b, c⟩ := g30of (hstart.trans (g30JT realA 100000 _ _ k1 k2))
      exact ⟨a, .inl ⟨hl, hp, b, c⟩⟩
    · rw [decide_eq_false hp] at k2
      obtain ⟨a, b, c⟩ := g30of (hstart.trans (g30JF realA 100000 _ _ k1 k2))
      exact ⟨a, .inr ⟨fun h => hp h.2, b, c⟩⟩
  · obtain ⟨a, b, c⟩ := g30of (g30yes realA 100000 s (ofNat32' hl))
    exact ⟨a, .inr ⟨fun h => hl h.1, b, c⟩⟩
end Go.Sx
namespace Go.Sx
theorem fbShape (A : Ar) (n c : Nat) (t1 t2 t3 : Bool) (a s x y u v b b' : List Nat) (k1 : g11ok A = true) (k2 : g11r0 A = true) (m1 : g29ok A s = true) (m2 : g29r0 A s = x) (m3 : g29r1 A s = t1) (n1 : g30ok A s = true) (n2 : g30r0 A s = y) (n3 : g30r1 A s = t1)
    (r1 : g20ok A a = true) (r2 : g20r0 A a = t2) (r3 : g31ok A a = true) (r4 : g31r0 A a = t2) (o1 : g22ok A a = true) (o2 : g22r0 A a = t3) (o3 : g32ok A a = true) (o4 : g32r0 A a = t3)
    (b1 : g33ok A a = true) (b2 : g33r0 A a = b) (b3 : g34ok A a = true) (b4 : g34r0 A a = b') (be : A.sc .eql b b' = true) (xy : A.lq x y = true) (s1 : g23ok A c = true) (s2 : g23r0 A c = u) (s3 : g35ok A c = true) (s4 : g35r0 A c = v) (uv : A.lq u v = true) :
    g9 A n (fun v _ => some v) a s c = some (.v (.cell (.bool true))) := by
  unfold g9 g9J4
  rw [k1, k2, m1, m2, m3, n1, n2, n3, r1, r2, r3, r4, o1, o2, o3, o4, b1, b2, b3, b4, be, xy, s1, s2, s3, s4, uv]
  cases t1 <;> cases t2 <;> cases t3 <;> rfl
theorem lqRefl9 (x : List Nat) : realA.lq x x = true := by rw [lqE]; exact decide_eq_true rfl
theorem g9of {A : Ar} {a s : List Nat} {c : Nat} {t : Bool} (h : g9v A a s c = some (.v (.cell (.bool t)))) : g9ok A a s c = true ∧ g9r0 A a s c = t := ⟨by unfold g9ok; rw [h]; rfl, by unfold g9r0; rw [h]; rfl⟩
theorem scRefl (x : List Nat) : realA.sc .eql x x = true := decide_eq_true rfl
theorem fbytes (n c : Nat) {a s : List Nat} (ha : W4 a) (hs : ∀ x ∈ s, x < 256) (hc : c < 18446744073709551616) : g9 realA n (fun v _ => some v) a s c = some (.v (.cell (.bool true))) := by
  obtain ⟨m1, m⟩ := makeOk hs
  obtain ⟨n1, k⟩ := refMake hs
  obtain ⟨r1, r2⟩ := rightOk ha
  obtain ⟨r3, r4⟩ := refRight ha
  obtain ⟨o1, o2⟩ := oddOk ha
  obtain ⟨o3, o4⟩ := refOdd ha
  obtain ⟨b1, b2⟩ := bytesOk ha
  obtain ⟨b3, b4⟩ := refBytes ha
  obtain ⟨s1, s2⟩ := smallOk hc
  obtain ⟨s3, s4⟩ := refSmall hc
  rcases m with ⟨p1, p2, m2, m3⟩ | ⟨p, m2, m3⟩
  · rcases k with ⟨_, _, n2, n3⟩ | ⟨q, _, _⟩
    · exact fbShape realA n c _ _ _ a s _ _ _ _ _ _ ok11 r11 m1 m2 m3 n1 n2 n3 r1 r2 r3 r4 o1 o2 o3 o4 b1 b2 b3 b4 (scRefl _) (lqRefl9 _) s1 s2 s3 s4 (lqRefl9 _)
    · exact absurd ⟨p1, p2⟩ q
  · rcases k with ⟨p1, p2, _, _⟩ | ⟨q, n2, n3⟩
    · exact absurd ⟨p1, p2⟩ p
    · exact fbShape realA n c _ _ _ a s _ _ _ _ _ _ ok11 r11 m1 m2 m3 n1 n2 n3 r1 r2 r3 r4 o1 o2 o3 o4 b1 b2 b3 b4 (scRefl _) (lqRefl9 _) s1 s2 s3 s4 (lqRefl9 _)
theorem natU64 {x : Int} (h : (Lit.int .u64 x).wf = true) : x.toNat < 18446744073709551616 := by
  have : (0 ≤ x ∧ x ≤ 18446744073709551615) := by simpa [Lit.wf, IntKind.min, IntKind.max, IntKind.signed, IntKind.bits] using h
  omega
theorem law9 (a : List Nat) (la : a.length = 4) (ha : ∀ x ∈ a, x < 2 ^ IntKind.bits .u64) (s : List Nat) (hs : ∀ x ∈ s, x < 256) (_ : s.length < 2 ^ 47) (x : Int) (hx : (Lit.int .u64 x).wf = true) :
    g9o realA [.v (.agg [.nums .u64 4 a]), .v (.cell (.str s)), .v (.cell (.nat .u64 x.toNat))] = some (true, .v (.cell (.bool true))) := by
  obtain ⟨k, r⟩ := g9of (fbytes 100000 x.toNat (W4_of la ha) hs (natU64 hx))
  show some (Nat.beq 4 4 && g9ok realA a s x.toNat, AV.v (.cell (.bool (g9r0 realA a s x.toNat)))) = _
  rw [k, r]
  rfl
end Go.Sx
