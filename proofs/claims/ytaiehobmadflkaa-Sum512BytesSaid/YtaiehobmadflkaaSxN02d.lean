/- sum512: one block. -/
import Derived.Test.YtaiehobmadflkaaSxN02c
import Derived.Test.YtaiehobmadflkaaSxR02c
namespace Go.Sx
/-- a word turned right -/
def rt (x n : Nat) : Nat := (x * 2 ^ (64 - n)) % B64 ||| x / 2 ^ n
theorem g27g0_some (y : Nat) : g27g0 (some (u64v y)) = y := rfl
theorem g27is_some (y : Nat) : g27is (some (u64v y)) = true := rfl
theorem q4or (x y : Nat) : realA.nb .or .u64 x y = x ||| y := rfl
theorem a27_19 : realA.nb .and .u64 (realA.i2n .u64 (-19)) 63 = 45 := by decide +kernel
theorem b27_19 : realA.nb .sub .u64 64 45 = 19 := by decide +kernel
theorem h27_19 (x : Nat) : g27v realA x (-19) = some (u64v (rt x 19)) := by
  unfold g27v g27 rt
  rw [a27_19, b27_19, ar_nshl, ar_nshr, pw64 _ rfl, q4or]
theorem t27_19 (x : Nat) : g27r0 realA x (-19) = rt x 19 := (congrArg g27g0 (h27_19 x)).trans (g27g0_some _)
theorem k27_19 (x : Nat) : g27ok realA x (-19) = true := (congrArg g27is (h27_19 x)).trans (g27is_some _)
theorem a27_61 : realA.nb .and .u64 (realA.i2n .u64 (-61)) 63 = 3 := by decide +kernel
theorem b27_61 : realA.nb .sub .u64 64 3 = 61 := by decide +kernel
theorem h27_61 (x : Nat) : g27v realA x (-61) = some (u64v (rt x 61)) := by
  unfold g27v g27 rt
  rw [a27_61, b27_61, ar_nshl, ar_nshr, pw64 _ rfl, q4or]
theorem t27_61 (x : Nat) : g27r0 realA x (-61) = rt x 61 := (congrArg g27g0 (h27_61 x)).trans (g27g0_some _)
theorem k27_61 (x : Nat) : g27ok realA x (-61) = true := (congrArg g27is (h27_61 x)).trans (g27is_some _)
theorem a27_1 : realA.nb .and .u64 (realA.i2n .u64 (-1)) 63 = 63 := by decide +kernel
theorem b27_1 : realA.nb .sub .u64 64 63 = 1 := by decide +kernel
theorem h27_1 (x : Nat) : g27v realA x (-1) = some (u64v (rt x 1)) := by
  unfold g27v g27 rt
  rw [a27_1, b27_1, ar_nshl, ar_nshr, pw64 _ rfl, q4or]
theorem t27_1 (x : Nat) : g27r0 realA x (-1) = rt x 1 := (congrArg g27g0 (h27_1 x)).trans (g27g0_some _)
theorem k27_1 (x : Nat) : g27ok realA x (-1) = true := (congrArg g27is (h27_1 x)).trans (g27is_some _)
theorem a27_8 : realA.nb .and .u64 (realA.i2n .u64 (-8)) 63 = 56 := by decide +kernel
theorem b27_8 : realA.nb .sub .u64 64 56 = 8 := by decide +kernel
theorem h27_8 (x : Nat) : g27v realA x (-8) = some (u64v (rt x 8)) := by
  unfold g27v g27 rt
  rw [a27_8, b27_8, ar_nshl, ar_nshr, pw64 _ rfl, q4or]
theorem t27_8 (x : Nat) : g27r0 realA x (-8) = rt x 8 := (congrArg g27g0 (h27_8 x)).trans (g27g0_some _)
theorem k27_8 (x : Nat) : g27ok realA x (-8) = true := (congrArg g27is (h27_8 x)).trans (g27is_some _)
theorem a27_14 : realA.nb .and .u64 (realA.i2n .u64 (-14)) 63 = 50 := by decide +kernel
theorem b27_14 : realA.nb .sub .u64 64 50 = 14 := by decide +kernel
theorem h27_14 (x : Nat) : g27v realA x (-14) = some (u64v (rt x 14)) := by
  unfold g27v g27 rt
  rw [a27_14, b27_14, ar_nshl, ar_nshr, pw64 _ rfl, q4or]
theorem t27_14 (x : Nat) : g27r0 realA x (-14) = rt x 14 := (congrArg g27g0 (h27_14 x)).trans (g27g0_some _)
theorem k27_14 (x : Nat) : g27ok realA x (-14) = true := (congrArg g27is (h27_14 x)).trans (g27is_some _)
theorem a27_18 : realA.nb .and .u64 (realA.i2n .u64 (-18)) 63 = 46 := by decide +kernel
theorem b27_18 : realA.nb .sub .u64 64 46 = 18 := by decide +kernel
theorem h27_18 (x : Nat) : g27v realA x (-18) = some (u64v (rt x 18)) := by
  unfold g27v g27 rt
  rw [a27_18, b27_18, ar_nshl, ar_nshr, pw64 _ rfl, q4or]
theorem t27_18 (x : Nat) : g27r0 realA x (-18) = rt x 18 := (congrArg g27g0 (h27_18 x)).trans (g27g0_some _)
theorem k27_18 (x : Nat) : g27ok realA x (-18) = true := (congrArg g27is (h27_18 x)).trans (g27is_some _)
theorem a27_41 : realA.nb .and .u64 (realA.i2n .u64 (-41)) 63 = 23 := by decide +kernel
theorem b27_41 : realA.nb .sub .u64 64 23 = 41 := by decide +kernel
theorem h27_41 (x : Nat) : g27v realA x (-41) = some (u64v (rt x 41)) := by
  unfold g27v g27 rt
  rw [a27_41, b27_41, ar_nshl, ar_nshr, pw64 _ rfl, q4or]
theorem t27_41 (x : Nat) : g27r0 realA x (-41) = rt x 41 := (congrArg g27g0 (h27_41 x)).trans (g27g0_some _)
theorem k27_41 (x : Nat) : g27ok realA x (-41) = true := (congrArg g27is (h27_41 x)).trans (g27is_some _)
theorem a27_28 : realA.nb .and .u64 (realA.i2n .u64 (-28)) 63 = 36 := by decide +kernel
theorem b27_28 : realA.nb .sub .u64 64 36 = 28 := by decide +kernel
theorem h27_28 (x : Nat) : g27v realA x (-28) = some (u64v (rt x 28)) := by
  unfold g27v g27 rt
  rw [a27_28, b27_28, ar_nshl, ar_nshr, pw64 _ rfl, q4or]
theorem t27_28 (x : Nat) : g27r0 realA x (-28) = rt x 28 := (congrArg g27g0 (h27_28 x)).trans (g27g0_some _)
theorem k27_28 (x : Nat) : g27ok realA x (-28) = true := (congrArg g27is (h27_28 x)).trans (g27is_some _)
theorem a27_34 : realA.nb .and .u64 (realA.i2n .u64 (-34)) 63 = 30 := by decide +kernel
theorem b27_34 : realA.nb .sub .u64 64 30 = 34 := by decide +kernel
theorem h27_34 (x : Nat) : g27v realA x (-34) = some (u64v (rt x 34)) := by
  unfold g27v g27 rt
  rw [a27_34, b27_34, ar_nshl, ar_nshr, pw64 _ rfl, q4or]
theorem t27_34 (x : Nat) : g27r0 realA x (-34) = rt x 34 := (congrArg g27g0 (h27_34 x)).trans (g27g0_some _)
theorem k27_34 (x : Nat) : g27ok realA x (-34) = true := (congrArg g27is (h27_34 x)).trans (g27is_some _)
theorem a27_39 : realA.nb .and .u64 (realA.i2n .u64 (-39)) 63 = 25 := by decide +kernel
theorem b27_39 : realA.nb .sub .u64 64 25 = 39 := by decide +kernel
theorem h27_39 (x : Nat) : g27v realA x (-39) = some (u64v (rt x 39)) := by
  unfold g27v g27 rt
  rw [a27_39, b27_39, ar_nshl, ar_nshr, pw64 _ rfl, q4or]
theorem t27_39 (x : Nat) : g27r0 realA x (-39) = rt x 39 := (congrArg g27g0 (h27_39 x)).trans (g27g0_some _)
theorem k27_39 (x : Nat) : g27ok realA x (-39) = true := (congrArg g27is (h27_39 x)).trans (g27is_some _)

def sg1 (e : Nat) : Nat := (rt e 14 ^^^ rt e 18) ^^^ rt e 41
def sg0 (a : Nat) : Nat := (rt a 28 ^^^ rt a 34) ^^^ rt a 39
def tf (k w : Nat) (v : List Nat) : Nat := ((((v.getD 7 0 + k) % B64 + w) % B64 + (v.getD 6 0 ^^^ (v.getD 4 0 &&& (v.getD 5 0 ^^^ v.getD 6 0)))) % B64 + sg1 (v.getD 4 0)) % B64
def uf (v : List Nat) : Nat := (((v.getD 0 0 &&& v.getD 1 0) ||| (v.getD 2 0 &&& (v.getD 0 0 ||| v.getD 1 0))) + sg0 (v.getD 0 0)) % B64
def rs (k w : Nat) (v : List Nat) : List Nat := [(tf k w v + uf v) % B64, v.getD 0 0, v.getD 1 0, v.getD 2 0, (v.getD 3 0 + tf k w v) % B64, v.getD 4 0, v.getD 5 0, v.getD 6 0]
/-- the next word -/
def nx (w : List Nat) (i : Nat) : Nat := (((w.getD (i - 7) 0 + w.getD (i - 16) 0) % B64 + ((rt (w.getD (i - 2) 0) 19 ^^^ rt (w.getD (i - 2) 0) 61) ^^^ w.getD (i - 2) 0 / 2 ^ 6)) % B64 + ((rt (w.getD (i - 15) 0) 1 ^^^ rt (w.getD (i - 15) 0) 8) ^^^ w.getD (i - 15) 0 / 2 ^ 7)) % B64
/-- a word's value after k of its bytes -/
def wd (b : List Nat) (j : Nat) : Nat → Nat
  | 0 => 0
  | k + 1 => (wd b j k * 2 ^ 8) % B64 ||| b.getD (8 * j + k) 0
def pl (b : List Nat) (i : Nat) : List Nat := (List.range 80).map fun j => wd b j (min 8 (i - 8 * j))
theorem pl_len (b : List Nat) (i : Nat) : (pl b i).length = 80 := by simp [pl]
theorem pl_get (b : List Nat) (i j : Nat) (h : j < 80) : (pl b i).getD j 0 = wd b j (min 8 (i - 8 * j)) := by
  unfold pl
  rw [List.getD_eq_getElem?_getD, List.getElem?_map, List.getElem?_range h]; rfl
theorem pl_step (b : List Nat) (i : Nat) (h : i < 128) : (pl b i).set (i / 8) (((pl b i).getD (i / 8) 0 * 2 ^ 8) % B64 ||| b.getD i 0) = pl b (i + 1) := by
  rw [pl_get b i _ (by omega)]
  apply List.ext_getElem?
  intro j
  by_cases hj : j < 80
  · have hr : ∀ k, (pl b k)[j]? = some (wd b j (min 8 (k - 8 * j))) := by
      intro k
      unfold pl
      rw [List.getElem?_map, List.getElem?_range hj]; rfl
    by_cases e : j = i / 8
    · subst e
      rw [List.getElem?_set_self (by rw [pl_len]; omega), hr]
      have h1 : min 8 (i - 8 * (i / 8)) = i % 8 := by omega
      have h2 : min 8 (i + 1 - 8 * (i / 8)) = i % 8 + 1 := by omega
      rw [h1, h2, wd, show 8 * (i / 8) + i % 8 = i by omega]
    · rw [List.getElem?_set_ne (fun h => e h.symm), hr, hr]
      congr 2
      omega
  · rw [List.getElem?_eq_none (by rw [List.length_set, pl_len]; omega), List.getElem?_eq_none (by rw [pl_len]; omega)]
def ew (b : List Nat) : Nat → List Nat
  | 0 => pl b 128
  | n + 1 => (ew b n).set (16 + n) (nx (ew b n) (16 + n))
theorem ew_len (b : List Nat) (n : Nat) : (ew b n).length = 80 := by
  induction n with
  | zero => exact pl_len b 128
  | succ n ih => rw [ew, List.length_set, ih]
def rd (W : List Nat) (v : List Nat) : Nat → List Nat
  | 0 => v
  | n + 1 => rs (K80.getD n 0) (W.getD n 0) (rd W v n)
theorem rd_len (W v : List Nat) (h : v.length = 8) (n : Nat) : (rd W v n).length = 8 := by
  cases n with
  | zero => exact h
  | succ n => rfl
def ad8 (H v : List Nat) : List Nat := (List.range 8).map fun i => (H.getD i 0 + v.getD i 0) % B64
/-- what a block makes of eight words -/
def comp (H b : List Nat) : List Nat := ad8 H (rd (ew b 64) H 80)
theorem comp_len (H b : List Nat) : (comp H b).length = 8 := by simp [comp, ad8]
theorem get_set_self {l : List Nat} {i u : Nat} (h : i < l.length) : (l.set i u).getD i 0 = u := by rw [List.getD_eq_getElem?_getD, List.getElem?_set_self h]; rfl
theorem get_app_r {H K : List Nat} (h : H.length = 8) (i : Nat) : (H ++ K).getD (8 + i) 0 = K.getD i 0 := by
  rw [List.getD_eq_getElem?_getD, List.getElem?_append_right (by omega), h, show 8 + i - 8 = i by omega, ← List.getD_eq_getElem?_getD]
theorem get_app_l {H K : List Nat} {i : Nat} (h : i < H.length) : (H ++ K).getD i 0 = H.getD i 0 := by
  rw [List.getD_eq_getElem?_getD, List.getElem?_append_left h, ← List.getD_eq_getElem?_getD]
def adp (H v : List Nat) (i : Nat) : List Nat := (List.range 8).map fun j => if j < i then (H.getD j 0 + v.getD j 0) % B64 else H.getD j 0
theorem adp_len (H v : List Nat) (i : Nat) : (adp H v i).length = 8 := by simp [adp]
theorem adp_get (H v : List Nat) (i j : Nat) (h : j < 8) : (adp H v i)[j]? = some (if j < i then (H.getD j 0 + v.getD j 0) % B64 else H.getD j 0) := by
  unfold adp
  rw [List.getElem?_map, List.getElem?_range h]; rfl
theorem adp_step (H v : List Nat) (i : Nat) (h : i < 8) : (adp H v i).set i (((adp H v i).getD i 0 + v.getD i 0) % B64) = adp H v (i + 1) := by
  have hi : (adp H v i).getD i 0 = H.getD i 0 := by
    rw [List.getD_eq_getElem?_getD, adp_get H v i i h, if_neg (Nat.lt_irrefl i)]; rfl
  rw [hi]
  apply List.ext_getElem?
  intro j
  by_cases hj : j < 8
  · by_cases e : j = i
    · subst e
      rw [List.getElem?_set_self (by rw [adp_len]; exact hj), adp_get _ _ _ _ hj, if_pos (by omega)]
    · rw [List.getElem?_set_ne (fun h => e h.symm), adp_get _ _ _ _ hj, adp_get _ _ _ _ hj]
      by_cases h2 : j < i
      · rw [if_pos h2, if_pos (by omega)]
      · rw [if_neg h2, if_neg (by omega)]
  · rw [List.getElem?_eq_none (by rw [List.length_set, adp_len]; omega), List.getElem?_eq_none (by rw [adp_len]; omega)]
theorem adp_0 (H v : List Nat) (h : H.length = 8) : adp H v 0 = H := by
  apply List.ext_getElem?
  intro j
  by_cases hj : j < 8
  · rw [adp_get _ _ _ _ hj, if_neg (by omega), List.getD_eq_getElem?_getD, List.getElem?_eq_getElem (by omega)]; rfl
  · rw [List.getElem?_eq_none (by rw [adp_len]; omega), List.getElem?_eq_none (by omega)]
theorem adp_8 (H v : List Nat) : adp H v 8 = ad8 H v := by
  unfold adp ad8
  apply List.map_congr_left
  intro j hj
  rw [if_pos (List.mem_range.1 hj)]

theorem c20_out {R : Type} (N : Nat) (kk : AV → Heap → Option R) (H K v : List Nat) (n : Nat) (tot : Int) (m : Nat) (l : List Nat) (hH : H.length = 8) (hv : v.length = 8) : ∀ (d i f : Nat), i + d = 8 → d < f →
    g20L25 realA N kk f (i : Int) (adp H v i ++ K)  n tot m l v = kk (.tup []) [(0, ⟨[.nums .u64 88 (ad8 H v ++ K), .one (.sl 1 none n 1), .one (.int .i64 tot)], 45, 1⟩), (1, ⟨[.nums .u8 m l], 5, 2⟩), (14004, (bU 8 v 42))] := by
  intro d
  induction d with
  | zero =>
    intro i f h hf
    obtain ⟨f, rfl⟩ : ∃ q, f = q + 1 := ⟨f - 1, by omega⟩
    obtain rfl : i = 8 := by omega
    rw [g20L25, ar_lss, decide_eq_false (by omega), adp_8]
  | succ d ih =>
    intro i f h hf
    obtain ⟨f, rfl⟩ : ∃ q, f = q + 1 := ⟨f - 1, by omega⟩
    have hi : i < 8 := by omega
    have e1 : realA.ib .add .i64 (i : Int) 1 = ((i + 1 : Nat) : Int) := by rw [ar_add (by omega)]; omega
    rw [g20L25, ar_lss, decide_eq_true (show (i : Int) < 8 by omega)]
    simp only [g20J26, ar_negN, ar_toNN, ar_lt, decide_eq_true hi, e1, ar_nadd, pw64 _ rfl]
    have hs : (adp H v i ++ K).set i (((adp H v i ++ K).getD i 0 + v.getD i 0) % B64) = adp H v (i + 1) ++ K := by
      rw [get_app_l (by rw [adp_len]; exact hi), List.set_append_left _ _ (by rw [adp_len]; exact hi), adp_step H v i hi]
    rw [hs]
    exact ih (i + 1) f (by omega) (by omega)
theorem c20_rounds {R : Type} (N : Nat) (kk : AV → Heap → Option R) (H W : List Nat) (n : Nat) (tot : Int) (m : Nat) (l : List Nat) (hH : H.length = 8) (hN : 8 < N) : ∀ (d i f : Nat), i + d = 80 → d < f →
    g20L15 realA N kk f (i : Int) (H ++ K80)  n tot m l W (rd W H i) = kk (.tup []) [(0, ⟨[.nums .u64 88 (ad8 H (rd W H 80) ++ K80), .one (.sl 1 none n 1), .one (.int .i64 tot)], 45, 1⟩), (1, ⟨[.nums .u8 m l], 5, 2⟩), (14004, (bU 8 (rd W H 80) 42))] := by
  intro d
  induction d with
  | zero =>
    intro i f h hf
    obtain ⟨f, rfl⟩ : ∃ q, f = q + 1 := ⟨f - 1, by omega⟩
    obtain rfl : i = 80 := by omega
    rw [g20L15, ar_lss, decide_eq_false (by omega)]
    simp only [g20J24]
    have := c20_out N kk H K80 (rd W H 80)  n tot m l hH (rd_len _ _ hH _) 8 0 N (by omega) (by omega)
    rw [adp_0 _ _ hH] at this
    exact this
  | succ d ih =>
    intro i f h hf
    obtain ⟨f, rfl⟩ : ∃ q, f = q + 1 := ⟨f - 1, by omega⟩
    have hi : i < 80 := by omega
    have e1 : realA.ib .add .i64 (i : Int) 1 = ((i + 1 : Nat) : Int) := by rw [ar_add (by omega)]; omega
    rw [g20L15, ar_lss, decide_eq_true (show (i : Int) < 80 by omega)]
    simp only [g20J16, ar_negN, ar_toNN, ar_lt, decide_eq_true hi, e1, t27_19, t27_61, t27_1, t27_8, t27_14, t27_18, t27_41, t27_28, t27_34, t27_39, k27_19, k27_61, k27_1, k27_8, k27_14, k27_18, k27_41, k27_28, k27_34, k27_39, get_app_r hH]
    exact ih (i + 1) f (by omega) (by omega)
theorem c20_expand {R : Type} (N : Nat) (kk : AV → Heap → Option R) (H b : List Nat) (n : Nat) (tot : Int) (m : Nat) (l : List Nat) (hH : H.length = 8) (hN : 80 < N) : ∀ (d i f : Nat), i + d = 64 → d < f →
    g20L7 realA N kk f ((16 + i : Nat) : Int) (H ++ K80)  n tot m l (ew b i) = kk (.tup []) [(0, ⟨[.nums .u64 88 (comp H b ++ K80), .one (.sl 1 none n 1), .one (.int .i64 tot)], 45, 1⟩), (1, ⟨[.nums .u8 m l], 5, 2⟩), (14004, (bU 8 (rd (ew b 64) H 80) 42))] := by
  intro d
  induction d with
  | zero =>
    intro i f h hf
    obtain ⟨f, rfl⟩ : ∃ q, f = q + 1 := ⟨f - 1, by omega⟩
    obtain rfl : i = 64 := by omega
    rw [g20L7, ar_lss, decide_eq_false (by omega)]
    simp only [g20J13]
    have h0 : ((H ++ K80).drop 0).take 8 = H := by rw [List.drop_zero, ← hH, List.take_left']; rfl
    rw [h0]
    exact c20_rounds N kk H (ew b 64)  n tot m l hH (by omega) 80 0 N (by omega) (by omega)
  | succ d ih =>
    intro i f h hf
    obtain ⟨f, rfl⟩ : ∃ q, f = q + 1 := ⟨f - 1, by omega⟩
    have e1 : realA.ib .add .i64 ((16 + i : Nat) : Int) 1 = ((16 + (i + 1) : Nat) : Int) := by rw [ar_add (by omega)]; omega
    have s2 : realA.ib .sub .i64 ((16 + i : Nat) : Int) 2 = ((16 + i - 2 : Nat) : Int) := by rw [ar_sub (by omega)]; omega
    have s7 : realA.ib .sub .i64 ((16 + i : Nat) : Int) 7 = ((16 + i - 7 : Nat) : Int) := by rw [ar_sub (by omega)]; omega
    have s15 : realA.ib .sub .i64 ((16 + i : Nat) : Int) 15 = ((16 + i - 15 : Nat) : Int) := by rw [ar_sub (by omega)]; omega
    have s16 : realA.ib .sub .i64 ((16 + i : Nat) : Int) 16 = ((16 + i - 16 : Nat) : Int) := by rw [ar_sub (by omega)]; omega
    have hl : 16 + i < (ew b i).length := by rw [ew_len]; omega
    rw [g20L7, ar_lss, decide_eq_true (show ((16 + i : Nat) : Int) < 80 by omega)]
    simp only [g20J9, s2, s7, s15, s16, e1, ar_negN, ar_toNN, ar_lt, decide_eq_true (show 16 + i - 2 < 80 by omega), decide_eq_true (show 16 + i - 7 < 80 by omega), decide_eq_true (show 16 + i - 15 < 80 by omega), decide_eq_true (show 16 + i - 16 < 80 by omega), decide_eq_true (show 16 + i < 80 by omega), t27_19, t27_61, t27_1, t27_8, t27_14, t27_18, t27_41, t27_28, t27_34, t27_39, k27_19, k27_61, k27_1, k27_8, k27_14, k27_18, k27_41, k27_28, k27_34, k27_39, List.set_set, get_set_self hl, ar_nadd, pw64 _ rfl]
    exact ih (i + 1) f (by omega) (by omega)
theorem c20_load {R : Type} (N : Nat) (kk : AV → Heap → Option R) (H : List Nat) (z n : Nat) (tot : Int) (m : Nat) (l : List Nat) (hH : H.length = 8) (hN : 128 < N) (hz : z = 128) : ∀ (d i f : Nat), i + d = 128 → d < f →
    g20L2 realA N kk f z (i : Int) (H ++ K80)  n tot m l (pl l i) = kk (.tup []) [(0, ⟨[.nums .u64 88 (comp H l ++ K80), .one (.sl 1 none n 1), .one (.int .i64 tot)], 45, 1⟩), (1, ⟨[.nums .u8 m l], 5, 2⟩), (14004, (bU 8 (rd (ew l 64) H 80) 42))] := by
  intro d
  induction d with
  | zero =>
    intro i f h hf
    obtain ⟨f, rfl⟩ : ∃ q, f = q + 1 := ⟨f - 1, by omega⟩
    obtain rfl : i = 128 := by omega
    rw [g20L2, ar_lss, decide_eq_false (by omega)]
    simp only [g20J6]
    exact c20_expand N kk H l  n tot m l hH (by omega) 64 0 N (by omega) (by omega)
  | succ d ih =>
    intro i f h hf
    obtain ⟨f, rfl⟩ : ∃ q, f = q + 1 := ⟨f - 1, by omega⟩
    have hi : i < 128 := by omega
    have e1 : realA.ib .add .i64 (i : Int) 1 = ((i + 1 : Nat) : Int) := by rw [ar_add (by omega)]; omega
    have q1 : realA.ib .quo .i64 (i : Int) 8 = ((i / 8 : Nat) : Int) := by rw [ar_quo (by omega) (by omega) (by omega)]; omega
    have q4 : ∀ x y, realA.nb .or .u64 x y = x ||| y := fun _ _ => rfl
    rw [g20L2, ar_lss, decide_eq_true (show (i : Int) < 128 by omega)]
    simp only [g20J3, q1, ar_negN, ar_toNN, ar_lt, decide_eq_true (show i / 8 < 80 by omega), hz, decide_eq_true hi, e1, ar_nshl, pw64 _ rfl, q4]
    rw [pl_step l i hi, ← hz]
    exact ih (i + 1) f (by omega) (by omega)
theorem gdrop (l : List Nat) (p i : Nat) : l.getD (p + i) 0 = (l.drop p).getD i 0 := by rw [List.getD_eq_getElem?_getD, List.getD_eq_getElem?_getD, List.getElem?_drop]

theorem d20_out {R : Type} (N : Nat) (kk : AV → Heap → Option R) (H K v : List Nat) (o n : Nat) (tot : Int) (m : Nat) (l : List Nat) (hH : H.length = 8) (hv : v.length = 8) : ∀ (d i f : Nat), i + d = 8 → d < f →
    g20a_L25 realA N kk f (i : Int) (adp H v i ++ K) o n tot m l v = kk (.tup []) [(0, ⟨[.nums .u64 88 (ad8 H v ++ K), .one (.sl 1 (some o) n 1), .one (.int .i64 tot)], 45, 1⟩), (1, ⟨[.nums .u8 m l], 5, 2⟩), (14004, (bU 8 v 42))] := by
  intro d
  induction d with
  | zero =>
    intro i f h hf
    obtain ⟨f, rfl⟩ : ∃ q, f = q + 1 := ⟨f - 1, by omega⟩
    obtain rfl : i = 8 := by omega
    rw [g20a_L25, ar_lss, decide_eq_false (by omega), adp_8]
  | succ d ih =>
    intro i f h hf
    obtain ⟨f, rfl⟩ : ∃ q, f = q + 1 := ⟨f - 1, by omega⟩
    have hi : i < 8 := by omega
    have e1 : realA.ib .add .i64 (i : Int) 1 = ((i + 1 : Nat) : Int) := by rw [ar_add (by omega)]; omega
    rw [g20a_L25, ar_lss, decide_eq_true (show (i : Int) < 8 by omega)]
    simp only [g20a_J26, ar_negN, ar_toNN, ar_lt, decide_eq_true hi, e1, ar_nadd, pw64 _ rfl]
    have hs : (adp H v i ++ K).set i (((adp H v i ++ K).getD i 0 + v.getD i 0) % B64) = adp H v (i + 1) ++ K := by
      rw [get_app_l (by rw [adp_len]; exact hi), List.set_append_left _ _ (by rw [adp_len]; exact hi), adp_step H v i hi]
    rw [hs]
    exact ih (i + 1) f (by omega) (by omega)
theorem d20_rounds {R : Type} (N : Nat) (kk : AV → Heap → Option R) (H W : List Nat) (o n : Nat) (tot : Int) (m : Nat) (l : List Nat) (hH : H.length = 8) (hN : 8 < N) : ∀ (d i f : Nat), i + d = 80 → d < f →
    g20a_L15 realA N kk f (i : Int) (H ++ K80) o n tot m l W (rd W H i) = kk (.tup []) [(0, ⟨[.nums .u64 88 (ad8 H (rd W H 80) ++ K80), .one (.sl 1 (some o) n 1), .one (.int .i64 tot)], 45, 1⟩), (1, ⟨[.nums .u8 m l], 5, 2⟩), (14004, (bU 8 (rd W H 80) 42))] := by
  intro d
  induction d with
  | zero =>
    intro i f h hf
    obtain ⟨f, rfl⟩ : ∃ q, f = q + 1 := ⟨f - 1, by omega⟩
    obtain rfl : i = 80 := by omega
    rw [g20a_L15, ar_lss, decide_eq_false (by omega)]
    simp only [g20a_J24]
    have := d20_out N kk H K80 (rd W H 80) o n tot m l hH (rd_len _ _ hH _) 8 0 N (by omega) (by omega)
    rw [adp_0 _ _ hH] at this
    exact this
  | succ d ih =>
    intro i f h hf
    obtain ⟨f, rfl⟩ : ∃ q, f = q + 1 := ⟨f - 1, by omega⟩
    have hi : i < 80 := by omega
    have e1 : realA.ib .add .i64 (i : Int) 1 = ((i + 1 : Nat) : Int) := by rw [ar_add (by omega)]; omega
    rw [g20a_L15, ar_lss, decide_eq_true (show (i : Int) < 80 by omega)]
    simp only [g20a_J16, ar_negN, ar_toNN, ar_lt, decide_eq_true hi, e1, t27_19, t27_61, t27_1, t27_8, t27_14, t27_18, t27_41, t27_28, t27_34, t27_39, k27_19, k27_61, k27_1, k27_8, k27_14, k27_18, k27_41, k27_28, k27_34, k27_39, get_app_r hH]
    exact ih (i + 1) f (by omega) (by omega)
theorem d20_expand {R : Type} (N : Nat) (kk : AV → Heap → Option R) (H b : List Nat) (o n : Nat) (tot : Int) (m : Nat) (l : List Nat) (hH : H.length = 8) (hN : 80 < N) : ∀ (d i f : Nat), i + d = 64 → d < f →
    g20a_L7 realA N kk f ((16 + i : Nat) : Int) (H ++ K80) o n tot m l (ew b i) = kk (.tup []) [(0, ⟨[.nums .u64 88 (comp H b ++ K80), .one (.sl 1 (some o) n 1), .one (.int .i64 tot)], 45, 1⟩), (1, ⟨[.nums .u8 m l], 5, 2⟩), (14004, (bU 8 (rd (ew b 64) H 80) 42))] := by
  intro d
  induction d with
  | zero =>
    intro i f h hf
    obtain ⟨f, rfl⟩ : ∃ q, f = q + 1 := ⟨f - 1, by omega⟩
    obtain rfl : i = 64 := by omega
    rw [g20a_L7, ar_lss, decide_eq_false (by omega)]
    simp only [g20a_J13]
    have h0 : ((H ++ K80).drop 0).take 8 = H := by rw [List.drop_zero, ← hH, List.take_left']; rfl
    rw [h0]
    exact d20_rounds N kk H (ew b 64) o n tot m l hH (by omega) 80 0 N (by omega) (by omega)
  | succ d ih =>
    intro i f h hf
    obtain ⟨f, rfl⟩ : ∃ q, f = q + 1 := ⟨f - 1, by omega⟩
    have e1 : realA.ib .add .i64 ((16 + i : Nat) : Int) 1 = ((16 + (i + 1) : Nat) : Int) := by rw [ar_add (by omega)]; omega
    have s2 : realA.ib .sub .i64 ((16 + i : Nat) : Int) 2 = ((16 + i - 2 : Nat) : Int) := by rw [ar_sub (by omega)]; omega
    have s7 : realA.ib .sub .i64 ((16 + i : Nat) : Int) 7 = ((16 + i - 7 : Nat) : Int) := by rw [ar_sub (by omega)]; omega
    have s15 : realA.ib .sub .i64 ((16 + i : Nat) : Int) 15 = ((16 + i - 15 : Nat) : Int) := by rw [ar_sub (by omega)]; omega
    have s16 : realA.ib .sub .i64 ((16 + i : Nat) : Int) 16 = ((16 + i - 16 : Nat) : Int) := by rw [ar_sub (by omega)]; omega
    have hl : 16 + i < (ew b i).length := by rw [ew_len]; omega
    rw [g20a_L7, ar_lss, decide_eq_true (show ((16 + i : Nat) : Int) < 80 by omega)]
    simp only [g20a_J9, s2, s7, s15, s16, e1, ar_negN, ar_toNN, ar_lt, decide_eq_true (show 16 + i - 2 < 80 by omega), decide_eq_true (show 16 + i - 7 < 80 by omega), decide_eq_true (show 16 + i - 15 < 80 by omega), decide_eq_true (show 16 + i - 16 < 80 by omega), decide_eq_true (show 16 + i < 80 by omega), t27_19, t27_61, t27_1, t27_8, t27_14, t27_18, t27_41, t27_28, t27_34, t27_39, k27_19, k27_61, k27_1, k27_8, k27_14, k27_18, k27_41, k27_28, k27_34, k27_39, List.set_set, get_set_self hl, ar_nadd, pw64 _ rfl]
    exact ih (i + 1) f (by omega) (by omega)
theorem d20_load {R : Type} (N : Nat) (kk : AV → Heap → Option R) (H : List Nat) (p z o n : Nat) (tot : Int) (m : Nat) (l : List Nat) (hH : H.length = 8) (hN : 128 < N) (hz : z = 128) : ∀ (d i f : Nat), i + d = 128 → d < f →
    g20a_L2 realA N kk f p z (i : Int) (H ++ K80) o n tot m l (pl (l.drop p) i) = kk (.tup []) [(0, ⟨[.nums .u64 88 (comp H (l.drop p) ++ K80), .one (.sl 1 (some o) n 1), .one (.int .i64 tot)], 45, 1⟩), (1, ⟨[.nums .u8 m l], 5, 2⟩), (14004, (bU 8 (rd (ew (l.drop p) 64) H 80) 42))] := by
  intro d
  induction d with
  | zero =>
    intro i f h hf
    obtain ⟨f, rfl⟩ : ∃ q, f = q + 1 := ⟨f - 1, by omega⟩
    obtain rfl : i = 128 := by omega
    rw [g20a_L2, ar_lss, decide_eq_false (by omega)]
    simp only [g20a_J6]
    exact d20_expand N kk H (l.drop p) o n tot m l hH (by omega) 64 0 N (by omega) (by omega)
  | succ d ih =>
    intro i f h hf
    obtain ⟨f, rfl⟩ : ∃ q, f = q + 1 := ⟨f - 1, by omega⟩
    have hi : i < 128 := by omega
    have e1 : realA.ib .add .i64 (i : Int) 1 = ((i + 1 : Nat) : Int) := by rw [ar_add (by omega)]; omega
    have q1 : realA.ib .quo .i64 (i : Int) 8 = ((i / 8 : Nat) : Int) := by rw [ar_quo (by omega) (by omega) (by omega)]; omega
    have q4 : ∀ x y, realA.nb .or .u64 x y = x ||| y := fun _ _ => rfl
    rw [g20a_L2, ar_lss, decide_eq_true (show (i : Int) < 128 by omega)]
    simp only [g20a_J3, q1, ar_negN, ar_toNN, ar_lt, decide_eq_true (show i / 8 < 80 by omega), hz, decide_eq_true hi, e1, ar_nshl, pw64 _ rfl, q4, gdrop]
    rw [pl_step (l.drop p) i hi, ← hz]
    exact ih (i + 1) f (by omega) (by omega)
end Go.Sx
