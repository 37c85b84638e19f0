import Derived.Test.YtaiehobmadflkaaSxN02c
import Derived.Test.YtaiehobmadflkaaSxR02c
namespace Go.Sx
def rt (x n : Nat) : Nat := (x * 2 ^ (64 - n)) % B64 ||| x / 2 ^ n
theorem g27g0_some (y : Nat) : g27g0 (some (u64v y)) = y := rfl
theorem g27is_some (y : Nat) : g27is (some (u64v y)) = true := rfl
theorem q4or (x y : Nat) : realA.nb .or .u64 x y = x ||| y := rfl
theorem q4and (x y : Nat) : realA.nb .and .u64 x y = x &&& y := rfl
theorem q4xor (x y : Nat) : realA.nb .xor .u64 x y = x ^^^ y := rfl
theorem a27_19 : realA.nb .and .u64 (realA.i2n .u64 (-19)) 63 = 45 := by decide +kernel
theorem b27_19 : realA.nb .sub .u64 64 45 = 19 := by decide +kernel
theorem h27_19 (x : Nat) : g27v realA x (-19) = some (u64v (rt x 19)) := by
  unfold g27v g27 rt
  rw [a27_19, b27_19, ar_nshl, ar_nshr, pw64 _ rfl, q4or]
theorem t27_19 (x : Nat) : g27r0 realA x (-19) = rt x 19 := (congrArg g27g0 (h27_19 x)).trans (g27g0_some _)
theorem k27_19 (x : Nat) : g27ok realA x (-19) = true := (congrArg g27is (h27_19 x)).trans (g27is_some _)
theorem a27_61 : realA.nb .and .u64 (realA.i2n .u64 (-61)) 63 = 3 := by decide +kernel
theorem b27_61 : realA.nb .sub .u64 64 3 = 61 := by decide +kernel
theorem h27_61 (x : Nat) : g27v realA x (-61) = some (u64v (rt x 61)) := by
  unfold g27v g27 rt
  rw [a27_61, b27_61, ar_nshl, ar_nshr, pw64 _ rfl, q4or]
theorem t27_61 (x : Nat) : g27r0 realA x (-61) = rt x 61 := (congrArg g27g0 (h27_61 x)).trans (g27g0_some _)
theorem k27_61 (x : Nat) : g27ok realA x (-61) = true := (congrArg g27is (h27_61 x)).trans (g27is_some _)
theorem a27_1 : realA.nb .and .u64 (realA.i2n .u64 (-1)) 63 = 63 := by decide +kernel
theorem b27_1 : realA.nb .sub .u64 64 63 = 1 := by decide +kernel
theorem h27_1 (x : Nat) : g27v realA x (-1) = some (u64v (rt x 1)) := by
  unfold g27v g27 rt
  rw [a27_1, b27_1, ar_nshl, ar_nshr, pw64 _ rfl, q4or]
theorem t27_1 (x : Nat) : g27r0 realA x (-1) = rt x 1 := (congrArg g27g0 (h27_1 x)).trans (g27g0_some _)
theorem k27_1 (x : Nat) : g27ok realA x (-1) = true := (congrArg g27is (h27_1 x)).trans (g27is_some _)
theorem a27_8 : realA.nb .and .u64 (realA.i2n .u64 (-8)) 63 = 56 := by decide +kernel
theorem b27_8 : realA.nb .sub .u64 64 56 = 8 := by decide +kernel
theorem h27_8 (x : Nat) : g27v realA x (-8) = some (u64v (rt x 8)) := by
  unfold g27v g27 rt
  rw [a27_8, b27_8, ar_nshl, ar_nshr, pw64 _ rfl, q4or]
theorem t27_8 (x : Nat) : g27r0 realA x (-8) = rt x 8 := (congrArg g27g0 (h27_8 x)).trans (g27g0_some _)
theorem k27_8 (x : Nat) : g27ok realA x (-8) = true := (congrArg g27is (h27_8 x)).trans (g27is_some _)
theorem a27_14 : realA.nb .and .u64 (realA.i2n .u64 (-14)) 63 = 50 := by decide +kernel
theorem b27_14 : realA.nb .sub .u64 64 50 = 14 := by decide +kernel
theorem h27_14 (x : Nat) : g27v realA x (-14) = some (u64v (rt x 14)) := by
  unfold g27v g27 rt
  rw [a27_14, b27_14, ar_nshl, ar_nshr, pw64 _ rfl, q4or]
theorem t27_14 (x : Nat) : g27r0 realA x (-14) = rt x 14 := (congrArg g27g0 (h27_14 x)).trans (g27g0_some _)
theorem k27_14 (x : Nat) : g27ok realA x (-14) = true := (congrArg g27is (h27_14 x)).trans (g27is_some _)
theorem a27_18 : realA.nb .and .u64 (realA.i2n .u64 (-18)) 63 = 46 := by decide +kernel
theorem b27_18 : realA.nb .sub .u64 64 46 = 18 := by decide +kernel
theorem h27_18 (x : Nat) : g27v realA x (-18) = some (u64v (rt x 18)) := by
  unfold g27v g27 rt
  rw [a27_18, b27_18, ar_nshl, ar_nshr, pw64 _ rfl, q4or]
theorem t27_18 (x : Nat) : g27r0 realA x (-18) = rt x 18 := (congrArg g27g0 (h27_18 x)).trans (g27g0_some _)
theorem k27_18 (x : Nat) : g27ok realA x (-18) = true := (congrArg g27is (h27_18 x)).trans (g27is_some _)
theorem a27_41 : realA.nb .and .u64 (realA.i2n .u64 (-41)) 63 = 23 := by decide +kernel
theorem b27_41 : realA.nb .sub .u64 64 23 = 41 := by decide +kernel
theorem h27_41 (x : Nat) : g27v realA x (-41) = some (u64v (rt x 41)) := by
  unfold g27v g27 rt
  rw [a27_41, b27_41, ar_nshl, ar_nshr, pw64 _ rfl, q4or]
theorem t27_41 (x : Nat) : g27r0 realA x (-41) = rt x 41 := (congrArg g27g0 (h27_41 x)).trans (g27g0_some _)
theorem k27_41 (x : Nat) : g27ok realA x (-41) = true := (congrArg g27is (h27_41 x)).trans (g27is_some _)
theorem a27_28 : realA.nb .and .u64 (realA.i2n .u64 (-28)) 63 = 36 := by decide +kernel
theorem b27_28 : realA.nb .sub .u64 64 36 = 28 := by decide +kernel
theorem h27_28 (x : Nat) : g27v realA x (-28) = some (u64v (rt x 28)) := by
  unfold g27v g27 rt
  rw [a27_28, b27_28, ar_nshl, ar_nshr, pw64 _ rfl, q4or]
theorem t27_28 (x : Nat) : g27r0 realA x (-28) = rt x 28 := (congrArg g27g0 (h27_28 x)).trans (g27g0_some _)
theorem k27_28 (x : Nat) : g27ok realA x (-28) = true := (congrArg g27is (h27_28 x)).trans (g27is_some _)
theorem a27_34 : realA.nb .and .u64 (realA.i2n .u64 (-34)) 63 = 30 := by decide +kernel
theorem b27_34 : realA.nb .sub .u64 64 30 = 34 := by decide +kernel
theorem h27_34 (x : Nat) : g27v realA x (-34) = some (u64v (rt x 34)) := by
  unfold g27v g27 rt
  rw [a27_34, b27_34, ar_nshl, ar_nshr, pw64 _ rfl, q4or]
theorem t27_34 (x : Nat) : g27r0 realA x (-34) = rt x 34 := (congrArg g27g0 (h27_34 x)).trans (g27g0_some _)
theorem k27_34 (x : Nat) : g27ok realA x (-34) = true := (congrArg g27is (h27_34 x)).trans (g27is_some _)
theorem a27_39 : realA.nb .and .u64 (realA.i2n .u64 (-39)) 63 = 25 := by decide +kernel
theorem b27_39 : realA.nb .sub .u64 64 25 = 39 := by decide +kernel
theorem h27_39 (x : Nat) : g27v realA x (-39) = some (u64v (rt x 39)) := by
  unfold g27v g27 rt
  rw [a27_39, b27_39, ar_nshl, ar_nshr, pw64 _ rfl, q4or]
theorem t27_39 (x : Nat) : g27r0 realA x (-39) = rt x 39 := (congrArg g27g0 (h27_39 x)).trans (g27g0_some _)
theorem k27_39 (x : Nat) : g27ok realA x (-39) = true := (congrArg g27is (h27_39 x)).trans (g27is_some _)

def sg1 (e : Nat) : Nat := (rt e 14 ^^^ rt e 18) ^^^ rt e 41
def sg0 (a : Nat) : Nat := (rt a 28 ^^^ rt a 34) ^^^ rt a 39
def tf (k w : Nat) (v : List Nat) : Nat := ((((v.getD 7 0 + k) % B64 + w) % B64 + (v.getD 6 0 ^^^ (v.getD 4 0 &&& (v.getD 5 0 ^^^ v.getD 6 0)))) % B64 + sg1 (v.getD 4 0)) % B64
def uf (v : List Nat) : Nat := (((v.getD 0 0 &&& v.getD 1 0) ||| (v.getD 2 0 &&& (v.getD 0 0 ||| v.getD 1 0))) + sg0 (v.getD 0 0)) % B64
def rs (k w : Nat) (v : List Nat) : List Nat := [(tf k w v + uf v) % B64, v.getD 0 0, v.getD 1 0, v.getD 2 0, (v.getD 3 0 + tf k w v) % B64, v.getD 4 0, v.getD 5 0, v.getD 6 0]
def nx (w : List Nat) (i : Nat) : Nat := (((w.getD (i - 7) 0 + w.getD (i - 16) 0) % B64 + ((rt (w.getD (i - 2) 0) 19 ^^^ rt (w.getD (i - 2) 0) 61) ^^^ w.getD (i - 2) 0 / 2 ^ 6)) % B64 + ((rt (w.getD (i - 15) 0) 1 ^^^ rt (w.getD (i - 15) 0) 8) ^^^ w.getD (i - 15) 0 / 2 ^ 7)) % B64
def wd (b : List Nat) (j : Nat) : Nat → Nat
  | 0 => 0
  | k + 1 => (wd b j k * 2 ^ 8) % B64 ||| b.getD (8 * j + k) 0
def pl (b : List Nat) (i : Nat) : List Nat := (List.range 80).map fun j => wd b j (min 8 (i - 8 * j))
theorem pl_len (b : List Nat) (i : Nat) : (pl b i).length = 80 := by simp [pl]
theorem pl_get (b : List Nat) (i j : Nat) (h : j < 80) : (pl b i).getD j 0 = wd b j (min 8 (i - 8 * j)) := by
  unfold pl
  rw [List.getD_eq_getElem?_getD, List.getElem?_map, List.getElem?_range h]; rfl
theorem pl_step (b : List Nat) (i : Nat) (h : i < 128) : (pl b i).set (i / 8) (((pl b i).getD (i / 8) 0 * 2 ^ 8) % B64 ||| b.getD i 0) = pl b (i + 1) := by
  rw [pl_get b i _ (by omega)]
  apply List.ext_getElem?
  intro j
  by_cases hj : j < 80
  · have hr : ∀ k, (pl b k)[j]? = some (wd b j (min 8 (k - 8 * j))) := by
      intro k
      unfold pl
      rw [List.getElem?_map, List.getElem?_range hj]; rfl
    by_cases e : j = i / 8
    · subst e
      rw [List.getElem?_set_self (by rw [pl_len]; omega), hr]
      have h1 : min 8 (i - 8 * (i / 8)) = i % 8 := by omega
      have h2 : min 8 (i + 1 - 8 * (i / 8)) = i % 8 + 1 := by omega
      rw [h1, h2, wd, show 8 * (i / 8) + i % 8 = i by omega]
    · rw [List.getElem?_set_ne (fun h => e h.symm), hr, hr]
      congr 2
      omega
  · rw [List.getElem?_eq_none (by rw [List.length_set, pl_len]; omega), List.getElem?_eq_none (by rw [pl_len]; omega)]
def ew (b : List Nat) : Nat → List Nat
  | 0 => pl b 128
  | n + 1 => (ew b n).set (16 + n) (nx (ew b n) (16 + n))
theorem ew_len (b : List Nat) (n : Nat) : (ew b n).length = 80 := by
  induction n with
  | zero => exact pl_len b 128
  | succ n ih => rw [ew, List.length_set, ih]
def rd (W : List Nat) (v : List Nat) : Nat → List Nat
  | 0 => v
  | n + 1 => rs (K80.getD n 0) (W.getD n 0) (rd W v n)
theorem rd_len (W v : List Nat) (h : v.length = 8) (n : Nat) : (rd W v n).length = 8 := by
  cases n with
  | zero => exact h
  | succ n => rfl
def ad8 (H v : List Nat) : List Nat := (List.range 8).map fun i => (H.getD i 0 + v.getD i 0) % B64
def comp (H b : List Nat) : List Nat := ad8 H (rd (ew b 64) H 80)
theorem comp_len (H b : List Nat) : (comp H b).length = 8 := by simp [comp, ad8]
theorem get_set_self {l : List Nat} {i u : Nat} (h : i < l.length) : (l.set i u).getD i 0 = u := by rw [List.getD_eq_getElem?_getD, List.getElem?_set_self h]; rfl
theorem get_app_r {H K : List Nat} (h : H.length = 8) (i : Nat) : (H ++ K).getD (8 + i) 0 = K.getD i 0 := by
  rw [List.getD_eq_getElem?_getD, List.getElem?_append_right (by omega), h, show 8 + i - 8 = i by omega, ← List.getD_eq_getElem?_getD]
theorem get_app_l {H K : List Nat} {i : Nat} (h : i < H.length) : (H ++ K).getD i 0 = H.getD i 0 := by
  rw [List.getD_eq_getElem?_getD, List.getElem?_append_left h, ← List.getD_eq_getElem?_getD]
def adp (H v : List Nat) (i : Nat) : List Nat := (List.range 8).map fun j => if j < i then (H.getD j 0 + v.getD j 0) % B64 else H.getD j 0
theorem adp_len (H v : List Nat) (i : Nat) : (adp H v i).length = 8 := by simp [adp]
theorem adp_get (H v : List Nat) (i j : Nat) (h : j < 8) : (adp H v i)[j]? = some (if j < i then (H.getD j 0 + v.getD j 0) % B64 else H.getD j 0) := by
  unfold adp
  rw [List.getElem?_map, List.getElem?_range h]; rfl
theorem adp_step (H v : List Nat) (i : Nat) (h : i < 8) : (adp H v i).set i (((adp H v i).getD i 0 + v.getD i 0) % B64) = adp H v (i + 1) := by
  have hi : (adp H v i).getD i 0 = H.getD i 0 := by
    rw [List.getD_eq_getElem?_getD, adp_get H v i i h, if_neg (Nat.lt_irrefl i)]; rfl
  rw [hi]
  apply List.ext_getElem?
  intro j
  by_cases hj : j < 8
  · by_cases e : j = i
    · subst e
      rw [List.getElem?_set_self (by rw [adp_len]; exact hj), adp_get _ _ _ _ hj, if_pos (by omega)]
    · rw [List.getElem?_set_ne (fun h => e h.symm), adp_get _ _ _ _ hj, adp_get _ _ _ _ hj]
      by_cases h2 : j < i
      · rw [if_pos h2, if_pos (by omega)]
      · rw [if_neg h2, if_neg (by omega)]
  · rw [List.getElem?_eq_none (by rw [List.length_set, adp_len]; omega), List.getElem?_eq_none (by rw [adp_len]; omega)]
theorem adp_0 (H v : List Nat) (h : H.length = 8) : adp H v 0 = H := by
  apply List.ext_getElem?
  intro j
  by_cases hj : j < 8
  · rw [adp_get _ _ _ _ hj, if_neg (by omega), List.getD_eq_getElem?_getD, List.getElem?_eq_getElem (by omega)]; rfl
  · rw [List.getElem?_eq_none (by rw [adp_len]; omega), List.getElem?_eq_none (by omega)]
theorem adp_8 (H v : List Nat) : adp H v 8 = ad8 H v := by
  unfold adp ad8
  apply List.map_congr_left
  intro j hj
  rw [if_pos (List.mem_range.1 hj)]

theorem c20_out {R : Type} (N : Nat) (kk : AV → Heap → Option R) (H K v : List Nat) (n : Nat) (tot : Int) (m : Nat) (l : List Nat) (hH : H.length = 8) (hv : v.length = 8) : ∀ (d i f : Nat), i + d = 8 → d < f →
    g20L25 realA N kk f (i : Int) (adp H v i ++ K)  n tot m l v = kk (.tup []) [(0, ⟨[.nums .u64 88 (ad8 H v ++ K), .one (.sl 1 none n 1), .one (.int .i64 tot)], 45, 1⟩), (1, ⟨[.nums .u8 m l], 5, 2⟩), (14004, (bU 8 v 42))] := by
  intro d
  induction d with
  | zero =>
    intro i f h hf
    obtain ⟨f, rfl⟩ : ∃ q, f = q + 1 := ⟨f - 1, by omega⟩
    obtain rfl : i = 8 := by omega
    rw [g20L25, ar_lss, decide_eq_false (by omega), adp_8]
  | succ d ih =>
    intro i f h hf
    obtain ⟨f, rfl⟩ : ∃ q, f = q + 1 := ⟨f - 1, by omega⟩
    have hi : i < 8 := by omega
    have e1 : realA.ib .add .i64 (i : Int) 1 = ((i + 1 : Nat) : Int) := by rw [ar_add (by omega)]; omega
    rw [g20L25, ar_lss, decide_eq_true (show (i : Int) < 8 by omega)]
    simp only [g20J26, ar_negN, ar_toNN, ar_lt, decide_eq_true hi, e1, ar_nadd, pw64 _ rfl]
    have hs : (adp H v i ++ K).set i (((adp H v i ++ K).getD i 0 + v.getD i 0) % B64) = adp H v (i + 1) ++ K := by
      rw [get_app_l (by rw [adp_len]; exact hi), List.set_append_left _ _ (by rw [adp_len]; exact hi), adp_step H v i hi]
    rw [hs]
    exact ih (i + 1) f (by omega) (by omega)
theorem c20_rounds {R : Type} (N : Nat) (kk : AV → Heap → Option R) (H W : List Nat) (n : Nat) (tot : Int) (m : Nat) (l : List Nat) (hH : H.length = 8) (hN : 8 < N) : ∀ (d i f : Nat), i + d = 80 → d < f →
    g20L15 realA N kk f (i : Int) (H ++ K80)  n tot m l W (rd W H i) = kk (.tup []) [(0, ⟨[.nums .u64 88 (ad8 H (rd W H 80) ++ K80), .one (.sl 1 none n 1), .one (.int .i64 tot)], 45, 1⟩), (1, ⟨[.nums .u8 m l], 5, 2⟩), (14004, (bU 8 (rd W H 80) 42))] := by
  intro d
  induction d with
  | zero =>
    intro i f h hf
    obtain ⟨f, rfl⟩ : ∃ q, f = q + 1 := ⟨f - 1, by omega⟩
    obtain rfl : i = 80 := by omega
    rw [g20L15, ar_lss, decide_eq_false (by omega)]
    simp only [g20J24]
    have := c20_out N kk H K80 (rd W H 80)  n tot m l hH (rd_len _ _ hH _) 8 0 N (by omega) (by omega)
    rw [adp_0 _ _ hH] at this
    exact this
  | succ d ih =>
    intro i f h hf
    obtain ⟨f, rfl⟩ : ∃ q, f = q + 1 := ⟨f - 1, by omega⟩
    have hi : i < 80 := by omega
    have e1 : realA.ib .add .i64 (i : Int) 1 = ((i + 1 : Nat) : Int) := by rw [ar_add (by omega)]; omega
    rw [g20L15, ar_lss, decide_eq_true (show (i : Int) < 80 by omega)]
    simp only [g20J16, ar_negN, ar_toNN, ar_lt, decide_eq_true hi, e1, t27_19, t27_61, t27_1, t27_8, t27_14, t27_18, t27_41, t27_28, t27_34, t27_39, k27_19, k27_61, k27_1, k27_8, k27_14, k27_18, k27_41, k27_28, k27_34, k27_39, get_app_r hH]
    exact ih (i + 1) f (by omega) (by omega)
theorem c20_expand {R : Type} (N : Nat) (kk : AV → Heap → Option R) (H b : List Nat) (n : Nat) (tot : Int) (m : Nat) (l : List Nat) (hH : H.length = 8) (hN : 80 < N) : ∀ (d i f : Nat), i + d = 64 → d < f →
    g20L7 realA N kk f ((16 + i : Nat) : Int) (H ++ K80)  n tot m l (ew b i) = kk (.tup []) [(0, ⟨[.nums .u64 88 (comp H b ++ K80), .one (.sl 1 none n 1), .one (.int .i64 tot)], 45, 1⟩), (1, ⟨[.nums .u8 m l], 5, 2⟩), (14004, (bU 8 (rd (ew b 64) H 80) 42))] := by
  intro d
  induction d with
  | zero =>
    intro i f h hf
    obtain ⟨f, rfl⟩ : ∃ q, f = q + 1 := ⟨f - 1, by omega⟩
    obtain rfl : i = 64 := by omega
    rw [g20L7, ar_lss, decide_eq_false (by omega)]
    simp only [g20J13]
    have h0 : ((H ++ K80).drop 0).take 8 = H := by rw [List.drop_zero, ← hH, List.take_left']; rfl
    rw [h0]
    exact c20_rounds N kk H (ew b 64)  n tot m l hH (by omega) 80 0 N (by omega) (by omega)
  | succ d ih =>
    intro i f h hf
    obtain ⟨f, rfl⟩ : ∃ q, f = q + 1 := ⟨f - 1, by omega⟩
    have e1 : realA.ib .add .i64 ((16 + i : Nat) : Int) 1 = ((16 + (i + 1) : Nat) : Int) := by rw [ar_add (by omega)]; omega
    have s2 : realA.ib .sub .i64 ((16 + i : Nat) : Int) 2 = ((16 + i - 2 : Nat) : Int) := by rw [ar_sub (by omega)]; omega
    have s7 : realA.ib .sub .i64 ((16 + i : Nat) : Int) 7 = ((16 + i - 7 : Nat) : Int) := by rw [ar_sub (by omega)]; omega
    have s15 : realA.ib .sub .i64 ((16 + i : Nat) : Int) 15 = ((16 + i - 15 : Nat) : Int) := by rw [ar_sub (by omega)]; omega
    have s16 : realA.ib .sub .i64 ((16 + i : Nat) : Int) 16 = ((16 + i - 16 : Nat) : Int) := by rw [ar_sub (by omega)]; omega
    have hl : 16 + i < (ew b i).length := by rw [ew_len]; omega
    rw [g20L7, ar_lss, decide_eq_true (show ((16 + i : Nat) : Int) < 80 by omega)]
    simp only [g20J9, s2, s7, s15, s16, e1, ar_negN, ar_toNN, ar_lt, decide_eq_true (show 16 + i - 2 < 80 by omega), decide_eq_true (show 16 + i - 7 < 80 by omega), decide_eq_true (show 16 + i - 15 < 80 by omega), decide_eq_true (show 16 + i - 16 < 80 by omega), decide_eq_true (show 16 + i < 80 by omega), t27_19, t27_61, t27_1, t27_8, t27_14, t27_18, t27_41, t27_28, t27_34, t27_39, k27_19, k27_61, k27_1, k27_8, k27_14, k27_18, k27_41, k27_28, k27_34, k27_39, List.set_set, get_set_self hl, ar_nadd, pw64 _ rfl]
    exact ih (i + 1) f (by omega) (by omega)
theorem c20_load {R : Type} (N : Nat) (kk : AV → Heap → Option R) (H : List Nat) (z n : Nat) (tot : Int) (m : Nat) (l : List Nat) (hH : H.length = 8) (hN : 128 < N) (hz : z = 128) : ∀ (d i f : Nat), i + d = 128 → d < f →
    g20L2 realA N kk f z (i : Int) (H ++ K80)  n tot m l (pl l i) = kk (.tup []) [(0, ⟨[.nums .u64 88 (comp H l ++ K80), .one (.sl 1 none n 1), .one (.int .i64 tot)], 45, 1⟩), (1, ⟨[.nums .u8 m l], 5, 2⟩), (14004, (bU 8 (rd (ew l 64) H 80) 42))] := by
  intro d
  induction d with
  | zero =>
    intro i f h hf
    obtain ⟨f, rfl⟩ : ∃ q, f = q + 1 := ⟨f - 1, by omega⟩
    obtain rfl : i = 128 := by omega
    rw [g20L2, ar_lss, decide_eq_false (by omega)]
    simp only [g20J6]
    exact c20_expand N kk H l  n tot m l hH (by omega) 64 0 N (by omega) (by omega)
  | succ d ih =>
    intro i f h hf
    obtain ⟨f, rfl⟩ : ∃ q, f = q + 1 := ⟨f - 1, by omega⟩
    have hi : i < 128 := by omega
    have e1 : realA.ib .add .i64 (i : Int) 1 = ((i + 1 : Nat) : Int) := by rw [ar_add (by omega)]; omega
    have q1 : realA.ib .quo .i64 (i : Int) 8 = ((i / 8 : Nat) : Int) := by rw [ar_quo (by omega) (by omega) (by omega)]; omega
    have q4 : ∀ x y, realA.nb .or .u64 x y = x ||| y := fun _ _ => rfl
    rw [g20L2, ar_lss, decide_eq_true (show (i : Int) < 128 by omega)]
    simp only [g20J3, q1, ar_negN, ar_toNN, ar_lt, decide_eq_true (show i / 8 < 80 by omega), hz, decide_eq_true hi, e1, ar_nshl, pw64 _ rfl, q4]
    rw [pl_step l i hi, ← hz]
    exact ih (i + 1) f (by omega) (by omega)
theorem gdrop (l : List Nat) (p i : Nat) : l.getD (p + i) 0 = (l.drop p).getD i 0 := by rw [List.getD_eq_getElem?_getD, List.getD_eq_getElem?_getD, List.getElem?_drop]

theorem d20_out {R : Type} (N : Nat) (kk : AV → Heap → Option R) (H K v : List Nat) (o n : Nat) (tot : Int) (m : Nat) (l : List Nat) (hH : H.length = 8) (hv : v.length = 8) : ∀ (d i f : Nat), i + d = 8 → d < f →
    g20a_L25 realA N kk f (i : Int) (adp H v i ++ K) o n tot m l v = kk (.tup []) [(0, ⟨[.nums .u64 88 (ad8 H v ++ K), .one (.sl 1 (some o) n 1), .one (.int .i64 tot)], 45, 1⟩), (1, ⟨[.nums .u8 m l], 5, 2⟩), (14004, (bU 8 v 42))] := by
  intro d
  induction d with
  | zero =>
    intro i f h hf
    obtain ⟨f, rfl⟩ : ∃ q, f = q + 1 := ⟨f - 1, by omega⟩
    obtain rfl : i = 8 := by omega
    rw [g20a_L25, ar_lss, decide_eq_false (by omega), adp_8]
  | succ d ih =>
    intro i f h hf
    obtain ⟨f, rfl⟩ : ∃ q, f = q + 1 := ⟨f - 1, by omega⟩
    have hi : i < 8 := by omega
    have e1 : realA.ib .add .i64 (i : Int) 1 = ((i + 1 : Nat) : Int) := by rw [ar_add (by omega)]; omega
    rw [g20a_L25, ar_lss, decide_eq_true (show (i : Int) < 8 by omega)]
    simp only [g20a_J26, ar_negN, ar_toNN, ar_lt, decide_eq_true hi, e1, ar_nadd, pw64 _ rfl]
    have hs : (adp H v i ++ K).set i (((adp H v i ++ K).getD i 0 + v.getD i 0) % B64) = adp H v (i + 1) ++ K := by
      rw [get_app_l (by rw [adp_len]; exact hi), List.set_append_left _ _ (by rw [adp_len]; exact hi), adp_step H v i hi]
    rw [hs]
    exact ih (i + 1) f (by omega) (by omega)
theorem d20_rounds {R : Type} (N : Nat) (kk : AV → Heap → Option R) (H W : List Nat) (o n : Nat) (tot : Int) (m : Nat) (l : List Nat) (hH : H.length = 8) (hN : 8 < N) : ∀ (d i f : Nat), i + d = 80 → d < f →
    g20a_L15 realA N kk f (i : Int) (H ++ K80) o n tot m l W (rd W H i) = kk (.tup []) [(0, ⟨[.nums .u64 88 (ad8 H (rd W H 80) ++ K80), .one (.sl 1 (some o) n 1), .one (.int .i64 tot)], 45, 1⟩), (1, ⟨[.nums .u8 m l], 5, 2⟩), (14004, (bU 8 (rd W H 80) 42))] := by
  intro d
  induction d with
  | zero =>
    intro i f h hf
    obtain ⟨f, rfl⟩ : ∃ q, f = q + 1 := ⟨f - 1, by omega⟩
    obtain rfl : i = 80 := by omega
    rw [g20a_L15, ar_lss, decide_eq_false (by omega)]
    simp only [g20a_J24]
    have := d20_out N kk H K80 (rd W H 80) o n tot m l hH (rd_len _ _ hH _) 8 0 N (by omega) (by omega)
    rw [adp_0 _ _ hH] at this
    exact this
  | succ d ih =>
    intro i f h hf
    obtain ⟨f, rfl⟩ : ∃ q, f = q + 1 := ⟨f - 1, by omega⟩
    have hi : i < 80 := by omega
    have e1 : realA.ib .add .i64 (i : Int) 1 = ((i + 1 : Nat) : Int) := by rw [ar_add (by omega)]; omega
    rw [g20a_L15, ar_lss, decide_eq_true (show (i : Int) < 80 by omega)]
    simp only [g20a_J16, ar_negN, ar_toNN, ar_lt, decide_eq_true hi, e1, t27_19, t27_61, t27_1, t27_8, t27_14, t27_18, t27_41, t27_28, t27_34, t27_39, k27_19, k27_61, k27_1, k27_8, k27_14, k27_18, k27_41, k27_28, k27_34, k27_39, get_app_r hH]
    exact ih (i + 1) f (by omega) (by omega)
theorem d20_expand {R : Type} (N : Nat) (kk : AV → Heap → Option R) (H b : List Nat) (o n : Nat) (tot : Int) (m : Nat) (l : List Nat) (hH : H.length = 8) (hN : 80 < N) : ∀ (d i f : Nat), i + d = 64 → d < f →
    g20a_L7 realA N kk f ((16 + i : Nat) : Int) (H ++ K80) o n tot m l (ew b i) = kk (.tup []) [(0, ⟨[.nums .u64 88 (comp H b ++ K80), .one (.sl 1 (some o) n 1), .one (.int .i64 tot)], 45, 1⟩), (1, ⟨[.nums .u8 m l], 5, 2⟩), (14004, (bU 8 (rd (ew b 64) H 80) 42))] := by
  intro d
  induction d with
  | zero =>
    intro i f h hf
    obtain ⟨f, rfl⟩ : ∃ q, f = q + 1 := ⟨f - 1, by omega⟩
    obtain rfl : i = 64 := by omega
    rw [g20a_L7, ar_lss, decide_eq_false (by omega)]
    simp only [g20a_J13]
    have h0 : ((H ++ K80).drop 0).take 8 = H := by rw [List.drop_zero, ← hH, List.take_left']; rfl
    rw [h0]
    exact d20_rounds N kk H (ew b 64) o n tot m l hH (by omega) 80 0 N (by omega) (by omega)
  | succ d ih =>
    intro i f h hf
    obtain ⟨f, rfl⟩ : ∃ q, f = q + 1 := ⟨f - 1, by omega⟩
    have e1 : realA.ib .add .i64 ((16 + i : Nat) : Int) 1 = ((16 + (i + 1) : Nat) : Int) := by rw [ar_add (by omega)]; omega
    have s2 : realA.ib .sub .i64 ((16 + i : Nat) : Int) 2 = ((16 + i - 2 : Nat) : Int) := by rw [ar_sub (by omega)]; omega
    have s7 : realA.ib .sub .i64 ((16 + i : Nat) : Int) 7 = ((16 + i - 7 : Nat) : Int) := by rw [ar_sub (by omega)]; omega
    have s15 : realA.ib .sub .i64 ((16 + i : Nat) : Int) 15 = ((16 + i - 15 : Nat) : Int) := by rw [ar_sub (by omega)]; omega
    have s16 : realA.ib .sub .i64 ((16 + i : Nat) : Int) 16 = ((16 + i - 16 : Nat) : Int) := by rw [ar_sub (by omega)]; omega
    have hl : 16 + i < (ew b i).length := by rw [ew_len]; omega
    rw [g20a_L7, ar_lss, decide_eq_true (show ((16 + i : Nat) : Int) < 80 by omega)]
    simp only [g20a_J9, s2, s7, s15, s16, e1, ar_negN, ar_toNN, ar_lt, decide_eq_true (show 16 + i - 2 < 80 by omega), decide_eq_true (show 16 + i - 7 < 80 by omega), decide_eq_true (show 16 + i - 15 < 80 by omega), decide_eq_true (show 16 + i - 16 < 80 by omega), decide_eq_true (show 16 + i < 80 by omega), t27_19, t27_61, t27_1, t27_8, t27_14, t27_18, t27_41, t27_28, t27_34, t27_39, k27_19, k27_61, k27_1, k27_8, k27_14, k27_18, k27_41, k27_28, k27_34, k27_39, List.set_set, get_set_self hl, ar_nadd, pw64 _ rfl]
    exact ih (i + 1) f (by omega) (by omega)
theorem d20_load {R : Type} (N : Nat) (kk : AV → Heap → Option R) (H : List Nat) (p z o n : Nat) (tot : Int) (m : Nat) (l : List Nat) (hH : H.length = 8) (hN : 128 < N) (hz : z = 128) : ∀ (d i f : Nat), i + d = 128 → d < f →
    g20a_L2 realA N kk f p z (i : Int) (H ++ K80) o n tot m l (pl (l.drop p) i) = kk (.tup []) [(0, ⟨[.nums .u64 88 (comp H (l.drop p) ++ K80), .one (.sl 1 (some o) n 1), .one (.int .i64 tot)], 45, 1⟩), (1, ⟨[.nums .u8 m l], 5, 2⟩), (14004, (bU 8 (rd (ew (l.drop p) 64) H 80) 42))] := by
  intro d
  induction d with
  | zero =>
    intro i f h hf
    obtain ⟨f, rfl⟩ : ∃ q, f = q + 1 := ⟨f - 1, by omega⟩
    obtain rfl : i = 128 := by omega
    rw [g20a_L2, ar_lss, decide_eq_false (by omega)]
    simp only [g20a_J6]
    exact d20_expand N kk H (l.drop p) o n tot m l hH (by omega) 64 0 N (by omega) (by omega)
  | succ d ih =>
    intro i f h hf
    obtain ⟨f, rfl⟩ : ∃ q, f = q + 1 := ⟨f - 1, by omega⟩
    have hi : i < 128 := by omega
    have e1 : realA.ib .add .i64 (i : Int) 1 = ((i + 1 : Nat) : Int) := by rw [ar_add (by omega)]; omega
    have q1 : realA.ib .quo .i64 (i : Int) 8 = ((i / 8 : Nat) : Int) := by rw [ar_quo (by omega) (by omega) (by omega)]; omega
    have q4 : ∀ x y, realA.nb .or .u64 x y = x ||| y := fun _ _ => rfl
    rw [g20a_L2, ar_lss, decide_eq_true (show (i : Int) < 128 by omega)]
    simp only [g20a_J3, q1, ar_negN, ar_toNN, ar_lt, decide_eq_true (show i / 8 < 80 by omega), hz, decide_eq_true hi, e1, ar_nshl, pw64 _ rfl, q4, gdrop]
    rw [pl_step (l.drop p) i hi, ← hz]
    exact ih (i + 1) f (by omega) (by omega)
end Go.Sx
namespace Go.Sx
theorem pl_0 (b : List Nat) : pl b 0 = [0, 0, 0, 0, 0, 0, 0, 0, 0, 0, 0, 0, 0, 0, 0, 0, 0, 0, 0, 0, 0, 0, 0, 0, 0, 0, 0, 0, 0, 0, 0, 0, 0, 0, 0, 0, 0, 0, 0, 0, 0, 0, 0, 0, 0, 0, 0, 0, 0, 0, 0, 0, 0, 0, 0, 0, 0, 0, 0, 0, 0, 0, 0, 0, 0, 0, 0, 0, 0, 0, 0, 0, 0, 0, 0, 0, 0, 0, 0, 0] := by kernel_rfl
theorem outB (x : List Nat) (n : Nat) (tot : Int) (m : Nat) (l : List Nat) (z : Blk) : outH [0, 1] none (.tup []) [(0, ⟨[.nums .u64 88 x, .one (.sl 1 none n 1), .one (.int .i64 tot)], 45, 1⟩), (1, ⟨[.nums .u8 m l], 5, 2⟩), (14004, z)] = some (.tup [], [(0, ⟨[.nums .u64 88 x, .one (.sl 1 none n 1), .one (.int .i64 tot)], 45, 1⟩), (1, ⟨[.nums .u8 m l], 5, 2⟩)]) := rfl
theorem outBs (x : List Nat) (o n : Nat) (tot : Int) (m : Nat) (l : List Nat) (z : Blk) : outH [0, 1] none (.tup []) [(0, ⟨[.nums .u64 88 x, .one (.sl 1 (some o) n 1), .one (.int .i64 tot)], 45, 1⟩), (1, ⟨[.nums .u8 m l], 5, 2⟩), (14004, z)] = some (.tup [], [(0, ⟨[.nums .u64 88 x, .one (.sl 1 (some o) n 1), .one (.int .i64 tot)], 45, 1⟩), (1, ⟨[.nums .u8 m l], 5, 2⟩)]) := rfl
theorem b20_v (H : List Nat) (n : Nat) (tot : Int) (m : Nat) (l : List Nat) (hH : H.length = 8) : g20v realA 128 (H ++ K80) n tot m l = some (.tup [], [(0, ⟨[.nums .u64 88 (comp H l ++ K80), .one (.sl 1 none n 1), .one (.int .i64 tot)], 45, 1⟩), (1, ⟨[.nums .u8 m l], 5, 2⟩)]) := by
  unfold g20v g20
  have h := c20_load 100000 (outH [0, 1] none) H 128 n tot m l hH (by omega) rfl 128 0 100000 rfl (by omega)
  rw [pl_0] at h
  exact h.trans (outB _ _ _ _ _ _)
theorem b20_ok (H : List Nat) (n : Nat) (tot : Int) (m : Nat) (l : List Nat) (hH : H.length = 8) : g20ok realA 128 (H ++ K80) n tot m l = true := (congrArg g20is (b20_v H n tot m l hH)).trans rfl
theorem b20_0 (H : List Nat) (n : Nat) (tot : Int) (m : Nat) (l : List Nat) (hH : H.length = 8) : g20r0 realA 128 (H ++ K80) n tot m l = comp H l ++ K80 := (congrArg g20g0 (b20_v H n tot m l hH)).trans rfl
theorem b20_1 (H : List Nat) (n : Nat) (tot : Int) (m : Nat) (l : List Nat) (hH : H.length = 8) : g20r1 realA 128 (H ++ K80) n tot m l = n := (congrArg g20g1 (b20_v H n tot m l hH)).trans rfl
theorem b20_2 (H : List Nat) (n : Nat) (tot : Int) (m : Nat) (l : List Nat) (hH : H.length = 8) : g20r2 realA 128 (H ++ K80) n tot m l = tot := (congrArg g20g2 (b20_v H n tot m l hH)).trans rfl
theorem b20_3 (H : List Nat) (n : Nat) (tot : Int) (m : Nat) (l : List Nat) (hH : H.length = 8) : g20r3 realA 128 (H ++ K80) n tot m l = m := (congrArg g20g3 (b20_v H n tot m l hH)).trans rfl
theorem b20_4 (H : List Nat) (n : Nat) (tot : Int) (m : Nat) (l : List Nat) (hH : H.length = 8) : g20r4 realA 128 (H ++ K80) n tot m l = l := (congrArg g20g4 (b20_v H n tot m l hH)).trans rfl
theorem d20_v (p : Nat) (H : List Nat) (o n : Nat) (tot : Int) (m : Nat) (l : List Nat) (hH : H.length = 8) : g20a_v realA p 128 (H ++ K80) o n tot m l = some (.tup [], [(0, ⟨[.nums .u64 88 (comp H (l.drop p) ++ K80), .one (.sl 1 (some o) n 1), .one (.int .i64 tot)], 45, 1⟩), (1, ⟨[.nums .u8 m l], 5, 2⟩)]) := by
  unfold g20a_v g20a_
  have h := d20_load 100000 (outH [0, 1] none) H p 128 o n tot m l hH (by omega) rfl 128 0 100000 rfl (by omega)
  rw [pl_0] at h
  exact h.trans (outBs _ _ _ _ _ _ _)
theorem d20_ok (p : Nat) (H : List Nat) (o n : Nat) (tot : Int) (m : Nat) (l : List Nat) (hH : H.length = 8) : g20a_ok realA p 128 (H ++ K80) o n tot m l = true := (congrArg g20a_is (d20_v p H o n tot m l hH)).trans rfl
theorem d20_0 (p : Nat) (H : List Nat) (o n : Nat) (tot : Int) (m : Nat) (l : List Nat) (hH : H.length = 8) : g20a_r0 realA p 128 (H ++ K80) o n tot m l = comp H (l.drop p) ++ K80 := (congrArg g20a_g0 (d20_v p H o n tot m l hH)).trans rfl
theorem d20_1 (p : Nat) (H : List Nat) (o n : Nat) (tot : Int) (m : Nat) (l : List Nat) (hH : H.length = 8) : g20a_r1 realA p 128 (H ++ K80) o n tot m l = o := (congrArg g20a_g1 (d20_v p H o n tot m l hH)).trans rfl
theorem d20_2 (p : Nat) (H : List Nat) (o n : Nat) (tot : Int) (m : Nat) (l : List Nat) (hH : H.length = 8) : g20a_r2 realA p 128 (H ++ K80) o n tot m l = n := (congrArg g20a_g2 (d20_v p H o n tot m l hH)).trans rfl
theorem d20_3 (p : Nat) (H : List Nat) (o n : Nat) (tot : Int) (m : Nat) (l : List Nat) (hH : H.length = 8) : g20a_r3 realA p 128 (H ++ K80) o n tot m l = tot := (congrArg g20a_g3 (d20_v p H o n tot m l hH)).trans rfl
theorem d20_4 (p : Nat) (H : List Nat) (o n : Nat) (tot : Int) (m : Nat) (l : List Nat) (hH : H.length = 8) : g20a_r4 realA p 128 (H ++ K80) o n tot m l = m := (congrArg g20a_g4 (d20_v p H o n tot m l hH)).trans rfl
theorem d20_5 (p : Nat) (H : List Nat) (o n : Nat) (tot : Int) (m : Nat) (l : List Nat) (hH : H.length = 8) : g20a_r5 realA p 128 (H ++ K80) o n tot m l = l := (congrArg g20a_g5 (d20_v p H o n tot m l hH)).trans rfl

def feedN : Nat → List Nat → List Nat → List Nat
  | 0, H, _ => H
  | k + 1, H, l => feedN k (comp H l) (l.drop 128)
theorem feedN_len (k : Nat) : ∀ (H l : List Nat), H.length = 8 → (feedN k H l).length = 8 := by
  induction k with
  | zero => exact fun H l h => h
  | succ k ih => exact fun H l h => ih _ _ (comp_len _ _)
def feed (H l : List Nat) : List Nat := feedN (l.length / 128) H l
theorem feed_len (H l : List Nat) (h : H.length = 8) : (feed H l).length = 8 := feedN_len _ _ _ h

theorem outw12 (x : List Nat) (n : Nat) (tot : Int) (m : Nat) (l : List Nat) : outN [501, 600] [0, 501] none (.tup []) [(0, ⟨[.nums .u64 88 x, .one (.sl 501 none n 1), .one (.int .i64 tot)], 45, 1⟩), (501, ⟨[.nums .u8 m l], 5, 2⟩)] = some (.tup [], [(0, ⟨[.nums .u64 88 x, .one (.sl 501 (some 0) n 1), .one (.int .i64 tot)], 45, 1⟩), (501, ⟨[.nums .u8 m l], 5, 2⟩)]) := rfl
theorem outw12s (x : List Nat) (o n : Nat) (tot : Int) (m : Nat) (l : List Nat) : outN [501, 600] [0, 501] none (.tup []) [(0, ⟨[.nums .u64 88 x, .one (.sl 501 (some o) n 1), .one (.int .i64 tot)], 45, 1⟩), (501, ⟨[.nums .u8 m l], 5, 2⟩)] = some (.tup [], [(0, ⟨[.nums .u64 88 x, .one (.sl 501 (some o) n 1), .one (.int .i64 tot)], 45, 1⟩), (501, ⟨[.nums .u8 m l], 5, 2⟩)]) := rfl
theorem w12_more {R : Type} (N : Nat) (kk : AV → Heap → Option R) (tot : Int) (l : List Nat) : ∀ (k n f : Nat) (H : List Nat) (o : Nat), H.length = 8 → o + n = l.length → n / 128 = k → k < f →
    g12L2a realA N kk f (H ++ K80) o n tot l.length l = kk (.tup []) [(0, ⟨[.nums .u64 88 (feedN k H (l.drop o) ++ K80), .one (.sl 501 (some (o + 128 * k)) (n - 128 * k) 1), .one (.int .i64 tot)], 45, 1⟩), (501, ⟨[.nums .u8 l.length l], 5, 2⟩)] := by
  intro k
  induction k with
  | zero =>
    intro n f H o hH hon hk hf
    obtain ⟨f, rfl⟩ : ∃ q, f = q + 1 := ⟨f - 1, by omega⟩
    rw [g12L2a, ar_geq, ar_ofN, decide_eq_false (by omega)]
    rfl
  | succ k ih =>
    intro n f H o hH hon hk hf
    obtain ⟨f, rfl⟩ : ∃ q, f = q + 1 := ⟨f - 1, by omega⟩
    rw [g12L2a, ar_geq, ar_ofN, decide_eq_true (show (128 : Int) ≤ (n : Int) by omega)]
    simp only [g12J3a, ar_le, decide_eq_true (show 128 ≤ n by omega), d20_ok _ _ _ _ _ _ _ hH, d20_0 _ _ _ _ _ _ _ hH, d20_1 _ _ _ _ _ _ _ hH, d20_2 _ _ _ _ _ _ _ hH, d20_3 _ _ _ _ _ _ _ hH, d20_4 _ _ _ _ _ _ _ hH, d20_5 _ _ _ _ _ _ _ hH]
    rw [ih (n - 128) f _ (o + 128) (comp_len _ _) (by omega) (by omega) (by omega), feedN, List.drop_drop, show o + 128 + 128 * k = o + 128 * (k + 1) by omega, show n - 128 - 128 * k = n - 128 * (k + 1) by omega]

theorem w12_big {R : Type} (N f : Nat) (kk : AV → Heap → Option R) (H : List Nat) (tot : Int) (q : List Nat) (hq : 128 ≤ q.length) : g12L2 realA N kk (f + 1) (H ++ K80) q.length tot q.length q = g12J3 realA N kk (g12L2a realA N kk f) (H ++ K80) q.length tot q.length q := by
  rw [g12L2, ar_geq, ar_ofN, decide_eq_true (show (128 : Int) ≤ (q.length : Int) by omega)]
theorem w12_small {R : Type} (N f : Nat) (kk : AV → Heap → Option R) (H : List Nat) (tot : Int) (q : List Nat) (hq : ¬ 128 ≤ q.length) : g12L2 realA N kk (f + 1) (H ++ K80) q.length tot q.length q = kk (.tup []) [(0, ⟨[.nums .u64 88 (H ++ K80), .one (.sl 501 none q.length 1), .one (.int .i64 tot)], 45, 1⟩), (501, ⟨[.nums .u8 q.length q], 5, 2⟩)] := by
  rw [g12L2, ar_geq, ar_ofN, decide_eq_false (show ¬ (128 : Int) ≤ (q.length : Int) by omega)]
theorem w12_v (s H : List Nat) (o n : Nat) (tot : Int) (l : List Nat) (hH : H.length = 8) (hon : o + n = l.length) (ht : 0 ≤ tot ∧ tot ≤ 9223372036000000000) (hl : l.length + s.length ≤ 10000000) : g12v realA s (H ++ K80) o n tot l.length l = some (.tup [], [(0, ⟨[.nums .u64 88 (feed H (l.drop o ++ s) ++ K80), .one (.sl 501 (some (128 * ((l.drop o ++ s).length / 128))) ((l.drop o ++ s).length - 128 * ((l.drop o ++ s).length / 128)) 1), .one (.int .i64 (tot + s.length))], 45, 1⟩), (501, ⟨[.nums .u8 (l.drop o ++ s).length (l.drop o ++ s)], 5, 2⟩)]) := by
  unfold g12v g12
  have e1 : realA.ib .add .i64 tot (s.length : Int) = tot + s.length := ar_add (by omega)
  have hb : (l.drop o ++ s).length ≤ 140737488355328 := by rw [List.length_append, List.length_drop]; omega
  have hb2 : (l.drop o ++ s).length ≤ 10000000 := by rw [List.length_append, List.length_drop]; omega
  simp only [ar_eq, decide_eq_true (show o + n = l.length + 0 by omega), ar_le, decide_eq_true hb, ar_ofN, e1]
  generalize l.drop o ++ s = q at *
  by_cases hq : 128 ≤ q.length
  · refine (w12_big 100000 99999 _ H (tot + s.length) q hq).trans ?_
    simp only [g12J3, ar_le, decide_eq_true hq, b20_ok _ _ _ _ _ hH, b20_0 _ _ _ _ _ hH, b20_1 _ _ _ _ _ hH, b20_2 _ _ _ _ _ hH, b20_3 _ _ _ _ _ hH, b20_4 _ _ _ _ _ hH]
    rw [w12_more 100000 _ _ q ((q.length - 128) / 128) (q.length - 128) 99999 _ 128 (comp_len _ _) (by omega) rfl (by omega), outw12s]
    have e2 : q.length / 128 = (q.length - 128) / 128 + 1 := by omega
    unfold feed
    rw [e2, feedN, show 128 + 128 * ((q.length - 128) / 128) = 128 * ((q.length - 128) / 128 + 1) by omega, show q.length - 128 - 128 * ((q.length - 128) / 128) = q.length - 128 * ((q.length - 128) / 128 + 1) by omega]
  · refine (w12_small 100000 99999 _ H (tot + s.length) q hq).trans ?_
    have e2 : q.length / 128 = 0 := by omega
    unfold feed
    rw [e2]
    exact outw12 _ _ _ _ _
theorem w12_ok (s H : List Nat) (o n : Nat) (tot : Int) (l : List Nat) (hH : H.length = 8) (hon : o + n = l.length) (ht : 0 ≤ tot ∧ tot ≤ 9223372036000000000) (hl : l.length + s.length ≤ 10000000) : g12ok realA s (H ++ K80) o n tot l.length l = true := (congrArg g12is (w12_v s H o n tot l hH hon ht hl)).trans rfl
theorem w12_0 (s H : List Nat) (o n : Nat) (tot : Int) (l : List Nat) (hH : H.length = 8) (hon : o + n = l.length) (ht : 0 ≤ tot ∧ tot ≤ 9223372036000000000) (hl : l.length + s.length ≤ 10000000) : g12r0 realA s (H ++ K80) o n tot l.length l = feed H (l.drop o ++ s) ++ K80 := (congrArg g12g0 (w12_v s H o n tot l hH hon ht hl)).trans rfl
theorem w12_1 (s H : List Nat) (o n : Nat) (tot : Int) (l : List Nat) (hH : H.length = 8) (hon : o + n = l.length) (ht : 0 ≤ tot ∧ tot ≤ 9223372036000000000) (hl : l.length + s.length ≤ 10000000) : g12r1 realA s (H ++ K80) o n tot l.length l = 128 * ((l.drop o ++ s).length / 128) := (congrArg g12g1 (w12_v s H o n tot l hH hon ht hl)).trans rfl
theorem w12_2 (s H : List Nat) (o n : Nat) (tot : Int) (l : List Nat) (hH : H.length = 8) (hon : o + n = l.length) (ht : 0 ≤ tot ∧ tot ≤ 9223372036000000000) (hl : l.length + s.length ≤ 10000000) : g12r2 realA s (H ++ K80) o n tot l.length l = (l.drop o ++ s).length - 128 * ((l.drop o ++ s).length / 128) := (congrArg g12g2 (w12_v s H o n tot l hH hon ht hl)).trans rfl
theorem w12_3 (s H : List Nat) (o n : Nat) (tot : Int) (l : List Nat) (hH : H.length = 8) (hon : o + n = l.length) (ht : 0 ≤ tot ∧ tot ≤ 9223372036000000000) (hl : l.length + s.length ≤ 10000000) : g12r3 realA s (H ++ K80) o n tot l.length l = tot + s.length := (congrArg g12g3 (w12_v s H o n tot l hH hon ht hl)).trans rfl
theorem w12_4 (s H : List Nat) (o n : Nat) (tot : Int) (l : List Nat) (hH : H.length = 8) (hon : o + n = l.length) (ht : 0 ≤ tot ∧ tot ≤ 9223372036000000000) (hl : l.length + s.length ≤ 10000000) : g12r4 realA s (H ++ K80) o n tot l.length l = (l.drop o ++ s).length := (congrArg g12g4 (w12_v s H o n tot l hH hon ht hl)).trans rfl
theorem w12_5 (s H : List Nat) (o n : Nat) (tot : Int) (l : List Nat) (hH : H.length = 8) (hon : o + n = l.length) (ht : 0 ≤ tot ∧ tot ≤ 9223372036000000000) (hl : l.length + s.length ≤ 10000000) : g12r5 realA s (H ++ K80) o n tot l.length l = l.drop o ++ s := (congrArg g12g5 (w12_v s H o n tot l hH hon ht hl)).trans rfl

theorem outv12 (x : List Nat) (n : Nat) (tot : Int) (m : Nat) (l : List Nat) : outN [501, 600] [0, 600] none (.tup []) [(0, ⟨[.nums .u64 88 x, .one (.sl 600 none n 1), .one (.int .i64 tot)], 45, 1⟩), (600, ⟨[.nums .u8 m l], 5, 2⟩)] = some (.tup [], [(0, ⟨[.nums .u64 88 x, .one (.sl 600 (some 0) n 1), .one (.int .i64 tot)], 45, 1⟩), (600, ⟨[.nums .u8 m l], 5, 2⟩)]) := rfl
theorem outv12s (x : List Nat) (o n : Nat) (tot : Int) (m : Nat) (l : List Nat) : outN [501, 600] [0, 600] none (.tup []) [(0, ⟨[.nums .u64 88 x, .one (.sl 600 (some o) n 1), .one (.int .i64 tot)], 45, 1⟩), (600, ⟨[.nums .u8 m l], 5, 2⟩)] = some (.tup [], [(0, ⟨[.nums .u64 88 x, .one (.sl 600 (some o) n 1), .one (.int .i64 tot)], 45, 1⟩), (600, ⟨[.nums .u8 m l], 5, 2⟩)]) := rfl
theorem v12_more {R : Type} (N : Nat) (kk : AV → Heap → Option R) (tot : Int) (l : List Nat) : ∀ (k n f : Nat) (H : List Nat) (o : Nat), H.length = 8 → o + n = l.length → n / 128 = k → k < f →
    g12a_L2a realA N kk f (H ++ K80) o n tot l.length l = kk (.tup []) [(0, ⟨[.nums .u64 88 (feedN k H (l.drop o) ++ K80), .one (.sl 600 (some (o + 128 * k)) (n - 128 * k) 1), .one (.int .i64 tot)], 45, 1⟩), (600, ⟨[.nums .u8 l.length l], 5, 2⟩)] := by
  intro k
  induction k with
  | zero =>
    intro n f H o hH hon hk hf
    obtain ⟨f, rfl⟩ : ∃ q, f = q + 1 := ⟨f - 1, by omega⟩
    rw [g12a_L2a, ar_geq, ar_ofN, decide_eq_false (by omega)]
    rfl
  | succ k ih =>
    intro n f H o hH hon hk hf
    obtain ⟨f, rfl⟩ : ∃ q, f = q + 1 := ⟨f - 1, by omega⟩
    rw [g12a_L2a, ar_geq, ar_ofN, decide_eq_true (show (128 : Int) ≤ (n : Int) by omega)]
    simp only [g12a_J3a, ar_le, decide_eq_true (show 128 ≤ n by omega), d20_ok _ _ _ _ _ _ _ hH, d20_0 _ _ _ _ _ _ _ hH, d20_1 _ _ _ _ _ _ _ hH, d20_2 _ _ _ _ _ _ _ hH, d20_3 _ _ _ _ _ _ _ hH, d20_4 _ _ _ _ _ _ _ hH, d20_5 _ _ _ _ _ _ _ hH]
    rw [ih (n - 128) f _ (o + 128) (comp_len _ _) (by omega) (by omega) (by omega), feedN, List.drop_drop, show o + 128 + 128 * k = o + 128 * (k + 1) by omega, show n - 128 - 128 * k = n - 128 * (k + 1) by omega]

theorem v12_big {R : Type} (N f : Nat) (kk : AV → Heap → Option R) (H : List Nat) (tot : Int) (q : List Nat) (hq : 128 ≤ q.length) : g12a_L2 realA N kk (f + 1) (H ++ K80) q.length tot q.length q = g12a_J3 realA N kk (g12a_L2a realA N kk f) (H ++ K80) q.length tot q.length q := by
  rw [g12a_L2, ar_geq, ar_ofN, decide_eq_true (show (128 : Int) ≤ (q.length : Int) by omega)]
theorem v12_small {R : Type} (N f : Nat) (kk : AV → Heap → Option R) (H : List Nat) (tot : Int) (q : List Nat) (hq : ¬ 128 ≤ q.length) : g12a_L2 realA N kk (f + 1) (H ++ K80) q.length tot q.length q = kk (.tup []) [(0, ⟨[.nums .u64 88 (H ++ K80), .one (.sl 600 none q.length 1), .one (.int .i64 tot)], 45, 1⟩), (600, ⟨[.nums .u8 q.length q], 5, 2⟩)] := by
  rw [g12a_L2, ar_geq, ar_ofN, decide_eq_false (show ¬ (128 : Int) ≤ (q.length : Int) by omega)]
theorem v12_v (s H : List Nat) (o n : Nat) (tot : Int) (l : List Nat) (hH : H.length = 8) (hon : o + n = l.length) (ht : 0 ≤ tot ∧ tot ≤ 9223372036000000000) (hl : l.length + s.length ≤ 10000000) : g12a_v realA s (H ++ K80) o n tot l.length l = some (.tup [], [(0, ⟨[.nums .u64 88 (feed H (l.drop o ++ s) ++ K80), .one (.sl 600 (some (128 * ((l.drop o ++ s).length / 128))) ((l.drop o ++ s).length - 128 * ((l.drop o ++ s).length / 128)) 1), .one (.int .i64 (tot + s.length))], 45, 1⟩), (600, ⟨[.nums .u8 (l.drop o ++ s).length (l.drop o ++ s)], 5, 2⟩)]) := by
  unfold g12a_v g12a_
  have e1 : realA.ib .add .i64 tot (s.length : Int) = tot + s.length := ar_add (by omega)
  have hb : (l.drop o ++ s).length ≤ 140737488355328 := by rw [List.length_append, List.length_drop]; omega
  have hb2 : (l.drop o ++ s).length ≤ 10000000 := by rw [List.length_append, List.length_drop]; omega
  simp only [ar_eq, decide_eq_true (show o + n = l.length + 0 by omega), ar_le, decide_eq_true hb, ar_ofN, e1]
  generalize l.drop o ++ s = q at *
  by_cases hq : 128 ≤ q.length
  · refine (v12_big 100000 99999 _ H (tot + s.length) q hq).trans ?_
    simp only [g12a_J3, ar_le, decide_eq_true hq, b20_ok _ _ _ _ _ hH, b20_0 _ _ _ _ _ hH, b20_1 _ _ _ _ _ hH, b20_2 _ _ _ _ _ hH, b20_3 _ _ _ _ _ hH, b20_4 _ _ _ _ _ hH]
    rw [v12_more 100000 _ _ q ((q.length - 128) / 128) (q.length - 128) 99999 _ 128 (comp_len _ _) (by omega) rfl (by omega), outv12s]
    have e2 : q.length / 128 = (q.length - 128) / 128 + 1 := by omega
    unfold feed
    rw [e2, feedN, show 128 + 128 * ((q.length - 128) / 128) = 128 * ((q.length - 128) / 128 + 1) by omega, show q.length - 128 - 128 * ((q.length - 128) / 128) = q.length - 128 * ((q.length - 128) / 128 + 1) by omega]
  · refine (v12_small 100000 99999 _ H (tot + s.length) q hq).trans ?_
    have e2 : q.length / 128 = 0 := by omega
    unfold feed
    rw [e2]
    exact outv12 _ _ _ _ _
theorem v12_ok (s H : List Nat) (o n : Nat) (tot : Int) (l : List Nat) (hH : H.length = 8) (hon : o + n = l.length) (ht : 0 ≤ tot ∧ tot ≤ 9223372036000000000) (hl : l.length + s.length ≤ 10000000) : g12a_ok realA s (H ++ K80) o n tot l.length l = true := (congrArg g12a_is (v12_v s H o n tot l hH hon ht hl)).trans rfl
theorem v12_0 (s H : List Nat) (o n : Nat) (tot : Int) (l : List Nat) (hH : H.length = 8) (hon : o + n = l.length) (ht : 0 ≤ tot ∧ tot ≤ 9223372036000000000) (hl : l.length + s.length ≤ 10000000) : g12a_r0 realA s (H ++ K80) o n tot l.length l = feed H (l.drop o ++ s) ++ K80 := (congrArg g12a_g0 (v12_v s H o n tot l hH hon ht hl)).trans rfl
end Go.Sx
namespace Go.Sx
def bes (x i : Nat) : List Nat := ((List.range 8).drop i).map fun j => x / 2 ^ (56 - 8 * j) % 256
theorem bes_step (x i : Nat) (h : i < 8) : bes x i = (x / 2 ^ (56 - 8 * i) % 256) :: bes x (i + 1) := by
  unfold bes
  rw [List.drop_eq_getElem_cons (by simpa using h)]
  simp
theorem bes_end (x : Nat) : bes x 8 = [] := rfl
def be8 (x : Nat) : List Nat := bes x 0
theorem be8_len (x : Nat) : (be8 x).length = 8 := by simp [be8, bes]
def zs (r : Nat) : Nat := (240 - r % 128) % 128
def pad (r : List Nat) (tot : Nat) : List Nat := (((r ++ [128]) ++ List.replicate (zs (r.length + 1)) 0) ++ be8 (tot * 8 / B64)) ++ be8 (tot * 8 % B64)
def dig (l : List Nat) : List Nat := l.flatMap be8
theorem take1 (x : Nat) : [x].take 1 = [x] := rfl
section
variable {R : Type} (N : Nat) (kk : AV → Heap → Option R)
theorem z_loop (xl : List Nat) (o n : Nat) (tot : Int) (m : Nat) (l cp : List Nat) (c : Int) : ∀ (d f : Nat) (e : List Nat), (e.length + d) % 128 = 112 → d < 128 → d < f → e.length + d ≤ 100000000 →
    g13L4 realA N kk f e.length xl o n tot m l cp c e.length e = g13J6 realA N kk (e ++ List.replicate d 0).length xl o n tot m l cp c (e ++ List.replicate d 0).length (e ++ List.replicate d 0) := by
  intro d
  induction d with
  | zero =>
    intro f e h1 _ hf he
    obtain ⟨f, rfl⟩ : ∃ q, f = q + 1 := ⟨f - 1, by omega⟩
    have hr : realA.ib .rem .i64 (e.length : Int) 128 = ((e.length % 128 : Nat) : Int) := by rw [ar_rem (by omega)]; omega
    rw [g13L4, ar_ofN, hr, ar_neq, decide_eq_true (show ((e.length % 128 : Nat) : Int) = 112 by omega)]
    simp
  | succ d ih =>
    intro f e h1 h2 hf he
    obtain ⟨f, rfl⟩ : ∃ q, f = q + 1 := ⟨f - 1, by omega⟩
    have hr : realA.ib .rem .i64 (e.length : Int) 128 = ((e.length % 128 : Nat) : Int) := by rw [ar_rem (by omega)]; omega
    have hl : (e ++ [0]).length = e.length + 1 := by simp
    rw [g13L4, ar_ofN, hr, ar_neq, decide_eq_false (show ¬ ((e.length % 128 : Nat) : Int) = 112 by omega)]
    simp only [Bool.not_false, ar_eq, Nat.add_zero, decide_true, take1, ar_le, decide_eq_true (show (e ++ [0]).length ≤ 140737488355328 by omega)]
    rw [ih f (e ++ [0]) (by omega) (by omega) (by omega) (by omega), List.append_assoc, List.singleton_append, ← List.replicate_succ]
theorem in_loop (lg : Nat → Nat → Int → Int → List Nat → Nat → Nat → Int → Nat → List Nat → List Nat → Int → Nat → List Nat → Nat → List Nat → Option R) (w : Nat) (hw : w < B64) (z : Nat) (zi idx : Int) (xl : List Nat) (o n : Nat) (tot : Int) (m : Nat) (l cp : List Nat) (c : Int) (q : Nat) (ws : List Nat) : ∀ (d i f : Nat) (e : List Nat), i + d = 8 → d < f → e.length + d ≤ 100000000 →
    g13L11 realA N kk lg f e.length w z zi idx (i : Int) xl o n tot m l cp c e.length e q ws = lg (e ++ bes w i).length z zi (realA.ib .add .i64 idx 1) xl o n tot m l cp c (e ++ bes w i).length (e ++ bes w i) q ws := by
  intro d
  induction d with
  | zero =>
    intro i f e h hf he
    obtain ⟨f, rfl⟩ : ∃ q, f = q + 1 := ⟨f - 1, by omega⟩
    obtain rfl : i = 8 := by omega
    rw [g13L11, ar_lss, decide_eq_false (by omega), bes_end, List.append_nil]
  | succ d ih =>
    intro i f e h hf he
    obtain ⟨f, rfl⟩ : ∃ q, f = q + 1 := ⟨f - 1, by omega⟩
    have hi : i < 8 := by omega
    have e1 : realA.ib .add .i64 (i : Int) 1 = ((i + 1 : Nat) : Int) := by rw [ar_add (by omega)]; omega
    have e2 : realA.ib .sub .i64 56 (realA.ib .mul .i64 8 (i : Int)) = ((56 - 8 * i : Nat) : Int) := by rw [ar_mul (by omega), ar_sub (by omega)]; omega
    have e3 : realA.n2n .u8 (realA.nsh .shr .u64 w (56 - 8 * i)) = w / 2 ^ (56 - 8 * i) % 256 := rfl
    have hl : (e ++ [w / 2 ^ (56 - 8 * i) % 256]).length = e.length + 1 := by simp
    rw [g13L11, ar_lss, decide_eq_true (show (i : Int) < 8 by omega)]
    simp only [g13J12, e2, ar_negN, ar_toNN, ar_eq, Nat.add_zero, decide_true, e3, take1, ar_le, decide_eq_true (show (e ++ [w / 2 ^ (56 - 8 * i) % 256]).length ≤ 140737488355328 by omega), e1]
    rw [ih (i + 1) f _ (by omega) (by omega) (by omega), bes_step w i hi, List.append_assoc, List.singleton_append]
theorem ou_loop (lg : Nat → List Nat → Int → List Nat → Nat → Nat → Int → Nat → List Nat → Nat → List Nat → Option R) (w : Nat) (ws : List Nat) (idx : Int) (xl : List Nat) (o n : Nat) (tot : Int) (m : Nat) (l : List Nat) : ∀ (d i f : Nat) (e : List Nat), i + d = 8 → d < f → e.length + d ≤ 100000000 →
    g13L22 realA N kk lg f e.length w ws idx (i : Int) xl o n tot m l e.length e = lg (e ++ bes w i).length ws (realA.ib .add .i64 idx 1) xl o n tot m l (e ++ bes w i).length (e ++ bes w i) := by
  intro d
  induction d with
  | zero =>
    intro i f e h hf he
    obtain ⟨f, rfl⟩ : ∃ q, f = q + 1 := ⟨f - 1, by omega⟩
    obtain rfl : i = 8 := by omega
    rw [g13L22, ar_lss, decide_eq_false (by omega), bes_end, List.append_nil]
  | succ d ih =>
    intro i f e h hf he
    obtain ⟨f, rfl⟩ : ∃ q, f = q + 1 := ⟨f - 1, by omega⟩
    have hi : i < 8 := by omega
    have e1 : realA.ib .add .i64 (i : Int) 1 = ((i + 1 : Nat) : Int) := by rw [ar_add (by omega)]; omega
    have e2 : realA.ib .sub .i64 56 (realA.ib .mul .i64 8 (i : Int)) = ((56 - 8 * i : Nat) : Int) := by rw [ar_mul (by omega), ar_sub (by omega)]; omega
    have e3 : realA.n2n .u8 (realA.nsh .shr .u64 w (56 - 8 * i)) = w / 2 ^ (56 - 8 * i) % 256 := rfl
    have hl : (e ++ [w / 2 ^ (56 - 8 * i) % 256]).length = e.length + 1 := by simp
    rw [g13L22, ar_lss, decide_eq_true (show (i : Int) < 8 by omega)]
    simp only [g13J23, e2, ar_negN, ar_toNN, ar_eq, Nat.add_zero, decide_true, e3, take1, ar_le, decide_eq_true (show (e ++ [w / 2 ^ (56 - 8 * i) % 256]).length ≤ 140737488355328 by omega), e1]
    rw [ih (i + 1) f _ (by omega) (by omega) (by omega), bes_step w i hi, List.append_assoc, List.singleton_append]
theorem dig_loop (ws : List Nat) (hw : ws.length = 8) (xl : List Nat) (o n : Nat) (tot : Int) (m : Nat) (l : List Nat) (hN : 8 < N) : ∀ (d i f : Nat) (e : List Nat), i + d = 8 → d < f → e.length + 8 * d ≤ 100000000 →
    g13L19 realA N kk f e.length ws (i : Int) xl o n tot m l e.length e = kk (tS (e ++ dig (ws.drop i))) [(0, ⟨[.nums .u64 88 xl, .one (.sl 1 (some o) n 1), .one (.int .i64 tot)], 45, 1⟩), (1, ⟨[.nums .u8 m l], 5, 2⟩), (18000, ⟨[.nums .u8 (e ++ dig (ws.drop i)).length (e ++ dig (ws.drop i))], 5, 2⟩)] := by
  intro d
  induction d with
  | zero =>
    intro i f e h hf he
    obtain ⟨f, rfl⟩ : ∃ q, f = q + 1 := ⟨f - 1, by omega⟩
    obtain rfl : i = 8 := by omega
    rw [g13L19, ar_lss, decide_eq_false (by omega), List.drop_of_length_le (by omega)]
    simp [dig]
  | succ d ih =>
    intro i f e h hf he
    obtain ⟨f, rfl⟩ : ∃ q, f = q + 1 := ⟨f - 1, by omega⟩
    have hi : i < 8 := by omega
    have e1 : realA.ib .add .i64 (i : Int) 1 = ((i + 1 : Nat) : Int) := by rw [ar_add (by omega)]; omega
    rw [g13L19, ar_lss, decide_eq_true (show (i : Int) < 8 by omega)]
    simp only [g13J20, ar_negN, ar_toNN, ar_lt, decide_eq_true hi]
    have h0 := ou_loop N kk (g13L19 realA N kk f) (ws.getD i 0) ws (i : Int) xl o n tot m l 8 0 N e rfl hN (by omega)
    refine h0.trans ?_
    have hb : (bes (ws.getD i 0) 0).length = 8 := be8_len _
    rw [e1, ih (i + 1) f _ (by omega) (by omega) (by rw [List.length_append, hb]; omega)]
    have hd : ws.drop i = ws.getD i 0 :: ws.drop (i + 1) := by
      rw [List.drop_eq_getElem_cons (by omega), List.getD_eq_getElem?_getD, List.getElem?_eq_getElem (by omega)]; rfl
    rw [hd]
    simp only [dig, List.flatMap_cons, be8, List.append_assoc]
end
theorem outS (x s : List Nat) (o n : Nat) (tot : Int) (m : Nat) (l : List Nat) (z : Blk) : outN [1] [0, 1] none (tS s) [(0, ⟨[.nums .u64 88 x, .one (.sl 1 (some o) n 1), .one (.int .i64 tot)], 45, 1⟩), (1, ⟨[.nums .u8 m l], 5, 2⟩), (18000, z)] = some (tS s, [(0, ⟨[.nums .u64 88 x, .one (.sl 1 (some o) n 1), .one (.int .i64 tot)], 45, 1⟩), (1, ⟨[.nums .u8 m l], 5, 2⟩)]) := rfl
theorem cp_id (H K : List Nat) (z : List Nat) (hH : H.length = 8) (hK : K.length = 80) (hz : z.length = 88) :
    ((z.take 0 ++ (((H ++ K).drop 0).take 8 ++ z.drop 8)).take 8 ++ (((H ++ K).drop 8).take 80 ++ (z.take 0 ++ (((H ++ K).drop 0).take 8 ++ z.drop 8)).drop 88)) = H ++ K := by
  have h1 : ((H ++ K).drop 0).take 8 = H := by rw [List.drop_zero, ← hH, List.take_left']; rfl
  have h2 : ((H ++ K).drop 8).take 80 = K := by rw [← hH, List.drop_left', List.take_of_length_le (by omega)]; rfl
  rw [h1, h2]
  have h3 : (H ++ z.drop 8).take 8 = H := by rw [← hH, List.take_left']; rfl
  have h4 : (H ++ z.drop 8).drop 88 = [] := List.drop_of_length_le (by rw [List.length_append, List.length_drop]; omega)
  rw [List.take_zero, List.nil_append, h3, h4, List.append_nil]
theorem K80_len : K80.length = 80 := by decide
theorem s13_v (H : List Nat) (o n : Nat) (tot : Nat) (l : List Nat) (hH : H.length = 8) (hon : o + n = l.length) (ht : tot ≤ 1000000000000) (hl : l.length ≤ 5000000) : g13v realA (H ++ K80) o n ((tot : Nat) : Int) l.length l = some (tS (dig (feed H (pad (l.drop o) tot))), [(0, ⟨[.nums .u64 88 (H ++ K80), .one (.sl 1 (some o) n 1), .one (.int .i64 (tot : Int))], 45, 1⟩), (1, ⟨[.nums .u8 l.length l], 5, 2⟩)]) := by
  unfold g13v g13
  have hr : (l.drop o).take n = l.drop o := List.take_of_length_le (by rw [List.length_drop]; omega)
  have hrl : (l.drop o).length ≤ 5000000 := by rw [List.length_drop]; omega
  have c1 : decide ((0 : Nat) = 0) = true := rfl
  rw [hr]
  simp only [ar_eq, c1, List.nil_append, ar_le, Nat.add_zero, decide_true, take1]
  generalize l.drop o = r at *
  have hl1 : (r ++ [128]).length = r.length + 1 := by simp
  have hq0 : r.length ≤ 140737488355328 := by omega
  have hq1 : (r ++ [128]).length ≤ 140737488355328 := by omega
  rw [decide_eq_true hq0, decide_eq_true hq1]
  simp only []
  have hcp := cp_id H K80 [0, 0, 0, 0, 0, 0, 0, 0, 0, 0, 0, 0, 0, 0, 0, 0, 0, 0, 0, 0, 0, 0, 0, 0, 0, 0, 0, 0, 0, 0, 0, 0, 0, 0, 0, 0, 0, 0, 0, 0, 0, 0, 0, 0, 0, 0, 0, 0, 0, 0, 0, 0, 0, 0, 0, 0, 0, 0, 0, 0, 0, 0, 0, 0, 0, 0, 0, 0, 0, 0, 0, 0, 0, 0, 0, 0, 0, 0, 0, 0, 0, 0, 0, 0, 0, 0, 0, 0] hH K80_len rfl
  simp only [List.take_zero, List.nil_append] at hcp
  simp only [List.take_zero, List.nil_append, hcp]
  have hz : zs (r.length + 1) < 128 := Nat.mod_lt _ (by omega)
  have hzm : ((r ++ [128]).length + zs (r.length + 1)) % 128 = 112 := by rw [hl1]; unfold zs; omega
  refine (z_loop 100000 (outN [1] [0, 1] none) (H ++ K80) o n tot l.length l (H ++ K80) 0 (zs (r.length + 1)) 100000 (r ++ [128]) hzm hz (by omega) (by omega)).trans ?_
  have hel : (r ++ [128] ++ List.replicate (zs (r.length + 1)) 0).length = r.length + 1 + zs (r.length + 1) := by simp; omega
  generalize hee : r ++ [128] ++ List.replicate (zs (r.length + 1)) 0 = e at *
  have i1 : realA.i2n .u64 (tot : Int) = tot := by
    show ((tot : Int) % (18446744073709551616 : Int)).toNat = tot
    omega
  have h8 : (8 : Nat) < 18446744073709551616 := by decide
  have ht64 : tot < 18446744073709551616 := by omega
  simp only [g13J6, i1, mul64ok ht64 h8, mul64r0 ht64 h8, mul64r1 ht64 h8]
  have L2 : realA.ofN 2 = ((2 : Nat) : Int) := rfl
  -- the two numbers
  have w0 : tot * 8 / 18446744073709551616 < B64 := by simp only [B64]; omega
  have w1 : tot * 8 % 18446744073709551616 < B64 := Nat.mod_lt _ (by decide)
  have hb0 : (bes (tot * 8 / 18446744073709551616) 0).length = 8 := be8_len _
  have hb1 : (bes (tot * 8 % 18446744073709551616) 0).length = 8 := be8_len _
  have n1 : realA.ib .add .i64 0 1 = 1 := ar_add (by omega)
  have n2 : realA.ib .add .i64 1 1 = 2 := ar_add (by omega)
  have A0 : ∀ f (e : List Nat), e.length ≤ 50000000 → g13L8 realA 100000 (outN [1] [0, 1] none) (f + 1) e.length 2 (realA.ofN 2) 0 (H ++ K80) o n tot l.length l (H ++ K80) 0 e.length e 2 [tot * 8 / 18446744073709551616, tot * 8 % 18446744073709551616] = g13L8 realA 100000 (outN [1] [0, 1] none) f (e ++ bes (tot * 8 / 18446744073709551616) 0).length 2 (realA.ofN 2) 1 (H ++ K80) o n tot l.length l (H ++ K80) 0 (e ++ bes (tot * 8 / 18446744073709551616) 0).length (e ++ bes (tot * 8 / 18446744073709551616) 0) 2 [tot * 8 / 18446744073709551616, tot * 8 % 18446744073709551616] := by
    intro f e he
    rw [g13L8, L2, ar_lss, decide_eq_true (show (0 : Int) < ((2 : Nat) : Int) by omega)]
    simp only [g13J9]
    have c2 : realA.neg 0 = false := rfl
    have c3 : realA.toN 0 = 0 := rfl
    have c4 : realA.lt 0 2 = true := rfl
    simp only [c2, c3, c4, List.getD_cons_zero]
    have := in_loop 100000 (outN [1] [0, 1] none) (g13L8 realA 100000 (outN [1] [0, 1] none) f) (tot * 8 / 18446744073709551616) w0 2 ((2 : Nat) : Int) 0 (H ++ K80) o n tot l.length l (H ++ K80) 0 2 [tot * 8 / 18446744073709551616, tot * 8 % 18446744073709551616] 8 0 100000 e rfl (by omega) (by omega)
    rw [n1] at this
    exact this
  have A1 : ∀ f (e : List Nat), e.length ≤ 50000000 → g13L8 realA 100000 (outN [1] [0, 1] none) (f + 1) e.length 2 (realA.ofN 2) 1 (H ++ K80) o n tot l.length l (H ++ K80) 0 e.length e 2 [tot * 8 / 18446744073709551616, tot * 8 % 18446744073709551616] = g13L8 realA 100000 (outN [1] [0, 1] none) f (e ++ bes (tot * 8 % 18446744073709551616) 0).length 2 (realA.ofN 2) 2 (H ++ K80) o n tot l.length l (H ++ K80) 0 (e ++ bes (tot * 8 % 18446744073709551616) 0).length (e ++ bes (tot * 8 % 18446744073709551616) 0) 2 [tot * 8 / 18446744073709551616, tot * 8 % 18446744073709551616] := by
    intro f e he
    rw [g13L8, L2, ar_lss, decide_eq_true (show (1 : Int) < ((2 : Nat) : Int) by omega)]
    simp only [g13J9]
    have c2 : realA.neg 1 = false := rfl
    have c3 : realA.toN 1 = 1 := rfl
    have c4 : realA.lt 1 2 = true := rfl
    simp only [c2, c3, c4, List.getD_cons_succ, List.getD_cons_zero]
    have := in_loop 100000 (outN [1] [0, 1] none) (g13L8 realA 100000 (outN [1] [0, 1] none) f) (tot * 8 % 18446744073709551616) w1 2 ((2 : Nat) : Int) 1 (H ++ K80) o n tot l.length l (H ++ K80) 0 2 [tot * 8 / 18446744073709551616, tot * 8 % 18446744073709551616] 8 0 100000 e rfl (by omega) (by omega)
    rw [n2] at this
    exact this
  have A2 : ∀ f (e : List Nat), g13L8 realA 100000 (outN [1] [0, 1] none) (f + 1) e.length 2 (realA.ofN 2) 2 (H ++ K80) o n tot l.length l (H ++ K80) 0 e.length e 2 [tot * 8 / 18446744073709551616, tot * 8 % 18446744073709551616] = g13J16 realA 100000 (outN [1] [0, 1] none) e.length (H ++ K80) o n tot l.length l (H ++ K80) 0 e.length e := by
    intro f e
    rw [g13L8, L2, ar_lss, decide_eq_false (show ¬ (2 : Int) < ((2 : Nat) : Int) by omega)]
  have hl3 : (e ++ bes (tot * 8 / 18446744073709551616) 0).length ≤ 50000000 := by rw [List.length_append, hb0]; omega
  refine (A0 99999 e (by omega)).trans ((A1 99998 _ hl3).trans ((A2 99997 _).trans ?_))
  have hpad : (e ++ bes (tot * 8 / 18446744073709551616) 0) ++ bes (tot * 8 % 18446744073709551616) 0 = pad r tot := by rw [← hee]; rfl
  rw [hpad]
  have hpl : (pad r tot).length ≤ 9000000 := by rw [← hpad, List.length_append, List.length_append, hb0, hb1]; omega
  generalize pad r tot = q at *
  have hq : q.take q.length = q := List.take_length
  simp only [g13J16, hq]
  have e0 : ([] : List Nat).length = 0 := rfl
  have v0 := v12_ok q H 0 0 0 [] hH rfl (by omega) (by simp; omega)
  have v1 := v12_0 q H 0 0 0 [] hH rfl (by omega) (by simp; omega)
  rw [e0] at v0 v1
  simp only [v0, v1, List.drop_nil, List.nil_append]
  have hf8 := feed_len H q hH
  have hd8 : ((feed H q ++ K80).drop 0).take 8 = feed H q := by rw [List.drop_zero, ← hf8, List.take_left']; rfl
  rw [hd8]
  refine (dig_loop 100000 (outN [1] [0, 1] none) (feed H q) hf8 (H ++ K80) o n tot l.length l (by omega) 8 0 100000 [] rfl (by omega) (by simp)).trans ?_
  rw [List.nil_append, List.drop_zero]
  exact outS _ _ _ _ _ _ _ _
theorem s13_ok (H : List Nat) (o n : Nat) (tot : Nat) (l : List Nat) (hH : H.length = 8) (hon : o + n = l.length) (ht : tot ≤ 1000000000000) (hl : l.length ≤ 5000000) : g13ok realA (H ++ K80) o n ((tot : Nat) : Int) l.length l = true := (congrArg g13is (s13_v H o n tot l hH hon ht hl)).trans rfl
theorem s13_0 (H : List Nat) (o n : Nat) (tot : Nat) (l : List Nat) (hH : H.length = 8) (hon : o + n = l.length) (ht : tot ≤ 1000000000000) (hl : l.length ≤ 5000000) : g13r0 realA (H ++ K80) o n ((tot : Nat) : Int) l.length l = dig (feed H (pad (l.drop o) tot)) := (congrArg g13g0 (s13_v H o n tot l hH hon ht hl)).trans rfl
theorem s13_1 (H : List Nat) (o n : Nat) (tot : Nat) (l : List Nat) (hH : H.length = 8) (hon : o + n = l.length) (ht : tot ≤ 1000000000000) (hl : l.length ≤ 5000000) : g13r1 realA (H ++ K80) o n ((tot : Nat) : Int) l.length l = H ++ K80 := (congrArg g13g1 (s13_v H o n tot l hH hon ht hl)).trans rfl
theorem s13_2 (H : List Nat) (o n : Nat) (tot : Nat) (l : List Nat) (hH : H.length = 8) (hon : o + n = l.length) (ht : tot ≤ 1000000000000) (hl : l.length ≤ 5000000) : g13r2 realA (H ++ K80) o n ((tot : Nat) : Int) l.length l = o := (congrArg g13g2 (s13_v H o n tot l hH hon ht hl)).trans rfl
theorem s13_3 (H : List Nat) (o n : Nat) (tot : Nat) (l : List Nat) (hH : H.length = 8) (hon : o + n = l.length) (ht : tot ≤ 1000000000000) (hl : l.length ≤ 5000000) : g13r3 realA (H ++ K80) o n ((tot : Nat) : Int) l.length l = n := (congrArg g13g3 (s13_v H o n tot l hH hon ht hl)).trans rfl
theorem s13_4 (H : List Nat) (o n : Nat) (tot : Nat) (l : List Nat) (hH : H.length = 8) (hon : o + n = l.length) (ht : tot ≤ 1000000000000) (hl : l.length ≤ 5000000) : g13r4 realA (H ++ K80) o n ((tot : Nat) : Int) l.length l = (tot : Int) := (congrArg g13g4 (s13_v H o n tot l hH hon ht hl)).trans rfl
theorem s13_5 (H : List Nat) (o n : Nat) (tot : Nat) (l : List Nat) (hH : H.length = 8) (hon : o + n = l.length) (ht : tot ≤ 1000000000000) (hl : l.length ≤ 5000000) : g13r5 realA (H ++ K80) o n ((tot : Nat) : Int) l.length l = l.length := (congrArg g13g5 (s13_v H o n tot l hH hon ht hl)).trans rfl
theorem s13_6 (H : List Nat) (o n : Nat) (tot : Nat) (l : List Nat) (hH : H.length = 8) (hon : o + n = l.length) (ht : tot ≤ 1000000000000) (hl : l.length ≤ 5000000) : g13r6 realA (H ++ K80) o n ((tot : Nat) : Int) l.length l = l := (congrArg g13g6 (s13_v H o n tot l hH hon ht hl)).trans rfl
end Go.Sx
namespace Go.Sx
theorem wd_congr {b c : List Nat} {j : Nat} : ∀ k, (∀ i, i < 8 * j + k → b.getD i 0 = c.getD i 0) → wd b j k = wd c j k := by
  intro k
  induction k with
  | zero => intro _; rfl
  | succ k ih => intro h; rw [wd, wd, ih (fun i hi => h i (by omega)), h (8 * j + k) (by omega)]
theorem comp_congr {b c : List Nat} (H : List Nat) (h : ∀ i, i < 128 → b.getD i 0 = c.getD i 0) : comp H b = comp H c := by
  have hp : pl b 128 = pl c 128 := by
    unfold pl
    apply List.map_congr_left
    intro j hj
    by_cases h2 : j < 16
    · exact wd_congr _ fun i hi => h i (by omega)
    · have : min 8 (128 - 8 * j) = 0 := by omega
      rw [this]; rfl
  have he : ∀ n, ew b n = ew c n := by
    intro n
    induction n with
    | zero => exact hp
    | succ n ih => rw [ew, ew, ih]
  unfold comp
  rw [he]
theorem feed_append (s : List Nat) : ∀ (k : Nat) (H t : List Nat), t.length / 128 = k → feed H (t ++ s) = feed (feedN k H t) (t.drop (128 * k) ++ s) := by
  intro k
  induction k with
  | zero => intro H t _; rw [Nat.mul_zero, List.drop_zero]; rfl
  | succ k ih =>
    intro H t h
    have hl : 128 ≤ t.length := by omega
    have e1 : (t ++ s).length / 128 = (t.drop 128 ++ s).length / 128 + 1 := by simp only [List.length_append, List.length_drop]; omega
    have e2 : (t ++ s).drop 128 = t.drop 128 ++ s := List.drop_append_of_le_length hl
    have e3 : comp H (t ++ s) = comp H t := comp_congr H fun i hi => by
      rw [List.getD_eq_getElem?_getD, List.getElem?_append_left (by omega), ← List.getD_eq_getElem?_getD]
    unfold feed
    rw [e1, feedN, e2, e3]
    have := ih (comp H t) (t.drop 128) (by rw [List.length_drop]; omega)
    unfold feed at this
    rw [this, feedN, List.drop_drop, show 128 + 128 * k = 128 * (k + 1) by omega]
def rst (t : List Nat) : List Nat := t.drop (128 * (t.length / 128))
theorem rst_len (t : List Nat) : (rst t).length = t.length % 128 := by unfold rst; rw [List.length_drop]; omega
theorem feed_add (H t s : List Nat) : feed H (t ++ s) = feed (feed H t) (rst t ++ s) := feed_append s _ H t rfl
theorem rst_add (t s : List Nat) : rst (rst t ++ s) = rst (t ++ s) := by
  have h1 := rst_len t
  have e : t ++ s = t.take (128 * (t.length / 128)) ++ (rst t ++ s) := by
    unfold rst
    rw [← List.append_assoc, List.take_append_drop]
  have hl : (t.take (128 * (t.length / 128))).length = 128 * (t.length / 128) := by rw [List.length_take]; omega
  have hd : ∀ (A Y : List Nat) (m : Nat), (A ++ Y).drop (A.length + m) = Y.drop m := by
    intro A Y m
    rw [← List.drop_drop, List.drop_left]
  have h3 : (t ++ s).length = (t.take (128 * (t.length / 128)) ++ (rst t ++ s)).length := by rw [← e]
  unfold rst at h1 e h3 ⊢
  rw [h3]
  conv => rhs; rw [e]
  generalize t.drop (128 * (t.length / 128)) = B at *
  generalize t.take (128 * (t.length / 128)) = A at *
  have h4 : 128 * ((A ++ (B ++ s)).length / 128) = A.length + 128 * ((B ++ s).length / 128) := by
    have h5 : (A ++ (B ++ s)).length = A.length + (B ++ s).length := List.length_append
    rw [h5, hl]; omega
  rw [h4, hd]
def sha (t : List Nat) : List Nat := dig (feed (feed H8 t) (pad (rst t) t.length))
theorem H8_len : H8.length = 8 := by decide
structure Rep (t x : List Nat) (o n : Nat) (tot : Int) (l : List Nat) : Prop where
  x : x = feed H8 t ++ K80
  on : o + n = l.length
  r : l.drop o = rst t
  tot : tot = (t.length : Int)
theorem Rep.new : Rep [] (H8 ++ K80) 0 0 0 [] := ⟨rfl, rfl, rfl, rfl⟩
theorem Rep.write {t x : List Nat} {o n : Nat} {tot : Int} {l : List Nat} (h : Rep t x o n tot l) (s : List Nat) (hl : l.length + s.length ≤ 5000000) (ht : t.length ≤ 1000000000) :
    g12ok realA s x o n tot l.length l = true ∧ g12r4 realA s x o n tot l.length l = (g12r5 realA s x o n tot l.length l).length ∧ (g12r5 realA s x o n tot l.length l).length ≤ 128 + s.length ∧
      Rep (t ++ s) (g12r0 realA s x o n tot l.length l) (g12r1 realA s x o n tot l.length l) (g12r2 realA s x o n tot l.length l) (g12r3 realA s x o n tot l.length l) (g12r5 realA s x o n tot l.length l) := by
  obtain ⟨rfl, hon, hr, rfl⟩ := h
  have hH := feed_len H8 t H8_len
  have a := w12_ok s (feed H8 t) o n (t.length : Int) l hH hon (by omega) (by omega)
  have a0 := w12_0 s (feed H8 t) o n (t.length : Int) l hH hon (by omega) (by omega)
  have a1 := w12_1 s (feed H8 t) o n (t.length : Int) l hH hon (by omega) (by omega)
  have a2 := w12_2 s (feed H8 t) o n (t.length : Int) l hH hon (by omega) (by omega)
  have a3 := w12_3 s (feed H8 t) o n (t.length : Int) l hH hon (by omega) (by omega)
  have a4 := w12_4 s (feed H8 t) o n (t.length : Int) l hH hon (by omega) (by omega)
  have a5 := w12_5 s (feed H8 t) o n (t.length : Int) l hH hon (by omega) (by omega)
  rw [hr] at a0 a1 a2 a4 a5
  refine ⟨a, by rw [a4, a5], by rw [a5, List.length_append, rst_len]; omega, ⟨by rw [a0, ← feed_add], ?_, ?_, ?_⟩⟩
  · rw [a1, a2, a5]; omega
  · rw [a1, a5]; exact rst_add t s
  · rw [a3, List.length_append]; omega
theorem Rep.sum {t x : List Nat} {o n : Nat} {tot : Int} {l : List Nat} (h : Rep t x o n tot l) (hl : l.length ≤ 5000000) (ht : t.length ≤ 1000000000) :
    g13ok realA x o n tot l.length l = true ∧ g13r0 realA x o n tot l.length l = sha t ∧ g13r1 realA x o n tot l.length l = x ∧ g13r2 realA x o n tot l.length l = o ∧ g13r3 realA x o n tot l.length l = n ∧ g13r4 realA x o n tot l.length l = tot ∧ g13r5 realA x o n tot l.length l = l.length ∧ g13r6 realA x o n tot l.length l = l := by
  obtain ⟨rfl, hon, hr, rfl⟩ := h
  have hH := feed_len H8 t H8_len
  have a0 := s13_0 (feed H8 t) o n t.length l hH hon (by omega) hl
  rw [hr] at a0
  exact ⟨s13_ok _ _ _ _ _ hH hon (by omega) hl, a0, s13_1 _ _ _ _ _ hH hon (by omega) hl, s13_2 _ _ _ _ _ hH hon (by omega) hl, s13_3 _ _ _ _ _ hH hon (by omega) hl, s13_4 _ _ _ _ _ hH hon (by omega) hl, s13_5 _ _ _ _ _ hH hon (by omega) hl, s13_6 _ _ _ _ _ hH hon (by omega) hl⟩
theorem l14_v (x : List Nat) (o n : Nat) (tot : Int) (m : Nat) (l : List Nat)  : g14v realA x o n tot m l = some (i6 tot, [(0, ⟨[.nums .u64 88 x, .one (.sl 1 (some o) n 1), .one (.int .i64 tot)], 45, 1⟩), (1, ⟨[.nums .u8 m l], 5, 2⟩)]) := by
  rfl
theorem l14_ok (x : List Nat) (o n : Nat) (tot : Int) (m : Nat) (l : List Nat)  : g14ok realA x o n tot m l = true := (congrArg g14is (l14_v x o n tot m l )).trans rfl
theorem l14_0 (x : List Nat) (o n : Nat) (tot : Int) (m : Nat) (l : List Nat)  : g14r0 realA x o n tot m l = tot := (congrArg g14g0 (l14_v x o n tot m l )).trans rfl
theorem l14_1 (x : List Nat) (o n : Nat) (tot : Int) (m : Nat) (l : List Nat)  : g14r1 realA x o n tot m l = x := (congrArg g14g1 (l14_v x o n tot m l )).trans rfl
theorem l14_2 (x : List Nat) (o n : Nat) (tot : Int) (m : Nat) (l : List Nat)  : g14r2 realA x o n tot m l = o := (congrArg g14g2 (l14_v x o n tot m l )).trans rfl
theorem l14_3 (x : List Nat) (o n : Nat) (tot : Int) (m : Nat) (l : List Nat)  : g14r3 realA x o n tot m l = n := (congrArg g14g3 (l14_v x o n tot m l )).trans rfl
theorem l14_4 (x : List Nat) (o n : Nat) (tot : Int) (m : Nat) (l : List Nat)  : g14r4 realA x o n tot m l = tot := (congrArg g14g4 (l14_v x o n tot m l )).trans rfl
theorem l14_5 (x : List Nat) (o n : Nat) (tot : Int) (m : Nat) (l : List Nat)  : g14r5 realA x o n tot m l = m := (congrArg g14g5 (l14_v x o n tot m l )).trans rfl
theorem l14_6 (x : List Nat) (o n : Nat) (tot : Int) (m : Nat) (l : List Nat)  : g14r6 realA x o n tot m l = l := (congrArg g14g6 (l14_v x o n tot m l )).trans rfl

theorem g9path {R : Type} (A : Ar) (n : Nat) (kk : AV → Heap → Option R) (a : List Nat)
    (p0 : g11ok A = true)
    (p1 : g12ok A a (g11r0 A) 0 0 (g11r1 A) 0 [] = true)
    (p2 : g13ok A (g12r0 A a (g11r0 A) 0 0 (g11r1 A) 0 []) (g12r1 A a (g11r0 A) 0 0 (g11r1 A) 0 []) (g12r2 A a (g11r0 A) 0 0 (g11r1 A) 0 []) (g12r3 A a (g11r0 A) 0 0 (g11r1 A) 0 []) (g12r4 A a (g11r0 A) 0 0 (g11r1 A) 0 []) (g12r5 A a (g11r0 A) 0 0 (g11r1 A) 0 []) = true) :
    g9 A n kk a = kk (tS (g9t0 A a)) [(2000, ⟨[.nums .u64 88 (g9t1 A a), .one (.sl 2500 (some (g9t2 A a)) (g9t3 A a) 1), .one (.int .i64 (g9t4 A a))], 45, 1⟩), (2500, ⟨[.nums .u8 (g9t5 A a) (g9t6 A a)], 5, 2⟩)] := by
  rw [g9, SxR02cmt p0, SxR02cmt p1, SxR02cmt p2]
theorem one_v (s : List Nat) (hs : s.length ≤ 4000000) : g9v realA s = some (tS (sha s)) := by
  obtain ⟨a1, a2, a3, a4⟩ := Rep.new.write s (by simp; omega) (by simp)
  simp only [List.length_nil, List.nil_append] at a1 a2 a3 a4
  obtain ⟨b1, b2, -⟩ := a4.sum (by omega) (by omega)
  have h := g9path realA 100000 (fun v _ => some v) s new_ok (by rw [new_0, new_1]; exact a1) (by rw [new_0, new_1, a2]; exact b1)
  have e : g9t0 realA s = sha s := by
    show g13r0 realA _ _ _ _ _ _ = _
    rw [new_0, new_1, a2]
    exact b2
  rw [e] at h
  exact h
theorem one_ok (s : List Nat) (hs : s.length ≤ 4000000) : g9ok realA s = true := (congrArg g9is (one_v s hs)).trans rfl
theorem g9g0_some (y : List Nat) : g9g0 (some (tS y)) = y := rfl
theorem one_0 (s : List Nat) (hs : s.length ≤ 4000000) : g9r0 realA s = sha s := (congrArg g9g0 (one_v s hs)).trans (g9g0_some _)
-- numbers worked out at once
def frc (n : Nat) (k : Nat → List Nat) : List Nat := match n with
  | 0 => k 0
  | m + 1 => k (m + 1)
theorem frc_eq (n : Nat) (k : Nat → List Nat) : frc n k = k n := by cases n <;> rfl
def frcL : List Nat → (List Nat → List Nat) → List Nat
  | [], k => k []
  | x :: r, k => frc x fun x => frcL r fun r => k (x :: r)
theorem frcL_eq (l : List Nat) : ∀ (k : List Nat → List Nat), frcL l k = k l := by
  induction l with
  | nil => intro k; rfl
  | cons x r ih => intro k; rw [frcL, frc_eq, ih]
abbrev Fo : Type := List Nat → (List Nat → List Nat) → List Nat
def ewK (F : Fo) (b : List Nat) : Nat → (List Nat → List Nat) → List Nat
  | 0, k => F (pl b 128) k
  | n + 1, k => ewK F b n fun w => F (w.set (16 + n) (nx w (16 + n))) k
def rdC (C W v : List Nat) : Nat → List Nat
  | 0 => v
  | n + 1 => rs (C.getD n 0) (W.getD n 0) (rdC C W v n)
theorem rdC_eq (W v : List Nat) (n : Nat) : rdC K80 W v n = rd W v n := by
  induction n with
  | zero => rw [rdC, rd]
  | succ n ih => rw [rdC, rd, ih]
def rdK (F : Fo) (C W v : List Nat) : Nat → (List Nat → List Nat) → List Nat
  | 0, k => F v k
  | n + 1, k => rdK F C W v n fun v => F (rs (C.getD n 0) (W.getD n 0) v) k
def compK (F : Fo) (H b : List Nat) (k : List Nat → List Nat) : List Nat := ewK F b 64 fun W => rdK F K80 W H 80 fun v => F (ad8 H v) k
def feedK (F : Fo) : Nat → List Nat → List Nat → (List Nat → List Nat) → List Nat
  | 0, H, _, k => k H
  | n + 1, H, l, k => compK F H l fun H => F (l.drop 128) fun l => feedK F n H l k
def shaK (F : Fo) (t : List Nat) : List Nat := feedK F (t.length / 128) H8 t fun H => F (pad (rst t) t.length) fun p => feedK F (p.length / 128) H p dig
section
variable {F : Fo} (hF : ∀ l k, F l k = k l)
include hF
theorem ewK_eq (b : List Nat) : ∀ (n : Nat) (k : List Nat → List Nat), ewK F b n k = k (ew b n) := by
  intro n
  induction n with
  | zero => intro k; rw [ewK, hF, ew]
  | succ n ih => intro k; rw [ewK, ih, hF, ew]
theorem rdK_eq (C W v : List Nat) : ∀ (n : Nat) (k : List Nat → List Nat), rdK F C W v n k = k (rdC C W v n) := by
  intro n
  induction n with
  | zero => intro k; rw [rdK, hF, rdC]
  | succ n ih => intro k; rw [rdK, ih, hF, rdC]
theorem compK_eq (H b : List Nat) (k : List Nat → List Nat) : compK F H b k = k (comp H b) := by
  unfold compK comp
  rw [ewK_eq hF, rdK_eq hF, hF, rdC_eq]
theorem feedK_eq : ∀ (n : Nat) (H l : List Nat) (k : List Nat → List Nat), feedK F n H l k = k (feedN n H l) := by
  intro n
  induction n with
  | zero => intro H l k; rw [feedK, feedN]
  | succ n ih => intro H l k; rw [feedK, compK_eq hF, hF, ih, feedN]
theorem shaK_eq (t : List Nat) : shaK F t = sha t := by
  unfold shaK sha feed
  rw [feedK_eq hF, hF, feedK_eq hF]
end
def shaABC : List Nat := [221, 175, 53, 161, 147, 97, 122, 186, 204, 65, 115, 73, 174, 32, 65, 49, 18, 230, 250, 78, 137, 169, 126, 162, 10, 158, 238, 230, 75, 85, 211, 154, 33, 146, 153, 42, 39, 79, 193, 168, 54, 186, 60, 35, 163, 254, 235, 189, 69, 77, 68, 35, 100, 60, 232, 14, 42, 154, 201, 79, 165, 76, 164, 159]
theorem sha_abc : sha [97, 98, 99] = shaABC := (shaK_eq frcL_eq _).symm.trans (by decide +kernel)
end Go.Sx
