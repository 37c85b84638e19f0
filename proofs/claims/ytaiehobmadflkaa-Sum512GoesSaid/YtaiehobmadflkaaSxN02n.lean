import Derived.Test.YtaiehobmadflkaaSxN02i
import Derived.Test.YtaiehobmadflkaaSxR02e
namespace Go.Sx
theorem v22 (x n : Nat) (hn : n ≤ 64) : g22v realA x n = some (u64v (rt x n)) := by
  have e : realA.nb .sub .u64 64 n = 64 - n := by
    show (64 + 18446744073709551616 - n) % 18446744073709551616 = 64 - n
    omega
  unfold g22v g22
  rw [e, q4or, ar_nshr, ar_nshl, pw64 _ rfl, Nat.or_comm]
  rfl
theorem g22g0_some (y : Nat) : g22g0 (some (u64v y)) = y := rfl
theorem g22is_some (y : Nat) : g22is (some (u64v y)) = true := rfl
theorem ok22 {x n : Nat} (hn : n ≤ 64) : g22ok realA x n = true := (congrArg g22is (v22 x n hn)).trans (g22is_some _)
theorem r22 {x n : Nat} (hn : n ≤ 64) : g22r0 realA x n = rt x n := (congrArg g22g0 (v22 x n hn)).trans (g22g0_some _)
theorem testM (i : Nat) : Nat.testBit 18446744073709551615 i = decide (i < 64) := Nat.testBit_two_pow_sub_one 64 i
theorem chE {e f g : Nat} (hg : g < B64) : (e &&& f) ^^^ ((18446744073709551615 ^^^ e) &&& g) = g ^^^ (e &&& (f ^^^ g)) := by
  apply Nat.eq_of_testBit_eq
  intro i
  simp only [Nat.testBit_xor, Nat.testBit_and, testM]
  by_cases hi : i < 64
  · simp only [hi, decide_true]
    cases e.testBit i <;> cases f.testBit i <;> cases g.testBit i <;> rfl
  · have h2 : g.testBit i = false := Nat.testBit_lt_two_pow (Nat.lt_of_lt_of_le hg (show B64 ≤ 2 ^ i from Nat.pow_le_pow_right (show 0 < 2 by omega) (show 64 ≤ i by omega)))
    rw [h2]
    simp only [hi, decide_false]
    cases e.testBit i <;> cases f.testBit i <;> rfl
theorem majE (a b c : Nat) : ((a &&& b) ^^^ (a &&& c)) ^^^ (b &&& c) = (a &&& b) ||| (c &&& (a ||| b)) := by
  apply Nat.eq_of_testBit_eq
  intro i
  simp only [Nat.testBit_xor, Nat.testBit_and, Nat.testBit_or]
  cases a.testBit i <;> cases b.testBit i <;> cases c.testBit i <;> rfl
theorem sumE (h s c k w : Nat) : ((((h + s) % B64 + c) % B64 + k) % B64 + w) % B64 = ((((h + k) % B64 + w) % B64 + c) % B64 + s) % B64 := by
  simp only [Nat.mod_add_mod]
  rw [show h + s + c + k + w = h + k + w + c + s by omega]
theorem set8 (a b c d e f g h : Nat) : (((((((([0, 0, 0, 0, 0, 0, 0, 0].set 0 a).set 1 b).set 2 c).set 3 d).set 4 e).set 5 f).set 6 g).set 7 h) = [a, b, c, d, e, f, g, h] := rfl
theorem g24g0_some (y : List Nat) : g24g0 (some (aN .u64 8 y)) = y := rfl
theorem g24is_some (y : List Nat) : g24is (some (aN .u64 8 y)) = true := rfl
theorem g24path {R : Type} (A : Ar) (n : Nat) (kk : AV → Heap → Option R) (a : List Nat) (b c : Nat)
    (p0 : (g22ok A (a.getD 4 0) 14) = true)
    (p1 : (g22ok A (a.getD 4 0) 18) = true)
    (p2 : (g22ok A (a.getD 4 0) 41) = true)
    (p3 : (g22ok A (a.getD 0 0) 28) = true)
    (p4 : (g22ok A (a.getD 0 0) 34) = true)
    (p5 : (g22ok A (a.getD 0 0) 39) = true) :
    g24 A n kk a b c = kk (aN .u64 8 (((((((([0, 0, 0, 0, 0, 0, 0, 0].set 0 (A.nb .add .u64 (A.nb .add .u64 (A.nb .add .u64 (A.nb .add .u64 (A.nb .add .u64 (a.getD 7 0) (A.nb .xor .u64 (A.nb .xor .u64 (g22r0 A (a.getD 4 0) 14) (g22r0 A (a.getD 4 0) 18)) (g22r0 A (a.getD 4 0) 41))) (A.nb .xor .u64 (A.nb .and .u64 (a.getD 4 0) (a.getD 5 0)) (A.nb .and .u64 (A.nb .xor .u64 18446744073709551615 (a.getD 4 0)) (a.getD 6 0)))) b) c) (A.nb .add .u64 (A.nb .xor .u64 (A.nb .xor .u64 (g22r0 A (a.getD 0 0) 28) (g22r0 A (a.getD 0 0) 34)) (g22r0 A (a.getD 0 0) 39)) (A.nb .xor .u64 (A.nb .xor .u64 (A.nb .and .u64 (a.getD 0 0) (a.getD 1 0)) (A.nb .and .u64 (a.getD 0 0) (a.getD 2 0))) (A.nb .and .u64 (a.getD 1 0) (a.getD 2 0)))))).set 1 (a.getD 0 0)).set 2 (a.getD 1 0)).set 3 (a.getD 2 0)).set 4 (A.nb .add .u64 (a.getD 3 0) (A.nb .add .u64 (A.nb .add .u64 (A.nb .add .u64 (A.nb .add .u64 (a.getD 7 0) (A.nb .xor .u64 (A.nb .xor .u64 (g22r0 A (a.getD 4 0) 14) (g22r0 A (a.getD 4 0) 18)) (g22r0 A (a.getD 4 0) 41))) (A.nb .xor .u64 (A.nb .and .u64 (a.getD 4 0) (a.getD 5 0)) (A.nb .and .u64 (A.nb .xor .u64 18446744073709551615 (a.getD 4 0)) (a.getD 6 0)))) b) c))).set 5 (a.getD 4 0)).set 6 (a.getD 5 0)).set 7 (a.getD 6 0))) [(1000, (bU 8 a 40)), (1001, (bU 8 (((((((([0, 0, 0, 0, 0, 0, 0, 0].set 0 (A.nb .add .u64 (A.nb .add .u64 (A.nb .add .u64 (A.nb .add .u64 (A.nb .add .u64 (a.getD 7 0) (A.nb .xor .u64 (A.nb .xor .u64 (g22r0 A (a.getD 4 0) 14) (g22r0 A (a.getD 4 0) 18)) (g22r0 A (a.getD 4 0) 41))) (A.nb .xor .u64 (A.nb .and .u64 (a.getD 4 0) (a.getD 5 0)) (A.nb .and .u64 (A.nb .xor .u64 18446744073709551615 (a.getD 4 0)) (a.getD 6 0)))) b) c) (A.nb .add .u64 (A.nb .xor .u64 (A.nb .xor .u64 (g22r0 A (a.getD 0 0) 28) (g22r0 A (a.getD 0 0) 34)) (g22r0 A (a.getD 0 0) 39)) (A.nb .xor .u64 (A.nb .xor .u64 (A.nb .and .u64 (a.getD 0 0) (a.getD 1 0)) (A.nb .and .u64 (a.getD 0 0) (a.getD 2 0))) (A.nb .and .u64 (a.getD 1 0) (a.getD 2 0)))))).set 1 (a.getD 0 0)).set 2 (a.getD 1 0)).set 3 (a.getD 2 0)).set 4 (A.nb .add .u64 (a.getD 3 0) (A.nb .add .u64 (A.nb .add .u64 (A.nb .add .u64 (A.nb .add .u64 (a.getD 7 0) (A.nb .xor .u64 (A.nb .xor .u64 (g22r0 A (a.getD 4 0) 14) (g22r0 A (a.getD 4 0) 18)) (g22r0 A (a.getD 4 0) 41))) (A.nb .xor .u64 (A.nb .and .u64 (a.getD 4 0) (a.getD 5 0)) (A.nb .and .u64 (A.nb .xor .u64 18446744073709551615 (a.getD 4 0)) (a.getD 6 0)))) b) c))).set 5 (a.getD 4 0)).set 6 (a.getD 5 0)).set 7 (a.getD 6 0)) 40))] := by
  rw [g24.eq_def, SxR02dmt p0, SxR02dmt p1, SxR02dmt p2, SxR02dmt p3, SxR02dmt p4, SxR02dmt p5]

theorem v24 (v : List Nat) (k w : Nat) (hg : v.getD 6 0 < B64) : g24v realA v k w = some (aN .u64 8 (rs k w v)) := by
  refine (g24path realA 100000 (fun v _ => some v) v k w (ok22 (by omega)) (ok22 (by omega)) (ok22 (by omega)) (ok22 (by omega)) (ok22 (by omega)) (ok22 (by omega))).trans ?_
  refine congrArg (fun l => some (aN .u64 8 l)) ?_
  rw [set8]
  simp only [r22 (show 14 ≤ 64 by omega), r22 (show 18 ≤ 64 by omega), r22 (show 41 ≤ 64 by omega), r22 (show 28 ≤ 64 by omega), r22 (show 34 ≤ 64 by omega), r22 (show 39 ≤ 64 by omega), ar_nadd, pw64 _ rfl, q4and, q4xor]
  rw [chE hg, majE, sumE (v.getD 7 0) ((rt (v.getD 4 0) 14 ^^^ rt (v.getD 4 0) 18) ^^^ rt (v.getD 4 0) 41) _ k w, Nat.add_comm ((rt (v.getD 0 0) 28 ^^^ rt (v.getD 0 0) 34) ^^^ rt (v.getD 0 0) 39)]
  unfold rs tf uf sg0 sg1
  with_reducible rfl
theorem ok24 {v : List Nat} {k w : Nat} (hg : v.getD 6 0 < B64) : g24ok realA v k w = true := (congrArg g24is (v24 v k w hg)).trans (g24is_some _)
theorem r24 {v : List Nat} {k w : Nat} (hg : v.getD 6 0 < B64) : g24r0 realA v k w = rs k w v := (congrArg g24g0 (v24 v k w hg)).trans (g24g0_some _)
theorem table_v : g23v realA = some (sL 700 none 80 1, [(700, ⟨[.nums .u64 80 K80], 36, 2⟩)]) := by kernel_rfl
theorem table_ok : g23ok realA = true := (congrArg g23is table_v).trans rfl
theorem table_0 : g23r0 realA = 80 := (congrArg g23g0 table_v).trans rfl
theorem table_1 : g23r1 realA = 80 := (congrArg g23g1 table_v).trans rfl
theorem table_2 : g23r2 realA = K80 := (congrArg g23g2 table_v).trans rfl
def V8 (l : List Nat) : Prop := l.length = 8 ∧ ∀ x ∈ l, x < B64
theorem V8.get {l : List Nat} (h : V8 l) (j : Nat) : l.getD j 0 < B64 := getD_ltE h.2 j
theorem rs_V8 {k w : Nat} {v : List Nat} (h : V8 v) : V8 (rs k w v) := by
  refine ⟨rfl, ?_⟩
  have hp : 0 < B64 := by decide
  have m1 := Nat.mod_lt (tf k w v + uf v) hp
  have m2 := Nat.mod_lt (v.getD 3 0 + tf k w v) hp
  intro x hx
  unfold rs at hx
  simp only [List.mem_cons, List.not_mem_nil, or_false] at hx
  rcases hx with rfl | rfl | rfl | rfl | rfl | rfl | rfl | rfl
  · exact m1
  · exact h.get 0
  · exact h.get 1
  · exact h.get 2
  · exact m2
  · exact h.get 4
  · exact h.get 5
  · exact h.get 6
theorem rd_V8 {W v : List Nat} (h : V8 v) : ∀ n, V8 (rd W v n) := by
  intro n
  induction n with
  | zero => exact h
  | succ n ih => exact rs_V8 ih
theorem ad8_V8 (H v : List Nat) : V8 (ad8 H v) := by
  refine ⟨by simp [ad8], ?_⟩
  intro x hx
  unfold ad8 at hx
  obtain ⟨i, _, rfl⟩ := List.mem_map.1 hx
  exact Nat.mod_lt _ (by decide)
theorem comp_V8 (H b : List Nat) : V8 (comp H b) := ad8_V8 _ _
theorem H8_V8 : V8 H8 := ⟨by decide, by decide⟩
theorem range8 (f : Nat → Nat) : (List.range 8).map f = [f 0, f 1, f 2, f 3, f 4, f 5, f 6, f 7] := rfl
end Go.Sx
namespace Go.Sx
theorem in17 (N : Nat) (lg : List Nat → Nat → Int → List Nat → List Nat → Nat → List Nat → Option AV) (b : List Nat) (hb : 128 ≤ b.length) (i x1 x7 : Nat) (s z l : List Nat) (hi : i < 16) : ∀ (d k f : Nat), k + d = 8 → d < f →
    g17L7 realA N (fun v _ => some v) lg f b x1 (i : Int) (wd b i k) (k : Int) s z x7 l = g17J10 realA N (fun v _ => some v) lg b x1 (i : Int) (wd b i 8) s z x7 l := by
  intro d
  induction d with
  | zero =>
    intro k f h hf
    obtain ⟨f, rfl⟩ : ∃ q, f = q + 1 := ⟨f - 1, by omega⟩
    obtain rfl : k = 8 := by omega
    rw [g17L7, ar_lss, decide_eq_false (by omega)]
  | succ d ih =>
    intro k f h hf
    obtain ⟨f, rfl⟩ : ∃ q, f = q + 1 := ⟨f - 1, by omega⟩
    have e1 : realA.ib .add .i64 (k : Int) 1 = ((k + 1 : Nat) : Int) := by rw [ar_add (by omega)]; omega
    have e2 : realA.ib .add .i64 (realA.ib .mul .i64 8 (i : Int)) (k : Int) = ((8 * i + k : Nat) : Int) := by rw [ar_mul (by omega), ar_add (by omega)]; omega
    rw [g17L7, ar_lss, decide_eq_true (show (k : Int) < 8 by omega)]
    simp only [g17J9, e1, e2, ar_negN, ar_toNN, ar_lt, decide_eq_true (show 8 * i + k < b.length by omega), ar_nshl, pw64 _ rfl, q4or]
    exact ih (k + 1) f (by omega) (by omega)
def w16 (b : List Nat) (i : Nat) : List Nat := (List.range i).map fun j => wd b j 8
theorem w16_len (b : List Nat) (i : Nat) : (w16 b i).length = i := by simp [w16]
theorem w16_snoc (b : List Nat) (i : Nat) : w16 b i ++ [wd b i 8] = w16 b (i + 1) := by
  unfold w16
  rw [List.range_succ, List.map_append]
  rfl
theorem ow17 (N : Nat) (hN : 8 < N) (b : List Nat) (hb : 128 ≤ b.length) (s z : List Nat) : ∀ (d i f : Nat), i + d = 16 → d < f →
    g17L3 realA N (fun v _ => some v) f b i (i : Int) s z i (w16 b i) = g17J11 realA N (fun v _ => some v) 16 s z 16 (w16 b 16) := by
  intro d
  induction d with
  | zero =>
    intro i f h hf
    obtain ⟨f, rfl⟩ : ∃ q, f = q + 1 := ⟨f - 1, by omega⟩
    obtain rfl : i = 16 := by omega
    rw [g17L3, ar_lss, decide_eq_false (by omega)]
  | succ d ih =>
    intro i f h hf
    obtain ⟨f, rfl⟩ : ∃ q, f = q + 1 := ⟨f - 1, by omega⟩
    have e1 : realA.ib .add .i64 (i : Int) 1 = ((i + 1 : Nat) : Int) := by rw [ar_add (by omega)]; omega
    rw [g17L3, ar_lss, decide_eq_true (show (i : Int) < 16 by omega)]
    simp only [g17J5]
    refine (in17 N _ b hb i i i s z (w16 b i) (by omega) 8 0 N (by omega) hN).trans ?_
    simp only [g17J10, take1, w16_snoc, w16_len, ar_eq, ar_le, Nat.add_zero, decide_true, decide_eq_true (show (i + 1) * 8 ≤ 140737488355328 by omega), e1]
    exact ih (i + 1) f (by omega) (by omega)
theorem ew_0 (b : List Nat) : (ew b 0).take (16 + 0) = w16 b 16 := by
  apply List.ext_getElem?
  intro j
  by_cases hj : j < 16
  · rw [List.getElem?_take_of_lt (by omega)]
    have h1 : (ew b 0)[j]? = some (wd b j (min 8 (128 - 8 * j))) := by
      show (pl b 128)[j]? = _
      unfold pl
      rw [List.getElem?_map, List.getElem?_range (by omega)]; rfl
    have h2 : (w16 b 16)[j]? = some (wd b j 8) := by
      unfold w16
      rw [List.getElem?_map, List.getElem?_range hj]; rfl
    rw [h1, h2, show min 8 (128 - 8 * j) = 8 by omega]
  · rw [List.getElem?_eq_none (by rw [List.length_take, ew_len]; omega), List.getElem?_eq_none (by rw [w16_len]; omega)]
theorem ew_take (b : List Nat) (i : Nat) (hi : i < 64) : (ew b i).take (16 + i) ++ [nx (ew b i) (16 + i)] = (ew b (i + 1)).take (16 + (i + 1)) := by
  rw [ew, show 16 + (i + 1) = 16 + i + 1 by omega]
  apply List.ext_getElem?
  intro j
  by_cases h1 : j < 16 + i
  · rw [List.getElem?_append_left (by rw [List.length_take, ew_len]; omega), List.getElem?_take_of_lt h1, List.getElem?_take_of_lt (by omega), List.getElem?_set_ne (by omega)]
  · by_cases h2 : j = 16 + i
    · subst h2
      rw [List.getElem?_append_right (by rw [List.length_take]; omega), List.getElem?_take_of_lt (by omega), List.getElem?_set_self (by rw [ew_len]; omega), List.length_take, ew_len, show 16 + i - min (16 + i) 80 = 0 by omega]
      rfl
    · rw [List.getElem?_eq_none (by rw [List.length_append, List.length_take, ew_len]; simp; omega), List.getElem?_eq_none (by rw [List.length_take]; omega)]
theorem take_get (l : List Nat) (n j : Nat) (h : j < n) : (l.take n).getD j 0 = l.getD j 0 := by
  rw [List.getD_eq_getElem?_getD, List.getD_eq_getElem?_getD, List.getElem?_take_of_lt h]
theorem sumX (x a y c : Nat) : ((((x + a) % B64) + y) % B64 + c) % B64 = (((a + c) % B64 + x) % B64 + y) % B64 := by
  simp only [Nat.mod_add_mod]
  rw [show x + a + y + c = a + c + x + y by omega]
theorem rd17 (N : Nat) (b s z W : List Nat) (hs : V8 s) : ∀ (d i f : Nat), i + d = 80 → d < f →
    g17L20 realA N (fun v _ => some v) f 80 80 (i : Int) s [0, 0, 0, 0, 0, 0, 0, 0] 80 W 80 K80 (rd W s i) = some (aN .u64 8 (ad8 s (rd W s 80))) := by
  intro d
  induction d with
  | zero =>
    intro i f h hf
    obtain ⟨f, rfl⟩ : ∃ q, f = q + 1 := ⟨f - 1, by omega⟩
    obtain rfl : i = 80 := by omega
    rw [g17L20, ar_lss, decide_eq_false (by omega)]
    simp only [g17J23]
    refine congrArg (fun l => some (aN .u64 8 l)) ?_
    rw [set8]
    unfold ad8
    rw [range8]
    simp only [ar_nadd, pw64 _ rfl]
  | succ d ih =>
    intro i f h hf
    obtain ⟨f, rfl⟩ : ∃ q, f = q + 1 := ⟨f - 1, by omega⟩
    have e1 : realA.ib .add .i64 (i : Int) 1 = ((i + 1 : Nat) : Int) := by rw [ar_add (by omega)]; omega
    have hg := (rd_V8 (W := W) hs i).get 6
    rw [g17L20, ar_lss, decide_eq_true (show (i : Int) < 80 by omega)]
    simp only [g17J22, e1, ar_negN, ar_toNN, ar_lt, decide_eq_true (show i < 80 by omega), ok24 hg, r24 hg]
    exact ih (i + 1) f (by omega) (by omega)
theorem ex17 (N : Nat) (hN : 80 < N) (b s : List Nat) (hs : V8 s) : ∀ (d i f : Nat), i + d = 64 → d < f →
    g17L12 realA N (fun v _ => some v) f (16 + i) ((16 + i : Nat) : Int) s [0, 0, 0, 0, 0, 0, 0, 0] (16 + i) ((ew b i).take (16 + i)) = some (aN .u64 8 (comp s b)) := by
  intro d
  induction d with
  | zero =>
    intro i f h hf
    obtain ⟨f, rfl⟩ : ∃ q, f = q + 1 := ⟨f - 1, by omega⟩
    obtain rfl : i = 64 := by omega
    rw [g17L12, ar_lss, decide_eq_false (by omega)]
    simp only [g17J17, table_ok, table_0, table_1, table_2]
    rw [List.take_of_length_le (show (ew b 64).length ≤ 16 + 64 by rw [ew_len]; omega)]
    exact rd17 N b s [] (ew b 64) hs 80 0 N (by omega) hN
  | succ d ih =>
    intro i f h hf
    obtain ⟨f, rfl⟩ : ∃ q, f = q + 1 := ⟨f - 1, by omega⟩
    have e1 : realA.ib .add .i64 ((16 + i : Nat) : Int) 1 = ((16 + (i + 1) : Nat) : Int) := by rw [ar_add (by omega)]; omega
    have s2 : realA.ib .sub .i64 ((16 + i : Nat) : Int) 2 = ((16 + i - 2 : Nat) : Int) := by rw [ar_sub (by omega)]; omega
    have s7 : realA.ib .sub .i64 ((16 + i : Nat) : Int) 7 = ((16 + i - 7 : Nat) : Int) := by rw [ar_sub (by omega)]; omega
    have s15 : realA.ib .sub .i64 ((16 + i : Nat) : Int) 15 = ((16 + i - 15 : Nat) : Int) := by rw [ar_sub (by omega)]; omega
    have s16 : realA.ib .sub .i64 ((16 + i : Nat) : Int) 16 = ((16 + i - 16 : Nat) : Int) := by rw [ar_sub (by omega)]; omega
    have hn : (((((rt ((ew b i).getD (16 + i - 2) 0) 19 ^^^ rt ((ew b i).getD (16 + i - 2) 0) 61) ^^^ (ew b i).getD (16 + i - 2) 0 / 2 ^ 6) + (ew b i).getD (16 + i - 7) 0) % B64 + ((rt ((ew b i).getD (16 + i - 15) 0) 1 ^^^ rt ((ew b i).getD (16 + i - 15) 0) 8) ^^^ (ew b i).getD (16 + i - 15) 0 / 2 ^ 7)) % B64 + (ew b i).getD (16 + i - 16) 0) % B64 = nx (ew b i) (16 + i) := by
      rw [sumX]; rfl
    have hl : ((ew b i).take (16 + i) ++ [nx (ew b i) (16 + i)]).length = 16 + (i + 1) := by rw [List.length_append, List.length_take, ew_len]; simp; omega
    rw [g17L12, ar_lss, decide_eq_true (show ((16 + i : Nat) : Int) < 80 by omega)]
    simp only [g17J14, s2, s7, s15, s16, e1, ar_negN, ar_toNN, ar_lt, decide_eq_true (show 16 + i - 2 < 16 + i by omega), decide_eq_true (show 16 + i - 7 < 16 + i by omega), decide_eq_true (show 16 + i - 15 < 16 + i by omega), decide_eq_true (show 16 + i - 16 < 16 + i by omega), take_get _ _ _ (show 16 + i - 2 < 16 + i by omega), take_get _ _ _ (show 16 + i - 7 < 16 + i by omega), take_get _ _ _ (show 16 + i - 15 < 16 + i by omega), take_get _ _ _ (show 16 + i - 16 < 16 + i by omega), ok22 (show 19 ≤ 64 by omega), ok22 (show 61 ≤ 64 by omega), ok22 (show 1 ≤ 64 by omega), ok22 (show 8 ≤ 64 by omega), r22 (show 19 ≤ 64 by omega), r22 (show 61 ≤ 64 by omega), r22 (show 1 ≤ 64 by omega), r22 (show 8 ≤ 64 by omega), ar_nshr, ar_nadd, pw64 _ rfl, q4xor, take1, hn, hl, ar_eq, ar_le, Nat.add_zero, decide_true, decide_eq_true (show (16 + (i + 1)) * 8 ≤ 140737488355328 by omega)]
    rw [ew_take b i (by omega)]
    exact ih (i + 1) f (by omega) (by omega)
theorem v17 (s b : List Nat) (hs : V8 s) (hb : 128 ≤ b.length) : g17v realA s b = some (aN .u64 8 (comp s b)) := by
  unfold g17v g17
  refine (ow17 100000 (by omega) b hb s _ 16 0 100000 (by omega) (by omega)).trans ?_
  simp only [g17J11]
  rw [← ew_0]
  exact ex17 100000 (by omega) b s hs 64 0 100000 (by omega) (by omega)
theorem g17g0_some (y : List Nat) : g17g0 (some (aN .u64 8 y)) = y := rfl
theorem g17is_some (y : List Nat) : g17is (some (aN .u64 8 y)) = true := rfl
theorem ok17 {s b : List Nat} (hs : V8 s) (hb : 128 ≤ b.length) : g17ok realA s b = true := (congrArg g17is (v17 s b hs hb)).trans (g17is_some _)
theorem r17 {s b : List Nat} (hs : V8 s) (hb : 128 ≤ b.length) : g17r0 realA s b = comp s b := (congrArg g17g0 (v17 s b hs hb)).trans (g17g0_some _)
end Go.Sx
namespace Go.Sx
theorem step16 (N : Nat) (x c : Nat) (l : List Nat) (i f : Nat) (hi : i < 8) : g16L3 realA N (fun v _ => some v) (f + 1) x 8 (i : Int) c l = g16L3 realA N (fun v _ => some v) f x 8 ((i + 1 : Nat) : Int) c (l.set i (x / 2 ^ (56 - 8 * i) % 256)) := by
  have e1 : realA.ib .add .i64 (i : Int) 1 = ((i + 1 : Nat) : Int) := by rw [ar_add (by omega)]; omega
  have e2 : realA.ib .sub .i64 56 (realA.ib .mul .i64 8 (i : Int)) = ((56 - 8 * i : Nat) : Int) := by rw [ar_mul (by omega), ar_sub (by omega)]; omega
  have e3 : realA.n2n .u8 (realA.nsh .shr .u64 x (56 - 8 * i)) = x / 2 ^ (56 - 8 * i) % 256 := rfl
  rw [g16L3, ar_lss, decide_eq_true (show (i : Int) < 8 by omega)]
  simp only [g16J5, e1, e2, e3, ar_negN, ar_toNN, ar_lt, decide_eq_true hi]
theorem end16 (N : Nat) (x c : Nat) (l : List Nat) (f : Nat) (hl : l.length = 8) : g16L3 realA N (fun v _ => some v) (f + 1) x 8 ((8 : Nat) : Int) c l = some (tS l) := by
  rw [g16L3, ar_lss, decide_eq_false (by omega)]
  simp only [List.take_of_length_le (show l.length ≤ 8 by omega)]
theorem all16 (N f : Nat) (x c : Nat) : g16L3 realA N (fun v _ => some v) (f + 9) x 8 ((0 : Nat) : Int) c [0, 0, 0, 0, 0, 0, 0, 0] = some (tS (be8 x)) := by
  rw [step16 N x c _ 0 (f + 8) (by omega), step16 N x c _ (0 + 1) (f + 7) (by omega), step16 N x c _ (0 + 1 + 1) (f + 6) (by omega), step16 N x c _ (0 + 1 + 1 + 1) (f + 5) (by omega), step16 N x c _ (0 + 1 + 1 + 1 + 1) (f + 4) (by omega), step16 N x c _ (0 + 1 + 1 + 1 + 1 + 1) (f + 3) (by omega), step16 N x c _ (0 + 1 + 1 + 1 + 1 + 1 + 1) (f + 2) (by omega), step16 N x c _ (0 + 1 + 1 + 1 + 1 + 1 + 1 + 1) (f + 1) (by omega)]
  refine (end16 N x c _ f (by simp)).trans ?_
  refine congrArg (fun l => some (tS l)) ?_
  refine (set8 _ _ _ _ _ _ _ _).trans ?_
  unfold be8 bes
  rw [List.drop_zero, range8]
theorem v16 (x : Nat) : g16v realA x = some (tS (be8 x)) := by
  unfold g16v g16
  rw [ar_le, ar_le, decide_eq_true (by omega), decide_eq_true (by omega)]
  exact all16 100000 99991 x 8
theorem g16g0_some (y : List Nat) : g16g0 (some (tS y)) = y := rfl
theorem g16is_some (y : List Nat) : g16is (some (tS y)) = true := rfl
theorem ok16 (x : Nat) : g16ok realA x = true := (congrArg g16is (v16 x)).trans (g16is_some _)
theorem r16 (x : Nat) : g16r0 realA x = be8 x := (congrArg g16g0 (v16 x)).trans (g16g0_some _)
theorem dig8 (l : List Nat) (h : l.length = 8) : (((((((be8 (l.getD 0 0) ++ be8 (l.getD 1 0)) ++ be8 (l.getD 2 0)) ++ be8 (l.getD 3 0)) ++ be8 (l.getD 4 0)) ++ be8 (l.getD 5 0)) ++ be8 (l.getD 6 0)) ++ be8 (l.getD 7 0)) = dig l := by
  match l, h with
  | [a, b, c, d, e, f, g, i], _ =>
    show (((((((be8 a ++ be8 b) ++ be8 c) ++ be8 d) ++ be8 e) ++ be8 f) ++ be8 g) ++ be8 i) = _
    unfold dig
    simp only [List.flatMap_cons, List.flatMap_nil, List.append_assoc, List.append_nil]
theorem j11 (N : Nat) (l : List Nat) (h : l.length = 8) : g10J11 realA N (fun v _ => some v) l = some (tS (dig l)) := by
  have q : ∀ {k : Nat}, k ≤ 64 → decide (k ≤ 9223372036854775807) = true := fun h => decide_eq_true (by omega)
  simp only [g10J11, ok16, r16, ar_le, List.length_append, be8_len, q (show 8 + 8 ≤ 64 by omega), q (show 8 + 8 + 8 ≤ 64 by omega), q (show 8 + 8 + 8 + 8 ≤ 64 by omega), q (show 8 + 8 + 8 + 8 + 8 ≤ 64 by omega), q (show 8 + 8 + 8 + 8 + 8 + 8 ≤ 64 by omega), q (show 8 + 8 + 8 + 8 + 8 + 8 + 8 ≤ 64 by omega), q (show 8 + 8 + 8 + 8 + 8 + 8 + 8 + 8 ≤ 64 by omega)]
  rw [dig8 l h]
theorem l10 (N : Nat) (S : List Nat) (hS : S.length ≤ 1000000) : ∀ (k j f : Nat) (H : List Nat), V8 H → S.length = 128 * (j + k) → k < f →
    g10L8 realA N (fun v _ => some v) f S ((128 * j : Nat) : Int) H = some (tS (dig (feedN k H (S.drop (128 * j))))) := by
  intro k
  induction k with
  | zero =>
    intro j f H hH h hf
    obtain ⟨f, rfl⟩ : ∃ q, f = q + 1 := ⟨f - 1, by omega⟩
    rw [g10L8, ar_lss, ar_ofN, decide_eq_false (by omega)]
    exact j11 N H hH.1
  | succ k ih =>
    intro j f H hH h hf
    obtain ⟨f, rfl⟩ : ∃ q, f = q + 1 := ⟨f - 1, by omega⟩
    have e1 : realA.ib .add .i64 ((128 * j : Nat) : Int) 128 = ((128 * (j + 1) : Nat) : Int) := by rw [ar_add (by omega)]; omega
    have hb : 128 ≤ ((S.take (128 * (j + 1))).drop (128 * j)).length := by rw [List.length_drop, List.length_take]; omega
    have hc : comp H ((S.take (128 * (j + 1))).drop (128 * j)) = comp H (S.drop (128 * j)) := by
      apply comp_congr
      intro i hi
      rw [List.getD_eq_getElem?_getD, List.getD_eq_getElem?_getD, List.getElem?_drop, List.getElem?_drop, List.getElem?_take_of_lt (by omega)]
    rw [g10L8, ar_lss, ar_ofN, decide_eq_true (show ((128 * j : Nat) : Int) < (S.length : Int) by omega)]
    simp only [g10J10, e1, ar_negN, ar_toNN, ar_le, decide_eq_true (show 128 * (j + 1) ≤ S.length by omega), decide_eq_true (show 128 * j ≤ 128 * (j + 1) by omega), ok17 hH hb, r17 hH hb, hc]
    rw [ih (j + 1) f _ (comp_V8 _ _) (by omega) (by omega), feedN, List.drop_drop, show 128 * j + 128 = 128 * (j + 1) by omega]
theorem z10 (N n : Nat) : ∀ (d f : Nat) (e : List Nat), (e.length + d) % 128 = 112 → d < 128 → d < f → e.length + d ≤ 100000000 →
    g10L3 realA N (fun v _ => some v) f e n = g10J5 realA N (fun v _ => some v) (e ++ List.replicate d 0) n := by
  intro d
  induction d with
  | zero =>
    intro f e h1 _ hf he
    obtain ⟨f, rfl⟩ : ∃ q, f = q + 1 := ⟨f - 1, by omega⟩
    have hr : realA.ib .rem .i64 (e.length : Int) 128 = ((e.length % 128 : Nat) : Int) := by rw [ar_rem (by omega)]; omega
    rw [g10L3, ar_ofN, hr, ar_neq, decide_eq_true (show ((e.length % 128 : Nat) : Int) = 112 by omega)]
    simp
  | succ d ih =>
    intro f e h1 h2 hf he
    obtain ⟨f, rfl⟩ : ∃ q, f = q + 1 := ⟨f - 1, by omega⟩
    have hr : realA.ib .rem .i64 (e.length : Int) 128 = ((e.length % 128 : Nat) : Int) := by rw [ar_rem (by omega)]; omega
    have hl : (e ++ [0]).length = e.length + 1 := by simp
    have hl1 : e.length + ([0] : List Nat).length ≤ 9223372036854775807 := by show e.length + 1 ≤ _; omega
    rw [g10L3, ar_ofN, hr, ar_neq, decide_eq_false (show ¬ ((e.length % 128 : Nat) : Int) = 112 by omega)]
    simp only [Bool.not_false, ar_le, decide_eq_true hl1]
    rw [ih f (e ++ [0]) (by omega) (by omega) (by omega) (by omega), List.append_assoc, List.singleton_append, ← List.replicate_succ]
theorem H8_set : (((((((([0, 0, 0, 0, 0, 0, 0, 0].set 0 7640891576956012808).set 1 13503953896175478587).set 2 4354685564936845355).set 3 11912009170470909681).set 4 5840696475078001361).set 5 11170449401992604703).set 6 2270897969802886507).set 7 6620516959819538809) = H8 := by decide
theorem j5 (N : Nat) (hN : 20000 < N) (e : List Nat) (n k : Nat) (he : e.length ≤ 200000) (hk : e.length + 16 = 128 * k) :
    g10J5 realA N (fun v _ => some v) e n = some (tS (dig (feed H8 ((e ++ be8 (n / 2 ^ 61)) ++ be8 (n * 2 ^ 3 % B64))))) := by
  simp only [g10J5, ok16, r16, ar_nshr, ar_nshl, pw64 _ rfl, ar_le, List.length_append, be8_len, decide_eq_true (show e.length + 8 ≤ 9223372036854775807 by omega), decide_eq_true (show e.length + 8 + 8 ≤ 9223372036854775807 by omega)]
  rw [H8_set]
  have hl : ((e ++ be8 (n / 2 ^ 61)) ++ be8 (n * 2 ^ 3 % B64)).length = 128 * k := by rw [List.length_append, List.length_append, be8_len, be8_len]; omega
  have h := l10 N ((e ++ be8 (n / 2 ^ 61)) ++ be8 (n * 2 ^ 3 % B64)) (by omega) k 0 N H8 H8_V8 (by omega) (by omega)
  refine h.trans ?_
  unfold feed
  rw [hl, show 128 * k / 128 = k by omega]
  rfl
theorem v10 (t : List Nat) (ht : t.length ≤ 100000) : g10v realA t = some (tS (sha t)) := by
  unfold g10v g10
  have hi : realA.i2n .u64 (realA.ofN t.length) = t.length := by
    rw [ar_ofN]
    show t.length % 18446744073709551616 = t.length
    omega
  have h1 : t.length + ([128] : List Nat).length ≤ 9223372036854775807 := by show t.length + 1 ≤ _; omega
  have hl : (t ++ [128]).length = t.length + 1 := by simp
  have hz : zs (t.length + 1) < 128 := Nat.mod_lt _ (by omega)
  have hz2 : (t.length + 1 + zs (t.length + 1)) % 128 = 112 := by unfold zs; omega
  rw [ar_le, decide_eq_true h1, hi]
  refine (z10 100000 t.length (zs (t.length + 1)) 100000 (t ++ [128]) (by rw [hl]; exact hz2) hz (by omega) (by omega)).trans ?_
  have hl2 : ((t ++ [128]) ++ List.replicate (zs (t.length + 1)) 0).length = t.length + 1 + zs (t.length + 1) := by rw [List.length_append, hl, List.length_replicate]
  obtain ⟨k, hk⟩ : ∃ k, t.length + 1 + zs (t.length + 1) + 16 = 128 * k := ⟨(t.length + 1 + zs (t.length + 1) + 16) / 128, by omega⟩
  refine (j5 100000 (by omega) _ t.length k (by omega) (by omega)).trans ?_
  refine congrArg (fun l => some (tS (dig l))) ?_
  have hzr : zs ((rst t).length + 1) = zs (t.length + 1) := by rw [rst_len]; unfold zs; omega
  have hp : pad (rst t) t.length = rst t ++ ([128] ++ (List.replicate (zs (t.length + 1)) 0 ++ (be8 (t.length / 2 ^ 61) ++ be8 (t.length * 2 ^ 3 % B64)))) := by
    unfold pad
    rw [hzr, show t.length * 8 / B64 = t.length / 2 ^ 61 by show t.length * 8 / 18446744073709551616 = t.length / 2305843009213693952; omega, show t.length * 8 = t.length * 2 ^ 3 by omega]
    simp only [List.append_assoc]
  have hS : ((t ++ [128]) ++ List.replicate (zs (t.length + 1)) 0) ++ be8 (t.length / 2 ^ 61) ++ be8 (t.length * 2 ^ 3 % B64) = t ++ ([128] ++ (List.replicate (zs (t.length + 1)) 0 ++ (be8 (t.length / 2 ^ 61) ++ be8 (t.length * 2 ^ 3 % B64)))) := by
    simp only [List.append_assoc]
  rw [hS, hp, feed_add]
theorem g10g0_some (y : List Nat) : g10g0 (some (tS y)) = y := rfl
theorem g10is_some (y : List Nat) : g10is (some (tS y)) = true := rfl
theorem ok10 {t : List Nat} (ht : t.length ≤ 100000) : g10ok realA t = true := (congrArg g10is (v10 t ht)).trans (g10is_some _)
theorem r10 {t : List Nat} (ht : t.length ≤ 100000) : g10r0 realA t = sha t := (congrArg g10g0 (v10 t ht)).trans (g10g0_some _)
end Go.Sx
namespace Go.Sx
theorem g4path {R : Type} (A : Ar) (n : Nat) (kk : AV → Heap → Option R) (x0 x1 x2 : Nat) (x3 : List LN)
    (p0 : (g8ok A) = true)
    (p1 : (!(g8r0 A)) = false) :
    g4 A n kk x0 x1 x2 x3 = g4J4 A n kk x0 (g8r0 A) x1 x2 x3 := by
  rw [g4.eq_def, SxR02emt p0, SxR02emf p1]
theorem g4J4path {R : Type} (A : Ar) (n : Nat) (kk : AV → Heap → Option R) (x0 : Nat) (x1 : Bool) (x2 x3 : Nat) (x4 : List LN)
    (p0 : (g11ok A) = true) :
    g4J4 A n kk x0 x1 x2 x3 x4 = g4J7 A n kk x0 x1 x2 x3 x4 (g11r0 A) 0 (g11r1 A) 0 [] := by
  rw [g4J4.eq_def, SxR02emt p0]
theorem g4J11apath {R : Type} (A : Ar) (n : Nat) (kk : AV → Heap → Option R) (lg4L9a : Nat → Bool → LN → Int → Nat → Nat → List LN → LN → Nat → Nat → Int → Nat → LN → Option R) (x0 : Nat) (x1 : Bool) (x2 : LN) (x3 : Int) (x4 x5 : Nat) (x6 : List LN) (x7 : LN) (x8 x9 : Nat) (x10 : Int) (x11 : Nat) (x12 : LN)
    (p0 : (A.neg x3) = false)
    (p1 : (A.lt (A.toN x3) x0) = true)
    (p2 : (A.neg x3) = false)
    (p3 : (A.lt (A.toN x3) x0) = true)
    (p4 : (A.neg (A.mn (A.ofN ((x6.getD (A.toN x3) []).length)) 200)) = false)
    (p5 : (A.le (A.toN (A.mn (A.ofN ((x6.getD (A.toN x3) []).length)) 200)) ((x6.getD (A.toN x3) []).length)) = true)
    (p6 : (g12ok A (g4S A x3 x6) x7 x8 x9 x10 x11 x12) = true)
    (p7 : (A.le (x2.length + (g4S A x3 x6).length) 9223372036854775807) = true)
    (p8 : (g13ok A (g12r0 A (g4S A x3 x6) x7 x8 x9 x10 x11 x12) (g12r1 A (g4S A x3 x6) x7 x8 x9 x10 x11 x12) (g12r2 A (g4S A x3 x6) x7 x8 x9 x10 x11 x12) (g12r3 A (g4S A x3 x6) x7 x8 x9 x10 x11 x12) (g12r4 A (g4S A x3 x6) x7 x8 x9 x10 x11 x12) (g12r5 A (g4S A x3 x6) x7 x8 x9 x10 x11 x12)) = true)
    (p9 : (g10ok A (x2 ++ (g4S A x3 x6))) = true)
    (p10 : (A.sc .neq (g4t7 A x3 x6 x7 x8 x9 x10 x11 x12) (g10r0 A (x2 ++ (g4S A x3 x6)))) = false)
    (p11 : (g14ok A (g4t8 A x3 x6 x7 x8 x9 x10 x11 x12) (g4t9 A x3 x6 x7 x8 x9 x10 x11 x12) (g4t10 A x3 x6 x7 x8 x9 x10 x11 x12) (g4t11 A x3 x6 x7 x8 x9 x10 x11 x12) (g4t12 A x3 x6 x7 x8 x9 x10 x11 x12) (g4t13 A x3 x6 x7 x8 x9 x10 x11 x12)) = true)
    (p12 : (A.ic .neq (g4t14 A x3 x6 x7 x8 x9 x10 x11 x12) (A.ofN ((x2 ++ (g4S A x3 x6)).length))) = false) :
    g4J11a A n kk lg4L9a x0 x1 x2 x3 x4 x5 x6 x7 x8 x9 x10 x11 x12 = lg4L9a x0 x1 (x2 ++ (g4S A x3 x6)) (A.ib .add .i64 x3 1) x4 x5 x6 (g4t15 A x3 x6 x7 x8 x9 x10 x11 x12) (g4t16 A x3 x6 x7 x8 x9 x10 x11 x12) (g4t17 A x3 x6 x7 x8 x9 x10 x11 x12) (g4t18 A x3 x6 x7 x8 x9 x10 x11 x12) (g4t19 A x3 x6 x7 x8 x9 x10 x11 x12) (g4t20 A x3 x6 x7 x8 x9 x10 x11 x12) := by
  rw [g4J11a.eq_def, SxR02emf p0, SxR02emt p1, SxR02emf p2, SxR02emt p3, SxR02emf p4, SxR02emt p5, SxR02emt p6, SxR02emt p7, SxR02emt p8, SxR02emt p9, SxR02emf p10, SxR02emt p11, SxR02emf p12]
theorem g4J11path {R : Type} (A : Ar) (n : Nat) (kk : AV → Heap → Option R) (lg4L9a : Nat → Bool → LN → Int → Nat → Nat → List LN → LN → Nat → Nat → Int → Nat → LN → Option R) (x0 : Nat) (x1 : Bool) (x2 : LN) (x3 : Int) (x4 x5 : Nat) (x6 : List LN) (x7 : LN) (x8 : Nat) (x9 : Int) (x10 : Nat) (x11 : LN)
    (p0 : (A.neg x3) = false)
    (p1 : (A.lt (A.toN x3) x0) = true)
    (p2 : (A.neg x3) = false)
    (p3 : (A.lt (A.toN x3) x0) = true)
    (p4 : (A.neg (A.mn (A.ofN ((x6.getD (A.toN x3) []).length)) 200)) = false)
    (p5 : (A.le (A.toN (A.mn (A.ofN ((x6.getD (A.toN x3) []).length)) 200)) ((x6.getD (A.toN x3) []).length)) = true)
    (p6 : (g12ok A (g4S A x3 x6) x7 0 x8 x9 x10 x11) = true)
    (p7 : (A.le (x2.length + (g4S A x3 x6).length) 9223372036854775807) = true)
    (p8 : (g13ok A (g12r0 A (g4S A x3 x6) x7 0 x8 x9 x10 x11) (g12r1 A (g4S A x3 x6) x7 0 x8 x9 x10 x11) (g12r2 A (g4S A x3 x6) x7 0 x8 x9 x10 x11) (g12r3 A (g4S A x3 x6) x7 0 x8 x9 x10 x11) (g12r4 A (g4S A x3 x6) x7 0 x8 x9 x10 x11) (g12r5 A (g4S A x3 x6) x7 0 x8 x9 x10 x11)) = true)
    (p9 : (g10ok A (x2 ++ (g4S A x3 x6))) = true)
    (p10 : (A.sc .neq (g4t21 A x3 x6 x7 x8 x9 x10 x11) (g10r0 A (x2 ++ (g4S A x3 x6)))) = false)
    (p11 : (g14ok A (g4t22 A x3 x6 x7 x8 x9 x10 x11) (g4t23 A x3 x6 x7 x8 x9 x10 x11) (g4t24 A x3 x6 x7 x8 x9 x10 x11) (g4t25 A x3 x6 x7 x8 x9 x10 x11) (g4t26 A x3 x6 x7 x8 x9 x10 x11) (g4t27 A x3 x6 x7 x8 x9 x10 x11)) = true)
    (p12 : (A.ic .neq (g4t28 A x3 x6 x7 x8 x9 x10 x11) (A.ofN ((x2 ++ (g4S A x3 x6)).length))) = false) :
    g4J11 A n kk lg4L9a x0 x1 x2 x3 x4 x5 x6 x7 x8 x9 x10 x11 = lg4L9a x0 x1 (x2 ++ (g4S A x3 x6)) (A.ib .add .i64 x3 1) x4 x5 x6 (g4t29 A x3 x6 x7 x8 x9 x10 x11) (g4t30 A x3 x6 x7 x8 x9 x10 x11) (g4t31 A x3 x6 x7 x8 x9 x10 x11) (g4t32 A x3 x6 x7 x8 x9 x10 x11) (g4t33 A x3 x6 x7 x8 x9 x10 x11) (g4t34 A x3 x6 x7 x8 x9 x10 x11) := by
  rw [g4J11.eq_def, SxR02emf p0, SxR02emt p1, SxR02emf p2, SxR02emt p3, SxR02emf p4, SxR02emt p5, SxR02emt p6, SxR02emt p7, SxR02emt p8, SxR02emt p9, SxR02emf p10, SxR02emt p11, SxR02emf p12]
theorem g4L9att {R : Type} (A : Ar) (n : Nat) (kk : AV → Heap → Option R) (m : Nat) (x0 : Nat) (x1 : Bool) (x2 : List Nat) (x3 : Int) (x4 x5 : Nat) (x6 : List (List Nat)) (x7 : List Nat) (x8 x9 : Nat) (x10 : Int) (x11 : Nat) (x12 : List Nat) (p : A.ic .lss x3 (A.ofN x0) = true) (q : A.ic .lss x3 10 = true) :
    g4L9a A n kk (m + 1) x0 x1 x2 x3 x4 x5 x6 x7 x8 x9 x10 x11 x12 = g4J11a A n kk (g4L9a A n kk m) x0 x1 x2 x3 x4 x5 x6 x7 x8 x9 x10 x11 x12 := by rw [g4L9a, SxR02emt p, SxR02emt q]
theorem g4L9atf {R : Type} (A : Ar) (n : Nat) (kk : AV → Heap → Option R) (m : Nat) (x0 : Nat) (x1 : Bool) (x2 : List Nat) (x3 : Int) (x4 x5 : Nat) (x6 : List (List Nat)) (x7 : List Nat) (x8 x9 : Nat) (x10 : Int) (x11 : Nat) (x12 : List Nat) (p : A.ic .lss x3 (A.ofN x0) = true) (q : A.ic .lss x3 10 = false) :
    g4L9a A n kk (m + 1) x0 x1 x2 x3 x4 x5 x6 x7 x8 x9 x10 x11 x12 = kk (bO x1) [(0, ⟨[.strs x5 x6], x4, 0⟩)] := by rw [g4L9a, SxR02emt p, SxR02emf q]
theorem g4L9af {R : Type} (A : Ar) (n : Nat) (kk : AV → Heap → Option R) (m : Nat) (x0 : Nat) (x1 : Bool) (x2 : List Nat) (x3 : Int) (x4 x5 : Nat) (x6 : List (List Nat)) (x7 : List Nat) (x8 x9 : Nat) (x10 : Int) (x11 : Nat) (x12 : List Nat) (p : A.ic .lss x3 (A.ofN x0) = false) :
    g4L9a A n kk (m + 1) x0 x1 x2 x3 x4 x5 x6 x7 x8 x9 x10 x11 x12 = kk (bO x1) [(0, ⟨[.strs x5 x6], x4, 0⟩)] := by rw [g4L9a, SxR02emf p]
theorem g4L9tt {R : Type} (A : Ar) (n : Nat) (kk : AV → Heap → Option R) (m : Nat) (x0 : Nat) (x1 : Bool) (x2 : List Nat) (x3 : Int) (x4 x5 : Nat) (x6 : List (List Nat)) (x7 : List Nat) (x8 : Nat) (x9 : Int) (x10 : Nat) (x11 : List Nat) (p : A.ic .lss x3 (A.ofN x0) = true) (q : A.ic .lss x3 10 = true) :
    g4L9 A n kk (m + 1) x0 x1 x2 x3 x4 x5 x6 x7 x8 x9 x10 x11 = g4J11 A n kk (g4L9a A n kk m) x0 x1 x2 x3 x4 x5 x6 x7 x8 x9 x10 x11 := by rw [g4L9, SxR02emt p, SxR02emt q]
theorem g4L9f {R : Type} (A : Ar) (n : Nat) (kk : AV → Heap → Option R) (m : Nat) (x0 : Nat) (x1 : Bool) (x2 : List Nat) (x3 : Int) (x4 x5 : Nat) (x6 : List (List Nat)) (x7 : List Nat) (x8 : Nat) (x9 : Int) (x10 : Nat) (x11 : List Nat) (p : A.ic .lss x3 (A.ofN x0) = false) :
    g4L9 A n kk (m + 1) x0 x1 x2 x3 x4 x5 x6 x7 x8 x9 x10 x11 = kk (bO x1) [(0, ⟨[.strs x5 x6], x4, 0⟩)] := by rw [g4L9, SxR02emf p]

theorem scne {a b : List Nat} (h : a = b) : realA.sc .neq a b = false := by rw [ar_scne, decide_eq_true h]; rfl
theorem icne {a b : Int} (h : a = b) : realA.ic .neq a b = false := by rw [ar_neq, decide_eq_true h]; rfl
theorem mn200 (l : List Nat) : ∃ k : Nat, realA.mn (realA.ofN l.length) 200 = (k : Int) ∧ k ≤ l.length ∧ k ≤ 200 := ⟨min l.length 200, by rw [ar_ofN, ar_mn]; omega, by omega, by omega⟩
theorem St8.len2 {t x : List Nat} {o n : Nat} {tot : Int} {m : Nat} {l : List Nat} (h : St8 t x o n tot m l) :
    St8 t (g14r1 realA x o n tot m l) (g14r2 realA x o n tot m l) (g14r3 realA x o n tot m l) (g14r4 realA x o n tot m l) (g14r5 realA x o n tot m l) (g14r6 realA x o n tot m l) := by
  rw [l14_1, l14_2, l14_3, l14_4, l14_5, l14_6]
  exact h
theorem loop9 {R : Type} (n : Nat) (kk : AV → Heap → Option R) (x0 x4 x5 : Nat) (x6 : List (List Nat)) :
    ∀ m (i : Nat) (all x7 : List Nat) (x8 x9 : Nat) (x10 : Int) (x11 : Nat) (x12 : List Nat), St8 all x7 x8 x9 x10 x11 x12 → all.length ≤ 200 * i → i ≤ 10 → 10 - i < m →
      g4L9a realA n kk m x0 true all (i : Int) x4 x5 x6 x7 x8 x9 x10 x11 x12 = kk (bO true) [(0, ⟨[.strs x5 x6], x4, 0⟩)] := by
  intro m
  induction m with
  | zero => intro i _ _ _ _ _ _ _ _ _ _ h; omega
  | succ m ih =>
    intro i all x7 x8 x9 x10 x11 x12 st ha hi hm
    by_cases h0 : i < x0
    · have p : realA.ic .lss (i : Int) (realA.ofN x0) = true := by rw [ar_lss, ar_ofN]; exact decide_eq_true (by omega)
      by_cases h1 : i < 10
      · refine (g4L9att realA n kk m x0 true all (i : Int) x4 x5 x6 x7 x8 x9 x10 x11 x12 p (by rw [ar_lss]; exact decide_eq_true (by omega))).trans ?_
        obtain ⟨k, hk, hk1, hk2⟩ := mn200 (x6.getD (realA.toN (i : Int)) [])
        have hl : (g4S realA (i : Int) x6).length ≤ 200 := by unfold g4S; rw [hk, ar_toNN, List.drop_zero, List.length_take]; omega
        have hl2 : (all ++ (g4S realA (i : Int) x6)).length ≤ 200 * (i + 1) := by rw [List.length_append]; omega
        obtain ⟨a1, a2⟩ := st.write (g4S realA (i : Int) x6) (by omega) (by omega)
        obtain ⟨b1, b2, b3⟩ := a2.sum (by omega)
        obtain ⟨c1, c2⟩ := b3.len
        have d2 : St8 (all ++ (g4S realA (i : Int) x6)) _ _ _ _ _ _ := b3.len2
        have hj := g4J11apath realA n kk (g4L9a realA n kk m) x0 true all (i : Int) x4 x5 x6 x7 x8 x9 x10 x11 x12 (ar_negN i) (by rw [ar_lt, ar_toNN]; exact decide_eq_true h0) (ar_negN i) (by rw [ar_lt, ar_toNN]; exact decide_eq_true h0) (by rw [hk]; exact ar_negN k) (by rw [hk, ar_le, ar_toNN]; exact decide_eq_true hk1) a1 (by rw [ar_le]; exact decide_eq_true (by omega)) b1 (ok10 (by omega)) (scne (b2.trans (r10 (by omega)).symm)) c1 (icne c2)
        refine hj.trans ?_
        have q : realA.ib .add .i64 (i : Int) 1 = ((i + 1 : Nat) : Int) := by rw [ar_add (by omega)]; rfl
        have hi2 := ih (i + 1) _ _ _ _ _ _ _ d2 hl2 (by omega) (by omega)
        rw [← q] at hi2
        exact hi2
      · exact g4L9atf realA n kk m x0 true all (i : Int) x4 x5 x6 x7 x8 x9 x10 x11 x12 p (by rw [ar_lss]; exact decide_eq_false (by omega))
    · exact g4L9af realA n kk m x0 true all (i : Int) x4 x5 x6 x7 x8 x9 x10 x11 x12 (by rw [ar_lss, ar_ofN]; exact decide_eq_false (by omega))
theorem loop9o {R : Type} (n : Nat) (hn : 20 < n) (kk : AV → Heap → Option R) (x0 x4 x5 : Nat) (x6 : List (List Nat)) :
    g4J7 realA n kk x0 true x4 x5 x6 (g11r0 realA) 0 (g11r1 realA) 0 [] = kk (bO true) [(0, ⟨[.strs x5 x6], x4, 0⟩)] := by
  have d : g4J7 realA n kk x0 true x4 x5 x6 (g11r0 realA) 0 (g11r1 realA) 0 [] = g4L9 realA n kk n x0 true [] ((0 : Nat) : Int) x4 x5 x6 (g11r0 realA) 0 (g11r1 realA) 0 [] := by rw [g4J7]; rfl
  refine d.trans ?_
  obtain ⟨m, rfl⟩ : ∃ m, n = m + 1 := ⟨n - 1, by omega⟩
  have st := St8.new
  by_cases h0 : 0 < x0
  · have p : realA.ic .lss ((0 : Nat) : Int) (realA.ofN x0) = true := by rw [ar_lss, ar_ofN]; exact decide_eq_true (by omega)
    refine (g4L9tt realA (m + 1) kk m x0 true [] ((0 : Nat) : Int) x4 x5 x6 _ _ _ _ _ p (by rw [ar_lss]; exact decide_eq_true (by omega))).trans ?_
    obtain ⟨k, hk, hk1, hk2⟩ := mn200 (x6.getD (realA.toN ((0 : Nat) : Int)) [])
    have hl : (g4S realA ((0 : Nat) : Int) x6).length ≤ 200 := by unfold g4S; rw [hk, ar_toNN, List.drop_zero, List.length_take]; omega
    have hl2 : ([] ++ (g4S realA ((0 : Nat) : Int) x6)).length ≤ 200 * (0 + 1) := by rw [List.nil_append]; omega
    obtain ⟨a1, a2⟩ := st.write (g4S realA ((0 : Nat) : Int) x6) (by omega) (by simp)
    obtain ⟨b1, b2, b3⟩ := a2.sum (by omega)
    obtain ⟨c1, c2⟩ := b3.len
    have d2 : St8 ([] ++ (g4S realA ((0 : Nat) : Int) x6)) _ _ _ _ _ _ := b3.len2
    have hj := g4J11path realA (m + 1) kk (g4L9a realA (m + 1) kk m) x0 true [] ((0 : Nat) : Int) x4 x5 x6 _ _ _ _ _ (ar_negN 0) (by rw [ar_lt, ar_toNN]; exact decide_eq_true h0) (ar_negN 0) (by rw [ar_lt, ar_toNN]; exact decide_eq_true h0) (by rw [hk]; exact ar_negN k) (by rw [hk, ar_le, ar_toNN]; exact decide_eq_true hk1) a1 (by rw [ar_le]; exact decide_eq_true (by rw [List.length_nil]; omega)) b1 (ok10 (by omega)) (scne (b2.trans (r10 (by omega)).symm)) c1 (icne c2)
    refine hj.trans ?_
    have q : realA.ib .add .i64 ((0 : Nat) : Int) 1 = ((0 + 1 : Nat) : Int) := by rw [ar_add (by omega)]; rfl
    have hi2 := loop9 (m + 1) kk x0 x4 x5 x6 m (0 + 1) _ _ _ _ _ _ _ d2 hl2 (by omega) (by omega)
    rw [← q] at hi2
    exact hi2
  · exact g4L9f realA (m + 1) kk m x0 true [] ((0 : Nat) : Int) x4 x5 x6 _ _ _ _ _ (by rw [ar_lss, ar_ofN]; exact decide_eq_false (by omega))
theorem law4v (x0 x1 x2 : Nat) (x3 : List (List Nat)) : g4v realA x0 x1 x2 x3 = outH [0] none (bO true) [(0, ⟨[.strs x2 x3], x1, 0⟩)] := by
  refine (g4path realA 100000 (outH [0] none) x0 x1 x2 x3 head02ok (by rw [head02r]; rfl)).trans ?_
  rw [head02r]
  refine (g4J4path realA 100000 (outH [0] none) x0 true x1 x2 x3 new_ok).trans ?_
  exact loop9o 100000 (by omega) (outH [0] none) x0 x1 x2 x3
theorem out4 (x1 x2 : Nat) (x3 : List (List Nat)) : outH [0] none (bO true) [(0, ⟨[.strs x2 x3], x1, 0⟩)] = some (bO true, [(0, ⟨[.strs x2 x3], x1, 0⟩)]) := rfl
theorem g4is_some (x1 x2 : Nat) (x3 : List (List Nat)) : g4is (some (bO true, [(0, ⟨[.strs x2 x3], x1, 0⟩)])) = true := rfl
theorem g4g0_some (x1 x2 : Nat) (x3 : List (List Nat)) : g4g0 (some (bO true, [(0, ⟨[.strs x2 x3], x1, 0⟩)])) = true := rfl
theorem law4o (x0 x1 x2 : Nat) (x3 : List (List Nat)) (_ : ∀ x ∈ x3, (∀ b ∈ x, b < 256) ∧ x.length ≤ maxLen) (_ : x3.length = x0) : g4ok realA x0 x1 x2 x3 = true ∧ g4r0 realA x0 x1 x2 x3 = true := by
  have h := (law4v x0 x1 x2 x3).trans (out4 x1 x2 x3)
  exact ⟨(congrArg g4is h).trans (g4is_some _ _ _), (congrArg g4g0 h).trans (g4g0_some _ _ _)⟩
end Go.Sx
