/- sum512: the sum. -/
import Derived.Test.YtaiehobmadflkaaSxN02e
namespace Go.Sx
/-- a word's bytes from the i-th on -/
def bes (x i : Nat) : List Nat := ((List.range 8).drop i).map fun j => x / 2 ^ (56 - 8 * j) % 256
theorem bes_step (x i : Nat) (h : i < 8) : bes x i = (x / 2 ^ (56 - 8 * i) % 256) :: bes x (i + 1) := by
  unfold bes
  rw [List.drop_eq_getElem_cons (by simpa using h)]
  simp
theorem bes_end (x : Nat) : bes x 8 = [] := rfl
def be8 (x : Nat) : List Nat := bes x 0
theorem be8_len (x : Nat) : (be8 x).length = 8 := by simp [be8, bes]
def zs (r : Nat) : Nat := (240 - r % 128) % 128
def pad (r : List Nat) (tot : Nat) : List Nat := (((r ++ [128]) ++ List.replicate (zs (r.length + 1)) 0) ++ be8 (tot * 8 / B64)) ++ be8 (tot * 8 % B64)
def dig (l : List Nat) : List Nat := l.flatMap be8
theorem take1 (x : Nat) : [x].take 1 = [x] := rfl
section
variable {R : Type} (N : Nat) (kk : AV → Heap → Option R)
theorem z_loop (xl : List Nat) (o n : Nat) (tot : Int) (m : Nat) (l cp : List Nat) (c : Int) : ∀ (d f : Nat) (e : List Nat), (e.length + d) % 128 = 112 → d < 128 → d < f → e.length + d ≤ 100000000 →
    g13L4 realA N kk f e.length xl o n tot m l cp c e.length e = g13J6 realA N kk (e ++ List.replicate d 0).length xl o n tot m l cp c (e ++ List.replicate d 0).length (e ++ List.replicate d 0) := by
  intro d
  induction d with
  | zero =>
    intro f e h1 _ hf he
    obtain ⟨f, rfl⟩ : ∃ q, f = q + 1 := ⟨f - 1, by omega⟩
    have hr : realA.ib .rem .i64 (e.length : Int) 128 = ((e.length % 128 : Nat) : Int) := by rw [ar_rem (by omega)]; omega
    rw [g13L4, ar_ofN, hr, ar_neq, decide_eq_true (show ((e.length % 128 : Nat) : Int) = 112 by omega)]
    simp
  | succ d ih =>
    intro f e h1 h2 hf he
    obtain ⟨f, rfl⟩ : ∃ q, f = q + 1 := ⟨f - 1, by omega⟩
    have hr : realA.ib .rem .i64 (e.length : Int) 128 = ((e.length % 128 : Nat) : Int) := by rw [ar_rem (by omega)]; omega
    have hl : (e ++ [0]).length = e.length + 1 := by simp
    rw [g13L4, ar_ofN, hr, ar_neq, decide_eq_false (show ¬ ((e.length % 128 : Nat) : Int) = 112 by omega)]
    simp only [Bool.not_false, ar_eq, Nat.add_zero, decide_true, take1, ar_le, decide_eq_true (show (e ++ [0]).length ≤ 140737488355328 by omega)]
    rw [ih f (e ++ [0]) (by omega) (by omega) (by omega) (by omega), List.append_assoc, List.singleton_append, ← List.replicate_succ]
theorem in_loop (lg : Nat → Nat → Int → Int → List Nat → Nat → Nat → Int → Nat → List Nat → List Nat → Int → Nat → List Nat → Nat → List Nat → Option R) (w : Nat) (hw : w < B64) (z : Nat) (zi idx : Int) (xl : List Nat) (o n : Nat) (tot : Int) (m : Nat) (l cp : List Nat) (c : Int) (q : Nat) (ws : List Nat) : ∀ (d i f : Nat) (e : List Nat), i + d = 8 → d < f → e.length + d ≤ 100000000 →
    g13L11 realA N kk lg f e.length w z zi idx (i : Int) xl o n tot m l cp c e.length e q ws = lg (e ++ bes w i).length z zi (realA.ib .add .i64 idx 1) xl o n tot m l cp c (e ++ bes w i).length (e ++ bes w i) q ws := by
  intro d
  induction d with
  | zero =>
    intro i f e h hf he
    obtain ⟨f, rfl⟩ : ∃ q, f = q + 1 := ⟨f - 1, by omega⟩
    obtain rfl : i = 8 := by omega
    rw [g13L11, ar_lss, decide_eq_false (by omega), bes_end, List.append_nil]
  | succ d ih =>
    intro i f e h hf he
    obtain ⟨f, rfl⟩ : ∃ q, f = q + 1 := ⟨f - 1, by omega⟩
    have hi : i < 8 := by omega
    have e1 : realA.ib .add .i64 (i : Int) 1 = ((i + 1 : Nat) : Int) := by rw [ar_add (by omega)]; omega
    have e2 : realA.ib .sub .i64 56 (realA.ib .mul .i64 8 (i : Int)) = ((56 - 8 * i : Nat) : Int) := by rw [ar_mul (by omega), ar_sub (by omega)]; omega
    have e3 : realA.n2n .u8 (realA.nsh .shr .u64 w (56 - 8 * i)) = w / 2 ^ (56 - 8 * i) % 256 := rfl
    have hl : (e ++ [w / 2 ^ (56 - 8 * i) % 256]).length = e.length + 1 := by simp
    rw [g13L11, ar_lss, decide_eq_true (show (i : Int) < 8 by omega)]
    simp only [g13J12, e2, ar_negN, ar_toNN, ar_eq, Nat.add_zero, decide_true, e3, take1, ar_le, decide_eq_true (show (e ++ [w / 2 ^ (56 - 8 * i) % 256]).length ≤ 140737488355328 by omega), e1]
    rw [ih (i + 1) f _ (by omega) (by omega) (by omega), bes_step w i hi, List.append_assoc, List.singleton_append]
theorem ou_loop (lg : Nat → List Nat → Int → List Nat → Nat → Nat → Int → Nat → List Nat → Nat → List Nat → Option R) (w : Nat) (ws : List Nat) (idx : Int) (xl : List Nat) (o n : Nat) (tot : Int) (m : Nat) (l : List Nat) : ∀ (d i f : Nat) (e : List Nat), i + d = 8 → d < f → e.length + d ≤ 100000000 →
    g13L22 realA N kk lg f e.length w ws idx (i : Int) xl o n tot m l e.length e = lg (e ++ bes w i).length ws (realA.ib .add .i64 idx 1) xl o n tot m l (e ++ bes w i).length (e ++ bes w i) := by
  intro d
  induction d with
  | zero =>
    intro i f e h hf he
    obtain ⟨f, rfl⟩ : ∃ q, f = q + 1 := ⟨f - 1, by omega⟩
    obtain rfl : i = 8 := by omega
    rw [g13L22, ar_lss, decide_eq_false (by omega), bes_end, List.append_nil]
  | succ d ih =>
    intro i f e h hf he
    obtain ⟨f, rfl⟩ : ∃ q, f = q + 1 := ⟨f - 1, by omega⟩
    have hi : i < 8 := by omega
    have e1 : realA.ib .add .i64 (i : Int) 1 = ((i + 1 : Nat) : Int) := by rw [ar_add (by omega)]; omega
    have e2 : realA.ib .sub .i64 56 (realA.ib .mul .i64 8 (i : Int)) = ((56 - 8 * i : Nat) : Int) := by rw [ar_mul (by omega), ar_sub (by omega)]; omega
    have e3 : realA.n2n .u8 (realA.nsh .shr .u64 w (56 - 8 * i)) = w / 2 ^ (56 - 8 * i) % 256 := rfl
    have hl : (e ++ [w / 2 ^ (56 - 8 * i) % 256]).length = e.length + 1 := by simp
    rw [g13L22, ar_lss, decide_eq_true (show (i : Int) < 8 by omega)]
    simp only [g13J23, e2, ar_negN, ar_toNN, ar_eq, Nat.add_zero, decide_true, e3, take1, ar_le, decide_eq_true (show (e ++ [w / 2 ^ (56 - 8 * i) % 256]).length ≤ 140737488355328 by omega), e1]
    rw [ih (i + 1) f _ (by omega) (by omega) (by omega), bes_step w i hi, List.append_assoc, List.singleton_append]
theorem dig_loop (ws : List Nat) (hw : ws.length = 8) (xl : List Nat) (o n : Nat) (tot : Int) (m : Nat) (l : List Nat) (hN : 8 < N) : ∀ (d i f : Nat) (e : List Nat), i + d = 8 → d < f → e.length + 8 * d ≤ 100000000 →
    g13L19 realA N kk f e.length ws (i : Int) xl o n tot m l e.length e = kk (tS (e ++ dig (ws.drop i))) [(0, ⟨[.nums .u64 88 xl, .one (.sl 1 (some o) n 1), .one (.int .i64 tot)], 45, 1⟩), (1, ⟨[.nums .u8 m l], 5, 2⟩), (18000, ⟨[.nums .u8 (e ++ dig (ws.drop i)).length (e ++ dig (ws.drop i))], 5, 2⟩)] := by
  intro d
  induction d with
  | zero =>
    intro i f e h hf he
    obtain ⟨f, rfl⟩ : ∃ q, f = q + 1 := ⟨f - 1, by omega⟩
    obtain rfl : i = 8 := by omega
    rw [g13L19, ar_lss, decide_eq_false (by omega), List.drop_of_length_le (by omega)]
    simp [dig]
  | succ d ih =>
    intro i f e h hf he
    obtain ⟨f, rfl⟩ : ∃ q, f = q + 1 := ⟨f - 1, by omega⟩
    have hi : i < 8 := by omega
    have e1 : realA.ib .add .i64 (i : Int) 1 = ((i + 1 : Nat) : Int) := by rw [ar_add (by omega)]; omega
    rw [g13L19, ar_lss, decide_eq_true (show (i : Int) < 8 by omega)]
    simp only [g13J20, ar_negN, ar_toNN, ar_lt, decide_eq_true hi]
    have h0 := ou_loop N kk (g13L19 realA N kk f) (ws.getD i 0) ws (i : Int) xl o n tot m l 8 0 N e rfl hN (by omega)
    refine h0.trans ?_
    have hb : (bes (ws.getD i 0) 0).length = 8 := be8_len _
    rw [e1, ih (i + 1) f _ (by omega) (by omega) (by rw [List.length_append, hb]; omega)]
    have hd : ws.drop i = ws.getD i 0 :: ws.drop (i + 1) := by
      rw [List.drop_eq_getElem_cons (by omega), List.getD_eq_getElem?_getD, List.getElem?_eq_getElem (by omega)]; rfl
    rw [hd]
    simp only [dig, List.flatMap_cons, be8, List.append_assoc]
end
theorem outS (x s : List Nat) (o n : Nat) (tot : Int) (m : Nat) (l : List Nat) (z : Blk) : outN [1] [0, 1] none (tS s) [(0, ⟨[.nums .u64 88 x, .one (.sl 1 (some o) n 1), .one (.int .i64 tot)], 45, 1⟩), (1, ⟨[.nums .u8 m l], 5, 2⟩), (18000, z)] = some (tS s, [(0, ⟨[.nums .u64 88 x, .one (.sl 1 (some o) n 1), .one (.int .i64 tot)], 45, 1⟩), (1, ⟨[.nums .u8 m l], 5, 2⟩)]) := rfl
theorem cp_id (H K : List Nat) (z : List Nat) (hH : H.length = 8) (hK : K.length = 80) (hz : z.length = 88) :
    ((z.take 0 ++ (((H ++ K).drop 0).take 8 ++ z.drop 8)).take 8 ++ (((H ++ K).drop 8).take 80 ++ (z.take 0 ++ (((H ++ K).drop 0).take 8 ++ z.drop 8)).drop 88)) = H ++ K := by
  have h1 : ((H ++ K).drop 0).take 8 = H := by rw [List.drop_zero, ← hH, List.take_left']; rfl
  have h2 : ((H ++ K).drop 8).take 80 = K := by rw [← hH, List.drop_left', List.take_of_length_le (by omega)]; rfl
  rw [h1, h2]
  have h3 : (H ++ z.drop 8).take 8 = H := by rw [← hH, List.take_left']; rfl
  have h4 : (H ++ z.drop 8).drop 88 = [] := List.drop_of_length_le (by rw [List.length_append, List.length_drop]; omega)
  rw [List.take_zero, List.nil_append, h3, h4, List.append_nil]
theorem K80_len : K80.length = 80 := by decide
theorem s13_v (H : List Nat) (o n : Nat) (tot : Nat) (l : List Nat) (hH : H.length = 8) (hon : o + n = l.length) (ht : tot ≤ 1000000000000) (hl : l.length ≤ 5000000) : g13v realA (H ++ K80) o n ((tot : Nat) : Int) l.length l = some (tS (dig (feed H (pad (l.drop o) tot))), [(0, ⟨[.nums .u64 88 (H ++ K80), .one (.sl 1 (some o) n 1), .one (.int .i64 (tot : Int))], 45, 1⟩), (1, ⟨[.nums .u8 l.length l], 5, 2⟩)]) := by
  unfold g13v g13
  have hr : (l.drop o).take n = l.drop o := List.take_of_length_le (by rw [List.length_drop]; omega)
  have hrl : (l.drop o).length ≤ 5000000 := by rw [List.length_drop]; omega
  have c1 : decide ((0 : Nat) = 0) = true := rfl
  rw [hr]
  simp only [ar_eq, c1, List.nil_append, ar_le, Nat.add_zero, decide_true, take1]
  generalize l.drop o = r at *
  have hl1 : (r ++ [128]).length = r.length + 1 := by simp
  have hq0 : r.length ≤ 140737488355328 := by omega
  have hq1 : (r ++ [128]).length ≤ 140737488355328 := by omega
  rw [decide_eq_true hq0, decide_eq_true hq1]
  simp only []
  have hcp := cp_id H K80 [0, 0, 0, 0, 0, 0, 0, 0, 0, 0, 0, 0, 0, 0, 0, 0, 0, 0, 0, 0, 0, 0, 0, 0, 0, 0, 0, 0, 0, 0, 0, 0, 0, 0, 0, 0, 0, 0, 0, 0, 0, 0, 0, 0, 0, 0, 0, 0, 0, 0, 0, 0, 0, 0, 0, 0, 0, 0, 0, 0, 0, 0, 0, 0, 0, 0, 0, 0, 0, 0, 0, 0, 0, 0, 0, 0, 0, 0, 0, 0, 0, 0, 0, 0, 0, 0, 0, 0] hH K80_len rfl
  simp only [List.take_zero, List.nil_append] at hcp
  simp only [List.take_zero, List.nil_append, hcp]
  have hz : zs (r.length + 1) < 128 := Nat.mod_lt _ (by omega)
  have hzm : ((r ++ [128]).length + zs (r.length + 1)) % 128 = 112 := by rw [hl1]; unfold zs; omega
  refine (z_loop 100000 (outN [1] [0, 1] none) (H ++ K80) o n tot l.length l (H ++ K80) 0 (zs (r.length + 1)) 100000 (r ++ [128]) hzm hz (by omega) (by omega)).trans ?_
  have hel : (r ++ [128] ++ List.replicate (zs (r.length + 1)) 0).length = r.length + 1 + zs (r.length + 1) := by simp; omega
  generalize hee : r ++ [128] ++ List.replicate (zs (r.length + 1)) 0 = e at *
  have i1 : realA.i2n .u64 (tot : Int) = tot := by
    show ((tot : Int) % (18446744073709551616 : Int)).toNat = tot
    omega
  have h8 : (8 : Nat) < 18446744073709551616 := by decide
  have ht64 : tot < 18446744073709551616 := by omega
  simp only [g13J6, i1, mul64ok ht64 h8, mul64r0 ht64 h8, mul64r1 ht64 h8]
  have L2 : realA.ofN 2 = ((2 : Nat) : Int) := rfl
  -- the two numbers
  have w0 : tot * 8 / 18446744073709551616 < B64 := by simp only [B64]; omega
  have w1 : tot * 8 % 18446744073709551616 < B64 := Nat.mod_lt _ (by decide)
  have hb0 : (bes (tot * 8 / 18446744073709551616) 0).length = 8 := be8_len _
  have hb1 : (bes (tot * 8 % 18446744073709551616) 0).length = 8 := be8_len _
  have n1 : realA.ib .add .i64 0 1 = 1 := ar_add (by omega)
  have n2 : realA.ib .add .i64 1 1 = 2 := ar_add (by omega)
  have A0 : ∀ f (e : List Nat), e.length ≤ 50000000 → g13L8 realA 100000 (outN [1] [0, 1] none) (f + 1) e.length 2 (realA.ofN 2) 0 (H ++ K80) o n tot l.length l (H ++ K80) 0 e.length e 2 [tot * 8 / 18446744073709551616, tot * 8 % 18446744073709551616] = g13L8 realA 100000 (outN [1] [0, 1] none) f (e ++ bes (tot * 8 / 18446744073709551616) 0).length 2 (realA.ofN 2) 1 (H ++ K80) o n tot l.length l (H ++ K80) 0 (e ++ bes (tot * 8 / 18446744073709551616) 0).length (e ++ bes (tot * 8 / 18446744073709551616) 0) 2 [tot * 8 / 18446744073709551616, tot * 8 % 18446744073709551616] := by
    intro f e he
    rw [g13L8, L2, ar_lss, decide_eq_true (show (0 : Int) < ((2 : Nat) : Int) by omega)]
    simp only [g13J9]
    have c2 : realA.neg 0 = false := rfl
    have c3 : realA.toN 0 = 0 := rfl
    have c4 : realA.lt 0 2 = true := rfl
    simp only [c2, c3, c4, List.getD_cons_zero]
    have := in_loop 100000 (outN [1] [0, 1] none) (g13L8 realA 100000 (outN [1] [0, 1] none) f) (tot * 8 / 18446744073709551616) w0 2 ((2 : Nat) : Int) 0 (H ++ K80) o n tot l.length l (H ++ K80) 0 2 [tot * 8 / 18446744073709551616, tot * 8 % 18446744073709551616] 8 0 100000 e rfl (by omega) (by omega)
    rw [n1] at this
    exact this
  have A1 : ∀ f (e : List Nat), e.length ≤ 50000000 → g13L8 realA 100000 (outN [1] [0, 1] none) (f + 1) e.length 2 (realA.ofN 2) 1 (H ++ K80) o n tot l.length l (H ++ K80) 0 e.length e 2 [tot * 8 / 18446744073709551616, tot * 8 % 18446744073709551616] = g13L8 realA 100000 (outN [1] [0, 1] none) f (e ++ bes (tot * 8 % 18446744073709551616) 0).length 2 (realA.ofN 2) 2 (H ++ K80) o n tot l.length l (H ++ K80) 0 (e ++ bes (tot * 8 % 18446744073709551616) 0).length (e ++ bes (tot * 8 % 18446744073709551616) 0) 2 [tot * 8 / 18446744073709551616, tot * 8 % 18446744073709551616] := by
    intro f e he
    rw [g13L8, L2, ar_lss, decide_eq_true (show (1 : Int) < ((2 : Nat) : Int) by omega)]
    simp only [g13J9]
    have c2 : realA.neg 1 = false := rfl
    have c3 : realA.toN 1 = 1 := rfl
    have c4 : realA.lt 1 2 = true := rfl
    simp only [c2, c3, c4, List.getD_cons_succ, List.getD_cons_zero]
    have := in_loop 100000 (outN [1] [0, 1] none) (g13L8 realA 100000 (outN [1] [0, 1] none) f) (tot * 8 % 18446744073709551616) w1 2 ((2 : Nat) : Int) 1 (H ++ K80) o n tot l.length l (H ++ K80) 0 2 [tot * 8 / 18446744073709551616, tot * 8 % 18446744073709551616] 8 0 100000 e rfl (by omega) (by omega)
    rw [n2] at this
    exact this
  have A2 : ∀ f (e : List Nat), g13L8 realA 100000 (outN [1] [0, 1] none) (f + 1) e.length 2 (realA.ofN 2) 2 (H ++ K80) o n tot l.length l (H ++ K80) 0 e.length e 2 [tot * 8 / 18446744073709551616, tot * 8 % 18446744073709551616] = g13J16 realA 100000 (outN [1] [0, 1] none) e.length (H ++ K80) o n tot l.length l (H ++ K80) 0 e.length e := by
    intro f e
    rw [g13L8, L2, ar_lss, decide_eq_false (show ¬ (2 : Int) < ((2 : Nat) : Int) by omega)]
  have hl3 : (e ++ bes (tot * 8 / 18446744073709551616) 0).length ≤ 50000000 := by rw [List.length_append, hb0]; omega
  refine (A0 99999 e (by omega)).trans ((A1 99998 _ hl3).trans ((A2 99997 _).trans ?_))
  have hpad : (e ++ bes (tot * 8 / 18446744073709551616) 0) ++ bes (tot * 8 % 18446744073709551616) 0 = pad r tot := by rw [← hee]; rfl
  rw [hpad]
  have hpl : (pad r tot).length ≤ 9000000 := by rw [← hpad, List.length_append, List.length_append, hb0, hb1]; omega
  generalize pad r tot = q at *
  have hq : q.take q.length = q := List.take_length
  simp only [g13J16, hq]
  have e0 : ([] : List Nat).length = 0 := rfl
  have v0 := v12_ok q H 0 0 0 [] hH rfl (by omega) (by simp; omega)
  have v1 := v12_0 q H 0 0 0 [] hH rfl (by omega) (by simp; omega)
  rw [e0] at v0 v1
  simp only [v0, v1, List.drop_nil, List.nil_append]
  have hf8 := feed_len H q hH
  have hd8 : ((feed H q ++ K80).drop 0).take 8 = feed H q := by rw [List.drop_zero, ← hf8, List.take_left']; rfl
  rw [hd8]
  refine (dig_loop 100000 (outN [1] [0, 1] none) (feed H q) hf8 (H ++ K80) o n tot l.length l (by omega) 8 0 100000 [] rfl (by omega) (by simp)).trans ?_
  rw [List.nil_append, List.drop_zero]
  exact outS _ _ _ _ _ _ _ _
theorem s13_ok (H : List Nat) (o n : Nat) (tot : Nat) (l : List Nat) (hH : H.length = 8) (hon : o + n = l.length) (ht : tot ≤ 1000000000000) (hl : l.length ≤ 5000000) : g13ok realA (H ++ K80) o n ((tot : Nat) : Int) l.length l = true := (congrArg g13is (s13_v H o n tot l hH hon ht hl)).trans rfl
theorem s13_0 (H : List Nat) (o n : Nat) (tot : Nat) (l : List Nat) (hH : H.length = 8) (hon : o + n = l.length) (ht : tot ≤ 1000000000000) (hl : l.length ≤ 5000000) : g13r0 realA (H ++ K80) o n ((tot : Nat) : Int) l.length l = dig (feed H (pad (l.drop o) tot)) := (congrArg g13g0 (s13_v H o n tot l hH hon ht hl)).trans rfl
theorem s13_1 (H : List Nat) (o n : Nat) (tot : Nat) (l : List Nat) (hH : H.length = 8) (hon : o + n = l.length) (ht : tot ≤ 1000000000000) (hl : l.length ≤ 5000000) : g13r1 realA (H ++ K80) o n ((tot : Nat) : Int) l.length l = H ++ K80 := (congrArg g13g1 (s13_v H o n tot l hH hon ht hl)).trans rfl
theorem s13_2 (H : List Nat) (o n : Nat) (tot : Nat) (l : List Nat) (hH : H.length = 8) (hon : o + n = l.length) (ht : tot ≤ 1000000000000) (hl : l.length ≤ 5000000) : g13r2 realA (H ++ K80) o n ((tot : Nat) : Int) l.length l = o := (congrArg g13g2 (s13_v H o n tot l hH hon ht hl)).trans rfl
theorem s13_3 (H : List Nat) (o n : Nat) (tot : Nat) (l : List Nat) (hH : H.length = 8) (hon : o + n = l.length) (ht : tot ≤ 1000000000000) (hl : l.length ≤ 5000000) : g13r3 realA (H ++ K80) o n ((tot : Nat) : Int) l.length l = n := (congrArg g13g3 (s13_v H o n tot l hH hon ht hl)).trans rfl
theorem s13_4 (H : List Nat) (o n : Nat) (tot : Nat) (l : List Nat) (hH : H.length = 8) (hon : o + n = l.length) (ht : tot ≤ 1000000000000) (hl : l.length ≤ 5000000) : g13r4 realA (H ++ K80) o n ((tot : Nat) : Int) l.length l = (tot : Int) := (congrArg g13g4 (s13_v H o n tot l hH hon ht hl)).trans rfl
theorem s13_5 (H : List Nat) (o n : Nat) (tot : Nat) (l : List Nat) (hH : H.length = 8) (hon : o + n = l.length) (ht : tot ≤ 1000000000000) (hl : l.length ≤ 5000000) : g13r5 realA (H ++ K80) o n ((tot : Nat) : Int) l.length l = l.length := (congrArg g13g5 (s13_v H o n tot l hH hon ht hl)).trans rfl
theorem s13_6 (H : List Nat) (o n : Nat) (tot : Nat) (l : List Nat) (hH : H.length = 8) (hon : o + n = l.length) (ht : tot ≤ 1000000000000) (hl : l.length ≤ 5000000) : g13r6 realA (H ++ K80) o n ((tot : Nat) : Int) l.length l = l := (congrArg g13g6 (s13_v H o n tot l hH hon ht hl)).trans rfl
end Go.Sx
