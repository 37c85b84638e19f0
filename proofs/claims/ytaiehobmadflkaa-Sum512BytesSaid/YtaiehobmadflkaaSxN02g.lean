/- sum512: whole texts. -/
import Derived.Test.YtaiehobmadflkaaSxN02f
namespace Go.Sx
theorem wd_congr {b c : List Nat} {j : Nat} : ∀ k, (∀ i, i < 8 * j + k → b.getD i 0 = c.getD i 0) → wd b j k = wd c j k := by
  intro k
  induction k with
  | zero => intro _; rfl
  | succ k ih => intro h; rw [wd, wd, ih (fun i hi => h i (by omega)), h (8 * j + k) (by omega)]
theorem comp_congr {b c : List Nat} (H : List Nat) (h : ∀ i, i < 128 → b.getD i 0 = c.getD i 0) : comp H b = comp H c := by
  have hp : pl b 128 = pl c 128 := by
    unfold pl
    apply List.map_congr_left
    intro j hj
    by_cases h2 : j < 16
    · exact wd_congr _ fun i hi => h i (by omega)
    · have : min 8 (128 - 8 * j) = 0 := by omega
      rw [this]; rfl
  have he : ∀ n, ew b n = ew c n := by
    intro n
    induction n with
    | zero => exact hp
    | succ n ih => rw [ew, ew, ih]
  unfold comp
  rw [he]
theorem feed_append (s : List Nat) : ∀ (k : Nat) (H t : List Nat), t.length / 128 = k → feed H (t ++ s) = feed (feedN k H t) (t.drop (128 * k) ++ s) := by
  intro k
  induction k with
  | zero => intro H t _; rw [Nat.mul_zero, List.drop_zero]; rfl
  | succ k ih =>
    intro H t h
    have hl : 128 ≤ t.length := by omega
    have e1 : (t ++ s).length / 128 = (t.drop 128 ++ s).length / 128 + 1 := by simp only [List.length_append, List.length_drop]; omega
    have e2 : (t ++ s).drop 128 = t.drop 128 ++ s := List.drop_append_of_le_length hl
    have e3 : comp H (t ++ s) = comp H t := comp_congr H fun i hi => by
      rw [List.getD_eq_getElem?_getD, List.getElem?_append_left (by omega), ← List.getD_eq_getElem?_getD]
    unfold feed
    rw [e1, feedN, e2, e3]
    have := ih (comp H t) (t.drop 128) (by rw [List.length_drop]; omega)
    unfold feed at this
    rw [this, feedN, List.drop_drop, show 128 + 128 * k = 128 * (k + 1) by omega]
def rst (t : List Nat) : List Nat := t.drop (128 * (t.length / 128))
theorem rst_len (t : List Nat) : (rst t).length = t.length % 128 := by unfold rst; rw [List.length_drop]; omega
theorem feed_add (H t s : List Nat) : feed H (t ++ s) = feed (feed H t) (rst t ++ s) := feed_append s _ H t rfl
theorem rst_add (t s : List Nat) : rst (rst t ++ s) = rst (t ++ s) := by
  have h1 := rst_len t
  have e : t ++ s = t.take (128 * (t.length / 128)) ++ (rst t ++ s) := by
    unfold rst
    rw [← List.append_assoc, List.take_append_drop]
  have hl : (t.take (128 * (t.length / 128))).length = 128 * (t.length / 128) := by rw [List.length_take]; omega
  have hd : ∀ (A Y : List Nat) (m : Nat), (A ++ Y).drop (A.length + m) = Y.drop m := by
    intro A Y m
    rw [← List.drop_drop, List.drop_left]
  have h3 : (t ++ s).length = (t.take (128 * (t.length / 128)) ++ (rst t ++ s)).length := by rw [← e]
  unfold rst at h1 e h3 ⊢
  rw [h3]
  conv => rhs; rw [e]
  generalize t.drop (128 * (t.length / 128)) = B at *
  generalize t.take (128 * (t.length / 128)) = A at *
  have h4 : 128 * ((A ++ (B ++ s)).length / 128) = A.length + 128 * ((B ++ s).length / 128) := by
    have h5 : (A ++ (B ++ s)).length = A.length + (B ++ s).length := List.length_append
    rw [h5, hl]; omega
  rw [h4, hd]
/-- a text's sum -/
def sha (t : List Nat) : List Nat := dig (feed (feed H8 t) (pad (rst t) t.length))
theorem H8_len : H8.length = 8 := by decide
/-- a sum under way that was written t -/
structure Rep (t x : List Nat) (o n : Nat) (tot : Int) (l : List Nat) : Prop where
  x : x = feed H8 t ++ K80
  on : o + n = l.length
  r : l.drop o = rst t
  tot : tot = (t.length : Int)
theorem Rep.new : Rep [] (H8 ++ K80) 0 0 0 [] := ⟨rfl, rfl, rfl, rfl⟩
theorem Rep.write {t x : List Nat} {o n : Nat} {tot : Int} {l : List Nat} (h : Rep t x o n tot l) (s : List Nat) (hl : l.length + s.length ≤ 5000000) (ht : t.length ≤ 1000000000) :
    g12ok realA s x o n tot l.length l = true ∧ g12r4 realA s x o n tot l.length l = (g12r5 realA s x o n tot l.length l).length ∧ (g12r5 realA s x o n tot l.length l).length ≤ 128 + s.length ∧
      Rep (t ++ s) (g12r0 realA s x o n tot l.length l) (g12r1 realA s x o n tot l.length l) (g12r2 realA s x o n tot l.length l) (g12r3 realA s x o n tot l.length l) (g12r5 realA s x o n tot l.length l) := by
  obtain ⟨rfl, hon, hr, rfl⟩ := h
  have hH := feed_len H8 t H8_len
  have a := w12_ok s (feed H8 t) o n (t.length : Int) l hH hon (by omega) (by omega)
  have a0 := w12_0 s (feed H8 t) o n (t.length : Int) l hH hon (by omega) (by omega)
  have a1 := w12_1 s (feed H8 t) o n (t.length : Int) l hH hon (by omega) (by omega)
  have a2 := w12_2 s (feed H8 t) o n (t.length : Int) l hH hon (by omega) (by omega)
  have a3 := w12_3 s (feed H8 t) o n (t.length : Int) l hH hon (by omega) (by omega)
  have a4 := w12_4 s (feed H8 t) o n (t.length : Int) l hH hon (by omega) (by omega)
  have a5 := w12_5 s (feed H8 t) o n (t.length : Int) l hH hon (by omega) (by omega)
  rw [hr] at a0 a1 a2 a4 a5
  refine ⟨a, by rw [a4, a5], by rw [a5, List.length_append, rst_len]; omega, ⟨by rw [a0, ← feed_add], ?_, ?_, ?_⟩⟩
  · rw [a1, a2, a5]; omega
  · rw [a1, a5]; exact rst_add t s
  · rw [a3, List.length_append]; omega
theorem Rep.sum {t x : List Nat} {o n : Nat} {tot : Int} {l : List Nat} (h : Rep t x o n tot l) (hl : l.length ≤ 5000000) (ht : t.length ≤ 1000000000) :
    g13ok realA x o n tot l.length l = true ∧ g13r0 realA x o n tot l.length l = sha t ∧ g13r1 realA x o n tot l.length l = x ∧ g13r2 realA x o n tot l.length l = o ∧ g13r3 realA x o n tot l.length l = n ∧ g13r4 realA x o n tot l.length l = tot ∧ g13r5 realA x o n tot l.length l = l.length ∧ g13r6 realA x o n tot l.length l = l := by
  obtain ⟨rfl, hon, hr, rfl⟩ := h
  have hH := feed_len H8 t H8_len
  have a0 := s13_0 (feed H8 t) o n t.length l hH hon (by omega) hl
  rw [hr] at a0
  exact ⟨s13_ok _ _ _ _ _ hH hon (by omega) hl, a0, s13_1 _ _ _ _ _ hH hon (by omega) hl, s13_2 _ _ _ _ _ hH hon (by omega) hl, s13_3 _ _ _ _ _ hH hon (by omega) hl, s13_4 _ _ _ _ _ hH hon (by omega) hl, s13_5 _ _ _ _ _ hH hon (by omega) hl, s13_6 _ _ _ _ _ hH hon (by omega) hl⟩
theorem l14_v (x : List Nat) (o n : Nat) (tot : Int) (m : Nat) (l : List Nat)  : g14v realA x o n tot m l = some (i6 tot, [(0, ⟨[.nums .u64 88 x, .one (.sl 1 (some o) n 1), .one (.int .i64 tot)], 45, 1⟩), (1, ⟨[.nums .u8 m l], 5, 2⟩)]) := by
  rfl
theorem l14_ok (x : List Nat) (o n : Nat) (tot : Int) (m : Nat) (l : List Nat)  : g14ok realA x o n tot m l = true := (congrArg g14is (l14_v x o n tot m l )).trans rfl
theorem l14_0 (x : List Nat) (o n : Nat) (tot : Int) (m : Nat) (l : List Nat)  : g14r0 realA x o n tot m l = tot := (congrArg g14g0 (l14_v x o n tot m l )).trans rfl
theorem g9path {R : Type} (A : Ar) (n : Nat) (kk : AV → Heap → Option R) (a : List Nat)
    (p0 : g11ok A = true)
    (p1 : g12ok A a (g11r0 A) 0 0 (g11r1 A) 0 [] = true)
    (p2 : g13ok A (g12r0 A a (g11r0 A) 0 0 (g11r1 A) 0 []) (g12r1 A a (g11r0 A) 0 0 (g11r1 A) 0 []) (g12r2 A a (g11r0 A) 0 0 (g11r1 A) 0 []) (g12r3 A a (g11r0 A) 0 0 (g11r1 A) 0 []) (g12r4 A a (g11r0 A) 0 0 (g11r1 A) 0 []) (g12r5 A a (g11r0 A) 0 0 (g11r1 A) 0 []) = true) :
    g9 A n kk a = kk (tS (g9t0 A a)) [(2000, ⟨[.nums .u64 88 (g9t1 A a), .one (.sl 2500 (some (g9t2 A a)) (g9t3 A a) 1), .one (.int .i64 (g9t4 A a))], 45, 1⟩), (2500, ⟨[.nums .u8 (g9t5 A a) (g9t6 A a)], 5, 2⟩)] := by
  rw [g9, SxR02cmt p0, SxR02cmt p1, SxR02cmt p2]
theorem one_v (s : List Nat) (hs : s.length ≤ 4000000) : g9v realA s = some (tS (sha s)) := by
  obtain ⟨a1, a2, a3, a4⟩ := Rep.new.write s (by simp; omega) (by simp)
  simp only [List.length_nil, List.nil_append] at a1 a2 a3 a4
  obtain ⟨b1, b2, -⟩ := a4.sum (by omega) (by omega)
  have h := g9path realA 100000 (fun v _ => some v) s new_ok (by rw [new_0, new_1]; exact a1) (by rw [new_0, new_1, a2]; exact b1)
  have e : g9t0 realA s = sha s := by
    show g13r0 realA _ _ _ _ _ _ = _
    rw [new_0, new_1, a2]
    exact b2
  rw [e] at h
  exact h
theorem one_ok (s : List Nat) (hs : s.length ≤ 4000000) : g9ok realA s = true := (congrArg g9is (one_v s hs)).trans rfl
theorem g9g0_some (y : List Nat) : g9g0 (some (tS y)) = y := rfl
theorem one_0 (s : List Nat) (hs : s.length ≤ 4000000) : g9r0 realA s = sha s := (congrArg g9g0 (one_v s hs)).trans (g9g0_some _)
-- numbers worked out at once
def frc (n : Nat) (k : Nat → List Nat) : List Nat := match n with
  | 0 => k 0
  | m + 1 => k (m + 1)
theorem frc_eq (n : Nat) (k : Nat → List Nat) : frc n k = k n := by cases n <;> rfl
def frcL : List Nat → (List Nat → List Nat) → List Nat
  | [], k => k []
  | x :: r, k => frc x fun x => frcL r fun r => k (x :: r)
theorem frcL_eq (l : List Nat) : ∀ (k : List Nat → List Nat), frcL l k = k l := by
  induction l with
  | nil => intro k; rfl
  | cons x r ih => intro k; rw [frcL, frc_eq, ih]
abbrev Fo : Type := List Nat → (List Nat → List Nat) → List Nat
def ewK (F : Fo) (b : List Nat) : Nat → (List Nat → List Nat) → List Nat
  | 0, k => F (pl b 128) k
  | n + 1, k => ewK F b n fun w => F (w.set (16 + n) (nx w (16 + n))) k
def rdC (C W v : List Nat) : Nat → List Nat
  | 0 => v
  | n + 1 => rs (C.getD n 0) (W.getD n 0) (rdC C W v n)
theorem rdC_eq (W v : List Nat) (n : Nat) : rdC K80 W v n = rd W v n := by
  induction n with
  | zero => rw [rdC, rd]
  | succ n ih => rw [rdC, rd, ih]
def rdK (F : Fo) (C W v : List Nat) : Nat → (List Nat → List Nat) → List Nat
  | 0, k => F v k
  | n + 1, k => rdK F C W v n fun v => F (rs (C.getD n 0) (W.getD n 0) v) k
def compK (F : Fo) (H b : List Nat) (k : List Nat → List Nat) : List Nat := ewK F b 64 fun W => rdK F K80 W H 80 fun v => F (ad8 H v) k
def feedK (F : Fo) : Nat → List Nat → List Nat → (List Nat → List Nat) → List Nat
  | 0, H, _, k => k H
  | n + 1, H, l, k => compK F H l fun H => F (l.drop 128) fun l => feedK F n H l k
def shaK (F : Fo) (t : List Nat) : List Nat := feedK F (t.length / 128) H8 t fun H => F (pad (rst t) t.length) fun p => feedK F (p.length / 128) H p dig
section
variable {F : Fo} (hF : ∀ l k, F l k = k l)
include hF
theorem ewK_eq (b : List Nat) : ∀ (n : Nat) (k : List Nat → List Nat), ewK F b n k = k (ew b n) := by
  intro n
  induction n with
  | zero => intro k; rw [ewK, hF, ew]
  | succ n ih => intro k; rw [ewK, ih, hF, ew]
theorem rdK_eq (C W v : List Nat) : ∀ (n : Nat) (k : List Nat → List Nat), rdK F C W v n k = k (rdC C W v n) := by
  intro n
  induction n with
  | zero => intro k; rw [rdK, hF, rdC]
  | succ n ih => intro k; rw [rdK, ih, hF, rdC]
theorem compK_eq (H b : List Nat) (k : List Nat → List Nat) : compK F H b k = k (comp H b) := by
  unfold compK comp
  rw [ewK_eq hF, rdK_eq hF, hF, rdC_eq]
theorem feedK_eq : ∀ (n : Nat) (H l : List Nat) (k : List Nat → List Nat), feedK F n H l k = k (feedN n H l) := by
  intro n
  induction n with
  | zero => intro H l k; rw [feedK, feedN]
  | succ n ih => intro H l k; rw [feedK, compK_eq hF, hF, ih, feedN]
theorem shaK_eq (t : List Nat) : shaK F t = sha t := by
  unfold shaK sha feed
  rw [feedK_eq hF, hF, feedK_eq hF]
end
def shaABC : List Nat := [221, 175, 53, 161, 147, 97, 122, 186, 204, 65, 115, 73, 174, 32, 65, 49, 18, 230, 250, 78, 137, 169, 126, 162, 10, 158, 238, 230, 75, 85, 211, 154, 33, 146, 153, 42, 39, 79, 193, 168, 54, 186, 60, 35, 163, 254, 235, 189, 69, 77, 68, 35, 100, 60, 232, 14, 42, 154, 201, 79, 165, 76, 164, 159]
theorem sha_abc : sha [97, 98, 99] = shaABC := (shaK_eq frcL_eq _).symm.trans (by decide +kernel)
end Go.Sx
