/- sum512: examples, and the statements that go without the reference. -/
import Derived.Test.YtaiehobmadflkaaSxN02g
import Derived.Test.YtaiehobmadflkaaSxR02d
namespace Go.Sx
/-- a sum under way that was written t, its row's length beside it -/
structure St8 (t x : List Nat) (o n : Nat) (tot : Int) (m : Nat) (l : List Nat) : Prop where
  rep : Rep t x o n tot l
  m : m = l.length
  b : l.length ≤ 100000
theorem St8.new : St8 [] (g11r0 realA) 0 0 (g11r1 realA) 0 [] := by
  rw [new_0, new_1]
  exact ⟨Rep.new, rfl, Nat.zero_le _⟩
theorem St8.write {t x : List Nat} {o n : Nat} {tot : Int} {m : Nat} {l : List Nat} (h : St8 t x o n tot m l) (s : List Nat) (hs : s.length ≤ 90000) (ht : t.length ≤ 1000000000) :
    g12ok realA s x o n tot m l = true ∧ St8 (t ++ s) (g12r0 realA s x o n tot m l) (g12r1 realA s x o n tot m l) (g12r2 realA s x o n tot m l) (g12r3 realA s x o n tot m l) (g12r4 realA s x o n tot m l) (g12r5 realA s x o n tot m l) := by
  obtain ⟨hr, rfl, hb⟩ := h
  obtain ⟨a1, a2, a3, a4⟩ := hr.write s (by omega) ht
  exact ⟨a1, a4, a2, by omega⟩
theorem St8.sum {t x : List Nat} {o n : Nat} {tot : Int} {m : Nat} {l : List Nat} (h : St8 t x o n tot m l) (ht : t.length ≤ 1000000000) :
    g13ok realA x o n tot m l = true ∧ g13r0 realA x o n tot m l = sha t ∧ St8 t (g13r1 realA x o n tot m l) (g13r2 realA x o n tot m l) (g13r3 realA x o n tot m l) (g13r4 realA x o n tot m l) (g13r5 realA x o n tot m l) (g13r6 realA x o n tot m l) := by
  obtain ⟨hr, rfl, hb⟩ := h
  obtain ⟨a1, a2, a3, a4, a5, a6, a7, a8⟩ := hr.sum (by omega) ht
  refine ⟨a1, a2, ?_⟩
  rw [a3, a4, a5, a6, a7, a8]
  exact ⟨hr, rfl, hb⟩
theorem St8.len {t x : List Nat} {o n : Nat} {tot : Int} {m : Nat} {l : List Nat} (h : St8 t x o n tot m l) :
    g14ok realA x o n tot m l = true ∧ g14r0 realA x o n tot m l = (t.length : Int) := by
  obtain ⟨hr, rfl, hb⟩ := h
  exact ⟨l14_ok _ _ _ _ _ _, (l14_0 _ _ _ _ _ _).trans hr.tot⟩
def hexABC : List Nat := [100, 100, 97, 102, 51, 53, 97, 49, 57, 51, 54, 49, 55, 97, 98, 97, 99, 99, 52, 49, 55, 51, 52, 57, 97, 101, 50, 48, 52, 49, 51, 49, 49, 50, 101, 54, 102, 97, 52, 101, 56, 57, 97, 57, 55, 101, 97, 50, 48, 97, 57, 101, 101, 101, 101, 54, 52, 98, 53, 53, 100, 51, 57, 97, 50, 49, 57, 50, 57, 57, 50, 97, 50, 55, 52, 102, 99, 49, 97, 56, 51, 54, 98, 97, 51, 99, 50, 51, 97, 51, 102, 101, 101, 98, 98, 100, 52, 53, 52, 100, 52, 52, 50, 51, 54, 52, 51, 99, 101, 56, 48, 101, 50, 97, 57, 97, 99, 57, 52, 102, 97, 53, 52, 99, 97, 52, 57, 102]
theorem hex_abc : g15v realA shaABC = some (tS hexABC) := by kernel_rfl
theorem g15g0_some (y : List Nat) : g15g0 (some (tS y)) = y := rfl
theorem g15is_some (y : List Nat) : g15is (some (tS y)) = true := rfl
theorem hexabc_ok : g15ok realA shaABC = true := (congrArg g15is hex_abc).trans (g15is_some _)
theorem hexabc_0 : g15r0 realA shaABC = hexABC := (congrArg g15g0 hex_abc).trans (g15g0_some _)
theorem sceq {a b : List Nat} (h : a = b) : realA.sc .eql a b = true := by rw [ar_sceq]; exact decide_eq_true h
theorem iceq {a b : Int} (h : a = b) : realA.ic .eql a b = true := by rw [ar_eql]; exact decide_eq_true h
theorem g8path {R : Type} (A : Ar) (n : Nat) (kk : AV → Heap → Option R) 
    (p0 : (g11ok A) = true) :
    g8 A n kk  = g8J4 A n kk  (g11r0 A) 0 (g11r1 A) 0 [] := by
  rw [g8.eq_def, SxR02cmt p0]
theorem g8J4path {R : Type} (A : Ar) (n : Nat) (kk : AV → Heap → Option R) (x0 : List Nat) (x1 : Nat) (x2 : Int) (x3 : Nat) (x4 : List Nat)
    (p0 : (g12ok A [97] x0 0 x1 x2 x3 x4) = true)
    (p1 : (g12ok A [98, 99] (g12r0 A [97] x0 0 x1 x2 x3 x4) (g12r1 A [97] x0 0 x1 x2 x3 x4) (g12r2 A [97] x0 0 x1 x2 x3 x4) (g12r3 A [97] x0 0 x1 x2 x3 x4) (g12r4 A [97] x0 0 x1 x2 x3 x4) (g12r5 A [97] x0 0 x1 x2 x3 x4)) = true)
    (p2 : (g9ok A [97, 98, 99]) = true)
    (p3 : (g15ok A (g9r0 A [97, 98, 99])) = true)
    (p4 : (A.sc .eql (g15r0 A (g9r0 A [97, 98, 99])) [100, 100, 97, 102, 51, 53, 97, 49, 57, 51, 54, 49, 55, 97, 98, 97, 99, 99, 52, 49, 55, 51, 52, 57, 97, 101, 50, 48, 52, 49, 51, 49, 49, 50, 101, 54, 102, 97, 52, 101, 56, 57, 97, 57, 55, 101, 97, 50, 48, 97, 57, 101, 101, 101, 101, 54, 52, 98, 53, 53, 100, 51, 57, 97, 50, 49, 57, 50, 57, 57, 50, 97, 50, 55, 52, 102, 99, 49, 97, 56, 51, 54, 98, 97, 51, 99, 50, 51, 97, 51, 102, 101, 101, 98, 98, 100, 52, 53, 52, 100, 52, 52, 50, 51, 54, 52, 51, 99, 101, 56, 48, 101, 50, 97, 57, 97, 99, 57, 52, 102, 97, 53, 52, 99, 97, 52, 57, 102]) = true)
    (p5 : (g13ok A (g8t0 A x0 x1 x2 x3 x4) (g8t1 A x0 x1 x2 x3 x4) (g8t2 A x0 x1 x2 x3 x4) (g8t3 A x0 x1 x2 x3 x4) (g8t4 A x0 x1 x2 x3 x4) (g8t5 A x0 x1 x2 x3 x4)) = true)
    (p6 : (g9ok A [97, 98, 99]) = true)
    (p7 : (A.sc .eql (g8t13 A x0 x1 x2 x3 x4) (g9r0 A [97, 98, 99])) = true)
    (p8 : (g14ok A (g8t14 A x0 x1 x2 x3 x4) (g8t15 A x0 x1 x2 x3 x4) (g8t16 A x0 x1 x2 x3 x4) (g8t17 A x0 x1 x2 x3 x4) (g8t18 A x0 x1 x2 x3 x4) (g8t19 A x0 x1 x2 x3 x4)) = true) :
    g8J4 A n kk x0 x1 x2 x3 x4 = kk (bO (A.ic .eql (g8t20 A x0 x1 x2 x3 x4) 3)) [(2000, ⟨[.nums .u64 88 (g8t21 A x0 x1 x2 x3 x4), .one (.sl 2500 (some (g8t22 A x0 x1 x2 x3 x4)) (g8t23 A x0 x1 x2 x3 x4) 1), .one (.int .i64 (g8t24 A x0 x1 x2 x3 x4))], 45, 1⟩), (2500, ⟨[.nums .u8 (g8t25 A x0 x1 x2 x3 x4) (g8t26 A x0 x1 x2 x3 x4)], 5, 2⟩)] := by
  rw [g8J4.eq_def, SxR02cmt p0, SxR02cmt p1, SxR02cmt p2, SxR02cmt p3, SxR02cmt p4, SxR02cmt p5, SxR02cmt p6, SxR02cmt p7, SxR02cmt p8]

theorem head02 : g8v realA = some (bO true) := by
  have n0 := St8.new
  obtain ⟨a1, a2⟩ := n0.write [97] (by simp) (by simp)
  obtain ⟨b1, b2⟩ := a2.write [98, 99] (by simp) (by simp)
  obtain ⟨c1, c2, c3⟩ := b2.sum (by simp)
  obtain ⟨d1, d2⟩ := c3.len
  have o1 := one_ok [97, 98, 99] (by simp)
  have o2 : g9r0 realA [97, 98, 99] = shaABC := (one_0 [97, 98, 99] (by simp)).trans sha_abc
  have h := g8path realA 100000 (fun v _ => some v) new_ok
  have h2 := g8J4path realA 100000 (fun v _ => some v) (g11r0 realA) 0 (g11r1 realA) 0 [] a1 b1 o1 (by rw [o2]; exact hexabc_ok) (sceq (by rw [o2]; exact hexabc_0)) c1 o1 (sceq (by rw [o2]; exact c2.trans sha_abc)) d1
  refine (h.trans h2).trans ?_
  exact congrArg (fun b => some (bO b)) (iceq d2)
theorem g8is_some (y : Bool) : g8is (some (bO y)) = true := rfl
theorem g8g0_some (y : Bool) : g8g0 (some (bO y)) = y := rfl
theorem head02ok : g8ok realA = true := (congrArg g8is head02).trans (g8is_some _)
theorem head02r : g8r0 realA = true := (congrArg g8g0 head02).trans (g8g0_some _)
theorem g5path {R : Type} (A : Ar) (n : Nat) (kk : AV → Heap → Option R) (a : List Nat) (b : Int)
    (p0 : (g8ok A) = true)
    (p1 : (!(g8r0 A)) = false) :
    g5 A n kk a b = g5J4 A n kk  a b (g8r0 A) := by
  rw [g5.eq_def, SxR02dmt p0, SxR02dmf p1]
theorem g5J4a {R : Type} (A : Ar) (n : Nat) (kk : AV → Heap → Option R) (x0 : List Nat) (x1 : Int) (x2 : Bool)
    (p0 : (A.neg (A.mn (A.ofN x0.length) 500)) = false)
    (p1 : (A.le (A.toN (A.mn (A.ofN x0.length) 500)) x0.length) = true)
    (p2 : (A.ic .lss x1 0) = true) :
    g5J4 A n kk x0 x1 x2 = g5J7 A n kk  ((x0.take (A.toN (A.mn (A.ofN x0.length) 500))).drop 0) (A.ib .sub .i64 0 (A.ib .add .i64 x1 1)) x2 := by
  rw [g5J4.eq_def, SxR02dmf p0, SxR02dmt p1, SxR02dmt p2]
theorem g5J4b {R : Type} (A : Ar) (n : Nat) (kk : AV → Heap → Option R) (x0 : List Nat) (x1 : Int) (x2 : Bool)
    (p0 : (A.neg (A.mn (A.ofN x0.length) 500)) = false)
    (p1 : (A.le (A.toN (A.mn (A.ofN x0.length) 500)) x0.length) = true)
    (p2 : (A.ic .lss x1 0) = false) :
    g5J4 A n kk x0 x1 x2 = g5J7 A n kk  ((x0.take (A.toN (A.mn (A.ofN x0.length) 500))).drop 0) x1 x2 := by
  rw [g5J4.eq_def, SxR02dmf p0, SxR02dmt p1, SxR02dmf p2]
theorem g5J7path {R : Type} (A : Ar) (n : Nat) (kk : AV → Heap → Option R) (x0 : List Nat) (x1 : Int) (x2 : Bool)
    (p0 : (A.ic .eql (A.ib .add .i64 (A.ofN x0.length) 1) 0) = false)
    (p1 : (g11ok A) = true) :
    g5J7 A n kk x0 x1 x2 = g5J11 A n kk  x0 (A.ib .rem .i64 x1 (A.ib .add .i64 (A.ofN x0.length) 1)) x2 (g11r0 A) 0 (g11r1 A) 0 [] := by
  rw [g5J7.eq_def, SxR02dmf p0, SxR02dmt p1]
theorem g5J11path {R : Type} (A : Ar) (n : Nat) (kk : AV → Heap → Option R) (x0 : List Nat) (x1 : Int) (x2 : Bool) (x3 : List Nat) (x4 : Nat) (x5 : Int) (x6 : Nat) (x7 : List Nat)
    (p0 : (A.neg x1) = false)
    (p1 : (A.le (A.toN x1) x0.length) = true)
    (p2 : (g12ok A ((x0.take (A.toN x1)).drop 0) x3 0 x4 x5 x6 x7) = true)
    (p3 : (g13ok A (g12r0 A ((x0.take (A.toN x1)).drop 0) x3 0 x4 x5 x6 x7) (g12r1 A ((x0.take (A.toN x1)).drop 0) x3 0 x4 x5 x6 x7) (g12r2 A ((x0.take (A.toN x1)).drop 0) x3 0 x4 x5 x6 x7) (g12r3 A ((x0.take (A.toN x1)).drop 0) x3 0 x4 x5 x6 x7) (g12r4 A ((x0.take (A.toN x1)).drop 0) x3 0 x4 x5 x6 x7) (g12r5 A ((x0.take (A.toN x1)).drop 0) x3 0 x4 x5 x6 x7)) = true)
    (p4 : (A.neg x1) = false)
    (p5 : (A.le (A.toN x1) x0.length) = true)
    (p6 : (g12ok A ((x0.take x0.length).drop (A.toN x1)) (g5t1 A x0 x1 x3 x4 x5 x6 x7) (g5t2 A x0 x1 x3 x4 x5 x6 x7) (g5t3 A x0 x1 x3 x4 x5 x6 x7) (g5t4 A x0 x1 x3 x4 x5 x6 x7) (g5t5 A x0 x1 x3 x4 x5 x6 x7) (g5t6 A x0 x1 x3 x4 x5 x6 x7)) = true)
    (p7 : (x2) = true)
    (p8 : (g13ok A (g5t7 A x0 x1 x3 x4 x5 x6 x7) (g5t8 A x0 x1 x3 x4 x5 x6 x7) (g5t9 A x0 x1 x3 x4 x5 x6 x7) (g5t10 A x0 x1 x3 x4 x5 x6 x7) (g5t11 A x0 x1 x3 x4 x5 x6 x7) (g5t12 A x0 x1 x3 x4 x5 x6 x7)) = true)
    (p9 : (g9ok A x0) = true)
    (p10 : (A.sc .eql (g5t34 A x0 x1 x3 x4 x5 x6 x7) (g9r0 A x0)) = true)
    (p11 : (g13ok A (g5t35 A x0 x1 x3 x4 x5 x6 x7) (g5t36 A x0 x1 x3 x4 x5 x6 x7) (g5t37 A x0 x1 x3 x4 x5 x6 x7) (g5t38 A x0 x1 x3 x4 x5 x6 x7) (g5t39 A x0 x1 x3 x4 x5 x6 x7) (g5t40 A x0 x1 x3 x4 x5 x6 x7)) = true)
    (p12 : (g13ok A (g5t42 A x0 x1 x3 x4 x5 x6 x7) (g5t43 A x0 x1 x3 x4 x5 x6 x7) (g5t44 A x0 x1 x3 x4 x5 x6 x7) (g5t45 A x0 x1 x3 x4 x5 x6 x7) (g5t46 A x0 x1 x3 x4 x5 x6 x7) (g5t47 A x0 x1 x3 x4 x5 x6 x7)) = true)
    (p13 : (A.sc .eql (g5t41 A x0 x1 x3 x4 x5 x6 x7) (g5t48 A x0 x1 x3 x4 x5 x6 x7)) = true)
    (p14 : (A.neg x1) = false)
    (p15 : (A.le (A.toN x1) x0.length) = true)
    (p16 : (g9ok A ((x0.take (A.toN x1)).drop 0)) = true)
    (p17 : (A.sc .eql (g5t0 A x0 x1 x3 x4 x5 x6 x7) (g9r0 A ((x0.take (A.toN x1)).drop 0))) = true)
    (p18 : (A.ic .eql (A.ofN ((g5t0 A x0 x1 x3 x4 x5 x6 x7).length)) 64) = true)
    (p19 : (g14ok A (g5t49 A x0 x1 x3 x4 x5 x6 x7) (g5t50 A x0 x1 x3 x4 x5 x6 x7) (g5t51 A x0 x1 x3 x4 x5 x6 x7) (g5t52 A x0 x1 x3 x4 x5 x6 x7) (g5t53 A x0 x1 x3 x4 x5 x6 x7) (g5t54 A x0 x1 x3 x4 x5 x6 x7)) = true) :
    g5J11 A n kk x0 x1 x2 x3 x4 x5 x6 x7 = kk (bO (A.ic .eql (g5t55 A x0 x1 x3 x4 x5 x6 x7) (A.ofN x0.length))) [(9000, ⟨[.nums .u64 88 (g5t56 A x0 x1 x3 x4 x5 x6 x7), .one (.sl 9500 (some (g5t57 A x0 x1 x3 x4 x5 x6 x7)) (g5t58 A x0 x1 x3 x4 x5 x6 x7) 1), .one (.int .i64 (g5t59 A x0 x1 x3 x4 x5 x6 x7))], 45, 1⟩), (9500, ⟨[.nums .u8 (g5t60 A x0 x1 x3 x4 x5 x6 x7) (g5t61 A x0 x1 x3 x4 x5 x6 x7)], 5, 2⟩)] := by
  rw [g5J11.eq_def, SxR02dmf p0, SxR02dmt p1, SxR02dmt p2, SxR02dmt p3, SxR02dmf p4, SxR02dmt p5, SxR02dmt p6, SxR02dmt p7, SxR02dmt p8, SxR02dmt p9, SxR02dmt p10, SxR02dmt p11, SxR02dmt p12, SxR02dmt p13, SxR02dmf p14, SxR02dmt p15, SxR02dmt p16, SxR02dmt p17, SxR02dmt p18, SxR02dmt p19]

theorem law5J7 (x0 : List Nat) (x1 : Int) (h0 : x0.length ≤ 500) (h1 : 0 ≤ x1 ∧ x1 < 9223372036854775808) : g5J7 realA 100000 (fun v _ => some v) x0 x1 (g8r0 realA) = some (bO true) := by
  have q1 : realA.ib .add .i64 (realA.ofN x0.length) 1 = ((x0.length + 1 : Nat) : Int) := by rw [ar_ofN, ar_add (by omega)]; omega
  obtain ⟨z, rfl⟩ : ∃ z : Nat, x1 = z := ⟨x1.toNat, by omega⟩
  have q2 : realA.ib .rem .i64 (z : Int) (realA.ib .add .i64 (realA.ofN x0.length) 1) = ((z % (x0.length + 1) : Nat) : Int) := by rw [q1, ar_rem (by omega)]; omega
  have hat : z % (x0.length + 1) ≤ x0.length := by have := Nat.mod_lt z (show 0 < x0.length + 1 by omega); omega
  have hj := g5J7path realA 100000 (fun v _ => some v) x0 (z : Int) (g8r0 realA) (by rw [q1, ar_eql]; exact decide_eq_false (by omega)) new_ok
  rw [q2] at hj
  refine hj.trans ?_
  generalize z % (x0.length + 1) = k at *
  have n0 := St8.new
  have d1 : (x0.take k).drop 0 = x0.take k := List.drop_zero
  have d2 : (x0.take x0.length).drop k = x0.drop k := by rw [List.take_length]
  have hk1 : ((x0.take (realA.toN (k : Int))).drop 0).length ≤ 90000 := by rw [ar_toNN, List.drop_zero, List.length_take]; omega
  have hk2 : ((x0.take x0.length).drop (realA.toN (k : Int))).length ≤ 90000 := by rw [ar_toNN, List.take_length, List.length_drop]; omega
  obtain ⟨a1, a2⟩ := n0.write _ hk1 (by simp)
  rw [List.nil_append] at a2
  obtain ⟨b1, b2, b3⟩ := a2.sum (by omega)
  obtain ⟨c1, c2⟩ := b3.write _ hk2 (by omega)
  have hall : (x0.take (realA.toN (k : Int))).drop 0 ++ (x0.take x0.length).drop (realA.toN (k : Int)) = x0 := by rw [ar_toNN, d1, d2, List.take_append_drop]
  rw [hall] at c2
  obtain ⟨e1, e2, e3⟩ := c2.sum (by omega)
  obtain ⟨f1, f2, f3⟩ := e3.sum (by omega)
  obtain ⟨i1, i2, i3⟩ := f3.sum (by omega)
  obtain ⟨j1, j2⟩ := i3.len
  have o1 := one_ok x0 (by omega)
  have o2 := one_0 x0 (by omega)
  have o3 := one_ok _ (show ((x0.take (realA.toN (k : Int))).drop 0).length ≤ 4000000 by omega)
  have o4 := one_0 _ (show ((x0.take (realA.toN (k : Int))).drop 0).length ≤ 4000000 by omega)
  have hle : realA.le (realA.toN (k : Int)) x0.length = true := by rw [ar_le, ar_toNN]; exact decide_eq_true hat
  have h := g5J11path realA 100000 (fun v _ => some v) x0 (k : Int) (g8r0 realA) (g11r0 realA) 0 (g11r1 realA) 0 [] (ar_negN k) hle a1 b1 (ar_negN k) hle c1 head02r e1 o1 (sceq (e2.trans o2.symm)) f1 i1 (sceq (f2.trans i2.symm)) (ar_negN k) hle o3 (sceq (b2.trans o4.symm)) (iceq (by
    have : (g5t0 realA x0 (k : Int) (g11r0 realA) 0 (g11r1 realA) 0 []).length = 64 := (congrArg List.length b2).trans (sha_len _)
    rw [this]; rfl)) j1
  exact h.trans (congrArg (fun b => some (bO b)) (iceq j2))
theorem law5 (a : List Nat) (_ : ∀ x ∈ a, x < 256) (hl : a.length < 2 ^ 47) (b : Int) (hb : (Lit.int .i64 b).wf = true) : g5o realA [.v (.cell (.str a)), .v (.cell (.int .i64 b))] = some (true, .v (.cell (.bool true))) := by
  have hb := wf64 hb
  obtain ⟨k, hk⟩ : ∃ k : Nat, realA.mn (realA.ofN a.length) 500 = (k : Int) := ⟨min a.length 500, by rw [ar_ofN, ar_mn]; omega⟩
  have hk2 : (k : Int) = min (a.length : Int) 500 := by rw [← hk, ar_ofN, ar_mn]
  have hv : g5v realA a b = some (bO true) := by
    have h := g5path realA 100000 (fun v _ => some v) a b head02ok (by rw [head02r]; rfl)
    refine h.trans ?_
    have c1 : realA.neg (realA.mn (realA.ofN a.length) 500) = false := by rw [hk]; exact ar_negN k
    have c2 : realA.le (realA.toN (realA.mn (realA.ofN a.length) 500)) a.length = true := by rw [hk, ar_le, ar_toNN]; exact decide_eq_true (by omega)
    have hlen : ((a.take (realA.toN (realA.mn (realA.ofN a.length) 500))).drop 0).length ≤ 500 := by rw [hk, ar_toNN, List.drop_zero, List.length_take]; omega
    by_cases h0 : b < 0
    · refine (g5J4a realA 100000 (fun v _ => some v) a b (g8r0 realA) c1 c2 (by rw [ar_lss]; exact decide_eq_true h0)).trans ?_
      have e : realA.ib .sub .i64 0 (realA.ib .add .i64 b 1) = -(b + 1) := by rw [ar_add (by omega), ar_sub (by omega)]; omega
      rw [e]
      exact law5J7 _ _ hlen (by omega)
    · refine (g5J4b realA 100000 (fun v _ => some v) a b (g8r0 realA) c1 c2 (by rw [ar_lss]; exact decide_eq_false h0)).trans ?_
      exact law5J7 _ _ hlen (by omega)
  have g1 : ∀ y, g5is (some (bO y)) = true := fun _ => rfl
  have g2 : ∀ y, g5g0 (some (bO y)) = y := fun _ => rfl
  have e1 : g5ok realA a b = true := (congrArg g5is hv).trans (g1 _)
  have e2 : g5r0 realA a b = true := (congrArg g5g0 hv).trans (g2 _)
  show some (g5ok realA a b, AV.v (.cell (.bool (g5r0 realA a b)))) = _
  rw [e1, e2]
end Go.Sx
