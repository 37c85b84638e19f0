import Derived.Test.YtaiehobmadflkaaSxN02g
import Derived.Test.YtaiehobmadflkaaSxR02d
namespace Go.Sx
structure St8 (t x : List Nat) (o n : Nat) (tot : Int) (m : Nat) (l : List Nat) : Prop where
  rep : Rep t x o n tot l
  m : m = l.length
  b : l.length ≤ 100000
theorem St8.new : St8 [] (g11r0 realA) 0 0 (g11r1 realA) 0 [] := by
  rw [new_0, new_1]
  exact ⟨Rep.new, rfl, Nat.zero_le _⟩
theorem St8.write {t x : List Nat} {o n : Nat} {tot : Int} {m : Nat} {l : List Nat} (h : St8 t x o n tot m l) (s : List Nat) (hs : s.length ≤ 90000) (ht : t.length ≤ 1000000000) :
    g12ok realA s x o n tot m l = true ∧ St8 (t ++ s) (g12r0 realA s x o n tot m l) (g12r1 realA s x o n tot m l) (g12r2 realA s x o n tot m l) (g12r3 realA s x o n tot m l) (g12r4 realA s x o n tot m l) (g12r5 realA s x o n tot m l) := by
  obtain ⟨hr, rfl, hb⟩ := h
  obtain ⟨a1, a2, a3, a4⟩ := hr.write s (by omega) ht
  exact ⟨a1, a4, a2, by omega⟩
theorem St8.sum {t x : List Nat} {o n : Nat} {tot : Int} {m : Nat} {l : List Nat} (h : St8 t x o n tot m l) (ht : t.length ≤ 1000000000) :
    g13ok realA x o n tot m l = true ∧ g13r0 realA x o n tot m l = sha t ∧ St8 t (g13r1 realA x o n tot m l) (g13r2 realA x o n tot m l) (g13r3 realA x o n tot m l) (g13r4 realA x o n tot m l) (g13r5 realA x o n tot m l) (g13r6 realA x o n tot m l) := by
  obtain ⟨hr, rfl, hb⟩ := h
  obtain ⟨a1, a2, a3, a4, a5, a6, a7, a8⟩ := hr.sum (by omega) ht
  refine ⟨a1, a2, ?_⟩
  rw [a3, a4, a5, a6, a7, a8]
  exact ⟨hr, rfl, hb⟩
theorem St8.len {t x : List Nat} {o n : Nat} {tot : Int} {m : Nat} {l : List Nat} (h : St8 t x o n tot m l) :
    g14ok realA x o n tot m l = true ∧ g14r0 realA x o n tot m l = (t.length : Int) := by
  obtain ⟨hr, rfl, hb⟩ := h
  exact ⟨l14_ok _ _ _ _ _ _, (l14_0 _ _ _ _ _ _).trans hr.tot⟩
def hexABC : List Nat := [100, 100, 97, 102, 51, 53, 97, 49, 57, 51, 54, 49, 55, 97, 98, 97, 99, 99, 52, 49, 55, 51, 52, 57, 97, 101, 50, 48, 52, 49, 51, 49, 49, 50, 101, 54, 102, 97, 52, 101, 56, 57, 97, 57, 55, 101, 97, 50, 48, 97, 57, 101, 101, 101, 101, 54, 52, 98, 53, 53, 100, 51, 57, 97, 50, 49, 57, 50, 57, 57, 50, 97, 50, 55, 52, 102, 99, 49, 97, 56, 51, 54, 98, 97, 51, 99, 50, 51, 97, 51, 102, 101, 101, 98, 98, 100, 52, 53, 52, 100, 52, 52, 50, 51, 54, 52, 51, 99, 101, 56, 48, 101, 50, 97, 57, 97, 99, 57, 52, 102, 97, 53, 52, 99, 97, 52, 57, 102]
theorem hex_abc : g15v realA shaABC = some (tS hexABC) := by kernel_rfl
theorem g15g0_some (y : List Nat) : g15g0 (some (tS y)) = y := rfl
theorem g15is_some (y : List Nat) : g15is (some (tS y)) = true := rfl
theorem hexabc_ok : g15ok realA shaABC = true := (congrArg g15is hex_abc).trans (g15is_some _)
theorem hexabc_0 : g15r0 realA shaABC = hexABC := (congrArg g15g0 hex_abc).trans (g15g0_some _)
theorem sceq {a b : List Nat} (h : a = b) : realA.sc .eql a b = true := by rw [ar_sceq]; exact decide_eq_true h
theorem iceq {a b : Int} (h : a = b) : realA.ic .eql a b = true := by rw [ar_eql]; exact decide_eq_true h
theorem g8path {R : Type} (A : Ar) (n : Nat) (kk : AV → Heap → Option R) 
    (p0 : (g11ok A) = true) :
    g8 A n kk  = g8J4 A n kk  (g11r0 A) 0 (g11r1 A) 0 [] := by
  rw [g8.eq_def, SxR02cmt p0]
theorem g8J4path {R : Type} (A : Ar) (n : Nat) (kk : AV → Heap → Option R) (x0 : List Nat) (x1 : Nat) (x2 : Int) (x3 : Nat) (x4 : List Nat)
    (p0 : (g12ok A [97] x0 0 x1 x2 x3 x4) = true)
    (p1 : (g12ok A [98, 99] (g12r0 A [97] x0 0 x1 x2 x3 x4) (g12r1 A [97] x0 0 x1 x2 x3 x4) (g12r2 A [97] x0 0 x1 x2 x3 x4) (g12r3 A [97] x0 0 x1 x2 x3 x4) (g12r4 A [97] x0 0 x1 x2 x3 x4) (g12r5 A [97] x0 0 x1 x2 x3 x4)) = true)
    (p2 : (g9ok A [97, 98, 99]) = true)
    (p3 : (g15ok A (g9r0 A [97, 98, 99])) = true)
    (p4 : (A.sc .eql (g15r0 A (g9r0 A [97, 98, 99])) [100, 100, 97, 102, 51, 53, 97, 49, 57, 51, 54, 49, 55, 97, 98, 97, 99, 99, 52, 49, 55, 51, 52, 57, 97, 101, 50, 48, 52, 49, 51, 49, 49, 50, 101, 54, 102, 97, 52, 101, 56, 57, 97, 57, 55, 101, 97, 50, 48, 97, 57, 101, 101, 101, 101, 54, 52, 98, 53, 53, 100, 51, 57, 97, 50, 49, 57, 50, 57, 57, 50, 97, 50, 55, 52, 102, 99, 49, 97, 56, 51, 54, 98, 97, 51, 99, 50, 51, 97, 51, 102, 101, 101, 98, 98, 100, 52, 53, 52, 100, 52, 52, 50, 51, 54, 52, 51, 99, 101, 56, 48, 101, 50, 97, 57, 97, 99, 57, 52, 102, 97, 53, 52, 99, 97, 52, 57, 102]) = true)
    (p5 : (g13ok A (g8t0 A x0 x1 x2 x3 x4) (g8t1 A x0 x1 x2 x3 x4) (g8t2 A x0 x1 x2 x3 x4) (g8t3 A x0 x1 x2 x3 x4) (g8t4 A x0 x1 x2 x3 x4) (g8t5 A x0 x1 x2 x3 x4)) = true)
    (p6 : (g9ok A [97, 98, 99]) = true)
    (p7 : (A.sc .eql (g8t13 A x0 x1 x2 x3 x4) (g9r0 A [97, 98, 99])) = true)
    (p8 : (g14ok A (g8t14 A x0 x1 x2 x3 x4) (g8t15 A x0 x1 x2 x3 x4) (g8t16 A x0 x1 x2 x3 x4) (g8t17 A x0 x1 x2 x3 x4) (g8t18 A x0 x1 x2 x3 x4) (g8t19 A x0 x1 x2 x3 x4)) = true) :
    g8J4 A n kk x0 x1 x2 x3 x4 = kk (bO (A.ic .eql (g8t20 A x0 x1 x2 x3 x4) 3)) [(2000, ⟨[.nums .u64 88 (g8t21 A x0 x1 x2 x3 x4), .one (.sl 2500 (some (g8t22 A x0 x1 x2 x3 x4)) (g8t23 A x0 x1 x2 x3 x4) 1), .one (.int .i64 (g8t24 A x0 x1 x2 x3 x4))], 45, 1⟩), (2500, ⟨[.nums .u8 (g8t25 A x0 x1 x2 x3 x4) (g8t26 A x0 x1 x2 x3 x4)], 5, 2⟩)] := by
  rw [g8J4.eq_def, SxR02cmt p0, SxR02cmt p1, SxR02cmt p2, SxR02cmt p3, SxR02cmt p4, SxR02cmt p5, SxR02cmt p6, SxR02cmt p7, SxR02cmt p8]

theorem head02 : g8v realA = some (bO true) := by
  have n0 := St8.new
  obtain ⟨a1, a2⟩ := n0.write [97] (by simp) (by simp)
  obtain ⟨b1, b2⟩ := a2.write [98, 99] (by simp) (by simp)
  obtain ⟨c1, c2, c3⟩ := b2.sum (by simp)
  obtain ⟨d1, d2⟩ := c3.len
  have o1 := one_ok [97, 98, 99] (by simp)
  have o2 : g9r0 realA [97, 98, 99] = shaABC := (one_0 [97, 98, 99] (by simp)).trans sha_abc
  have h := g8path realA 100000 (fun v _ => some v) new_ok
  have h2 := g8J4path realA 100000 (fun v _ => some v) (g11r0 realA) 0 (g11r1 realA) 0 [] a1 b1 o1 (by rw [o2]; exact hexabc_ok) (sceq (by rw [o2]; exact hexabc_0)) c1 o1 (sceq (by rw [o2]; exact c2.trans sha_abc)) d1
  refine (h.trans h2).trans ?_
  exact congrArg (fun b => some (bO b)) (iceq d2)
theorem g8is_some (y : Bool) : g8is (some (bO y)) = true := rfl
theorem g8g0_some (y : Bool) : g8g0 (some (bO y)) = y := rfl
theorem head02ok : g8ok realA = true := (congrArg g8is head02).trans (g8is_some _)
theorem head02r : g8r0 realA = true := (congrArg g8g0 head02).trans (g8g0_some _)
end Go.Sx
