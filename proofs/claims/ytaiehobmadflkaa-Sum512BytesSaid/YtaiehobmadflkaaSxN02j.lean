/- sum512: byte by byte. -/
import Derived.Test.YtaiehobmadflkaaSxN02i
import Derived.Test.YtaiehobmadflkaaSxR02e
namespace Go.Sx
theorem g7path {R : Type} (A : Ar) (n : Nat) (kk : AV → Heap → Option R) (a b : Nat) (c : List Nat)
    (p0 : (g8ok A) = true)
    (p1 : (!(g8r0 A)) = false) :
    g7 A n kk a b c = g7J4 A n kk  a b c (g8r0 A) := by
  rw [g7.eq_def, SxR02emt p0, SxR02emf p1]
theorem g7J4path {R : Type} (A : Ar) (n : Nat) (kk : AV → Heap → Option R) (x0 x1 : Nat) (x2 : List Nat) (x3 : Bool)
    (p0 : (A.neg (A.ib .add .i64 108 (A.ofN (A.nb .rem .u8 x1 41)))) = false)
    (p1 : (A.neg (A.ib .add .i64 108 (A.ofN (A.nb .rem .u8 x1 41)))) = false)
    (p2 : (A.le (A.toN (A.ib .add .i64 108 (A.ofN (A.nb .rem .u8 x1 41)))) (A.toN (A.ib .add .i64 108 (A.ofN (A.nb .rem .u8 x1 41))))) = true)
    (p3 : (A.le (A.toN (A.ib .add .i64 108 (A.ofN (A.nb .rem .u8 x1 41)))) 140737488355328) = true) :
    g7J4 A n kk x0 x1 x2 x3 = g7L6 A n kk  n x0 x2 x3 (A.toN (A.ib .add .i64 108 (A.ofN (A.nb .rem .u8 x1 41)))) 0 (A.toN (A.ib .add .i64 108 (A.ofN (A.nb .rem .u8 x1 41)))) (List.replicate (A.toN (A.ib .add .i64 108 (A.ofN (A.nb .rem .u8 x1 41)))) 0) := by
  rw [g7J4.eq_def, SxR02emf p0, SxR02emf p1, SxR02emt p2, SxR02emt p3]
theorem g7J8path {R : Type} (A : Ar) (n : Nat) (kk : AV → Heap → Option R) (lg7L6 : Nat → List Nat → Bool → Nat → Int → Nat → List Nat → Option R) (x0 : Nat) (x1 : List Nat) (x2 : Bool) (x3 : Nat) (x4 : Int) (x5 : Nat) (x6 : List Nat)
    (p0 : (A.neg x4) = false)
    (p1 : (A.lt (A.toN x4) x3) = true) :
    g7J8 A n kk lg7L6 x0 x1 x2 x3 x4 x5 x6 = lg7L6 x0 x1 x2 x3 (A.ib .add .i64 x4 1) x5 (x6.set (A.toN x4) x0) := by
  rw [g7J8.eq_def, SxR02emf p0, SxR02emt p1]
theorem g7J9path {R : Type} (A : Ar) (n : Nat) (kk : AV → Heap → Option R) (x0 : List Nat) (x1 : Bool) (x2 x3 : Nat) (x4 : List Nat)
    (p0 : (A.neg (A.mn (A.ofN x0.length) 20)) = false)
    (p1 : (A.le (A.toN (A.mn (A.ofN x0.length) 20)) x0.length) = true)
    (p2 : (A.le ((x4.take x2).length + ((x0.take (A.toN (A.mn (A.ofN x0.length) 20))).drop 0).length) 9223372036854775807) = true)
    (p3 : (g11ok A) = true) :
    g7J9 A n kk x0 x1 x2 x3 x4 = g7J13 A n kk  x1 ((x4.take x2) ++ ((x0.take (A.toN (A.mn (A.ofN x0.length) 20))).drop 0)) (g11r0 A) 0 (g11r1 A) 0 [] := by
  rw [g7J9.eq_def, SxR02emf p0, SxR02emt p1, SxR02emt p2, SxR02emt p3]
theorem g7J16path {R : Type} (A : Ar) (n : Nat) (kk : AV → Heap → Option R) (lg7L14a : Bool → List Nat → Int → List Nat → Nat → Nat → Int → Nat → List Nat → Option R) (x0 : Bool) (x1 : List Nat) (x2 : Int) (x3 : List Nat) (x4 : Nat) (x5 : Int) (x6 : Nat) (x7 : List Nat)
    (p0 : (A.neg (A.ib .add .i64 x2 1)) = false)
    (p1 : (A.le (A.toN (A.ib .add .i64 x2 1)) x1.length) = true)
    (p2 : (A.neg x2) = false)
    (p3 : (A.le (A.toN x2) (A.toN (A.ib .add .i64 x2 1))) = true)
    (p4 : (g12ok A ((x1.take (A.toN (A.ib .add .i64 x2 1))).drop (A.toN x2)) x3 0 x4 x5 x6 x7) = true) :
    g7J16 A n kk lg7L14a x0 x1 x2 x3 x4 x5 x6 x7 = lg7L14a x0 x1 (A.ib .add .i64 x2 1) (g12r0 A ((x1.take (A.toN (A.ib .add .i64 x2 1))).drop (A.toN x2)) x3 0 x4 x5 x6 x7) (g12r1 A ((x1.take (A.toN (A.ib .add .i64 x2 1))).drop (A.toN x2)) x3 0 x4 x5 x6 x7) (g12r2 A ((x1.take (A.toN (A.ib .add .i64 x2 1))).drop (A.toN x2)) x3 0 x4 x5 x6 x7) (g12r3 A ((x1.take (A.toN (A.ib .add .i64 x2 1))).drop (A.toN x2)) x3 0 x4 x5 x6 x7) (g12r4 A ((x1.take (A.toN (A.ib .add .i64 x2 1))).drop (A.toN x2)) x3 0 x4 x5 x6 x7) (g12r5 A ((x1.take (A.toN (A.ib .add .i64 x2 1))).drop (A.toN x2)) x3 0 x4 x5 x6 x7) := by
  rw [g7J16.eq_def, SxR02emf p0, SxR02emt p1, SxR02emf p2, SxR02emt p3, SxR02emt p4]
theorem g7J16apath {R : Type} (A : Ar) (n : Nat) (kk : AV → Heap → Option R) (lg7L14a : Bool → List Nat → Int → List Nat → Nat → Nat → Int → Nat → List Nat → Option R) (x0 : Bool) (x1 : List Nat) (x2 : Int) (x3 : List Nat) (x4 x5 : Nat) (x6 : Int) (x7 : Nat) (x8 : List Nat)
    (p0 : (A.neg (A.ib .add .i64 x2 1)) = false)
    (p1 : (A.le (A.toN (A.ib .add .i64 x2 1)) x1.length) = true)
    (p2 : (A.neg x2) = false)
    (p3 : (A.le (A.toN x2) (A.toN (A.ib .add .i64 x2 1))) = true)
    (p4 : (g12ok A ((x1.take (A.toN (A.ib .add .i64 x2 1))).drop (A.toN x2)) x3 x4 x5 x6 x7 x8) = true) :
    g7J16a A n kk lg7L14a x0 x1 x2 x3 x4 x5 x6 x7 x8 = lg7L14a x0 x1 (A.ib .add .i64 x2 1) (g12r0 A ((x1.take (A.toN (A.ib .add .i64 x2 1))).drop (A.toN x2)) x3 x4 x5 x6 x7 x8) (g12r1 A ((x1.take (A.toN (A.ib .add .i64 x2 1))).drop (A.toN x2)) x3 x4 x5 x6 x7 x8) (g12r2 A ((x1.take (A.toN (A.ib .add .i64 x2 1))).drop (A.toN x2)) x3 x4 x5 x6 x7 x8) (g12r3 A ((x1.take (A.toN (A.ib .add .i64 x2 1))).drop (A.toN x2)) x3 x4 x5 x6 x7 x8) (g12r4 A ((x1.take (A.toN (A.ib .add .i64 x2 1))).drop (A.toN x2)) x3 x4 x5 x6 x7 x8) (g12r5 A ((x1.take (A.toN (A.ib .add .i64 x2 1))).drop (A.toN x2)) x3 x4 x5 x6 x7 x8) := by
  rw [g7J16a.eq_def, SxR02emf p0, SxR02emt p1, SxR02emf p2, SxR02emt p3, SxR02emt p4]
theorem g7J17path {R : Type} (A : Ar) (n : Nat) (kk : AV → Heap → Option R) (x0 : Bool) (x1 x2 : List Nat) (x3 x4 : Nat) (x5 : Int) (x6 : Nat) (x7 : List Nat)
    (p0 : (x0) = true)
    (p1 : (g13ok A x2 x3 x4 x5 x6 x7) = true)
    (p2 : (g9ok A x1) = true)
    (p3 : (A.sc .eql (g13r0 A x2 x3 x4 x5 x6 x7) (g9r0 A x1)) = true)
    (p4 : (g14ok A (g13r1 A x2 x3 x4 x5 x6 x7) (g13r2 A x2 x3 x4 x5 x6 x7) (g13r3 A x2 x3 x4 x5 x6 x7) (g13r4 A x2 x3 x4 x5 x6 x7) (g13r5 A x2 x3 x4 x5 x6 x7) (g13r6 A x2 x3 x4 x5 x6 x7)) = true) :
    g7J17 A n kk x0 x1 x2 x3 x4 x5 x6 x7 = kk (bO (A.ic .eql (g7t0 A x2 x3 x4 x5 x6 x7) (A.ofN x1.length))) [(11000, ⟨[.nums .u64 88 (g7t1 A x2 x3 x4 x5 x6 x7), .one (.sl 11500 (some (g7t2 A x2 x3 x4 x5 x6 x7)) (g7t3 A x2 x3 x4 x5 x6 x7) 1), .one (.int .i64 (g7t4 A x2 x3 x4 x5 x6 x7))], 45, 1⟩), (11500, ⟨[.nums .u8 (g7t5 A x2 x3 x4 x5 x6 x7) (g7t6 A x2 x3 x4 x5 x6 x7)], 5, 2⟩)] := by
  rw [g7J17.eq_def, SxR02emt p0, SxR02emt p1, SxR02emt p2, SxR02emt p3, SxR02emt p4]

theorem g7L6t {R : Type} (A : Ar) (n : Nat) (kk : AV → Heap → Option R) (m : Nat) (x0 : Nat) (x1 : List Nat) (x2 : Bool) (x3 : Nat) (x4 : Int) (x5 : Nat) (x6 : List Nat) (p : A.ic .lss x4 (A.ofN x3) = true) :
    g7L6 A n kk (m + 1) x0 x1 x2 x3 x4 x5 x6 = g7J8 A n kk (g7L6 A n kk m) x0 x1 x2 x3 x4 x5 x6 := by rw [g7L6, SxR02emt p]
theorem g7L6f {R : Type} (A : Ar) (n : Nat) (kk : AV → Heap → Option R) (m : Nat) (x0 : Nat) (x1 : List Nat) (x2 : Bool) (x3 : Nat) (x4 : Int) (x5 : Nat) (x6 : List Nat) (p : A.ic .lss x4 (A.ofN x3) = false) :
    g7L6 A n kk (m + 1) x0 x1 x2 x3 x4 x5 x6 = g7J9 A n kk x1 x2 x3 x5 x6 := by rw [g7L6, SxR02emf p]
theorem g7L14t {R : Type} (A : Ar) (n : Nat) (kk : AV → Heap → Option R) (m : Nat) (x0 : Bool) (x1 : List Nat) (x2 : Int) (x3 : List Nat) (x4 : Nat) (x5 : Int) (x6 : Nat) (x7 : List Nat) (p : A.ic .lss x2 (A.ofN x1.length) = true) :
    g7L14 A n kk (m + 1) x0 x1 x2 x3 x4 x5 x6 x7 = g7J16 A n kk (g7L14a A n kk m) x0 x1 x2 x3 x4 x5 x6 x7 := by rw [g7L14, SxR02emt p]
theorem g7L14at {R : Type} (A : Ar) (n : Nat) (kk : AV → Heap → Option R) (m : Nat) (x0 : Bool) (x1 : List Nat) (x2 : Int) (x3 : List Nat) (x4 x5 : Nat) (x6 : Int) (x7 : Nat) (x8 : List Nat) (p : A.ic .lss x2 (A.ofN x1.length) = true) :
    g7L14a A n kk (m + 1) x0 x1 x2 x3 x4 x5 x6 x7 x8 = g7J16a A n kk (g7L14a A n kk m) x0 x1 x2 x3 x4 x5 x6 x7 x8 := by rw [g7L14a, SxR02emt p]
theorem g7L14af {R : Type} (A : Ar) (n : Nat) (kk : AV → Heap → Option R) (m : Nat) (x0 : Bool) (x1 : List Nat) (x2 : Int) (x3 : List Nat) (x4 x5 : Nat) (x6 : Int) (x7 : Nat) (x8 : List Nat) (p : A.ic .lss x2 (A.ofN x1.length) = false) :
    g7L14a A n kk (m + 1) x0 x1 x2 x3 x4 x5 x6 x7 x8 = g7J17 A n kk x0 x1 x3 x4 x5 x6 x7 x8 := by rw [g7L14a, SxR02emf p]
theorem loop6 (n : Nat) (kk : AV → Heap → Option AV) (x0 : Nat) (x1 : List Nat) (x2 : Bool) (N x5 : Nat) (hN : N ≤ 1000) :
    ∀ m (k : Nat) (l : List Nat), l.length = N → k ≤ N → N - k < m → ∃ l', l'.length = N ∧ g7L6 realA n kk m x0 x1 x2 N (k : Int) x5 l = g7J9 realA n kk x1 x2 N x5 l' := by
  intro m
  induction m with
  | zero => intro k l _ _ h; omega
  | succ m ih =>
    intro k l hl hk hm
    by_cases h : k < N
    · obtain ⟨l', e1, e2⟩ := ih (k + 1) (l.set k x0) (by simp [hl]) (by omega) (by omega)
      refine ⟨l', e1, (g7L6t realA n kk m x0 x1 x2 N (k : Int) x5 l (by rw [ar_lss, ar_ofN]; exact decide_eq_true (by omega))).trans ?_⟩
      refine (g7J8path realA n kk (g7L6 realA n kk m) x0 x1 x2 N (k : Int) x5 l (ar_negN k) (by rw [ar_lt, ar_toNN]; exact decide_eq_true h)).trans ?_
      rw [ar_toNN, ar_add (by omega)]
      exact e2
    · have : k = N := by omega
      subst this
      exact ⟨l, hl, g7L6f realA n kk m x0 x1 x2 k (k : Int) x5 l (by rw [ar_lss, ar_ofN]; exact decide_eq_false (by omega))⟩
theorem piece (all : List Nat) (k : Nat) (_ : k < all.length) : all.take k ++ (all.take (k + 1)).drop k = all.take (k + 1) := by
  have h := List.take_append_drop k (all.take (k + 1))
  rw [List.take_take, Nat.min_eq_left (by omega)] at h
  exact h
theorem loop14 (n : Nat) (all : List Nat) (hL : all.length ≤ 1000) :
    ∀ m (k : Nat) (x3 : List Nat) (x4 x5 : Nat) (x6 : Int) (x7 : Nat) (x8 : List Nat), St8 (all.take k) x3 x4 x5 x6 x7 x8 → k ≤ all.length → all.length - k < m →
      g7L14a realA n (fun v _ => some v) m true all (k : Int) x3 x4 x5 x6 x7 x8 = some (bO true) := by
  intro m
  induction m with
  | zero => intro k _ _ _ _ _ _ _ _ h; omega
  | succ m ih =>
    intro k x3 x4 x5 x6 x7 x8 st hk hm
    by_cases h : k < all.length
    · refine (g7L14at realA n _ m true all (k : Int) x3 x4 x5 x6 x7 x8 (by rw [ar_lss, ar_ofN]; exact decide_eq_true (by omega))).trans ?_
      have q : realA.ib .add .i64 (k : Int) 1 = ((k + 1 : Nat) : Int) := by rw [ar_add (by omega)]; rfl
      have hk1 : ((all.take (realA.toN (realA.ib .add .i64 (k : Int) 1))).drop (realA.toN (k : Int))).length ≤ 90000 := by rw [List.length_drop, List.length_take]; omega
      obtain ⟨a1, a2⟩ := st.write _ hk1 (by rw [List.length_take]; omega)
      have e : all.take k ++ (all.take (realA.toN (realA.ib .add .i64 (k : Int) 1))).drop (realA.toN (k : Int)) = all.take (k + 1) := by rw [q, ar_toNN, ar_toNN]; exact piece all k h
      rw [e] at a2
      have hj := g7J16apath realA n (fun v _ => some v) (g7L14a realA n (fun v _ => some v) m) true all (k : Int) x3 x4 x5 x6 x7 x8 (by rw [q]; exact ar_negN _) (by rw [q, ar_le, ar_toNN]; exact decide_eq_true (by omega)) (ar_negN k) (by rw [q, ar_le, ar_toNN, ar_toNN]; exact decide_eq_true (by omega)) a1
      refine hj.trans ?_
      have hi := ih (k + 1) _ _ _ _ _ _ a2 (by omega) (by omega)
      rw [← q] at hi
      exact hi
    · have : k = all.length := by omega
      subst this
      refine (g7L14af realA n _ m true all _ x3 x4 x5 x6 x7 x8 (by rw [ar_lss, ar_ofN]; exact decide_eq_false (by omega))).trans ?_
      rw [List.take_length] at st
      obtain ⟨b1, b2, b3⟩ := st.sum (by omega)
      obtain ⟨j1, j2⟩ := b3.len
      have o1 := one_ok all (by omega)
      have o2 := one_0 all (by omega)
      refine (g7J17path realA n (fun v _ => some v) true all x3 x4 x5 x6 x7 x8 rfl b1 o1 (sceq (b2.trans o2.symm)) j1).trans ?_
      exact congrArg (fun b => some (bO b)) (iceq j2)
theorem loop14o (n : Nat) (all : List Nat) (hL : all.length ≤ 1000) (h0 : 0 < all.length) (hn : 1002 < n) :
    g7J13 realA n (fun v _ => some v) true all (g11r0 realA) 0 (g11r1 realA) 0 [] = some (bO true) := by
  have d : g7J13 realA n (fun v _ => some v) true all (g11r0 realA) 0 (g11r1 realA) 0 [] = g7L14 realA n (fun v _ => some v) n true all 0 (g11r0 realA) 0 (g11r1 realA) 0 [] := by rw [g7J13]
  refine d.trans ?_
  obtain ⟨m, rfl⟩ : ∃ m, n = m + 1 := ⟨n - 1, by omega⟩
  refine (g7L14t realA (m + 1) _ m true all 0 _ _ _ _ _ (by rw [ar_lss, ar_ofN]; exact decide_eq_true (by omega))).trans ?_
  have q : realA.ib .add .i64 (0 : Int) 1 = ((0 + 1 : Nat) : Int) := by rw [ar_add (by omega)]; rfl
  have hk1 : ((all.take (realA.toN (realA.ib .add .i64 (0 : Int) 1))).drop (realA.toN (0 : Int))).length ≤ 90000 := by rw [List.length_drop, List.length_take]; omega
  obtain ⟨a1, a2⟩ := St8.new.write _ hk1 (by simp)
  have e : ([] : List Nat) ++ (all.take (realA.toN (realA.ib .add .i64 (0 : Int) 1))).drop (realA.toN (0 : Int)) = all.take (0 + 1) := by rw [q, ar_toNN]; exact piece all 0 h0
  rw [e] at a2
  have hj := g7J16path realA (m + 1) (fun v _ => some v) (g7L14a realA (m + 1) (fun v _ => some v) m) true all 0 _ _ _ _ _ (by rw [q]; exact ar_negN _) (by rw [q, ar_le, ar_toNN]; exact decide_eq_true (by omega)) (ar_negN 0) (by rw [q, ar_le, ar_toNN]; exact decide_eq_true (by show (0 : Nat) ≤ 0 + 1; omega)) a1
  refine hj.trans ?_
  have hi := loop14 (m + 1) all hL m (0 + 1) _ _ _ _ _ _ a2 (by omega) (by omega)
  rw [← q] at hi
  exact hi
theorem law7 (a : Int) (_ : (Lit.int .u8 a).wf = true) (b : Int) (_ : (Lit.int .u8 b).wf = true) (c : List Nat) (_ : ∀ x ∈ c, x < 256) (hc : c.length < 2 ^ 47) : g7o realA [.v (.cell (.nat .u8 a.toNat)), .v (.cell (.nat .u8 b.toNat)), .v (.cell (.str c))] = some (true, .v (.cell (.bool true))) := by
  generalize a.toNat = u
  generalize b.toNat = n
  obtain ⟨N, hN, hN2⟩ : ∃ N : Nat, realA.ib .add .i64 108 (realA.ofN (realA.nb .rem .u8 n 41)) = (N : Int) ∧ 108 ≤ N ∧ N < 149 := by
    have := Nat.mod_lt n (show 0 < 41 by omega)
    exact ⟨108 + n % 41, by rw [ar_nrem, ar_ofN, ar_add (by omega)]; omega, by omega⟩
  obtain ⟨k, hk⟩ : ∃ k : Nat, realA.mn (realA.ofN c.length) 20 = (k : Int) := ⟨min c.length 20, by rw [ar_ofN, ar_mn]; omega⟩
  have hk2 : (k : Int) = min (c.length : Int) 20 := by rw [← hk, ar_ofN, ar_mn]
  have hv : g7v realA u n c = some (bO true) := by
    have h := g7path realA 100000 (fun v _ => some v) u n c head02ok (by rw [head02r]; rfl)
    refine h.trans ?_
    rw [head02r]
    refine (g7J4path realA 100000 (fun v _ => some v) u n c true (by rw [hN]; exact ar_negN N) (by rw [hN]; exact ar_negN N) (by rw [ar_le]; exact decide_eq_true (Nat.le_refl _)) (by rw [hN, ar_le, ar_toNN]; exact decide_eq_true (by omega))).trans ?_
    rw [hN, ar_toNN]
    obtain ⟨l, hl, e⟩ := loop6 100000 (fun v _ => some v) u c true N N (by omega) 100000 0 (List.replicate N 0) (by simp) (by omega) (by omega)
    refine e.trans ?_
    have hall : ((l.take N) ++ ((c.take (realA.toN (realA.mn (realA.ofN c.length) 20))).drop 0)).length = N + k := by
      rw [hk, ar_toNN, List.length_append, List.drop_zero, List.length_take, List.length_take]; omega
    refine (g7J9path realA 100000 (fun v _ => some v) c true N N l (by rw [hk]; exact ar_negN k) (by rw [hk, ar_le, ar_toNN]; exact decide_eq_true (by omega)) (by rw [← List.length_append, ar_le, hall]; exact decide_eq_true (by omega)) new_ok).trans ?_
    exact loop14o 100000 _ (by rw [hall]; omega) (by rw [hall]; omega) (by omega)
  have g1 : ∀ y, g7is (some (bO y)) = true := fun _ => rfl
  have g2 : ∀ y, g7g0 (some (bO y)) = y := fun _ => rfl
  have e1 : g7ok realA u n c = true := (congrArg g7is hv).trans (g1 _)
  have e2 : g7r0 realA u n c = true := (congrArg g7g0 hv).trans (g2 _)
  show some (g7ok realA u n c, AV.v (.cell (.bool (g7r0 realA u n c)))) = _
  rw [e1, e2]
end Go.Sx
