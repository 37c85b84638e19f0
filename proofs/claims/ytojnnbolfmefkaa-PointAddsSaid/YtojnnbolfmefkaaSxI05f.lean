import Derived.Test.YtojnnbolfmefkaaSxI05c
import Derived.Test.YtojnnbolfmefkaaSxAr
namespace Go.Sx
set_option linter.unusedSectionVars false
def bitN (s : List Nat) (i : Nat) : Nat := s.getD (i / 8) 0 / 2 ^ (i % 8) % 2
theorem bitE {s : List Nat} {i : Nat} (hi : i < 1000000) (hs : s.length < 9223372036854775808) : g53v realA s i = some (.v (.cell (.int .i64 (bitN s i : Nat)))) := by
  unfold g53v g53
  have q : realA.ib .quo .i64 (i : Int) 8 = ((i / 8 : Nat) : Int) := by rw [ar_quo (by omega) (by omega) (by omega)]; rfl
  have m : realA.ib .rem .i64 (i : Int) 8 = ((i % 8 : Nat) : Int) := by rw [ar_rem (by omega)]; rfl
  rw [ar_lss, q, ar_geq, ar_ofN]
  rw [decide_eq_false (by omega)]
  simp only []
  by_cases hl : i / 8 < s.length
  · rw [decide_eq_false (by omega)]
    simp only []
    unfold g53J3
    rw [q, m]
    simp only [ar_negN, ar_toNN, ar_lt, decide_eq_true hl, ar_nshr, ar_ofN, and1]
    rfl
  · rw [decide_eq_true (by omega)]
    simp only []
    unfold bitN
    rw [List.getD_eq_getElem?_getD, List.getElem?_eq_none (by omega)]
    show some (i6 0) = some (.v (.cell (.int .i64 (((0 : Nat) / 2 ^ (i % 8) % 2 : Nat) : Int))))
    rw [Nat.zero_div]
    rfl
theorem bitR {s : List Nat} {i : Nat} (hi : i < 1000000) (hs : s.length < 9223372036854775808) : g53ok realA s i = true ∧ g53r0 realA s i = (bitN s i : Nat) := ⟨by unfold g53ok; rw [bitE hi hs]; rfl, by unfold g53r0; rw [bitE hi hs]; rfl⟩
abbrev Z4 := Int × Int × Int × Int
def sumI (p q : Z4) : Z4 := ((p.1 * q.2.1 + q.1 * p.2.1) * (p.2.2.1 * q.2.2.1 - dI * (p.2.2.2 * q.2.2.2)), (p.2.1 * q.2.1 + p.1 * q.1) * (p.2.2.1 * q.2.2.1 + dI * (p.2.2.2 * q.2.2.2)), (p.2.2.1 * q.2.2.1 - dI * (p.2.2.2 * q.2.2.2)) * (p.2.2.1 * q.2.2.1 + dI * (p.2.2.2 * q.2.2.2)), (p.1 * q.2.1 + q.1 * p.2.1) * (p.2.1 * q.2.1 + p.1 * q.1))
theorem sumE (p q : Z4) : g40ok realA (fi dI) (fi p.1) (fi p.2.1) (fi p.2.2.1) (fi p.2.2.2) (fi q.1) (fi q.2.1) (fi q.2.2.1) (fi q.2.2.2) = true ∧
    g40r0 realA (fi dI) (fi p.1) (fi p.2.1) (fi p.2.2.1) (fi p.2.2.2) (fi q.1) (fi q.2.1) (fi q.2.2.1) (fi q.2.2.2) = fi (sumI p q).1 ∧
    g40r1 realA (fi dI) (fi p.1) (fi p.2.1) (fi p.2.2.1) (fi p.2.2.2) (fi q.1) (fi q.2.1) (fi q.2.2.1) (fi q.2.2.2) = fi (sumI p q).2.1 ∧
    g40r2 realA (fi dI) (fi p.1) (fi p.2.1) (fi p.2.2.1) (fi p.2.2.2) (fi q.1) (fi q.2.1) (fi q.2.2.1) (fi q.2.2.2) = fi (sumI p q).2.2.1 ∧
    g40r3 realA (fi dI) (fi p.1) (fi p.2.1) (fi p.2.2.1) (fi p.2.2.2) (fi q.1) (fi q.2.1) (fi q.2.2.1) (fi q.2.2.2) = fi (sumI p q).2.2.2 := sumR fok dI p.1 p.2.1 p.2.2.1 p.2.2.2 q.1 q.2.1 q.2.2.1 q.2.2.2
def mulR' (s : List Nat) (p : Z4) : Nat → Z4 → Z4
  | 0, o => o
  | k + 1, o => mulR' s p k (if bitN s k = 1 then sumI (sumI o o) p else sumI o o)
theorem mulLoop (n : Nat) (s : List Nat) (hs : s.length < 9223372036854775808) (p : Z4) (d0 d1 : List Nat) : ∀ (k m : Nat) (o : Z4), k ≤ 256 →
    g21L5 realA n (fun v _ => some v) (m + k + 1) s ((k : Int) - 1) d0 d1 (fi dI) (fi p.1) (fi p.2.1) (fi p.2.2.1) (fi p.2.2.2) (fi o.1) (fi o.2.1) (fi o.2.2.1) (fi o.2.2.2) = some (.v (.agg [.nums .u64 4 (fi ((mulR' s p k o).1 * iv (mulR' s p k o).2.2.1)), .nums .u64 4 (fi ((mulR' s p k o).2.1 * iv (mulR' s p k o).2.2.1))])) := by
  intro k
  induction k with
  | zero =>
    intro m o _
    rw [g21L5, ar_geq, decide_eq_false (by omega)]
    obtain ⟨w1, w2, w3⟩ := wholeR fok o.1 o.2.1 o.2.2.1 o.2.2.2
    simp only [w1, w2, w3]
    rfl
  | succ k ih =>
    intro m o hk
    have e0 : ((k + 1 : Nat) : Int) - 1 = (k : Int) := by omega
    rw [e0, show m + (k + 1) + 1 = (m + k + 1) + 1 by omega, g21L5, ar_geq, decide_eq_true (by omega)]
    simp only []
    unfold g21J7
    obtain ⟨b1, b2⟩ := bitR (s := s) (i := k) (by omega) hs
    obtain ⟨s0, s1, s2, s3, s4⟩ := sumE o o
    rw [s0, b1, b2, ar_eql, ar_sub (by omega)]
    simp only [g21t0, g21t1, g21t2, g21t3, s1, s2, s3, s4]
    have es : mulR' s p (k + 1) o = mulR' s p k (if bitN s k = 1 then sumI (sumI o o) p else sumI o o) := rfl
    rw [es]
    by_cases hb : bitN s k = 1
    · rw [if_pos hb, decide_eq_true (by omega)]
      obtain ⟨t0, t1, t2, t3, t4⟩ := sumE (sumI o o) p
      simp only [t0, t1, t2, t3, t4]
      exact ih m (sumI (sumI o o) p) (by omega)
    · rw [if_neg hb, decide_eq_false (by omega)]
      simp only []
      exact ih m (sumI o o) (by omega)
def mulZR (s a b : List Nat) : Z4 := mulR' s (ptX a b, ptY a b, 1, ptX a b * ptY a b) (8 * min s.length 32) (0, 1, 1, 0 * 1)
theorem g21of {A : Ar} {s a b x y : List Nat} (e : g21v A s a b = some (.v (.agg [.nums .u64 4 x, .nums .u64 4 y]))) : g21ok A s a b = true ∧ g21r0 A s a b = x ∧ g21r1 A s a b = y := ⟨by unfold g21ok; rw [e]; rfl, by unfold g21r0; rw [e]; rfl, by unfold g21r1; rw [e]; rfl⟩
theorem g21Shape (A : Ar) (h : FOK A) (n : Nat) {s a b : List Nat} (ha : W4 a) (hb : W4 b) : g21 A n (fun v _ => some v) s a b = g21L5 A n (fun v _ => some v) n s (A.ib .sub .i64 (A.ib .mul .i64 8 (A.mn (A.ofN s.length) 32)) 1) [0, 0, 0, 0] [0, 0, 0, 0] (fi dI) (fi (ptX a b)) (fi (ptY a b)) (fi 1) (fi (ptX a b * ptY a b)) (fi 0) (fi 1) (fi 1) (fi (0 * 1)) := by
  unfold g21
  simp only [dR h, madeR h ha hb, partR h, zeroR h]
theorem MulR {s a b : List Nat} (ha : W4 a) (hb : W4 b) (hs : s.length < 9223372036854775808) : g21ok realA s a b = true ∧ g21r0 realA s a b = fi ((mulZR s a b).1 * iv (mulZR s a b).2.2.1) ∧ g21r1 realA s a b = fi ((mulZR s a b).2.1 * iv (mulZR s a b).2.2.1) := by
  refine g21of ?_
  unfold g21v
  rw [g21Shape realA fok 100000 ha hb]
  have e1 : realA.ib .sub .i64 (realA.ib .mul .i64 8 (realA.mn (realA.ofN s.length) 32)) 1 = ((8 * min s.length 32 : Nat) : Int) - 1 := by
    rw [ar_ofN, ar_mn, ar_mul (by omega), ar_sub (by omega)]
    omega
  rw [e1, show 100000 = (99999 - 8 * min s.length 32) + 8 * min s.length 32 + 1 by omega]
  exact mulLoop _ s hs (ptX a b, ptY a b, 1, ptX a b * ptY a b) _ _ (8 * min s.length 32) _ (0, 1, 1, 0 * 1) (by omega)
theorem g11of {A : Ar} {s a b x y : List Nat} {c : Bool} (e : g11v A s a b c = some (.v (.agg [.nums .u64 4 x, .nums .u64 4 y]))) : g11ok A s a b c = true ∧ g11r0 A s a b c = x ∧ g11r1 A s a b c = y := ⟨by unfold g11ok; rw [e]; rfl, by unfold g11r0; rw [e]; rfl, by unfold g11r1; rw [e]; rfl⟩
theorem g11T (A : Ar) (n : Nat) (s a b : List Nat) : g11 A n (fun v _ => some v) s a b true = some (.v (.agg [.nums .u64 4 a, .nums .u64 4 b])) := rfl
theorem g11F (A : Ar) (n : Nat) (s t a b x y u v : List Nat) (k : Int) (e0 : A.mn (A.ofN s.length) 8 = k) (e1 : A.neg k = false) (e2 : A.le (A.toN k) s.length = true) (et : (s.take (A.toN k)).drop 0 = t) (h1 : g23ok A = true) (h2 : g23r0 A = x) (h3 : g23r1 A = y) (m1 : g21ok A t x y = true) (m2 : g21r0 A t x y = u) (m3 : g21r1 A t x y = v) :
    g11 A n (fun v _ => some v) s a b false = some (.v (.agg [.nums .u64 4 u, .nums .u64 4 v])) := by
  unfold g11 g11J3
  simp only [e0, e1, e2, et, h1, h2, h3, m1, m2, m3]
theorem someE {s a b : List Nat} (ha : W4 a) (hb : W4 b) (hs : s.length < 9223372036854775808) (c : Bool) : ∃ x y, g11ok realA s a b c = true ∧ g11r0 realA s a b c = x ∧ g11r1 realA s a b c = y ∧ W4 x ∧ W4 y := by
  cases c with
  | true =>
    obtain ⟨h1, h2, h3⟩ := g11of (g11T realA 100000 s a b)
    exact ⟨a, b, h1, h2, h3, ha, hb⟩
  | false =>
    obtain ⟨b1, b2, b3⟩ := baseR fok
    have n0 : realA.mn (realA.ofN s.length) 8 = ((min s.length 8 : Nat) : Int) := by rw [ar_mn, ar_ofN]; omega
    obtain ⟨m1, m2, m3⟩ := MulR (s := (s.take (min s.length 8)).drop 0) (fi_W4 BX) (fi_W4 BY) (by rw [List.length_drop, List.length_take]; omega)
    obtain ⟨h1, h2, h3⟩ := g11of (g11F realA 100000 s _ a b _ _ _ _ _ n0 (ar_negN _) (by rw [ar_toNN, ar_le]; exact decide_eq_true (by omega)) rfl b1 b2 b3 m1 m2 m3)
    exact ⟨_, _, h1, h2, h3, fi_W4 _, fi_W4 _⟩
theorem sixE : g30ok realA = true ∧ g30r0 realA = List.replicate 31 102 := g30of six
theorem g10of {A : Ar} {t : Bool} (e : g10v A = some (.v (.cell (.bool t)))) : g10ok A = true ∧ g10r0 A = t := ⟨by unfold g10ok; rw [e]; rfl, by unfold g10r0; rw [e]; rfl⟩
theorem exShape (A : Ar) (x y : Int) (bs six : List Nat) (h : FOK A) (b : g22ok A = true ∧ g22r0 A = fi x ∧ g22r1 A = fi y) (en : g12ok A (fi x) (fi y) = true ∧ g12r0 A (fi x) (fi y) = bs ∧ g12r1 A (fi x) (fi y) = true) (on : g18ok A (fi x) (fi y) = true ∧ g18r0 A (fi x) (fi y) = true)
    (s : g30ok A = true ∧ g30r0 A = six) (l : A.le ([88].length + six.length) 9223372036854775807 = true) (e : A.sc .eql bs ([88] ++ six) = true) (ad : g14ok A (fi x) (fi y) (fi 0) (fi 1) = true ∧ g14r0 A (fi x) (fi y) (fi 0) (fi 1) = fi x ∧ g14r1 A (fi x) (fi y) (fi 0) (fi 1) = fi y) : g10v A = some (.v (.cell (.bool true))) := by
  unfold g10v g10
  simp only [b, en, on, s, l, e, zeroP h, ad, h.lq, dP h, dR h, decide_eq_true, Bool.and_true]
theorem exE : g10ok realA = true ∧ g10r0 realA = true := by
  refine g10of (exShape realA BX BY _ _ fok (baseP fok) ⟨(EncP (fi_W4 BX) (fi_W4 BY)).1, (EncP (fi_W4 BX) (fi_W4 BY)).2.1, (EncP (fi_W4 BX) (fi_W4 BY)).2.2.trans onB⟩ ⟨(onP fok (fi_W4 BX) (fi_W4 BY)).1, (onP fok (fi_W4 BX) (fi_W4 BY)).2.trans onB⟩ sixE rfl ?_ ?_)
  · rw [ar_sceq, if_pos onB, encBB]
    exact decide_eq_true rfl
  · obtain ⟨h1, h2, h3⟩ := AddP fok (fi_W4 BX) (fi_W4 BY) (fi_W4 0) (fi_W4 1)
    rw [ptB.1, ptB.2, ptO.1, ptO.2] at h2 h3
    refine ⟨h1, h2.trans (fi_congr (addB0.1.trans (show (BX : Int) = (BX : Int) % PI by decide))), h3.trans (fi_congr (addB0.2.trans (show (BY : Int) = (BY : Int) % PI by decide)))⟩
end Go.Sx
namespace Go.Sx
set_option linter.unusedSectionVars false
open Go.Proofs
set_option linter.unusedVariables false
set_option maxRecDepth 100000
theorem SxY05fpi {R : Type} (c : Bool) {f1 f2 : Nat → Option R} {a1 a2 : Option R} (h1 : Prs f1 a1) (h2 : Prs f2 a2) : Prs (fun k => match c with | true => f1 k | false => f2 k) (match c with | true => a1 | false => a2) := by cases c <;> assumption
attribute [local irreducible] g18ok g18r0 g12ok g12r0 g12r1 g14ok g14r0 g14r1 g16ok g16r0 g16r1 g19ok g19r0 g13ok g13r0 g13r1 g15ok g15r0 g15r1 g17ok g17r0 g17r1 g10ok g10r0 g11ok g11r0 g11r1
def g3O (A : Ar) : Orc := orcOf [(10, g10o A), (11, g11o A), (12, g12o A), (13, g13o A), (14, g14o A), (15, g15o A), (16, g16o A), (17, g17o A), (18, g18o A), (19, g19o A)]
theorem g3O_sound : OSound Try.prog (g3O realA) := orc_sound fun f g hm args v hv => by
  simp only [List.mem_cons, List.not_mem_nil, or_false, Prod.mk.injEq] at hm
  rcases hm with ⟨rfl, rfl⟩ | ⟨rfl, rfl⟩ | ⟨rfl, rfl⟩ | ⟨rfl, rfl⟩ | ⟨rfl, rfl⟩ | ⟨rfl, rfl⟩ | ⟨rfl, rfl⟩ | ⟨rfl, rfl⟩ | ⟨rfl, rfl⟩ | ⟨rfl, rfl⟩
  · exact g10o_sound _ _ hv
  · exact g11o_sound _ _ hv
  · exact g12o_sound _ _ hv
  · exact g13o_sound _ _ hv
  · exact g14o_sound _ _ hv
  · exact g15o_sound _ _ hv
  · exact g16o_sound _ _ hv
  · exact g17o_sound _ _ hv
  · exact g18o_sound _ _ hv
  · exact g19o_sound _ _ hv
theorem g3O_det : ODet (g3O realA) := orc_det _
def g3an : Ann := [(0, ([0, 1, 2, 3, 4, 5], [])), (1, ([0, 1, 4, 5, 8, 9], [1000, 1001])), (2, ([0, 1, 4, 5, 8, 9, 13], [1000, 1001])), (3, ([], [])), (4, ([0, 1, 4, 5, 8, 9, 13], [1000, 1001])), (5, ([1, 5, 9, 13, 14], [1001, 5004])), (6, ([13, 14, 15], [5004, 6004])), (7, ([13, 14, 15, 16, 17], [5004, 6004])), (8, ([13, 14, 15, 16, 17, 18, 19], [5004, 6004]))]
def g3res : List ResultVar := [.tmp 12]
def g3cut : List Nat := [4]
noncomputable def g3N {R : Type} (A : Ar) (kk : AV → Heap → Option R) (t : List Bool → St → Option R) (p : List Bool) (s : St) : Option R := nodeN A gtys (g3O A) g3an g3cut t (bodyOf Try.f3) (finD gtys g3res kk) p s
def g3J4s (x0 x1 : List Nat) (x2 x3 x4 : Bool) (x5 x6 : List Nat) (x7 x8 : List Nat) : St := ⟨[(0, (tS x0)), (1, (tS x1)), (4, (bO x2)), (5, (bO x3)), (8, (pT 1000 0)), (9, (pT 1001 0)), (13, (bO x4))], [(1000, ⟨[.nums .u64 4 x5, .nums .u64 4 x6], 26, 1⟩), (1001, ⟨[.nums .u64 4 x7, .nums .u64 4 x8], 26, 1⟩)]⟩
def g3J4 {R : Type} (A : Ar) (n : Nat) (kk : AV → Heap → Option R)  (x0 x1 : List Nat) (x2 x3 x4 : Bool) (x5 x6 : List Nat) (x7 x8 : List Nat) : Option R :=
  match g11ok A x0 x5 x6 x2 with
  | true => match g11ok A x1 x7 x8 x3 with
    | true => match g12ok A (g11r0 A x0 x5 x6 x2) (g11r1 A x0 x5 x6 x2) with
      | true => match g13ok A (g11r0 A x0 x5 x6 x2) (g11r1 A x0 x5 x6 x2) with
        | true => match x4 with
          | true => match g14ok A (g11r0 A x0 x5 x6 x2) (g11r1 A x0 x5 x6 x2) (g11r0 A x1 x7 x8 x3) (g11r1 A x1 x7 x8 x3) with
            | true => match g15ok A (g11r0 A x0 x5 x6 x2) (g11r1 A x0 x5 x6 x2) (g11r0 A x1 x7 x8 x3) (g11r1 A x1 x7 x8 x3) with
              | true => match (A.lq (g14r0 A (g11r0 A x0 x5 x6 x2) (g11r1 A x0 x5 x6 x2) (g11r0 A x1 x7 x8 x3) (g11r1 A x1 x7 x8 x3)) (g15r0 A (g11r0 A x0 x5 x6 x2) (g11r1 A x0 x5 x6 x2) (g11r0 A x1 x7 x8 x3) (g11r1 A x1 x7 x8 x3))) && ((A.lq (g14r1 A (g11r0 A x0 x5 x6 x2) (g11r1 A x0 x5 x6 x2) (g11r0 A x1 x7 x8 x3) (g11r1 A x1 x7 x8 x3)) (g15r1 A (g11r0 A x0 x5 x6 x2) (g11r1 A x0 x5 x6 x2) (g11r0 A x1 x7 x8 x3) (g11r1 A x1 x7 x8 x3))) && true) with
                | true => match g16ok A (g11r0 A x0 x5 x6 x2) (g11r1 A x0 x5 x6 x2) with
                  | true => match g17ok A (g11r0 A x0 x5 x6 x2) (g11r1 A x0 x5 x6 x2) with
                    | true => match (A.lq (g16r0 A (g11r0 A x0 x5 x6 x2) (g11r1 A x0 x5 x6 x2)) (g17r0 A (g11r0 A x0 x5 x6 x2) (g11r1 A x0 x5 x6 x2))) && ((A.lq (g16r1 A (g11r0 A x0 x5 x6 x2) (g11r1 A x0 x5 x6 x2)) (g17r1 A (g11r0 A x0 x5 x6 x2) (g11r1 A x0 x5 x6 x2))) && true) with
                      | true => match A.sc .eql (g12r0 A (g11r0 A x0 x5 x6 x2) (g11r1 A x0 x5 x6 x2)) (g13r0 A (g11r0 A x0 x5 x6 x2) (g11r1 A x0 x5 x6 x2)) with
                        | true => match (g12r1 A (g11r0 A x0 x5 x6 x2) (g11r1 A x0 x5 x6 x2)) == (g13r1 A (g11r0 A x0 x5 x6 x2) (g11r1 A x0 x5 x6 x2)) with
                          | true => match g18ok A (g11r0 A x0 x5 x6 x2) (g11r1 A x0 x5 x6 x2) with
                            | true => match g19ok A (g11r0 A x0 x5 x6 x2) (g11r1 A x0 x5 x6 x2) with
                              | true => kk (bO ((g18r0 A (g11r0 A x0 x5 x6 x2) (g11r1 A x0 x5 x6 x2)) == (g19r0 A (g11r0 A x0 x5 x6 x2) (g11r1 A x0 x5 x6 x2)))) [(5004, ⟨[.nums .u64 4 (g11r0 A x0 x5 x6 x2), .nums .u64 4 (g11r1 A x0 x5 x6 x2)], 26, 1⟩), (6004, ⟨[.nums .u64 4 (g11r0 A x1 x7 x8 x3), .nums .u64 4 (g11r1 A x1 x7 x8 x3)], 26, 1⟩)]
                              | false => none
                            | false => none
                          | false => kk (bO false) [(5004, ⟨[.nums .u64 4 (g11r0 A x0 x5 x6 x2), .nums .u64 4 (g11r1 A x0 x5 x6 x2)], 26, 1⟩), (6004, ⟨[.nums .u64 4 (g11r0 A x1 x7 x8 x3), .nums .u64 4 (g11r1 A x1 x7 x8 x3)], 26, 1⟩)]
                        | false => kk (bO false) [(5004, ⟨[.nums .u64 4 (g11r0 A x0 x5 x6 x2), .nums .u64 4 (g11r1 A x0 x5 x6 x2)], 26, 1⟩), (6004, ⟨[.nums .u64 4 (g11r0 A x1 x7 x8 x3), .nums .u64 4 (g11r1 A x1 x7 x8 x3)], 26, 1⟩)]
                      | false => kk (bO false) [(5004, ⟨[.nums .u64 4 (g11r0 A x0 x5 x6 x2), .nums .u64 4 (g11r1 A x0 x5 x6 x2)], 26, 1⟩), (6004, ⟨[.nums .u64 4 (g11r0 A x1 x7 x8 x3), .nums .u64 4 (g11r1 A x1 x7 x8 x3)], 26, 1⟩)]
                    | false => none
                  | false => none
                | false => kk (bO false) [(5004, ⟨[.nums .u64 4 (g11r0 A x0 x5 x6 x2), .nums .u64 4 (g11r1 A x0 x5 x6 x2)], 26, 1⟩), (6004, ⟨[.nums .u64 4 (g11r0 A x1 x7 x8 x3), .nums .u64 4 (g11r1 A x1 x7 x8 x3)], 26, 1⟩)]
              | false => none
            | false => none
          | false => kk (bO false) [(5004, ⟨[.nums .u64 4 (g11r0 A x0 x5 x6 x2), .nums .u64 4 (g11r1 A x0 x5 x6 x2)], 26, 1⟩), (6004, ⟨[.nums .u64 4 (g11r0 A x1 x7 x8 x3), .nums .u64 4 (g11r1 A x1 x7 x8 x3)], 26, 1⟩)]
        | false => none
      | false => none
    | false => none
  | false => none
def g3 {R : Type} (A : Ar) (n : Nat) (kk : AV → Heap → Option R) (a b : List Nat) (c0 c1 : List Nat) (d0 d1 : List Nat) (e f : Bool) : Option R :=
  match g10ok A with
  | true => match !(g10r0 A) with
    | true => kk (bO false) []
    | false => g3J4 A n kk  a b e f (g10r0 A) c0 c1 d0 d1
  | false => none
section
variable {R : Type} {A : Ar} {n : Nat} {kk : AV → Heap → Option R} {tb : Nat → List Bool → St → Option R} (st : Stp (g3N A kk) tb)
include st
theorem g3J4_go {x0 : List Nat} {x1 : List Nat} {x2 : Bool} {x3 : Bool} {x4 : Bool} {x5 : List Nat} {x6 : List Nat} {x7 : List Nat} {x8 : List Nat} : Prs (fun k => tb k (pth 15) (g3J4s x0 x1 x2 x3 x4 x5 x6 x7 x8)) (g3J4 A n kk x0 x1 x2 x3 x4 x5 x6 x7 x8) := by
  unfold g3J4
  exact st.g (pc (SxY05fpi _ (SxY05fpi _ (SxY05fpi _ (SxY05fpi _ (SxY05fpi _ (SxY05fpi _ (SxY05fpi _ (SxY05fpi _ (SxY05fpi _ (SxY05fpi _ (SxY05fpi _ (SxY05fpi _ (SxY05fpi _ (SxY05fpi _ (SxY05fpi _ (pf _) pn) pn) (pf _)) (pf _)) (pf _)) pn) pn) (pf _)) pn) pn) (pf _)) pn) pn) pn) pn) (by kernel_rfl))
theorem g3_go {a : List Nat} {b : List Nat} {c0 : List Nat} {c1 : List Nat} {d0 : List Nat} {d1 : List Nat} {e : Bool} {f : Bool} : Prs (fun k => funN A gtys (g3O A) g3an g3cut (bodyOf Try.f3) g3res [(tS a), (tS b), (.v (.agg [.nums .u64 4 c0, .nums .u64 4 c1])), (.v (.agg [.nums .u64 4 d0, .nums .u64 4 d1])), (bO e), (bO f)] [] kk (tb k)) (g3 A n kk a b c0 c1 d0 d1 e f) := by
  unfold g3
  exact pc (SxY05fpi _ (SxY05fpi _ (pf _) (g3J4_go st)) pn) (by kernel_rfl)
end
def g3is (o : Option AV) : Bool := match o with
  | some (.v (.cell (.bool _))) => true
  | _ => false
def g3g0 (o : Option AV) : Bool := match o with
  | some (.v (.cell (.bool x))) => x
  | _ => false
theorem g3is_spec {o : Option AV} (h : g3is o = true) : o = some (.v (.cell (.bool (g3g0 o)))) := by
  unfold g3is at h
  split at h
  · rfl
  · cases h
def g3v (A : Ar) (a b : List Nat) (c0 c1 : List Nat) (d0 d1 : List Nat) (e f : Bool) : Option AV := g3 A (100000) (fun v _ => some v) a b c0 c1 d0 d1 e f
def g3ok (A : Ar) (a b : List Nat) (c0 c1 : List Nat) (d0 d1 : List Nat) (e f : Bool) : Bool := g3is (g3v A a b c0 c1 d0 d1 e f)
def g3r0 (A : Ar) (a b : List Nat) (c0 c1 : List Nat) (d0 d1 : List Nat) (e f : Bool) : Bool := g3g0 (g3v A a b c0 c1 d0 d1 e f)
theorem g3ok_spec {A : Ar} {a b c0 c1 d0 d1 e f} (h : g3ok A a b c0 c1 d0 d1 e f = true) : g3v A a b c0 c1 d0 d1 e f = some (.v (.cell (.bool (g3r0 A a b c0 c1 d0 d1 e f)))) := g3is_spec h
def g3o (A : Ar) (args : List AV) : Option (Bool × AV) := match args with
  | [.v (.cell (.str a)), .v (.cell (.str b)), .v (.agg [.nums .u64 n0 c0, .nums .u64 n1 c1]), .v (.agg [.nums .u64 n2 d0, .nums .u64 n3 d1]), .v (.cell (.bool e)), .v (.cell (.bool f))] => some (Nat.beq n0 4 && (Nat.beq n1 4 && (Nat.beq n2 4 && (Nat.beq n3 4 && (g3ok A a b c0 c1 d0 d1 e f)))), .v (.cell (.bool (g3r0 A a b c0 c1 d0 d1 e f))))
  | _ => none
theorem g3o_sound : ∀ args v, g3o realA args = some (true, v) → Fn1 Try.prog 3 args v := by
  intro args v h
  unfold g3o at h
  split at h
  · rename_i a b n0 c0 n1 c1 n2 d0 n3 d1 e f
    simp only [Option.some.injEq, Prod.mk.injEq] at h
    obtain ⟨hc, h⟩ := h
    subst h
    · skip
      simp only [Bool.and_eq_true] at hc
      have en0 := beq_true hc.1
      subst en0
      replace hc := hc.2
      have en1 := beq_true hc.1
      subst en1
      replace hc := hc.2
      have en2 := beq_true hc.1
      subst en2
      replace hc := hc.2
      have en3 := beq_true hc.1
      subst en3
      replace hc := hc.2
      exact fn1_ofG mixed gtysOK g3O_sound g3O_det (an := g3an) (cut := g3cut) Try.func3 (c := bodyOf Try.f3) rfl (by kernel_rfl) Try.call3 (Nat.le_of_ble_eq_true rfl) (fun b => rfl) (fun _ => (show g3v realA a b c0 c1 d0 d1 e f = _ from g3ok_spec hc)) fun _ st => g3_go st
  · cases h
attribute [local irreducible] g3ok g3r0
end Go.Sx
namespace Go.Sx
set_option linter.unusedSectionVars false
theorem lqS (h : FOK realA) (x : Int) : realA.lq (fi x) (fi x) = true := by rw [h.lq]; exact decide_eq_true rfl
theorem g3Shape (A : Ar) (n : Nat) (s t a b c d x y u v X Y p q e : List Nat) (e1 e2 o : Bool) (ex : g10ok A = true ∧ g10r0 A = true) (s1 : g11ok A s a b e1 = true) (s2 : g11r0 A s a b e1 = x) (s3 : g11r1 A s a b e1 = y) (t1 : g11ok A t c d e2 = true) (t2 : g11r0 A t c d e2 = u) (t3 : g11r1 A t c d e2 = v)
    (en : g12ok A x y = true ∧ g12r0 A x y = e ∧ g12r1 A x y = o) (er : g13ok A x y = true ∧ g13r0 A x y = e ∧ g13r1 A x y = o) (ap : g14ok A x y u v = true ∧ g14r0 A x y u v = X ∧ g14r1 A x y u v = Y) (ar : g15ok A x y u v = true ∧ g15r0 A x y u v = X ∧ g15r1 A x y u v = Y)
    (np : g16ok A x y = true ∧ g16r0 A x y = p ∧ g16r1 A x y = q) (nr : g17ok A x y = true ∧ g17r0 A x y = p ∧ g17r1 A x y = q) (op : g18ok A x y = true ∧ g18r0 A x y = o) (or_ : g19ok A x y = true ∧ g19r0 A x y = o)
    (l1 : A.lq X X = true) (l2 : A.lq Y Y = true) (l3 : A.lq p p = true) (l4 : A.lq q q = true) (sc : A.sc .eql e e = true) : g3 A n (fun v _ => some v) s t a b c d e1 e2 = some (.v (.cell (.bool true))) := by
  unfold g3
  simp only [ex, Bool.not_true]
  unfold g3J4
  simp only [s1, s2, s3, t1, t2, t3, en, er, ap, ar, np, nr, op, or_, l1, l2, l3, l4, sc, Bool.and_true, beq_self_eq_true]
theorem law3 (s : List Nat) (hs : ∀ x ∈ s, x < 256) (ls : s.length < 2 ^ 47) (t : List Nat) (ht : ∀ x ∈ t, x < 256) (lt : t.length < 2 ^ 47) (a b : List Nat) (la : a.length = 4) (lb : b.length = 4) (ha : ∀ x ∈ a, x < 2 ^ IntKind.bits .u64) (hb : ∀ x ∈ b, x < 2 ^ IntKind.bits .u64) (c d : List Nat) (lc : c.length = 4) (ld : d.length = 4) (hc : ∀ x ∈ c, x < 2 ^ IntKind.bits .u64) (hd : ∀ x ∈ d, x < 2 ^ IntKind.bits .u64) (e f : Bool) :
    g3o realA [.v (.cell (.str s)), .v (.cell (.str t)), .v (.agg [.nums .u64 4 a, .nums .u64 4 b]), .v (.agg [.nums .u64 4 c, .nums .u64 4 d]), .v (.cell (.bool e)), .v (.cell (.bool f))] = some (true, .v (.cell (.bool true))) := by
  obtain ⟨x, y, s1, s2, s3, wx, wy⟩ := someE (W4_of la ha) (W4_of lb hb) (Nat.lt_trans ls (by decide)) e
  obtain ⟨u, v, t1, t2, t3, wu, wv⟩ := someE (W4_of lc hc) (W4_of ld hd) (Nat.lt_trans lt (by decide)) f
  have key : g3v realA s t a b c d e f = some (.v (.cell (.bool true))) :=
    g3Shape realA 100000 s t a b c d x y u v _ _ _ _ _ e f _ exE s1 s2 s3 t1 t2 t3 (EncP wx wy) (EncR wx wy) (AddP fok wx wy wu wv) (AddR fok wx wy wu wv) (NegP fok wx wy) (NegR fok wx wy) (onP fok wx wy) (onR fok wx wy) (lqS fok _) (lqS fok _) (lqS fok _) (lqS fok _) (by rw [ar_sceq]; exact decide_eq_true rfl)
  have k : g3ok realA s t a b c d e f = true := by unfold g3ok; rw [key]; rfl
  have r : g3r0 realA s t a b c d e f = true := by unfold g3r0; rw [key]; rfl
  show some (Nat.beq 4 4 && (Nat.beq 4 4 && (Nat.beq 4 4 && (Nat.beq 4 4 && g3ok realA s t a b c d e f))), AV.v (.cell (.bool (g3r0 realA s t a b c d e f)))) = _
  rw [k, r]
  rfl
end Go.Sx
