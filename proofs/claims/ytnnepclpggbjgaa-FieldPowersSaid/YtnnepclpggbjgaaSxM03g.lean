import Derived.Test.YtnnepclpggbjgaaSxDv
import Derived.Test.YtnnepclpggbjgaaSxN03j
import Derived.Test.YtnnepclpggbjgaaSxS03L7
namespace Go.Sx
theorem small2 {x : Nat} (hx : x < 18446744073709551616) : g35ok realA x = true ∧ g35r0 realA x = fe x := by
  have e : g35v realA x = some (.v (.agg [.nums .u64 4 [x, 0, 0, 0]])) := rfl
  refine ⟨by unfold g35ok; rw [e]; rfl, ?_⟩
  unfold g35r0
  rw [e]
  show [x, 0, 0, 0] = _
  unfold fe
  rw [Nat.mod_eq_of_lt hx, Nat.div_eq_of_lt hx, Nat.div_eq_of_lt (Nat.lt_trans hx (by decide)), Nat.div_eq_of_lt (Nat.lt_trans hx (by decide))]
theorem bitW (X w r : Nat) (h : X % 18446744073709551616 = w) (hr : r < 64) : w / 2 ^ r % 2 = X / 2 ^ r % 2 := by
  subst h
  have h2 : 18446744073709551616 = 2 ^ r * 2 ^ (64 - r) := by rw [← Nat.pow_add, show r + (64 - r) = 64 by omega]
  rw [h2, Nat.mod_mul_right_div_self]
  have h3 : 2 ^ (64 - r) = 2 * 2 ^ (63 - r) := by rw [← Nat.pow_succ', show (63 - r).succ = 64 - r by omega]
  rw [h3, Nat.mod_mul_right_mod]
theorem num_lt4 {e : List Nat} (he : W4 e) : num e < 2 ^ 256 := by
  obtain ⟨a0, a1, a2, a3, rfl, h0, h1, h2, h3⟩ := he
  show v64 a0 a1 a2 a3 < _
  unfold v64
  omega
theorem bitOf {e : List Nat} (he : W4 e) {i : Nat} (hi : i < 256) : e.getD (i / 64) 0 / 2 ^ (i % 64) % 2 = num e / 2 ^ i % 2 := by
  obtain ⟨a0, a1, a2, a3, rfl, h0, h1, h2, h3⟩ := he
  have hv : num [a0, a1, a2, a3] = v64 a0 a1 a2 a3 := rfl
  have hr : i % 64 < 64 := Nat.mod_lt _ (by decide)
  have hs : 2 ^ i = 2 ^ (64 * (i / 64)) * 2 ^ (i % 64) := by rw [← Nat.pow_add, Nat.div_add_mod]
  rw [hv, hs, ← Nat.div_div_eq_div_mul]
  refine bitW _ _ _ ?_ hr
  have hq : i / 64 = 0 ∨ i / 64 = 1 ∨ i / 64 = 2 ∨ i / 64 = 3 := by omega
  unfold v64
  rcases hq with h | h | h | h <;> rw [h] <;> simp <;> omega
theorem ib64 {i : Nat} (hi : i < 256) : realA.ib .quo .i64 (i : Int) 64 = ((i / 64 : Nat) : Int) ∧ realA.ib .rem .i64 (i : Int) 64 = ((i % 64 : Nat) : Int) := by
  constructor
  · show IntKind.wrap .i64 (Int.tdiv (i : Int) 64) = _
    rw [show Int.tdiv (i : Int) 64 = ((i / 64 : Nat) : Int) from rfl]
    exact wrap64 (by omega)
  · show (i : Int).tmod 64 = _
    rw [Int.tmod_eq_emod_of_nonneg (by omega)]
    omega
theorem bitTest {e : List Nat} (he : W4 e) {i : Nat} (hi : i < 256) : realA.nc .eql (realA.nb .and .u64 (realA.nsh .shr .u64 (e.getD (i / 64) 0) (i % 64)) 1) 1 = decide (num e / 2 ^ i % 2 = 1) := by
  rw [← bitOf he hi]
  show decide ((e.getD (i / 64) 0 / 2 ^ (i % 64)) &&& 1 = 1) = _
  rw [Nat.and_one_is_mod]
theorem refPowLoop (n : Nat) (d : List Nat) {a e : List Nat} (ha : W4 a) (he : W4 e) : ∀ (k m : Nat), k ≤ 256 → g26L3 realA n (fun v _ => some v) (m + k + 1) ((k : Int) - 1) a e d (fm (num a ^ (num e / 2 ^ k))) = some (.v (.agg [.nums .u64 4 (fm (num a ^ num e))])) := by
  intro k
  induction k with
  | zero =>
    intro m _
    rw [g26L3, geqF (by omega), Nat.pow_zero, Nat.div_one]
  | succ i ih =>
    intro m hi
    have e1 : ((i + 1 : Nat) : Int) - 1 = (i : Int) := by omega
    obtain ⟨q1, q2⟩ := ib64 (show i < 256 by omega)
    obtain ⟨s1, s2⟩ := refMul (fm_W4 (num a ^ (num e / 2 ^ (i + 1)))) (fm_W4 (num a ^ (num e / 2 ^ (i + 1))))
    have hd : num e / 2 ^ i = num e / 2 ^ (i + 1) + num e / 2 ^ (i + 1) + num e / 2 ^ i % 2 := by
      rw [Nat.pow_succ, ← Nat.div_div_eq_div_mul]
      omega
    rw [num_fm] at s2
    have s3 : g17r0 realA (fm (num a ^ (num e / 2 ^ (i + 1)))) (fm (num a ^ (num e / 2 ^ (i + 1)))) = fm (num a ^ (num e / 2 ^ (i + 1) + num e / 2 ^ (i + 1))) := by
      rw [s2, Nat.pow_add (num a)]
      exact fm_congr (by rw [← Nat.mul_mod])
    obtain ⟨t1, t2⟩ := refMul (fm_W4 (num a ^ (num e / 2 ^ (i + 1) + num e / 2 ^ (i + 1)))) ha
    rw [num_fm] at t2
    have t3 : g17r0 realA (fm (num a ^ (num e / 2 ^ (i + 1) + num e / 2 ^ (i + 1)))) a = fm (num a ^ (num e / 2 ^ (i + 1) + num e / 2 ^ (i + 1) + 1)) := by
      rw [t2, Nat.pow_succ (n := num a)]
      exact fm_congr (by rw [Nat.mod_mul_mod])
    rw [e1, show m + (i + 1) + 1 = (m + i + 1) + 1 from by omega, g26L3, geqT (by omega)]
    simp only [g26J5, s1, s3, q1, q2, negN, toNN, ltT (show i / 64 < 4 by omega), bitTest he (show i < 256 by omega), t1, t3]
    rw [subI (by omega)]
    have hb : num e / 2 ^ i % 2 = 0 ∨ num e / 2 ^ i % 2 = 1 := by omega
    have := ih m (by omega)
    rw [hd] at this
    rcases hb with hb | hb
    · rw [hb, Nat.add_zero] at this
      rw [decide_eq_false (by rw [hb]; decide)]
      exact this
    · rw [hb] at this
      rw [decide_eq_true hb]
      exact this
theorem g26Start (A : Ar) (n : Nat) (a e s : List Nat) (k1 : g35ok A 1 = true) (k2 : g35r0 A 1 = s) : g26 A n (fun v _ => some v) a e = g26L3 A n (fun v _ => some v) n 255 a e [0, 0, 0, 0] s := by
  unfold g26
  rw [k1, k2]
theorem refPow {a e : List Nat} (ha : W4 a) (he : W4 e) : g26ok realA a e = true ∧ g26r0 realA a e = fm (num a ^ num e) := by
  obtain ⟨k1, k2⟩ := small2 (x := 1) (by decide)
  have hz : num e / 2 ^ 256 = 0 := Nat.div_eq_of_lt (num_lt4 he)
  have hl := refPowLoop 100000 [0, 0, 0, 0] ha he 256 99743 (Nat.le_refl _)
  rw [hz, Nat.pow_zero] at hl
  have e0 : g26v realA a e = some (.v (.agg [.nums .u64 4 (fm (num a ^ num e))])) := (g26Start realA 100000 a e (fm 1) k1 (k2.trans fe1)).trans hl
  exact ⟨by unfold g26ok; rw [e0]; rfl, by unfold g26r0; rw [e0]; rfl⟩
end Go.Sx
namespace Go.Sx
theorem mulR2 {a b : List Nat} {u v : Nat} (ha : Rep a u) (hb : Rep b v) : g17ok realA a b = true ∧ g17r0 realA a b = fe (u * v % PP) := by
  obtain ⟨h1, h2⟩ := refMul ha.1 hb.1
  refine ⟨h1, ?_⟩
  rw [h2, ← ha.2.1, ← hb.2.1, ← Nat.mul_mod]
  rfl
theorem powR2 {a e : List Nat} {u k : Nat} (ha : Rep a u) (he : W4 e) (hk : num e = k) : g26ok realA a e = true ∧ g26r0 realA a e = fe (u ^ k % PP) := by
  obtain ⟨h1, h2⟩ := refPow ha.1 he
  refine ⟨h1, ?_⟩
  rw [h2, hk]
  unfold fm
  rw [powM (x' := u) (by rw [ha.2.1, Nat.mod_eq_of_lt ha.2.2])]
theorem g28Shape (A : Ar) (n : Nat) (a e r : List Nat) (he : (((([0, 0, 0, 0] : List Nat).set 0 18446744073709551595).set 1 18446744073709551615).set 2 18446744073709551615).set 3 9223372036854775807 = e) (h1 : g26ok A a e = true) (h2 : g26r0 A a e = r) : g28 A n (fun v _ => some v) a = some (.v (.agg [.nums .u64 4 r])) := by
  unfold g28
  rw [he, h1, h2]
theorem WPT2 : W4 [18446744073709551595, 18446744073709551615, 18446744073709551615, 9223372036854775807] := ⟨_, _, _, _, rfl, by decide, by decide, by decide, by decide⟩
theorem WK2 : W4 [18446744073709551614, 18446744073709551615, 18446744073709551615, 1152921504606846975] := ⟨_, _, _, _, rfl, by decide, by decide, by decide, by decide⟩
theorem WQ2 : W4 [18446744073709551611, 18446744073709551615, 18446744073709551615, 2305843009213693951] := ⟨_, _, _, _, rfl, by decide, by decide, by decide, by decide⟩
theorem invR2 {a : List Nat} {u : Nat} (h : Rep a u) : g28ok realA a = true ∧ g28r0 realA a = fe (u ^ PT % PP) := by
  obtain ⟨h1, h2⟩ := powR2 h WPT2 (k := PT) (by decide)
  have e : g28v realA a = _ := g28Shape realA 100000 a _ _ rfl h1 h2
  exact ⟨by unfold g28ok; rw [e]; rfl, by unfold g28r0; rw [e]; rfl⟩
theorem g32Shape (A : Ar) (n : Nat) (t : Bool) (a d : List Nat) (h1 : g39ok A a = true) (h2 : g39r0 A a = d) (h3 : A.nc .eql (A.nb .rem .u32 (d.getD 0 0) 2) 1 = t) : g32 A n (fun v _ => some v) a = some (.v (.cell (.bool t))) := by
  unfold g32
  rw [h1, h2, h3]
theorem oddDv (l : List Nat) (h : 0 < l.length) : l.getD 0 0 % 2 = dv l % 2 := by
  cases l with
  | nil => simp at h
  | cons x r => simp only [List.getD_cons_zero, dv]; omega
theorem oddR2 {a : List Nat} {u : Nat} (h : Rep a u) : g32ok realA a = true ∧ g32r0 realA a = decide (u % 2 = 1) := by
  obtain ⟨d1, d2, d3⟩ := digitsOk h.1
  have hb : realA.nc .eql (realA.nb .rem .u32 ((g39r0 realA a).getD 0 0) 2) 1 = decide (u % 2 = 1) := by
    show decide ((g39r0 realA a).getD 0 0 % 2 = 1) = _
    rw [oddDv _ (by rw [d2.1]; decide), d3, h.2.1]
  have e : g32v realA a = _ := g32Shape realA 100000 _ a _ d1 rfl hb
  exact ⟨by unfold g32ok; rw [e]; rfl, by unfold g32r0; rw [e]; rfl⟩
theorem negR2 {x : Nat} (hx : x < PP) : g19ok realA (fe x) = true ∧ g19r0 realA (fe x) = fe ((PP - x) % PP) := by
  obtain ⟨z, h1, h2, h3⟩ := refNeg (fe_W4 x)
  rw [num_fe (Nat.lt_trans hx (by decide))] at h3
  refine ⟨h1, ?_⟩
  rw [h2]
  unfold fm
  have : z % PP = (PP - x) % PP := by
    have hz := Nat.mod_lt z PP_pos
    have e : (z % PP + x) % PP = 0 := by rw [Nat.mod_add_mod]; exact h3
    generalize z % PP = y at *
    unfold PP at *
    omega
  rw [this]
/-- the document's root, as numbers below p -/
@[irreducible] def refX (u v : Nat) : Nat := (u * (v ^ PT % PP) % PP) ^ (KK + 1) % PP
theorem refX_def (u v : Nat) : refX u v = (u * (v ^ PT % PP) % PP) ^ (KK + 1) % PP := by unfold refX; rfl
def refHit (u v x : Nat) : Bool := decide (v * (x * x % PP) % PP = u)
def refN (u v x y : Nat) : Nat × Bool := match refHit u v x with
  | true => (finN x, true)
  | false => match refHit u v y with
    | true => (finN y, true)
    | false => (0, false)
theorem fn1 {u v x : Nat} (y : Nat) (h : refHit u v x = true) : refN u v x y = (finN x, true) := by unfold refN; rw [h]
theorem fn2 {u v x y : Nat} (h : refHit u v x = false) (h2 : refHit u v y = true) : refN u v x y = (finN y, true) := by unfold refN; rw [h, h2]
theorem fn3 {u v x y : Nat} (h : refHit u v x = false) (h2 : refHit u v y = false) : refN u v x y = (0, false) := by unfold refN; rw [h, h2]
@[irreducible] def refY (x : Nat) : Nat := x * pw 2 QQ % PP
theorem refY_def (x : Nat) : refY x = x * pw 2 QQ % PP := by unfold refY; rfl
theorem hitShape (A : Ar) (n : Nat) (lg : Int → List Nat → List Nat → List Nat → List Nat → List Nat → Option AV) (k : Int) (t : Bool) (b d x i w s m g fin : List Nat) (s1 : g17ok A x x = true) (s2 : g17r0 A x x = s) (m1 : g17ok A b s = true) (m2 : g17r0 A b s = m) (l : A.lq m w = true)
    (o1 : g32ok A x = true) (o2 : g32r0 A x = t) (n1 : g19ok A x = true) (n2 : g19r0 A x = g) (ft : t = true → g = fin) (ff : t = false → x = fin) : g25J8 A n (fun v _ => some v) lg k b d x i w = some (.tup [.agg [.nums .u64 4 fin], .cell (.bool true)]) := by
  unfold g25J8
  rw [s1, s2, m1, m2, l, o1, o2, n1, n2]
  cases t with
  | true => rw [← ft rfl]; rfl
  | false => rw [← ff rfl]; rfl
theorem missShape (A : Ar) (n : Nat) (lg : Int → List Nat → List Nat → List Nat → List Nat → List Nat → Option AV) (k : Int) (b d x i w s m y : List Nat) (s1 : g17ok A x x = true) (s2 : g17r0 A x x = s) (m1 : g17ok A b s = true) (m2 : g17r0 A b s = m) (l : A.lq m w = false)
    (y1 : g17ok A x i = true) (y2 : g17r0 A x i = y) : g25J8 A n (fun v _ => some v) lg k b d x i w = lg (A.ib .add .i64 k 1) b d y i w := by
  unfold g25J8
  rw [s1, s2, m1, m2, l, y1, y2]
  rfl
theorem lqFe2 {x y : Nat} (hx : x < PP) (hy : y < PP) : realA.lq (fe x) (fe y) = decide (x = y) := by
  rw [lqE]
  exact decide_eq_decide.2 (fe_eq hx hy)
theorem finN_odd {x : Nat} (h : x % 2 = 1) : finN x = PP - x := by
  unfold finN
  rw [h, Nat.beq_refl]
theorem finN_even {x : Nat} (h : ¬ x % 2 = 1) : finN x = x := by
  have : Nat.beq (x % 2) 1 = false := by
    cases hb : Nat.beq (x % 2) 1 with
    | true => exact absurd (beq_true hb) h
    | false => rfl
  unfold finN
  rw [this]
theorem odd_lt {x : Nat} (h : x % 2 = 1) : PP - x < PP := by unfold PP; omega
theorem hit (n : Nat) (lg : Int → List Nat → List Nat → List Nat → List Nat → List Nat → Option AV) (k : Int) {b : List Nat} (d i : List Nat) {u v x : Nat} (hb : Rep b v) (hx : x < PP) (hu : u < PP) (h : refHit u v x = true) :
    g25J8 realA n (fun v _ => some v) lg k b d (fe x) i (fe u) = some (.tup [.agg [.nums .u64 4 (fe (finN x))], .cell (.bool true)]) := by
  have m := fun x => Nat.mod_lt x PP_pos
  obtain ⟨s1, s2⟩ := mulR2 (rf hx) (rf hx)
  obtain ⟨m1, m2⟩ := mulR2 hb (rf (m (x * x)))
  obtain ⟨o1, o2⟩ := oddR2 (rf hx)
  obtain ⟨n1, n2⟩ := negR2 hx
  refine hitShape realA n lg k _ b d (fe x) i (fe u) _ _ _ _ s1 s2 m1 m2 (by rw [lqFe2 (m _) hu]; exact h) o1 o2 n1 n2 ?_ ?_
  · intro ho
    rw [finN_odd (of_decide_eq_true ho), Nat.mod_eq_of_lt (odd_lt (of_decide_eq_true ho))]
  · intro ho
    rw [finN_even (of_decide_eq_false ho)]
theorem miss (n : Nat) (lg : Int → List Nat → List Nat → List Nat → List Nat → List Nat → Option AV) (k : Int) {b : List Nat} (d : List Nat) {u v x i : Nat} (hb : Rep b v) (hx : x < PP) (hi : i < PP) (hu : u < PP) (h : refHit u v x = false) :
    g25J8 realA n (fun v _ => some v) lg k b d (fe x) (fe i) (fe u) = lg (realA.ib .add .i64 k 1) b d (fe (x * i % PP)) (fe i) (fe u) := by
  have m := fun x => Nat.mod_lt x PP_pos
  obtain ⟨s1, s2⟩ := mulR2 (rf hx) (rf hx)
  obtain ⟨m1, m2⟩ := mulR2 hb (rf (m (x * x)))
  obtain ⟨y1, y2⟩ := mulR2 (rf hx) (rf hi)
  exact missShape realA n lg k b d (fe x) (fe i) (fe u) _ _ _ s1 s2 m1 m2 (by rw [lqFe2 (m _) hu]; exact h) y1 y2
theorem g25Start (A : Ar) (n : Nat) (a b iv w e x two f i dg wt : List Nat) (h1 : g28ok A b = true) (h2 : g28r0 A b = iv) (h3 : g17ok A a iv = true) (h4 : g17r0 A a iv = w) (he : (((([0, 0, 0, 0] : List Nat).set 0 18446744073709551614).set 1 18446744073709551615).set 2 18446744073709551615).set 3 1152921504606846975 = e) (h5 : g26ok A w e = true) (h6 : g26r0 A w e = x)
    (t1 : g35ok A 2 = true) (t2 : g35r0 A 2 = two) (hf : (((([0, 0, 0, 0] : List Nat).set 0 18446744073709551611).set 1 18446744073709551615).set 2 18446744073709551615).set 3 2305843009213693951 = f) (i1 : g26ok A two f = true) (i2 : g26r0 A two f = i) (d1 : g39ok A a = true) (d2 : g39r0 A a = dg) (w1 : g40ok A dg = true) (w2 : g40r0 A dg = wt) :
    g25 A n (fun v _ => some v) a b = g25L6 A n (fun v _ => some v) n 0 b [0, 0, 0, 0] x i wt := by
  unfold g25
  rw [he, hf, h1, h2, h3, h4, h5, h6, t1, t2, i1, i2, d1, d2, w1, w2]
theorem l6T (A : Ar) (n m : Nat) (k : Int) (b d x i w : List Nat) (h : A.ic .lss k 2 = true) : g25L6 A n (fun v _ => some v) (m + 1) k b d x i w = g25J8 A n (fun v _ => some v) (g25L6 A n (fun v _ => some v) m) k b d x i w := by rw [g25L6, h]
theorem l6F (A : Ar) (n m : Nat) (k : Int) (b d x i w : List Nat) (h : A.ic .lss k 2 = false) : g25L6 A n (fun v _ => some v) (m + 1) k b d x i w = some (.tup [.agg [.nums .u64 4 [0, 0, 0, 0]], .cell (.bool false)]) := by rw [g25L6, h]
theorem refTail (n : Nat) {b : List Nat} {u v x : Nat} (rb : Rep b v) (hX : x < PP) (hI : pw 2 QQ < PP) (hu : u < PP) : g25L6 realA (n + 3) (fun v _ => some v) (n + 3) 0 b [0, 0, 0, 0] (fe x) (fe (pw 2 QQ)) (fe u) = some (.tup [.agg [.nums .u64 4 (fe (refN u v x (refY x)).1)], .cell (.bool (refN u v x (refY x)).2)]) := by
  have hY : refY x < PP := by rw [refY_def]; exact Nat.mod_lt _ PP_pos
  have q0 : realA.ic .lss 0 2 = true := rfl
  have q1 : realA.ib .add .i64 0 1 = 1 := rfl
  have q2 : realA.ic .lss 1 2 = true := rfl
  have q3 : realA.ib .add .i64 1 1 = 2 := rfl
  have q4 : realA.ic .lss 2 2 = false := rfl
  have hy := refY_def x
  generalize refY x = y at *
  generalize pw 2 QQ = i at *
  rw [l6T realA (n + 3) (n + 2) 0 b _ _ _ _ q0]
  cases hh : refHit u v x with
  | true =>
    rw [fn1 y hh]
    exact hit _ _ _ _ _ rb hX hu hh
  | false =>
    rw [miss _ _ _ _ rb hX hI hu hh, q1, l6T realA (n + 3) (n + 1) 1 b _ _ _ _ q2, ← hy]
    cases h2 : refHit u v y with
    | true =>
      rw [fn2 hh h2]
      exact hit _ _ _ _ _ rb hY hu h2
    | false =>
      rw [fn3 hh h2, miss _ _ _ _ rb hY hI hu h2, q3, l6F realA (n + 3) n 2 b _ _ _ _ q4]
      rw [show fe 0 = [0, 0, 0, 0] by decide]
theorem refRootE {a b : List Nat} {u v : Nat} (ra : Rep a u) (rb : Rep b v) : g25v realA a b = some (.tup [.agg [.nums .u64 4 (fe (refN u v (refX u v) (refY (refX u v))).1)], .cell (.bool (refN u v (refX u v) (refY (refX u v))).2)]) := by
  have m := fun x => Nat.mod_lt x PP_pos
  obtain ⟨h1, h2⟩ := invR2 rb
  obtain ⟨h3, h4⟩ := mulR2 ra (rf (m (v ^ PT)))
  obtain ⟨h5, h6⟩ := powR2 (rf (m (u * (v ^ PT % PP)))) WK2 (k := KK + 1) (by decide)
  obtain ⟨t1, t2⟩ := small2 (x := 2) (by decide)
  obtain ⟨i1, i2⟩ := powR2 (rf (show 2 < PP by decide)) WQ2 (k := QQ) (by decide)
  obtain ⟨d1, d2, d3⟩ := digitsOk ra.1
  obtain ⟨w1, w2⟩ := wordsOk d2
  rw [d3, ra.2.1] at w2
  rw [← pw_spec 2 QQ (by decide)] at i2
  rw [← refX_def] at h6
  have hs : g25v realA a b = g25L6 realA 100000 (fun v _ => some v) 100000 0 b [0, 0, 0, 0] (fe (refX u v)) (fe (pw 2 QQ)) (fe u) := g25Start realA 100000 a b _ _ _ _ _ _ _ _ _ h1 h2 h3 h4 rfl h5 h6 t1 t2 rfl i1 i2 d1 rfl w1 w2
  rw [hs]
  clear hs
  obtain ⟨n, hn⟩ : ∃ n, 100000 = n + 3 := ⟨99997, rfl⟩
  rw [hn]
  have hX : refX u v < PP := by rw [refX_def]; exact m _
  have hI := pw_lt 2 QQ
  have hu := ra.2.2
  exact refTail n rb hX hI hu
theorem g25of {A : Ar} {a b L : List Nat} {t : Bool} (e : g25v A a b = some (.tup [.agg [.nums .u64 4 L], .cell (.bool t)])) : g25ok A a b = true ∧ g25r0 A a b = L ∧ g25r1 A a b = t := ⟨by unfold g25ok; rw [e]; rfl, by unfold g25r0; rw [e]; rfl, by unfold g25r1; rw [e]; rfl⟩
theorem refRoot2 {a b : List Nat} {u v : Nat} (ra : Rep a u) (rb : Rep b v) : g25ok realA a b = true ∧ g25r0 realA a b = fe (refN u v (refX u v) (refY (refX u v))).1 ∧ g25r1 realA a b = (refN u v (refX u v) (refY (refX u v))).2 := by
  exact g25of (refRootE ra rb)
end Go.Sx
namespace Go.Sx
-- both roots are the same
theorem expK : PT * (KK + 1) = PM * KK + (3 + 7 * KK) := by decide
theorem rootX_def (u v : Nat) : rootX u v = u * (v * (v * v)) * (u * (v * ((v * (v * v)) * (v * (v * v))))) ^ KK % PP := by
  unfold rootX
  rw [pw_spec _ KK (by decide)]
  refine mmod ?_ ?_
  · rw [Nat.mod_mod]
    exact mmod rfl (by rw [Nat.mod_mod, Nat.mul_mod_mod])
  · rw [Nat.mod_mod]
    refine powM ?_ _
    have h3 : v * (v * v % PP) % PP % PP = v * (v * v) % PP := by rw [Nat.mod_mod, Nat.mul_mod_mod]
    rw [Nat.mod_mod]
    refine mmod rfl ?_
    rw [Nat.mod_mod]
    refine mmod rfl ?_
    rw [Nat.mod_mod]
    exact mmod h3 h3
theorem refX_eq (u v : Nat) : refX u v = rootX u v := by
  rw [rootX_def, refX_def]
  have e1 : (u * (v ^ PT % PP) % PP) ^ (KK + 1) % PP = (u * v ^ PT) ^ (KK + 1) % PP := powM (by rw [Nat.mod_mod, Nat.mul_mod_mod]) _
  rw [e1, Nat.mul_pow, ← Nat.pow_mul, expK]
  by_cases hv : v % PP = 0
  · have z1 : v ^ (PM * KK + (3 + 7 * KK)) % PP = 0 := zero_pow_mod hv (by decide)
    have z2 : u * (v * (v * v)) % PP = 0 := by
      rw [show u * (v * (v * v)) = v * (u * (v * v)) by grind, Nat.mul_mod, hv, Nat.zero_mul]
      rfl
    rw [Nat.mul_mod, z1, Nat.mul_zero, Nat.mul_mod (u * (v * (v * v))), z2, Nat.zero_mul]
  · have f := fermat hv
    rw [Nat.pow_add v, Nat.pow_mul v PM]
    have e2 : (v ^ PM) ^ KK * v ^ (3 + 7 * KK) % PP = v ^ (3 + 7 * KK) % PP := by
      rw [mz (y := 1) (by rw [powM (x' := 1) (by rw [f, one_mod]), Nat.one_pow]), Nat.one_mul]
    rw [mmod (rfl : u ^ (KK + 1) % PP = u ^ (KK + 1) % PP) e2]
    have e3 : u * (v * (v * v)) * (u * (v * ((v * (v * v)) * (v * (v * v))))) ^ KK = u ^ (KK + 1) * v ^ (3 + 7 * KK) := by
      rw [show u * (v * ((v * (v * v)) * (v * (v * v)))) = u * v ^ 7 by grind, show v * (v * v) = v ^ 3 by grind, Nat.mul_pow, ← Nat.pow_mul v 7, Nat.pow_add v, Nat.pow_succ u]
      generalize u ^ KK = p
      generalize v ^ (7 * KK) = q
      generalize v ^ 3 = r
      grind
    rw [e3]
theorem refN_eq {u v : Nat} (hu : u < PP) : refN u v (refX u v) (refY (refX u v)) = rootN u v := by
  have hC : rootC u v < PP := Nat.mod_lt _ PP_pos
  have hx := refX_eq u v
  have hy := refY_def (rootX u v)
  rw [hx]
  have hv := vNeg v (rootX u v)
  rw [← hy] at hv
  have h5 : v * (refY (rootX u v) * refY (rootX u v) % PP) % PP < PP := Nat.mod_lt _ PP_pos
  have hc : v * (rootX u v * rootX u v % PP) % PP = rootC u v := rfl
  cases h1 : Nat.beq (rootC u v) (u % PP) with
  | true =>
    rw [rn1 h1]
    have := beq_true h1
    rw [Nat.mod_eq_of_lt hu] at this
    exact fn1 _ (decide_eq_true (hc.trans this))
  | false =>
    have n1 : refHit u v (rootX u v) = false := decide_eq_false (by
      rw [hc]
      have := Nat.ne_of_beq_eq_false h1
      rwa [Nat.mod_eq_of_lt hu] at this)
    have key : (v * (refY (rootX u v) * refY (rootX u v) % PP) % PP = u) ↔ (rootC u v + u % PP) % PP = 0 := by
      rw [Nat.mod_eq_of_lt hu]
      rw [hc] at hv
      generalize v * (refY (rootX u v) * refY (rootX u v) % PP) % PP = z at *
      generalize rootC u v = c at *
      clear n1 h1 hc hx hy
      unfold PP at *
      omega
    cases h2 : Nat.beq ((rootC u v + u % PP) % PP) 0 with
    | true =>
      rw [rn2 h1 h2, ← hy]
      exact fn2 n1 (decide_eq_true (key.2 (beq_true h2)))
    | false =>
      rw [rn3 h1 h2]
      exact fn3 n1 (decide_eq_false (fun h => Nat.ne_of_beq_eq_false h2 (key.1 h)))
end Go.Sx
namespace Go.Sx
theorem powR7 {a : List Nat} {u : Nat} (h : Rep a u) : g24ok realA a [18446744073709551595, 18446744073709551615, 18446744073709551615, 9223372036854775807] = true ∧ g24r0 realA a [18446744073709551595, 18446744073709551615, 18446744073709551615, 9223372036854775807] = fe (u ^ PT % PP) := by
  obtain ⟨h1, h2⟩ := powOk h.1 WPT2
  refine ⟨h1, ?_⟩
  rw [h2, show num [18446744073709551595, 18446744073709551615, 18446744073709551615, 9223372036854775807] = PT by decide]
  unfold fm
  rw [powM (x' := u) (by rw [h.2.1, Nat.mod_eq_of_lt h.2.2])]
theorem g27Shape7 (A : Ar) (n : Nat) (a e r : List Nat) (he : (((([0, 0, 0, 0] : List Nat).set 0 18446744073709551595).set 1 18446744073709551615).set 2 18446744073709551615).set 3 9223372036854775807 = e) (h1 : g24ok A a e = true) (h2 : g24r0 A a e = r) : g27 A n (fun v _ => some v) a = some (.v (.agg [.nums .u64 4 r])) := by
  unfold g27
  rw [he, h1, h2]
theorem g27of {A : Ar} {a L : List Nat} (e : g27v A a = some (.v (.agg [.nums .u64 4 L]))) : g27ok A a = true ∧ g27r0 A a = L := ⟨by unfold g27ok; rw [e]; rfl, by unfold g27r0; rw [e]; rfl⟩
theorem invR7 {a : List Nat} {u : Nat} (h : Rep a u) : g27ok realA a = true ∧ g27r0 realA a = fe (u ^ PT % PP) := by
  obtain ⟨h1, h2⟩ := powR7 h
  exact g27of (g27Shape7 realA 100000 a _ _ rfl h1 h2)
theorem powersShape (A : Ar) (n : Nat) (t : Bool) (a e u v p i x : List Nat) (k1 : g11ok A = true) (k2 : g11r0 A = true) (r1 : g21ok A u v = true) (r2 : g21r0 A u v = x) (r3 : g21r1 A u v = t) (s1 : g25ok A u v = true) (s2 : g25r0 A u v = x) (s3 : g25r1 A u v = t)
    (p1 : g24ok A a e = true) (p2 : g24r0 A a e = p) (p3 : g26ok A a e = true) (p4 : g26r0 A a e = p) (pq : A.lq p p = true) (i1 : g27ok A a = true) (i2 : g27r0 A a = i) (i3 : g28ok A a = true) (i4 : g28r0 A a = i) (iq : A.lq i i = true) (xq : A.lq x x = true) :
    g7 A n (fun v _ => some v) a e u v = some (.v (.cell (.bool true))) := by
  unfold g7 g7J4
  rw [k1, k2, r1, r2, r3, s1, s2, s3, p1, p2, p3, p4, pq, i1, i2, i3, i4, iq, xq]
  cases t <;> rfl
theorem g7of {A : Ar} {a e u v : List Nat} {t : Bool} (h : g7v A a e u v = some (.v (.cell (.bool t)))) : g7ok A a e u v = true ∧ g7r0 A a e u v = t := ⟨by unfold g7ok; rw [h]; rfl, by unfold g7r0; rw [h]; rfl⟩
theorem lqRefl (x : List Nat) : realA.lq x x = true := by rw [lqE]; exact decide_eq_true rfl
theorem powers (n : Nat) {a e u v : List Nat} (ha : W4 a) (he : W4 e) (hu : W4 u) (hv : W4 v) : g7 realA n (fun v _ => some v) a e u v = some (.v (.cell (.bool true))) := by
  obtain ⟨r1, r2, r3⟩ := rootOk2 (rW hu) (rW hv)
  obtain ⟨s1, s2, s3⟩ := refRoot2 (rW hu) (rW hv)
  rw [refN_eq (Nat.mod_lt _ PP_pos)] at s2 s3
  obtain ⟨p1, p2⟩ := powOk ha he
  obtain ⟨p3, p4⟩ := refPow ha he
  obtain ⟨i1, i2⟩ := invR7 (rW ha)
  obtain ⟨i3, i4⟩ := invR2 (rW ha)
  exact powersShape realA n _ a e u v _ _ _ ok11 r11 r1 r2 r3 s1 s2 s3 p1 p2 p3 p4 (lqRefl _) i1 i2 i3 i4 (lqRefl _) (lqRefl _)
theorem law7 (a : List Nat) (la : a.length = 4) (ha : ∀ x ∈ a, x < 2 ^ IntKind.bits .u64) (e : List Nat) (le : e.length = 4) (he : ∀ x ∈ e, x < 2 ^ IntKind.bits .u64) (u : List Nat) (lu : u.length = 4) (hu : ∀ x ∈ u, x < 2 ^ IntKind.bits .u64) (v : List Nat) (lv : v.length = 4) (hv : ∀ x ∈ v, x < 2 ^ IntKind.bits .u64) :
    g7o realA [.v (.agg [.nums .u64 4 a]), .v (.agg [.nums .u64 4 e]), .v (.agg [.nums .u64 4 u]), .v (.agg [.nums .u64 4 v])] = some (true, .v (.cell (.bool true))) := by
  obtain ⟨k, r⟩ := g7of (powers 100000 (W4_of la ha) (W4_of le he) (W4_of lu hu) (W4_of lv hv))
  show some (Nat.beq 4 4 && (Nat.beq 4 4 && (Nat.beq 4 4 && (Nat.beq 4 4 && g7ok realA a e u v))), AV.v (.cell (.bool (g7r0 realA a e u v)))) = _
  rw [k, r]
  rfl
end Go.Sx
