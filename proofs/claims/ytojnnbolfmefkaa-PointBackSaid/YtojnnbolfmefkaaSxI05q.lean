import Derived.Test.YtojnnbolfmefkaaSxI05c
import Derived.Test.YtojnnbolfmefkaaSxAr
namespace Go.Sx
set_option linter.unusedSectionVars false
def bitN (s : List Nat) (i : Nat) : Nat := s.getD (i / 8) 0 / 2 ^ (i % 8) % 2
theorem bitN_lt (s : List Nat) (i : Nat) : bitN s i < 2 := Nat.mod_lt _ (by decide)
abbrev Z4 := Int × Int × Int × Int
theorem sixE : g30ok realA = true ∧ g30r0 realA = List.replicate 31 102 := g30of six
theorem g10of {A : Ar} {t : Bool} (e : g10v A = some (.v (.cell (.bool t)))) : g10ok A = true ∧ g10r0 A = t := ⟨by unfold g10ok; rw [e]; rfl, by unfold g10r0; rw [e]; rfl⟩
theorem exShape (A : Ar) (x y : Int) (bs six : List Nat) (h : FOK A) (b : g22ok A = true ∧ g22r0 A = fi x ∧ g22r1 A = fi y) (en : g12ok A (fi x) (fi y) = true ∧ g12r0 A (fi x) (fi y) = bs ∧ g12r1 A (fi x) (fi y) = true) (on : g18ok A (fi x) (fi y) = true ∧ g18r0 A (fi x) (fi y) = true)
    (s : g30ok A = true ∧ g30r0 A = six) (l : A.le ([88].length + six.length) 9223372036854775807 = true) (e : A.sc .eql bs ([88] ++ six) = true) (ad : g14ok A (fi x) (fi y) (fi 0) (fi 1) = true ∧ g14r0 A (fi x) (fi y) (fi 0) (fi 1) = fi x ∧ g14r1 A (fi x) (fi y) (fi 0) (fi 1) = fi y) : g10v A = some (.v (.cell (.bool true))) := by
  unfold g10v g10
  simp only [b, en, on, s, l, e, zeroP h, ad, h.lq, dP h, dR h, decide_eq_true, Bool.and_true]
theorem exE : g10ok realA = true ∧ g10r0 realA = true := by
  refine g10of (exShape realA BX BY _ _ fok (baseP fok) ⟨(EncP (fi_W4 BX) (fi_W4 BY)).1, (EncP (fi_W4 BX) (fi_W4 BY)).2.1, (EncP (fi_W4 BX) (fi_W4 BY)).2.2.trans onB⟩ ⟨(onP fok (fi_W4 BX) (fi_W4 BY)).1, (onP fok (fi_W4 BX) (fi_W4 BY)).2.trans onB⟩ sixE rfl ?_ ?_)
  · rw [ar_sceq, if_pos onB, encBB]
    exact decide_eq_true rfl
  · obtain ⟨h1, h2, h3⟩ := AddP fok (fi_W4 BX) (fi_W4 BY) (fi_W4 0) (fi_W4 1)
    rw [ptB.1, ptB.2, ptO.1, ptO.2] at h2 h3
    refine ⟨h1, h2.trans (fi_congr (addB0.1.trans (show (BX : Int) = (BX : Int) % PI by decide))), h3.trans (fi_congr (addB0.2.trans (show (BY : Int) = (BY : Int) % PI by decide)))⟩
end Go.Sx
namespace Go.Sx
set_option linter.unusedSectionVars false
def Zp (a : Int) : Prop := a % PI = 0
instance (a : Int) : Decidable (Zp a) := inferInstanceAs (Decidable (a % PI = 0))
theorem Zp.zero : Zp 0 := by decide
theorem Zp.mul {a : Int} (h : Zp a) (b : Int) : Zp (b * a) := by
  show (b * a) % PI = 0
  rw [Int.mul_emod, show a % PI = 0 from h, Int.mul_zero]; rfl
theorem Zp.add {a b : Int} (h : Zp a) (k : Zp b) : Zp (a + b) := by
  show (a + b) % PI = 0
  rw [Int.add_emod, show a % PI = 0 from h, show b % PI = 0 from k]; rfl
theorem Zp.neg {a : Int} (h : Zp a) : Zp (-a) := by
  have := h.mul (-1)
  rwa [show -1 * a = -a by omega] at this
theorem Zp.sub {a b : Int} (h : Zp a) (k : Zp b) : Zp (a - b) := by
  have := h.add k.neg
  rwa [show a + -b = a - b by omega] at this
theorem zp_iff {a b : Int} : Zp (a - b) ↔ a % PI = b % PI := by
  constructor
  · intro h
    have : (a - b + b) % PI = b % PI := by rw [Int.add_emod, show (a - b) % PI = 0 from h, Int.zero_add, Int.emod_emod]
    rwa [Int.sub_add_cancel] at this
  · intro h
    show (a - b) % PI = 0
    rw [Int.sub_emod, h, Int.sub_self]; rfl
theorem Zp.of {a b : Int} (h : Zp a) (e : a = b) : Zp b := e ▸ h
theorem Zp.c1 {a f : Int} (h : Zp a) (p : Int) (e : f = p * a) : Zp f := (h.mul p).of e.symm
theorem Zp.c2 {a b f : Int} (h : Zp a) (k : Zp b) (p q : Int) (e : f = p * a + q * b) : Zp f := ((h.mul p).add (k.mul q)).of e.symm
theorem Zp.c3 {a b c f : Int} (h : Zp a) (k : Zp b) (l : Zp c) (p q r : Int) (e : f = p * a + q * b + r * c) : Zp f := (((h.mul p).add (k.mul q)).add (l.mul r)).of e.symm
theorem Zp.c4 {a b c d f : Int} (h : Zp a) (k : Zp b) (l : Zp c) (m : Zp d) (p q r s : Int) (e : f = p * a + q * b + r * c + s * d) : Zp f := ((((h.mul p).add (k.mul q)).add (l.mul r)).add (m.mul s)).of e.symm
theorem Zp.or {a b : Int} (h : Zp (a * b)) : Zp a ∨ Zp b := by
  by_cases ha : a % PI = 0
  · exact .inl ha
  · have h1 := ivMul ha
    refine .inr ?_
    have h2 : Zp (a * iv a - 1) := zp_iff.2 (h1.trans (by decide))
    exact h.c2 h2 (iv a) (-b) (by grind)
theorem one_nz : ¬ Zp 1 := by decide
theorem nzMul {a b : Int} (ha : ¬ Zp a) (hb : ¬ Zp b) : ¬ Zp (a * b) := fun h => h.or.elim ha hb
theorem cancelZ {a b : Int} (ha : ¬ Zp a) (h : Zp (a * b)) : Zp b := h.or.resolve_left ha
theorem dEuler : pw (dI % PI).toNat (PM / 2) = PM := by decide +kernel
theorem PM2_lt : PM / 2 < 2 ^ 256 := by decide
theorem PM2e : PM / 2 * 2 = PM := by decide
theorem zpN (x : Int) : Zp x ↔ (x % PI).toNat % PP = 0 := by
  rw [Nat.mod_eq_of_lt (toN_lt x)]
  have := castN x
  unfold Zp
  omega
theorem dNS {z w : Int} (h : Zp (dI * (z * z) - w * w)) : Zp z := by
  apply Classical.byContradiction
  intro hz
  have hz' : (z % PI).toNat % PP ≠ 0 := fun e => hz ((zpN z).2 e)
  have h1 := zp_iff.1 h
  have h2 : ((dI % PI).toNat * ((z % PI).toNat * (z % PI).toNat)) % PP = ((w % PI).toNat * (w % PI).toNat) % PP := by
    have : (((dI % PI).toNat * ((z % PI).toNat * (z % PI).toNat) : Nat) : Int) % PI = (((w % PI).toNat * (w % PI).toNat : Nat) : Int) % PI := by
      rw [Int.natCast_mul, Int.natCast_mul, Int.natCast_mul, castN, castN, castN]
      rw [fmulM (Int.emod_emod dI PI) (fmulM (Int.emod_emod z PI) (Int.emod_emod z PI)), fmulM (Int.emod_emod w PI) (Int.emod_emod w PI)]
      exact h1
    rw [← PI_PP] at this
    exact_mod_cast this
  have h3 := pmod h2 (PM / 2)
  rw [Nat.mul_pow, ← Nat.pow_two, ← Nat.pow_two, ← Nat.pow_mul, ← Nat.pow_mul, Nat.mul_comm 2, PM2e, Nat.mul_mod, fermat hz', Nat.mul_one, Nat.mod_mod, ← pw_spec _ _ PM2_lt, dEuler] at h3
  by_cases hw : (w % PI).toNat % PP = 0
  · rw [zero_pow_mod hw (by decide)] at h3
    exact absurd h3 (by decide)
  · rw [fermat hw] at h3
    exact absurd h3 (by decide)
def iI : Int := (pw 2 QQ : Nat)
theorem iI2 : Zp (iI * iI + 1) := by
  show ((iI * iI + 1) % PI) = 0
  decide +kernel
theorem iNZ : ¬ Zp iI := by
  intro h
  exact one_nz (iI2.c2 h 1 (-iI) (by grind))
theorem two_nz : ¬ Zp 2 := by decide
def onE (x y : Int) : Int := y * y - x * x - 1 - dI * (x * x) * (y * y)
theorem complete {x y u v e : Int} (h1 : Zp (onE x y)) (h2 : Zp (onE u v)) (he : Zp (e * e - 1)) : ¬ Zp (dI * (x * y * (u * v)) - e) := by
  intro hk
  have a1 : Zp (x * y * (iI * u + v)) := by
    refine dNS (w := iI * x + e * y) ?_
    refine ((h1.c2 h2 (-1) (dI * (x * y) * (x * y)) rfl).add ((hk.c3 iI2 he (dI * (x * y * (u * v)) + e + 2 * iI * (x * y)) (dI * (x * y) * (x * y) * (u * u) - x * x) (1 - y * y) rfl))).of ?_
    unfold onE
    grind
  have a2 : Zp (x * y * (iI * u - v)) := by
    refine dNS (w := iI * x - e * y) ?_
    refine ((h1.c2 h2 (-1) (dI * (x * y) * (x * y)) rfl).add ((hk.c3 iI2 he (dI * (x * y * (u * v)) + e - 2 * iI * (x * y)) (dI * (x * y) * (x * y) * (u * u) - x * x) (1 - y * y) rfl))).of ?_
    unfold onE
    grind
  have a3 : Zp (2 * (iI * (x * y * u))) := (a1.add a2).of (by grind)
  have a4 := cancelZ iNZ (cancelZ two_nz a3)
  have a5 : Zp (dI * (x * y * (u * v))) := a4.c1 (dI * v) (by grind)
  have a6 : Zp e := (a5.sub hk).of (by omega)
  exact one_nz (a6.c2 he e (-1) (by grind))
end Go.Sx
namespace Go.Sx
set_option linter.unusedSectionVars false
def eqE (d x y : Int) : Int := y * y - x * x - 1 - d * (x * x) * (y * y)
def kE (d x y u v : Int) : Int := d * (x * y * (u * v))
def tX (x y u v : Int) : Int := x * v + u * y
def tY (x y u v : Int) : Int := y * v + x * u
theorem closeE (d x y u v : Int) : tY x y u v * tY x y u v * ((1 + kE d x y u v) * (1 + kE d x y u v)) - tX x y u v * tX x y u v * ((1 - kE d x y u v) * (1 - kE d x y u v)) - (1 + kE d x y u v) * (1 + kE d x y u v) * ((1 - kE d x y u v) * (1 - kE d x y u v)) - d * (tX x y u v * tX x y u v) * (tY x y u v * tY x y u v) = (d*d*d*x*x*y*y*u*u*u*u*v*v*v*v - d*d*x*x*u*u*u*u*v*v*v*v + d*d*y*y*u*u*u*u*v*v*v*v - d*d*u*u*u*u*v*v*v*v - d*x*x*u*u*u*u*v*v + d*x*x*u*u*v*v*v*v + d*y*y*u*u*u*u*v*v - d*y*y*u*u*v*v*v*v - 2*d*u*u*u*u*v*v*v*v - 2*d*u*u*v*v - 2*u*u*u*u*v*v + u*u*u*u + 2*u*u*v*v*v*v - 4*u*u*v*v + v*v*v*v) * eqE d x y + (d*x*x*x*x*u*u*v*v + 2*d*x*x*u*u*v*v + d*y*y*y*y*u*u*v*v - 2*d*y*y*u*u*v*v + d*u*u*v*v + 2*x*x*u*u*v*v - x*x*u*u + x*x*v*v - 2*y*y*u*u*v*v + y*y*u*u - y*y*v*v + 2*u*u*v*v - u*u + v*v + 1) * eqE d u v := by
  unfold tX tY kE eqE; grind

def n1 (d x y u v s t : Int) : Int := tX x y u v * (1 - kE d x y u v) * t + s * (tY x y u v * (1 + kE d x y u v))
def d1 (d x y u v s t : Int) : Int := (1 + kE d x y u v) * (1 - kE d x y u v) + d * (tX x y u v * tY x y u v * (s * t))
def m1 (d x y u v s t : Int) : Int := tY x y u v * (1 + kE d x y u v) * t + tX x y u v * (1 - kE d x y u v) * s
def e1 (d x y u v s t : Int) : Int := (1 + kE d x y u v) * (1 - kE d x y u v) - d * (tX x y u v * tY x y u v * (s * t))

theorem assocX (d x y u v s t : Int) : n1 d x y u v s t * d1 d u v s t x y - n1 d u v s t x y * d1 d x y u v s t = (-d*d*x*u*u*u*u*v*v*v*s*s*t - d*d*x*u*u*u*v*v*v*v*s*t*t + d*d*y*u*u*u*u*v*v*v*s*t*t + d*d*y*u*u*u*v*v*v*v*s*s*t - d*x*u*u*u*u*v*s*s*t - d*x*u*u*u*v*v*s*s*s - d*x*u*u*u*v*v*s + d*x*u*u*v*v*v*t*t*t - d*x*u*u*v*v*v*t + d*x*u*v*v*v*v*s*t*t + d*y*u*u*u*u*v*s*t*t + d*y*u*u*u*v*v*t*t*t - d*y*u*u*u*v*v*t - d*y*u*u*v*v*v*s*s*s - d*y*u*u*v*v*v*s - d*y*u*v*v*v*v*s*s*t) * eqE d x y + (d*d*x*x*y*u*u*v*s*s*s*t*t - d*d*x*x*y*u*v*v*s*s*t*t*t - d*d*x*y*y*u*u*v*s*s*t*t*t + d*d*x*y*y*u*v*v*s*s*s*t*t + d*x*x*x*u*u*v*s*s*t + d*x*x*x*u*v*v*s*t*t + d*x*x*x*u*s*s*s*t*t + d*x*x*x*v*s*s*t*t*t - d*x*x*y*u*u*v*s*t*t - d*x*x*y*u*v*v*s*s*t + d*x*x*y*u*s*s*t*t*t + d*x*x*y*v*s*s*s*t*t - d*x*y*y*u*u*v*s*s*t - d*x*y*y*u*v*v*s*t*t - d*x*y*y*u*s*s*s*t*t - d*x*y*y*v*s*s*t*t*t + d*x*u*u*v*s*s*t + d*x*u*v*v*s*t*t + d*x*u*s*s*s*t*t + d*x*v*s*s*t*t*t + d*y*y*y*u*u*v*s*t*t + d*y*y*y*u*v*v*s*s*t - d*y*y*y*u*s*s*t*t*t - d*y*y*y*v*s*s*s*t*t - d*y*u*u*v*s*t*t - d*y*u*v*v*s*s*t + d*y*u*s*s*t*t*t + d*y*v*s*s*s*t*t + x*x*x*u*s*s*s - x*x*x*u*s*t*t + x*x*x*u*s + x*x*x*v*s*s*t - x*x*x*v*t*t*t + x*x*x*v*t + x*x*y*u*s*s*t - x*x*y*u*t*t*t + x*x*y*u*t + x*x*y*v*s*s*s - x*x*y*v*s*t*t + x*x*y*v*s - x*y*y*u*s*s*s + x*y*y*u*s*t*t - x*y*y*u*s - x*y*y*v*s*s*t + x*y*y*v*t*t*t - x*y*y*v*t + x*u*s*s*s - x*u*s*t*t + x*u*s + x*v*s*s*t - x*v*t*t*t + x*v*t - y*y*y*u*s*s*t + y*y*y*u*t*t*t - y*y*y*u*t - y*y*y*v*s*s*s + y*y*y*v*s*t*t - y*y*y*v*s + y*u*s*s*t - y*u*t*t*t + y*u*t + y*v*s*s*s - y*v*s*t*t + y*v*s) * eqE d u v + (-d*x*x*y*u*u*v*s + d*x*x*y*u*v*v*t + d*x*y*y*u*u*v*t - d*x*y*y*u*v*v*s - x*x*x*u*u*u*s - x*x*x*u*u*v*t + x*x*x*u*v*v*s - x*x*x*u*s + x*x*x*v*v*v*t - x*x*x*v*t - x*x*y*u*u*u*t - x*x*y*u*u*v*s + x*x*y*u*v*v*t - x*x*y*u*t + x*x*y*v*v*v*s - x*x*y*v*s + x*y*y*u*u*u*s + x*y*y*u*u*v*t - x*y*y*u*v*v*s + x*y*y*u*s - x*y*y*v*v*v*t + x*y*y*v*t - x*u*u*u*s - x*u*u*v*t + x*u*v*v*s - x*u*s + x*v*v*v*t - x*v*t + y*y*y*u*u*u*t + y*y*y*u*u*v*s - y*y*y*u*v*v*t + y*y*y*u*t - y*y*y*v*v*v*s + y*y*y*v*s - y*u*u*u*t - y*u*u*v*s + y*u*v*v*t - y*u*t + y*v*v*v*s - y*v*s) * eqE d s t := by
  unfold n1 d1 tX tY kE eqE; grind
theorem assocY (d x y u v s t : Int) : m1 d x y u v s t * e1 d u v s t x y - m1 d u v s t x y * e1 d x y u v s t = (d*d*x*u*u*u*u*v*v*v*s*t*t + d*d*x*u*u*u*v*v*v*v*s*s*t - d*d*y*u*u*u*u*v*v*v*s*s*t - d*d*y*u*u*u*v*v*v*v*s*t*t + d*x*u*u*u*u*v*s*t*t + d*x*u*u*u*v*v*t*t*t - d*x*u*u*u*v*v*t - d*x*u*u*v*v*v*s*s*s - d*x*u*u*v*v*v*s - d*x*u*v*v*v*v*s*s*t - d*y*u*u*u*u*v*s*s*t - d*y*u*u*u*v*v*s*s*s - d*y*u*u*u*v*v*s + d*y*u*u*v*v*v*t*t*t - d*y*u*u*v*v*v*t + d*y*u*v*v*v*v*s*t*t) * eqE d x y + (d*d*x*x*y*u*u*v*s*s*t*t*t - d*d*x*x*y*u*v*v*s*s*s*t*t - d*d*x*y*y*u*u*v*s*s*s*t*t + d*d*x*y*y*u*v*v*s*s*t*t*t - d*x*x*x*u*u*v*s*t*t - d*x*x*x*u*v*v*s*s*t + d*x*x*x*u*s*s*t*t*t + d*x*x*x*v*s*s*s*t*t + d*x*x*y*u*u*v*s*s*t + d*x*x*y*u*v*v*s*t*t + d*x*x*y*u*s*s*s*t*t + d*x*x*y*v*s*s*t*t*t + d*x*y*y*u*u*v*s*t*t + d*x*y*y*u*v*v*s*s*t - d*x*y*y*u*s*s*t*t*t - d*x*y*y*v*s*s*s*t*t - d*x*u*u*v*s*t*t - d*x*u*v*v*s*s*t + d*x*u*s*s*t*t*t + d*x*v*s*s*s*t*t - d*y*y*y*u*u*v*s*s*t - d*y*y*y*u*v*v*s*t*t - d*y*y*y*u*s*s*s*t*t - d*y*y*y*v*s*s*t*t*t + d*y*u*u*v*s*s*t + d*y*u*v*v*s*t*t + d*y*u*s*s*s*t*t + d*y*v*s*s*t*t*t + x*x*x*u*s*s*t - x*x*x*u*t*t*t + x*x*x*u*t + x*x*x*v*s*s*s - x*x*x*v*s*t*t + x*x*x*v*s + x*x*y*u*s*s*s - x*x*y*u*s*t*t + x*x*y*u*s + x*x*y*v*s*s*t - x*x*y*v*t*t*t + x*x*y*v*t - x*y*y*u*s*s*t + x*y*y*u*t*t*t - x*y*y*u*t - x*y*y*v*s*s*s + x*y*y*v*s*t*t - x*y*y*v*s + x*u*s*s*t - x*u*t*t*t + x*u*t + x*v*s*s*s - x*v*s*t*t + x*v*s - y*y*y*u*s*s*s + y*y*y*u*s*t*t - y*y*y*u*s - y*y*y*v*s*s*t + y*y*y*v*t*t*t - y*y*y*v*t + y*u*s*s*s - y*u*s*t*t + y*u*s + y*v*s*s*t - y*v*t*t*t + y*v*t) * eqE d u v + (-d*x*x*y*u*u*v*t + d*x*x*y*u*v*v*s + d*x*y*y*u*u*v*s - d*x*y*y*u*v*v*t - x*x*x*u*u*u*t - x*x*x*u*u*v*s + x*x*x*u*v*v*t - x*x*x*u*t + x*x*x*v*v*v*s - x*x*x*v*s - x*x*y*u*u*u*s - x*x*y*u*u*v*t + x*x*y*u*v*v*s - x*x*y*u*s + x*x*y*v*v*v*t - x*x*y*v*t + x*y*y*u*u*u*t + x*y*y*u*u*v*s - x*y*y*u*v*v*t + x*y*y*u*t - x*y*y*v*v*v*s + x*y*y*v*s - x*u*u*u*t - x*u*u*v*s + x*u*v*v*t - x*u*t + x*v*v*v*s - x*v*s + y*y*y*u*u*u*s + y*y*y*u*u*v*t - y*y*y*u*v*v*s + y*y*y*u*s - y*y*y*v*v*v*t + y*y*y*v*t - y*u*u*u*s - y*u*u*v*t + y*u*v*v*s - y*u*s + y*v*v*v*t - y*v*t) * eqE d s t := by
  unfold m1 e1 tX tY kE eqE; grind
end Go.Sx
namespace Go.Sx
set_option linter.unusedSectionVars false
theorem onE_eq (x y : Int) : onE x y = eqE dI x y := rfl
theorem nzP {x y u v : Int} (h1 : Zp (onE x y)) (h2 : Zp (onE u v)) : ¬ Zp (1 + kE dI x y u v) := fun h =>
  complete (e := -1) h1 h2 (by decide) (h.of (by unfold kE; omega))
theorem nzM {x y u v : Int} (h1 : Zp (onE x y)) (h2 : Zp (onE u v)) : ¬ Zp (1 - kE dI x y u v) := fun h =>
  complete (e := 1) h1 h2 (by decide) (h.neg.of (by unfold kE; omega))
theorem nzB {x y u v : Int} (h1 : Zp (onE x y)) (h2 : Zp (onE u v)) : ¬ Zp (nZ x y u v) := fun h =>
  nzMul (nzM h1 h2) (nzP h1 h2) (h.of (by unfold nZ kE; grind))
structure Pt where
  x : Int
  y : Int
  hx : x % PI = x
  hy : y % PI = y
  on : Zp (onE x y)
theorem Pt.ext' {p q : Pt} (h1 : Zp (p.x - q.x)) (h2 : Zp (p.y - q.y)) : p = q := by
  obtain ⟨x, y, hx, hy, on⟩ := p
  obtain ⟨u, v, hu, hv, on2⟩ := q
  have e1 := zp_iff.1 h1
  have e2 := zp_iff.1 h2
  simp only at e1 e2
  rw [hx, hu] at e1
  rw [hy, hv] at e2
  subst e1 e2
  rfl
theorem zpM (a : Int) : Zp (a % PI - a) := zp_iff.2 (Int.emod_emod _ _)
theorem ivM {a : Int} (h : ¬ Zp a) : Zp (a * iv a - 1) := zp_iff.2 ((ivMul h).trans (by decide))
theorem sumXs {x y u v : Int} (h : ¬ Zp (nZ x y u v)) : Zp ((nX x y u v * iv (nZ x y u v)) % PI * (1 + kE dI x y u v) - tX x y u v) :=
  (zpM (nX x y u v * iv (nZ x y u v))).c2 (ivM h) (1 + kE dI x y u v) (tX x y u v) (by unfold nX nZ kE tX; grind)
theorem sumYs {x y u v : Int} (h : ¬ Zp (nZ x y u v)) : Zp ((nY x y u v * iv (nZ x y u v)) % PI * (1 - kE dI x y u v) - tY x y u v) :=
  (zpM (nY x y u v * iv (nZ x y u v))).c2 (ivM h) (1 - kE dI x y u v) (tY x y u v) (by unfold nY nZ kE tY; grind)
theorem closeZ {x y u v X Y : Int} (h1 : Zp (onE x y)) (h2 : Zp (onE u v)) (a : Zp (X * (1 + kE dI x y u v) - tX x y u v)) (b : Zp (Y * (1 - kE dI x y u v) - tY x y u v)) : Zp (onE X Y) := by
  have hc := closeE dI x y u v
  rw [← onE_eq, ← onE_eq] at hc
  have h3 := h1.c2 h2 _ _ hc
  have hn := nzMul (nzMul (nzP h1 h2) (nzP h1 h2)) (nzMul (nzM h1 h2) (nzM h1 h2))
  refine cancelZ hn ?_
  generalize kE dI x y u v = k at *
  generalize tX x y u v = n at *
  generalize tY x y u v = m at *
  refine h3.c3 a b 1 (-(X * (1 + k) + n) * ((1 - k) * (1 - k) + dI * (Y * (1 - k)) * (Y * (1 - k)))) ((Y * (1 - k) + m) * ((1 + k) * (1 + k) - dI * n * n)) ?_
  unfold onE
  grind
def Pt.add (p q : Pt) : Pt where
  x := (nX p.x p.y q.x q.y * iv (nZ p.x p.y q.x q.y)) % PI
  y := (nY p.x p.y q.x q.y * iv (nZ p.x p.y q.x q.y)) % PI
  hx := Int.emod_emod _ _
  hy := Int.emod_emod _ _
  on := closeZ p.on q.on (sumXs (nzB p.on q.on)) (sumYs (nzB p.on q.on))
theorem Pt.addX (p q : Pt) : Zp ((p.add q).x * (1 + kE dI p.x p.y q.x q.y) - tX p.x p.y q.x q.y) := sumXs (nzB p.on q.on)
theorem Pt.addY (p q : Pt) : Zp ((p.add q).y * (1 - kE dI p.x p.y q.x q.y) - tY p.x p.y q.x q.y) := sumYs (nzB p.on q.on)
theorem Pt.add_eq {p q r : Pt} (h1 : Zp (r.x * (1 + kE dI p.x p.y q.x q.y) - tX p.x p.y q.x q.y)) (h2 : Zp (r.y * (1 - kE dI p.x p.y q.x q.y) - tY p.x p.y q.x q.y)) : p.add q = r := by
  refine Pt.ext' ?_ ?_
  · exact cancelZ (nzP p.on q.on) (((p.addX q).sub h1).of (by grind))
  · exact cancelZ (nzM p.on q.on) (((p.addY q).sub h2).of (by grind))
theorem onE01 : Zp (onE 0 1) := Zp.zero.of (by unfold onE; grind)
def Pt.zero : Pt := ⟨0, 1, by decide, by decide, onE01⟩
def Pt.neg (p : Pt) : Pt := ⟨(-p.x) % PI, p.y, Int.emod_emod _ _, p.hy, (p.on.c2 (zpM (-p.x)) 1 (-((-p.x) % PI - p.x) * (1 + dI * (p.y * p.y))) (by unfold onE; grind))⟩
theorem Pt.add_comm (p q : Pt) : p.add q = q.add p :=
  Pt.add_eq ((q.addX p).of (by unfold kE tX; grind)) ((q.addY p).of (by unfold kE tY; grind))
theorem Pt.add_zero (p : Pt) : p.add Pt.zero = p :=
  Pt.add_eq (Zp.zero.of (by show _ = p.x * (1 + kE dI p.x p.y 0 1) - tX p.x p.y 0 1; unfold kE tX; grind)) (Zp.zero.of (by show _ = p.y * (1 - kE dI p.x p.y 0 1) - tY p.x p.y 0 1; unfold kE tY; grind))
theorem dOne (x y u v X Y s t : Int) (a : Zp (X * (1 + kE dI x y u v) - tX x y u v)) (b : Zp (Y * (1 - kE dI x y u v) - tY x y u v)) : Zp (d1 dI x y u v s t - (1 + kE dI x y u v) * (1 - kE dI x y u v) * (1 + kE dI X Y s t)) := by
  generalize hk : kE dI x y u v = k at *
  generalize hn : tX x y u v = n at *
  generalize hm : tY x y u v = m at *
  refine a.c2 b (-(dI * s * t * (Y * (1 - k)))) (-(dI * s * t * n)) ?_
  unfold d1
  rw [hk, hn, hm]
  unfold kE
  grind
theorem nOne (x y u v X Y s t : Int) (a : Zp (X * (1 + kE dI x y u v) - tX x y u v)) (b : Zp (Y * (1 - kE dI x y u v) - tY x y u v)) : Zp (n1 dI x y u v s t - (1 + kE dI x y u v) * (1 - kE dI x y u v) * tX X Y s t) := by
  generalize hk : kE dI x y u v = k at *
  generalize hn : tX x y u v = n at *
  generalize hm : tY x y u v = m at *
  refine a.c2 b (-((1 - k) * t)) (-(s * (1 + k))) ?_
  unfold n1
  rw [hk, hn, hm]
  unfold tX
  grind
theorem eOne (x y u v X Y s t : Int) (a : Zp (X * (1 + kE dI x y u v) - tX x y u v)) (b : Zp (Y * (1 - kE dI x y u v) - tY x y u v)) : Zp (e1 dI x y u v s t - (1 + kE dI x y u v) * (1 - kE dI x y u v) * (1 - kE dI X Y s t)) := by
  generalize hk : kE dI x y u v = k at *
  generalize hn : tX x y u v = n at *
  generalize hm : tY x y u v = m at *
  refine a.c2 b (dI * s * t * (Y * (1 - k))) (dI * s * t * n) ?_
  unfold e1
  rw [hk, hn, hm]
  unfold kE
  grind
theorem mOne (x y u v X Y s t : Int) (a : Zp (X * (1 + kE dI x y u v) - tX x y u v)) (b : Zp (Y * (1 - kE dI x y u v) - tY x y u v)) : Zp (m1 dI x y u v s t - (1 + kE dI x y u v) * (1 - kE dI x y u v) * tY X Y s t) := by
  generalize hk : kE dI x y u v = k at *
  generalize hn : tX x y u v = n at *
  generalize hm : tY x y u v = m at *
  refine a.c2 b (-((1 - k) * s)) (-(t * (1 + k))) ?_
  unfold m1
  rw [hk, hn, hm]
  unfold tY
  grind
theorem Pt.add3X (p q r : Pt) : Zp (((p.add q).add r).x * d1 dI p.x p.y q.x q.y r.x r.y - n1 dI p.x p.y q.x q.y r.x r.y) := by
  have hd := dOne p.x p.y q.x q.y _ _ r.x r.y (p.addX q) (p.addY q)
  have hn := nOne p.x p.y q.x q.y _ _ r.x r.y (p.addX q) (p.addY q)
  have h := (p.add q).addX r
  exact hd.c3 hn h ((p.add q).add r).x (-1) ((1 + kE dI p.x p.y q.x q.y) * (1 - kE dI p.x p.y q.x q.y)) (by grind)
theorem Pt.add3Y (p q r : Pt) : Zp (((p.add q).add r).y * e1 dI p.x p.y q.x q.y r.x r.y - m1 dI p.x p.y q.x q.y r.x r.y) := by
  have hd := eOne p.x p.y q.x q.y _ _ r.x r.y (p.addX q) (p.addY q)
  have hn := mOne p.x p.y q.x q.y _ _ r.x r.y (p.addX q) (p.addY q)
  have h := (p.add q).addY r
  exact hd.c3 hn h ((p.add q).add r).y (-1) ((1 + kE dI p.x p.y q.x q.y) * (1 - kE dI p.x p.y q.x q.y)) (by grind)
theorem Pt.nzD (p q r : Pt) : ¬ Zp (d1 dI p.x p.y q.x q.y r.x r.y) := fun h =>
  nzMul (nzMul (nzP p.on q.on) (nzM p.on q.on)) (nzP (p.add q).on r.on) ((h.sub (dOne p.x p.y q.x q.y _ _ r.x r.y (p.addX q) (p.addY q))).of (by grind))
theorem Pt.nzE (p q r : Pt) : ¬ Zp (e1 dI p.x p.y q.x q.y r.x r.y) := fun h =>
  nzMul (nzMul (nzP p.on q.on) (nzM p.on q.on)) (nzM (p.add q).on r.on) ((h.sub (eOne p.x p.y q.x q.y _ _ r.x r.y (p.addX q) (p.addY q))).of (by grind))
theorem Pt.assoc (p q r : Pt) : (p.add q).add r = p.add (q.add r) := by
  rw [Pt.add_comm p (q.add r)]
  have hx := assocX dI p.x p.y q.x q.y r.x r.y
  have hy := assocY dI p.x p.y q.x q.y r.x r.y
  rw [← onE_eq, ← onE_eq, ← onE_eq] at hx hy
  have ax := p.on.c3 q.on r.on _ _ _ hx
  have ay := p.on.c3 q.on r.on _ _ _ hy
  refine Pt.ext' ?_ ?_
  · refine cancelZ (nzMul (p.nzD q r) (q.nzD r p)) ?_
    exact ax.c3 (p.add3X q r) (q.add3X r p) 1 (d1 dI q.x q.y r.x r.y p.x p.y) (-(d1 dI p.x p.y q.x q.y r.x r.y)) (by grind)
  · refine cancelZ (nzMul (p.nzE q r) (q.nzE r p)) ?_
    exact ay.c3 (p.add3Y q r) (q.add3Y r p) 1 (e1 dI q.x q.y r.x r.y p.x p.y) (-(e1 dI p.x p.y q.x q.y r.x r.y)) (by grind)
def nP : Nat → Pt → Pt
  | 0, _ => Pt.zero
  | n + 1, p => (nP n p).add p
theorem Pt.zero_add (p : Pt) : Pt.zero.add p = p := by rw [Pt.add_comm, Pt.add_zero]
theorem nP_add (m n : Nat) (p : Pt) : nP (m + n) p = (nP m p).add (nP n p) := by
  induction n with
  | zero => rw [Nat.add_zero]; exact (Pt.add_zero _).symm
  | succ n ih => rw [Nat.add_succ, nP, ih, Pt.assoc]; rfl
theorem nP_one (p : Pt) : nP 1 p = p := Pt.zero_add p
theorem nP_two (p : Pt) : nP 2 p = p.add p := by rw [nP, nP_one]
theorem nP_mul (m n : Nat) (p : Pt) : nP (m * n) p = nP m (nP n p) := by
  induction m with
  | zero => rw [Nat.zero_mul]; rfl
  | succ m ih => rw [Nat.succ_mul, nP_add, ih]; rfl
end Go.Sx
namespace Go.Sx
set_option linter.unusedSectionVars false
theorem ptX_mod (a b : List Nat) : ptX a b % PI = ptX a b := by
  unfold ptX
  split
  · rename_i ho
    unfold onW at ho
    simp only [Bool.and_eq_true, decide_eq_true_eq] at ho
    have := PI_PP
    exact Int.emod_eq_of_lt (by omega) (by omega)
  · rfl
theorem ptY_mod (a b : List Nat) : ptY a b % PI = ptY a b := by
  unfold ptY
  split
  · rename_i ho
    unfold onW at ho
    simp only [Bool.and_eq_true, decide_eq_true_eq] at ho
    have := PI_PP
    exact Int.emod_eq_of_lt (by omega) (by omega)
  · decide
theorem onZ_iff (x y : Int) : onZ x y = true ↔ Zp (onE x y) := by
  unfold onZ
  rw [decide_eq_true_eq, ← zp_iff]
  have : y * y - x * x - dI * (x * x * (y * y)) - 1 = onE x y := by unfold onE; grind
  rw [this]
theorem pt_on (a b : List Nat) : Zp (onE (ptX a b) (ptY a b)) := by
  unfold ptX ptY
  split
  · rename_i ho
    unfold onW at ho
    simp only [Bool.and_eq_true, decide_eq_true_eq] at ho
    exact (onZ_iff _ _).1 ho.2.2
  · exact onE01
def ptOf (a b : List Nat) : Pt := ⟨ptX a b, ptY a b, ptX_mod a b, ptY_mod a b, pt_on a b⟩
theorem Pt.lo (p : Pt) : 0 ≤ p.x ∧ p.x < PI ∧ 0 ≤ p.y ∧ p.y < PI := by
  have h1 := Int.emod_nonneg p.x (show PI ≠ 0 by decide)
  have h2 := Int.emod_lt_of_pos p.x PI_pos
  have h3 := Int.emod_nonneg p.y (show PI ≠ 0 by decide)
  have h4 := Int.emod_lt_of_pos p.y PI_pos
  rw [p.hx] at h1 h2
  rw [p.hy] at h3 h4
  exact ⟨h1, h2, h3, h4⟩
theorem Pt.nx (p : Pt) : ((num (fi p.x) : Nat) : Int) = p.x := by rw [num_fi, castN, p.hx]
theorem Pt.ny (p : Pt) : ((num (fi p.y) : Nat) : Int) = p.y := by rw [num_fi, castN, p.hy]
theorem Pt.onW (p : Pt) : onW (fi p.x) (fi p.y) = true := by
  unfold Go.Sx.onW
  have h1 : num (fi p.x) < PP := by rw [num_fi]; exact toN_lt _
  have h2 : num (fi p.y) < PP := by rw [num_fi]; exact toN_lt _
  rw [decide_eq_true h1, decide_eq_true h2, p.nx, p.ny, (onZ_iff _ _).2 p.on]
  rfl
theorem Pt.ptX (p : Pt) : ptX (fi p.x) (fi p.y) = p.x := by unfold Go.Sx.ptX; rw [if_pos p.onW, p.nx]
theorem Pt.ptY (p : Pt) : ptY (fi p.x) (fi p.y) = p.y := by unfold Go.Sx.ptY; rw [if_pos p.onW, p.ny]
theorem Pt.of (p : Pt) : ptOf (fi p.x) (fi p.y) = p := by
  refine Pt.ext' ?_ ?_
  · show Zp (Go.Sx.ptX _ _ - p.x); rw [p.ptX, Int.sub_self]; exact Zp.zero
  · show Zp (Go.Sx.ptY _ _ - p.y); rw [p.ptY, Int.sub_self]; exact Zp.zero
def Rp (q : Z4) (p : Pt) : Prop := ¬ Zp q.2.2.1 ∧ Zp (q.1 - p.x * q.2.2.1) ∧ Zp (q.2.1 - p.y * q.2.2.1) ∧ Zp (q.2.2.2 - p.x * p.y * q.2.2.1)
theorem efgh {e f g h : Int} {p : Pt} (hf : ¬ Zp f) (hg : ¬ Zp g) (he : Zp (e - p.x * g)) (hh : Zp (h - p.y * f)) : Rp (e * f, g * h, f * g, e * h) p :=
  ⟨nzMul hf hg, he.c1 f (by grind), hh.c1 g (by grind), he.c2 hh h (p.x * g) (by grind)⟩
theorem nzOf {a b : Int} (h : ¬ Zp a) (k : Zp (b - a)) : ¬ Zp b := fun l => h ((l.sub k).of (by omega))
theorem sumAB {q r : Z4} {p t : Pt} (hq : Rp q p) (hr : Rp r t) :
    Zp (q.1 * r.2.1 + r.1 * q.2.1 - tX p.x p.y t.x t.y * (q.2.2.1 * r.2.2.1)) ∧
    Zp (q.2.1 * r.2.1 + q.1 * r.1 - tY p.x p.y t.x t.y * (q.2.2.1 * r.2.2.1)) ∧
    Zp ((q.2.2.1 * r.2.2.1 - dI * (q.2.2.2 * r.2.2.2)) - (1 - kE dI p.x p.y t.x t.y) * (q.2.2.1 * r.2.2.1)) ∧
    Zp ((q.2.2.1 * r.2.2.1 + dI * (q.2.2.2 * r.2.2.2)) - (1 + kE dI p.x p.y t.x t.y) * (q.2.2.1 * r.2.2.1)) := by
  obtain ⟨X, Y, Z, T⟩ := q
  obtain ⟨U, V, W, S⟩ := r
  obtain ⟨_, a1, a2, a3⟩ := hq
  obtain ⟨_, b1, b2, b3⟩ := hr
  simp only at *
  refine ⟨?_, ?_, ?_, ?_⟩
  · exact a1.c4 b2 b1 a2 V (p.x * Z) Y (t.x * W) (by unfold tX; grind)
  · exact a2.c4 b2 a1 b1 V (p.y * Z) U (p.x * Z) (by unfold tY; grind)
  · exact a3.c2 b3 (-(dI * S)) (-(dI * (p.x * p.y * Z))) (by unfold kE; grind)
  · exact a3.c2 b3 (dI * S) (dI * (p.x * p.y * Z)) (by unfold kE; grind)
theorem sumRp' {q r : Z4} {p t : Pt} (hq : Rp q p) (hr : Rp r t) {e f g h c : Int} (hc : ¬ Zp c) (he : e = c * (q.1 * r.2.1 + r.1 * q.2.1)) (hh : h = c * (q.2.1 * r.2.1 + q.1 * r.1)) (hf : f = c * (q.2.2.1 * r.2.2.1 - dI * (q.2.2.2 * r.2.2.2))) (hg : g = c * (q.2.2.1 * r.2.2.1 + dI * (q.2.2.2 * r.2.2.2))) : Rp (e * f, g * h, f * g, e * h) (p.add t) := by
  obtain ⟨s1, s2, s3, s4⟩ := sumAB hq hr
  have hw := nzMul hq.1 hr.1
  have ax := p.addX t
  have ay := p.addY t
  have f0 := nzMul hc (nzOf (nzMul (nzM p.on t.on) hw) s3)
  have g0 := nzMul hc (nzOf (nzMul (nzP p.on t.on) hw) s4)
  rw [← hf] at f0
  rw [← hg] at g0
  refine efgh f0 g0 ?_ ?_
  · exact ax.c3 s1 s4 (-(c * (q.2.2.1 * r.2.2.1))) c (-(c * (p.add t).x)) (by rw [he, hg]; grind)
  · exact ay.c3 s2 s3 (-(c * (q.2.2.1 * r.2.2.1))) c (-(c * (p.add t).y)) (by rw [hh, hf]; grind)
def sumP (p q : Z4) : Z4 := (((p.2.1 + p.1) * (q.2.1 + q.1) - (p.2.1 - p.1) * (q.2.1 - q.1)) * (p.2.2.1 * q.2.2.1 + p.2.2.1 * q.2.2.1 - p.2.2.2 * (dI + dI) * q.2.2.2), (p.2.2.1 * q.2.2.1 + p.2.2.1 * q.2.2.1 + p.2.2.2 * (dI + dI) * q.2.2.2) * ((p.2.1 + p.1) * (q.2.1 + q.1) + (p.2.1 - p.1) * (q.2.1 - q.1)), (p.2.2.1 * q.2.2.1 + p.2.2.1 * q.2.2.1 - p.2.2.2 * (dI + dI) * q.2.2.2) * (p.2.2.1 * q.2.2.1 + p.2.2.1 * q.2.2.1 + p.2.2.2 * (dI + dI) * q.2.2.2), ((p.2.1 + p.1) * (q.2.1 + q.1) - (p.2.1 - p.1) * (q.2.1 - q.1)) * ((p.2.1 + p.1) * (q.2.1 + q.1) + (p.2.1 - p.1) * (q.2.1 - q.1)))
theorem sumPRp {q r : Z4} {p t : Pt} (hq : Rp q p) (hr : Rp r t) : Rp (sumP q r) (p.add t) :=
  sumRp' hq hr (c := 2) two_nz (by grind) (by grind) (by grind) (by grind)
def twiceP (p : Z4) : Z4 := (((p.1 + p.2.1) * (p.1 + p.2.1) - p.1 * p.1 - p.2.1 * p.2.1) * (p.2.1 * p.2.1 - p.1 * p.1 - (p.2.2.1 * p.2.2.1 + p.2.2.1 * p.2.2.1)), (p.2.1 * p.2.1 - p.1 * p.1) * -(p.1 * p.1 + p.2.1 * p.2.1), (p.2.1 * p.2.1 - p.1 * p.1 - (p.2.2.1 * p.2.2.1 + p.2.2.1 * p.2.2.1)) * (p.2.1 * p.2.1 - p.1 * p.1), ((p.1 + p.2.1) * (p.1 + p.2.1) - p.1 * p.1 - p.2.1 * p.2.1) * -(p.1 * p.1 + p.2.1 * p.2.1))
theorem twiceRp {q : Z4} {p : Pt} (hq : Rp q p) : Rp (twiceP q) (p.add p) := by
  have ax := p.addX p
  have ay := p.addY p
  have hn := hq.1
  have hw := nzMul hq.1 hq.1
  have n1 := nzMul (nzM p.on p.on) hw
  have n2 := nzMul (nzP p.on p.on) hw
  have ho := p.on
  obtain ⟨X, Y, Z, T⟩ := q
  obtain ⟨_, a1, a2, a3⟩ := hq
  simp only at *
  have hg : Zp ((Y * Y - X * X) - (1 + kE dI p.x p.y p.x p.y) * (Z * Z)) := a1.c3 a2 ho (-(X + p.x * Z)) (Y + p.y * Z) (Z * Z) (by unfold kE onE; grind)
  have hf : Zp ((Y * Y - X * X - (Z * Z + Z * Z)) - -((1 - kE dI p.x p.y p.x p.y) * (Z * Z))) := hg.of (by grind)
  refine efgh (nzOf (fun h => n1 (h.neg.of (by grind))) hf) (nzOf n2 hg) ?_ ?_
  · exact ax.c4 hg a1 a2 (-(Z * Z)) (-(p.add p).x) (2 * Y) (2 * (p.x * Z)) (by unfold tX; grind)
  · exact ay.c4 hf a1 a2 (Z * Z) (-(p.add p).y) (-(X + p.x * Z)) (-(Y + p.y * Z)) (by unfold tY; grind)
theorem wholeRp {q : Z4} {p : Pt} (hq : Rp q p) : fi (q.1 * iv q.2.2.1) = fi p.x ∧ fi (q.2.1 * iv q.2.2.1) = fi p.y := by
  obtain ⟨hz, a1, a2, _⟩ := hq
  have hi := ivM hz
  constructor
  · exact fi_congr (zp_iff.1 (a1.c2 hi (iv q.2.2.1) p.x (by grind)))
  · exact fi_congr (zp_iff.1 (a2.c2 hi (iv q.2.2.1) p.y (by grind)))
theorem openRp (p : Pt) : Rp (p.x, p.y, 1, p.x * p.y) p := ⟨one_nz, Zp.zero.of (by grind), Zp.zero.of (by grind), Zp.zero.of (by grind)⟩
theorem zeroRp : Rp (0, 1, 1, 0 * 1) Pt.zero := openRp Pt.zero
def lowN (s : List Nat) : Nat → Nat
  | 0 => 0
  | k + 1 => bitN s k * 2 ^ k + lowN s k
def nS (s : List Nat) : Nat := lowN s (8 * min s.length 32)
end Go.Sx
namespace Go.Sx
set_option linter.unusedSectionVars false
theorem bitE2 {s : List Nat} {i : Nat} (hi : i < 1000000) (hs : s.length < 9223372036854775808) : g51v realA s i = some (.v (.cell (.int .i64 (bitN s i : Nat)))) := by
  unfold g51v g51
  have q : realA.ib .quo .i64 (i : Int) 8 = ((i / 8 : Nat) : Int) := by rw [ar_quo (by omega) (by omega) (by omega)]; rfl
  have m : realA.ib .rem .i64 (i : Int) 8 = ((i % 8 : Nat) : Int) := by rw [ar_rem (by omega)]; rfl
  rw [ar_lss, q, ar_geq, ar_ofN]
  rw [decide_eq_false (by omega)]
  simp only []
  by_cases hl : i / 8 < s.length
  · rw [decide_eq_false (by omega)]
    simp only []
    unfold g51J3
    rw [q, m]
    simp only [ar_negN, ar_toNN, ar_lt, decide_eq_true hl, ar_nshr, ar_ofN, and1]
    rfl
  · rw [decide_eq_true (by omega)]
    simp only []
    unfold bitN
    rw [List.getD_eq_getElem?_getD, List.getElem?_eq_none (by omega)]
    show some (i6 0) = some (.v (.cell (.int .i64 (((0 : Nat) / 2 ^ (i % 8) % 2 : Nat) : Int))))
    rw [Nat.zero_div]
    rfl
theorem bitP {s : List Nat} {i : Nat} (hi : i < 1000000) (hs : s.length < 9223372036854775808) : g51ok realA s i = true ∧ g51r0 realA s i = (bitN s i : Nat) := ⟨by unfold g51ok; rw [bitE2 hi hs]; rfl, by unfold g51r0; rw [bitE2 hi hs]; rfl⟩
theorem g52of {A : Ar} {a b c d z x y u v w : List Nat} (e : g52v A a b c d z = some (.v (.agg [.nums .u64 4 x, .nums .u64 4 y, .nums .u64 4 u, .nums .u64 4 v, .nums .u64 4 w]))) : g52ok A a b c d z = true ∧ g52r0 A a b c d z = x ∧ g52r1 A a b c d z = y ∧ g52r2 A a b c d z = u ∧ g52r3 A a b c d z = v ∧ g52r4 A a b c d z = w := ⟨by unfold g52ok; rw [e]; rfl, by unfold g52r0; rw [e]; rfl, by unfold g52r1; rw [e]; rfl, by unfold g52r2; rw [e]; rfl, by unfold g52r3; rw [e]; rfl, by unfold g52r4; rw [e]; rfl⟩
theorem twiceE {A : Ar} (h : FOK A) (p : Z4) (d : Int) : g52ok A (fi p.1) (fi p.2.1) (fi p.2.2.1) (fi p.2.2.2) (fi d) = true ∧ g52r0 A (fi p.1) (fi p.2.1) (fi p.2.2.1) (fi p.2.2.2) (fi d) = fi (twiceP p).1 ∧ g52r1 A (fi p.1) (fi p.2.1) (fi p.2.2.1) (fi p.2.2.2) (fi d) = fi (twiceP p).2.1 ∧ g52r2 A (fi p.1) (fi p.2.1) (fi p.2.2.1) (fi p.2.2.2) (fi d) = fi (twiceP p).2.2.1 ∧ g52r3 A (fi p.1) (fi p.2.1) (fi p.2.2.1) (fi p.2.2.2) (fi d) = fi (twiceP p).2.2.2 ∧ g52r4 A (fi p.1) (fi p.2.1) (fi p.2.2.1) (fi p.2.2.2) (fi d) = fi d := by
  refine g52of ?_
  unfold g52v g52
  simp only [h.mul, h.add, h.sub, h.neg, g52t0, g52t1]
  rfl
theorem addE (p q : Z4) : g37ok realA (fi p.1) (fi p.2.1) (fi p.2.2.1) (fi p.2.2.2) (fi (dI + dI)) (fi q.1) (fi q.2.1) (fi q.2.2.1) (fi q.2.2.2) (fi (dI + dI)) = true ∧
    g37r0 realA (fi p.1) (fi p.2.1) (fi p.2.2.1) (fi p.2.2.2) (fi (dI + dI)) (fi q.1) (fi q.2.1) (fi q.2.2.1) (fi q.2.2.2) (fi (dI + dI)) = fi (sumP p q).1 ∧
    g37r1 realA (fi p.1) (fi p.2.1) (fi p.2.2.1) (fi p.2.2.2) (fi (dI + dI)) (fi q.1) (fi q.2.1) (fi q.2.2.1) (fi q.2.2.2) (fi (dI + dI)) = fi (sumP p q).2.1 ∧
    g37r2 realA (fi p.1) (fi p.2.1) (fi p.2.2.1) (fi p.2.2.2) (fi (dI + dI)) (fi q.1) (fi q.2.1) (fi q.2.2.1) (fi q.2.2.2) (fi (dI + dI)) = fi (sumP p q).2.2.1 ∧
    g37r3 realA (fi p.1) (fi p.2.1) (fi p.2.2.1) (fi p.2.2.2) (fi (dI + dI)) (fi q.1) (fi q.2.1) (fi q.2.2.1) (fi q.2.2.2) (fi (dI + dI)) = fi (sumP p q).2.2.2 ∧
    g37r4 realA (fi p.1) (fi p.2.1) (fi p.2.2.1) (fi p.2.2.2) (fi (dI + dI)) (fi q.1) (fi q.2.1) (fi q.2.2.1) (fi q.2.2.2) (fi (dI + dI)) = fi (dI + dI) :=
  addP fok p.1 p.2.1 p.2.2.1 p.2.2.2 (dI + dI) q.1 q.2.1 q.2.2.1 q.2.2.2 (dI + dI)
def mulP' (s : List Nat) : Nat → Nat → Z4 → Z4 → Z4
  | 0, _, _, o => o
  | k + 1, i, w, o => mulP' s k (i + 1) (twiceP w) (if bitN s i = 0 then o else sumP o w)
theorem mulLoopP (n : Nat) (s : List Nat) (hs : s.length < 9223372036854775808) (x3 x4 : List Nat) (t : Nat) (ht : t ≤ 256) : ∀ (k m i : Nat) (w o : Z4), i + k = t →
    g20L3 realA n (fun v _ => some v) (m + k + 1) s (t : Nat) (i : Nat) x3 x4 (fi w.1) (fi w.2.1) (fi w.2.2.1) (fi w.2.2.2) (fi (dI + dI)) (fi o.1) (fi o.2.1) (fi o.2.2.1) (fi o.2.2.2) (fi (dI + dI)) = some (.v (.agg [.nums .u64 4 (fi ((mulP' s k i w o).1 * iv (mulP' s k i w o).2.2.1)), .nums .u64 4 (fi ((mulP' s k i w o).2.1 * iv (mulP' s k i w o).2.2.1))])) := by
  intro k
  induction k with
  | zero =>
    intro m i w o hi
    rw [g20L3, ar_lss, decide_eq_false (by omega)]
    obtain ⟨w1, w2, w3⟩ := closeP fok o.1 o.2.1 o.2.2.1 o.2.2.2 (dI + dI)
    simp only [w1, w2, w3]
    rfl
  | succ k ih =>
    intro m i w o hi
    rw [show m + (k + 1) + 1 = (m + k + 1) + 1 by omega, g20L3, ar_lss, decide_eq_true (by omega)]
    simp only []
    unfold g20J4
    obtain ⟨b1, b2⟩ := bitP (s := s) (i := i) (by omega) hs
    obtain ⟨s0, s1, s2, s3, s4, s5⟩ := twiceE fok w (dI + dI)
    have es : mulP' s (k + 1) i w o = mulP' s k (i + 1) (twiceP w) (if bitN s i = 0 then o else sumP o w) := rfl
    have ei : realA.ib .add .i64 (i : Int) 1 = ((i + 1 : Nat) : Int) := (ar_add (a := (i : Int)) (b := 1) (by omega)).trans (by omega)
    rw [b1, b2, ar_neq, s0, es, s1, s2, s3, s4, s5, ei]
    by_cases hb : bitN s i = 0
    · rw [if_pos hb, decide_eq_true (show (bitN s i : Int) = 0 by omega)]
      simp only [Bool.not_true]
      exact ih m (i + 1) (twiceP w) o (by omega)
    · rw [if_neg hb, decide_eq_false (show ¬ (bitN s i : Int) = 0 by omega)]
      obtain ⟨t0, t1, t2, t3, t4, t5⟩ := addE o w
      simp only [Bool.not_false, t0, t1, t2, t3, t4, t5]
      exact ih m (i + 1) (twiceP w) (sumP o w) (by omega)
theorem mulP'Rp (s : List Nat) {p : Pt} : ∀ (k i : Nat) (w o : Z4), Rp w (nP (2 ^ i) p) → Rp o (nP (lowN s i) p) → Rp (mulP' s k i w o) (nP (lowN s (i + k)) p) := by
  intro k
  induction k with
  | zero => intro i w o _ ho; exact ho
  | succ k ih =>
    intro i w o hw ho
    rw [mulP', show i + (k + 1) = (i + 1) + k by omega]
    refine ih _ _ _ ?_ ?_
    · have := twiceRp hw
      rwa [← nP_two, ← nP_mul, Nat.mul_comm, ← Nat.pow_succ] at this
    · rw [lowN]
      by_cases hb : bitN s i = 0
      · rw [if_pos hb, hb, Nat.zero_mul, Nat.zero_add]
        exact ho
      · have : bitN s i = 1 := by have := bitN_lt s i; omega
        rw [if_neg hb, this, Nat.one_mul, nP_add, Pt.add_comm]
        exact sumPRp ho hw
theorem g20of {A : Ar} {s a b x y : List Nat} (e : g20v A s a b = some (.v (.agg [.nums .u64 4 x, .nums .u64 4 y]))) : g20ok A s a b = true ∧ g20r0 A s a b = x ∧ g20r1 A s a b = y := ⟨by unfold g20ok; rw [e]; rfl, by unfold g20r0; rw [e]; rfl, by unfold g20r1; rw [e]; rfl⟩
theorem g20Shape (A : Ar) (h : FOK A) (n : Nat) {s a b : List Nat} (ha : W4 a) (hb : W4 b) : g20 A n (fun v _ => some v) s a b = g20L3 A n (fun v _ => some v) n s (A.ib .mul .i64 8 (A.mn (A.ofN s.length) 32)) 0 [0, 0, 0, 0] [0, 0, 0, 0] (fi (ptX a b)) (fi (ptY a b)) (fi 1) (fi (ptX a b * ptY a b)) (fi (dI + dI)) (fi (ptX (fi 0) (fi 1))) (fi (ptY (fi 0) (fi 1))) (fi 1) (fi (ptX (fi 0) (fi 1) * ptY (fi 0) (fi 1))) (fi (dI + dI)) := by
  unfold g20
  simp only [openP h ha hb, zeroP h, openP h (fi_W4 0) (fi_W4 1)]
theorem MulPpt {s a b : List Nat} (ha : W4 a) (hb : W4 b) (hs : s.length < 9223372036854775808) : g20ok realA s a b = true ∧ g20r0 realA s a b = fi (nP (nS s) (ptOf a b)).x ∧ g20r1 realA s a b = fi (nP (nS s) (ptOf a b)).y := by
  refine g20of ?_
  unfold g20v
  rw [g20Shape realA fok 100000 ha hb, ptO.1, ptO.2]
  have e1 : realA.ib .mul .i64 8 (realA.mn (realA.ofN s.length) 32) = ((8 * min s.length 32 : Nat) : Int) := by
    rw [ar_ofN, ar_mn, ar_mul (by omega)]
    omega
  have hp : Rp (ptX a b, ptY a b, 1, ptX a b * ptY a b) (nP (2 ^ 0) (ptOf a b)) := by
    show Rp _ (nP 1 _)
    rw [nP_one]
    exact openRp (ptOf a b)
  have hr := mulP'Rp s (8 * min s.length 32) 0 _ (0, 1, 1, 0 * 1) hp zeroRp
  rw [Nat.zero_add] at hr
  obtain ⟨r1, r2⟩ := wholeRp hr
  rw [e1, show 100000 = (99999 - 8 * min s.length 32) + 8 * min s.length 32 + 1 by omega]
  refine (mulLoopP _ s hs [0, 0, 0, 0] [0, 0, 0, 0] (8 * min s.length 32) (by omega) (8 * min s.length 32) _ 0 (ptX a b, ptY a b, 1, ptX a b * ptY a b) (0, 1, 1, 0 * 1) (by omega)).trans ?_
  rw [r1, r2]
  rfl
theorem mulPt (p : Pt) {s : List Nat} (hs : s.length < 9223372036854775808) : g20ok realA s (fi p.x) (fi p.y) = true ∧ g20r0 realA s (fi p.x) (fi p.y) = fi (nP (nS s) p).x ∧ g20r1 realA s (fi p.x) (fi p.y) = fi (nP (nS s) p).y := by
  have := MulPpt (fi_W4 p.x) (fi_W4 p.y) hs
  rwa [p.of] at this
theorem addPt (p q : Pt) : g14ok realA (fi p.x) (fi p.y) (fi q.x) (fi q.y) = true ∧ g14r0 realA (fi p.x) (fi p.y) (fi q.x) (fi q.y) = fi (p.add q).x ∧ g14r1 realA (fi p.x) (fi p.y) (fi q.x) (fi q.y) = fi (p.add q).y := by
  obtain ⟨h1, h2, h3⟩ := AddP fok (fi_W4 p.x) (fi_W4 p.y) (fi_W4 q.x) (fi_W4 q.y)
  rw [p.ptX, p.ptY, q.ptX, q.ptY] at h2 h3
  exact ⟨h1, h2.trans (fi_congr (Int.emod_emod _ _).symm), h3.trans (fi_congr (Int.emod_emod _ _).symm)⟩
theorem negPt (p : Pt) : g16ok realA (fi p.x) (fi p.y) = true ∧ g16r0 realA (fi p.x) (fi p.y) = fi p.neg.x ∧ g16r1 realA (fi p.x) (fi p.y) = fi p.neg.y := by
  obtain ⟨h1, h2, h3⟩ := NegP fok (fi_W4 p.x) (fi_W4 p.y)
  rw [p.ptX] at h2
  rw [p.ptY] at h3
  exact ⟨h1, h2.trans (fi_congr (Int.emod_emod _ _).symm), h3⟩
theorem onPt (p : Pt) : g18ok realA (fi p.x) (fi p.y) = true ∧ g18r0 realA (fi p.x) (fi p.y) = true := by
  obtain ⟨h1, h2⟩ := onP fok (fi_W4 p.x) (fi_W4 p.y)
  exact ⟨h1, h2.trans p.onW⟩
def Pt.base : Pt := ptOf (fi BX) (fi BY)
theorem ptOf_x (a b : List Nat) : (ptOf a b).x = ptX a b := rfl
theorem ptOf_y (a b : List Nat) : (ptOf a b).y = ptY a b := rfl
theorem base_x : Pt.base.x = BX := by unfold Pt.base; rw [ptOf_x]; exact ptB.1
theorem base_y : Pt.base.y = BY := by unfold Pt.base; rw [ptOf_y]; exact ptB.2
theorem basePt : g22ok realA = true ∧ g22r0 realA = fi Pt.base.x ∧ g22r1 realA = fi Pt.base.y := by
  obtain ⟨h1, h2, h3⟩ := baseP fok
  exact ⟨h1, by rw [h2, base_x], by rw [h3, base_y]⟩
theorem zeroPt : g24ok realA = true ∧ g24r0 realA = fi Pt.zero.x ∧ g24r1 realA = fi Pt.zero.y := zeroP fok
end Go.Sx
namespace Go.Sx
set_option linter.unusedSectionVars false
theorem Rp.congr {q r : Z4} {p : Pt} (h : Rp q p) (h1 : Zp (r.1 - q.1)) (h2 : Zp (r.2.1 - q.2.1)) (h3 : Zp (r.2.2.1 - q.2.2.1)) (h4 : Zp (r.2.2.2 - q.2.2.2)) : Rp r p := by
  obtain ⟨a, b, c, d⟩ := h
  exact ⟨nzOf a h3, b.c3 h1 h3 1 1 (-p.x) (by grind), c.c3 h2 h3 1 1 (-p.y) (by grind), d.c3 h4 h3 1 1 (-(p.x * p.y)) (by grind)⟩
end Go.Sx
namespace Go.Sx
set_option linter.unusedSectionVars false
theorem baseRpt : g23ok realA = true ∧ g23r0 realA = fi Pt.base.x ∧ g23r1 realA = fi Pt.base.y := by
  obtain ⟨h1, h2, h3⟩ := baseR fok
  exact ⟨h1, by rw [h2, base_x], by rw [h3, base_y]⟩
structure PTK (A : Ar) : Prop where
  ex : g10ok A = true ∧ g10r0 A = true
  add : ∀ p q : Pt, g14ok A (fi p.x) (fi p.y) (fi q.x) (fi q.y) = true ∧ g14r0 A (fi p.x) (fi p.y) (fi q.x) (fi q.y) = fi (p.add q).x ∧ g14r1 A (fi p.x) (fi p.y) (fi q.x) (fi q.y) = fi (p.add q).y
  mul : ∀ (p : Pt) (s : List Nat), s.length < 9223372036854775808 → g20ok A s (fi p.x) (fi p.y) = true ∧ g20r0 A s (fi p.x) (fi p.y) = fi (nP (nS s) p).x ∧ g20r1 A s (fi p.x) (fi p.y) = fi (nP (nS s) p).y
  neg : ∀ p : Pt, g16ok A (fi p.x) (fi p.y) = true ∧ g16r0 A (fi p.x) (fi p.y) = fi p.neg.x ∧ g16r1 A (fi p.x) (fi p.y) = fi p.neg.y
  on : ∀ p : Pt, g18ok A (fi p.x) (fi p.y) = true ∧ g18r0 A (fi p.x) (fi p.y) = true
  base : g22ok A = true ∧ g22r0 A = fi Pt.base.x ∧ g22r1 A = fi Pt.base.y
  baseR : g23ok A = true ∧ g23r0 A = fi Pt.base.x ∧ g23r1 A = fi Pt.base.y
  zero : g24ok A = true ∧ g24r0 A = fi Pt.zero.x ∧ g24r1 A = fi Pt.zero.y
  zeroR : g25ok A = true ∧ g25r0 A = fi Pt.zero.x ∧ g25r1 A = fi Pt.zero.y
  lqs : ∀ x : Int, A.lq (fi x) (fi x) = true
theorem ptk : PTK realA where
  ex := exE
  add := addPt
  mul := fun p _ hs => mulPt p hs
  neg := negPt
  on := onPt
  base := basePt
  baseR := baseRpt
  zero := zeroPt
  zeroR := zeroR fok
  lqs := fun x => by rw [fok.lq]; exact decide_eq_true rfl
theorem g26of {A : Ar} {s x y : List Nat} (e : g26v A s = some (.v (.agg [.nums .u64 4 x, .nums .u64 4 y]))) : g26ok A s = true ∧ g26r0 A s = x ∧ g26r1 A s = y := ⟨by unfold g26ok; rw [e]; rfl, by unfold g26r0; rw [e]; rfl, by unfold g26r1; rw [e]; rfl⟩
theorem g26Shape (A : Ar) (h : PTK A) (n : Nat) (s t : List Nat) (k : Int) (e0 : A.mn (A.ofN s.length) 4 = k) (e1 : A.neg k = false) (e2 : A.le (A.toN k) s.length = true) (et : (s.take (A.toN k)).drop 0 = t) (ht : t.length < 9223372036854775808) : g26 A n (fun v _ => some v) s = some (.v (.agg [.nums .u64 4 (fi (nP (nS t) Pt.base).x), .nums .u64 4 (fi (nP (nS t) Pt.base).y)])) := by
  unfold g26
  simp only [e0, e1, e2, et, h.base, h.mul Pt.base t ht]
theorem leastE (s : List Nat) : ∃ p : Pt, g26ok realA s = true ∧ g26r0 realA s = fi p.x ∧ g26r1 realA s = fi p.y := by
  have n0 : realA.mn (realA.ofN s.length) 4 = ((min s.length 4 : Nat) : Int) := by rw [ar_mn, ar_ofN]; omega
  exact ⟨_, g26of (g26Shape realA ptk 100000 s _ _ n0 (ar_negN _) (by rw [ar_toNN, ar_le]; exact decide_eq_true (by omega)) rfl (by rw [List.length_drop, List.length_take, ar_toNN]; omega))⟩
end Go.Sx
namespace Go.Sx
set_option linter.unusedSectionVars false
theorem rootAlg (v x k : Nat) : (v * x ^ 2) * v ^ 3 * ((v * x ^ 2) * v ^ 7) ^ k = (x ^ (k + 1)) ^ 2 * v ^ (8 * k + 4) := by
  rw [show (v * x ^ 2) * v ^ 7 = x ^ 2 * v ^ 8 by grind, Nat.mul_pow, ← Nat.pow_mul, ← Nat.pow_mul, Nat.pow_succ x k, Nat.pow_add v (8 * k) 4, Nat.mul_comm 2 k, Nat.pow_mul]
  generalize x ^ k = a
  generalize v ^ (8 * k) = b
  grind
def ME (a b : Nat) : Prop := a % PP = b % PP
theorem ME.mul {a b c d : Nat} (h : ME a b) (k : ME c d) : ME (a * c) (b * d) := mmod h k
theorem ME.m {a b : Nat} (h : ME a b) : ME (a % PP) b := (Nat.mod_mod _ _).trans h
theorem ME.pow {a b : Nat} (h : ME a b) (k : Nat) : ME (a ^ k) (b ^ k) := powM h k
theorem ME.r {a : Nat} : ME a a := rfl
theorem K84 : 8 * KK + 4 = PM ∧ 2 * (KK + 1) * 2 = 2 + PM / 2 := by decide
theorem rootXE {u v x : Nat} (hv : v % PP ≠ 0) (hu : ME u (v * x ^ 2)) : ME (rootX u v) ((x ^ (KK + 1)) ^ 2) := by
  have c3 : ME (v * (v * v % PP) % PP) (v ^ 3) := (ME.mul ME.r (ME.m (show ME (v * v) (v * v) from rfl))).m.trans (by rw [show v * (v * v) = v ^ 3 by grind])
  have c7 : ME (v * ((v * (v * v % PP) % PP) * (v * (v * v % PP) % PP) % PP) % PP) (v ^ 7) := (ME.mul (ME.r (a := v)) (c3.mul c3).m).m.trans (by rw [show v * (v ^ 3 * v ^ 3) = v ^ 7 by grind])
  have ca : ME (u * (v * (v * v % PP) % PP) % PP) (v * x ^ 2 * v ^ 3) := (hu.mul c3).m
  have cb : ME (u * (v * ((v * (v * v % PP) % PP) * (v * (v * v % PP) % PP) % PP) % PP) % PP) (v * x ^ 2 * v ^ 7) := (hu.mul c7).m
  unfold rootX
  rw [pw_spec _ KK (by decide)]
  have h := (ca.mul (cb.pow KK).m).m
  rw [rootAlg, K84.1] at h
  refine h.trans ?_
  rw [Nat.mul_mod, fermat hv, Nat.mul_one, Nat.mod_mod]
theorem rootUV {u v x : Nat} (hu : u < PP) (hv : v % PP ≠ 0) (he : ME u (v * x ^ 2)) : (rootN u v).2 = true := by
  have hX := rootXE hv he
  have hC : rootC u v < PP := Nat.mod_lt _ PP_pos
  have e1 : ME (rootC u v) (v * x ^ 2 * x ^ (PM / 2)) := by
    unfold rootC
    have h := (ME.mul (ME.r (a := v)) (hX.mul hX).m).m
    refine h.trans ?_
    rw [← Nat.pow_mul, ← Nat.pow_add, show (KK + 1) * 2 + (KK + 1) * 2 = 2 * (KK + 1) * 2 by omega, K84.2, Nat.pow_add, Nat.mul_assoc]
  have e2 : rootC u v * rootC u v % PP = u * u % PP := by
    refine (e1.mul e1).trans ?_
    refine Eq.trans ?_ (he.mul he).symm
    have hh := halfPow x
    rw [← Nat.mul_mod, Nat.mod_mul_mod] at hh
    have := mmod hh (show v * v * (x * x * x) % PP = v * v * (x * x * x) % PP from rfl)
    generalize x ^ (PM / 2) = t at *
    rw [show v * x ^ 2 * t * (v * x ^ 2 * t) = t * t * x * (v * v * (x * x * x)) by grind, this]
    exact congrArg (· % PP) (by grind)
  cases h1 : Nat.beq (rootC u v) (u % PP) with
  | true => exact congrArg Prod.snd (rn1 h1)
  | false =>
    rcases sqE hC hu e2 with h | h
    · rw [h, Nat.mod_eq_of_lt hu, Nat.beq_refl] at h1
      cases h1
    · exact congrArg Prod.snd (rn2 h1 (by rw [Nat.mod_eq_of_lt hu, h]; rfl))
theorem vNZ (y : Int) : ¬ Zp (1 + y * y * dI) := by
  intro h
  have h2 : Zp y := dNS (w := iI) ((h.c2 iI2 1 (-1) (by grind)))
  exact one_nz (h.c2 h2 1 (-(y * dI)) (by grind))
theorem MEof {a b : Nat} (h : Zp ((a : Int) - b)) : ME a b := by
  have := zp_iff.1 h
  rw [← PI_PP, ← Int.natCast_emod, ← Int.natCast_emod] at this
  exact_mod_cast this
theorem zpC (a : Int) : Zp (((a % PI).toNat : Int) - a) := by rw [castN]; exact zpM a
theorem sideOn {x y : Int} (ho : Zp (onE x y)) : (sideN y).2 = true ∧ (Zp (((sideN y).1 : Int) - x) ∨ Zp (((sideN y).1 : Int) + x)) := by
  have hu := zpC (y * y - 1)
  have hv := zpC (1 + y * y * dI)
  have hx := zpC x
  have hv0 : ((1 + y * y * dI) % PI).toNat % PP ≠ 0 := by
    intro e
    exact vNZ y ((zpN _).2 e)
  have ht : (sideN y).2 = true := by
    unfold sideN
    refine rootUV (x := (x % PI).toNat) (toN_lt _) hv0 (MEof ?_)
    rw [Int.natCast_mul, Int.natCast_pow]
    generalize ((y * y - 1) % PI).toNat = u at *
    generalize ((1 + y * y * dI) % PI).toNat = v at *
    generalize (x % PI).toNat = z at *
    exact ((hu.c3 hv hx 1 (-((z : Int) ^ 2)) (-((1 + y * y * dI) * (z + x))) rfl).add ho).of (by unfold onE; grind)
  refine ⟨ht, ?_⟩
  have hs := rootN_true (toN_lt (y * y - 1)) (v := ((1 + y * y * dI) % PI).toNat) ht
  have h1 := hs.1
  have h2 : Zp ((((1 + y * y * dI) % PI).toNat : Int) * (((sideN y).1 : Int) * (sideN y).1) - ((y * y - 1) % PI).toNat) := by
    refine zp_iff.2 ?_
    have : ((((1 + y * y * dI) % PI).toNat * ((sideN y).1 * (sideN y).1 % PP) : Nat) : Int) % PI = (((y * y - 1) % PI).toNat : Int) % PI := natM (by
      refine Eq.trans h1 (Nat.mod_eq_of_lt (toN_lt _)).symm)
    rw [← this, ← Int.natCast_mul, ← Int.natCast_mul]
    exact natM (by rw [Nat.mul_mod_mod])
  generalize (sideN y).1 = r at *
  have h3 : Zp ((1 + y * y * dI) * (((r : Int) - x) * (r + x))) := by
    refine ((h2.c3 hv hu 1 (-((r : Int) * r)) 1 rfl).add ho).of ?_
    unfold onE
    grind
  exact (cancelZ (vNZ y) h3).or
theorem sideEven (y : Int) (ht : (sideN y).2 = true) : (sideN y).1 < PP ∧ (sideN y).1 % 2 = 0 ∧ Zp (onE (sideN y).1 y) := by
  have hs := rootN_true (toN_lt (y * y - 1)) (v := ((1 + y * y * dI) % PI).toNat) ht
  refine ⟨hs.2.1, hs.2.2, ?_⟩
  have h1 := hs.1
  have hu := zpC (y * y - 1)
  have hv := zpC (1 + y * y * dI)
  have h2 : Zp ((((1 + y * y * dI) % PI).toNat : Int) * (((sideN y).1 : Int) * (sideN y).1) - ((y * y - 1) % PI).toNat) := by
    refine zp_iff.2 ?_
    have : ((((1 + y * y * dI) % PI).toNat * ((sideN y).1 * (sideN y).1 % PP) : Nat) : Int) % PI = (((y * y - 1) % PI).toNat : Int) % PI := natM (by
      refine Eq.trans h1 (Nat.mod_eq_of_lt (toN_lt _)).symm)
    rw [← this, ← Int.natCast_mul, ← Int.natCast_mul]
    exact natM (by rw [Nat.mul_mod_mod])
  generalize (sideN y).1 = r at *
  exact (h2.c3 hv hu (-1) ((r : Int) * r) (-1) (by unfold onE; grind))
end Go.Sx
namespace Go.Sx
set_option linter.unusedSectionVars false
def plainT' (s : List Nat) : List Nat := s.take 31 ++ [s.getD 31 0 % 128]
def decN (s : List Nat) : Option (Int × Int) :=
  if s.length = 32 ∧ leval (plainT' s) < PP then
    (match sideN (leval (plainT' s) : Nat) with
     | (x, true) => if s.getD 31 0 < 128 then some ((x : Nat), (leval (plainT' s) : Nat)) else if x = 0 then none else some (-(x : Nat), (leval (plainT' s) : Nat))
     | (_, false) => none)
  else none
def decV : Option (Int × Int) → AV
  | some (x, y) => .tup [.agg [.nums .u64 4 (fi x), .nums .u64 4 (fi y)], .cell (.bool true)]
  | none => .tup [.agg [.nums .u64 4 [0, 0, 0, 0], .nums .u64 4 [0, 0, 0, 0]], .cell (.bool false)]
theorem bits128 : ∀ c, c < 256 → realA.nb .andNot .u8 c 128 = c % 128 ∧ realA.nc .eql (realA.nb .and .u8 c 128) 0 = decide (c < 128) ∧ realA.nb .rem .u8 c 128 = c % 128 ∧ realA.nc .geq c 128 = !(decide (c < 128)) := by
  have h : ((List.range 256).all fun c => Nat.beq (realA.nb .andNot .u8 c 128) (c % 128) && ((realA.nc .eql (realA.nb .and .u8 c 128) 0 == decide (c < 128)) && (Nat.beq (realA.nb .rem .u8 c 128) (c % 128) && (realA.nc .geq c 128 == !(decide (c < 128)))))) = true := by decide +kernel
  intro c hc
  have := List.all_eq_true.1 h c (List.mem_range.2 hc)
  simp only [Bool.and_eq_true, beq_iff_eq] at this
  exact ⟨beq_true this.1, this.2.1, beq_true this.2.2.1, this.2.2.2⟩
theorem plain_len {s : List Nat} (h : s.length = 32) : (plainT' s).length = 32 := by
  unfold plainT'
  rw [List.length_append, List.length_take, h]
  rfl
theorem plain_lt {s : List Nat} (hs : ∀ x ∈ s, x < 256) : ∀ x ∈ plainT' s, x < 256 := by
  intro x hx
  unfold plainT' at hx
  rcases List.mem_append.1 hx with h | h
  · exact hs x (List.mem_of_mem_take h)
  · have : x = s.getD 31 0 % 128 := by simpa using h
    omega
theorem half0 {r : Int} (h0 : 0 ≤ r) (h1 : r < PI) (h : (r + r) % PI = 0) : r = 0 := by
  by_cases hlt : r + r < PI
  · rw [Int.emod_eq_of_lt (by omega) hlt] at h
    omega
  · have e : (r + r) % PI = r + r - PI := by
      have : (r + r - PI) % PI = (r + r) % PI := Int.sub_emod_right (r + r) PI
      rw [← this, Int.emod_eq_of_lt (by omega) (by omega)]
    rw [e] at h
    have hp : PI = 2 * 28948022309329048855892746252171976963317496166410141009864396001978282409974 + 1 := by decide
    omega
theorem dbl0 (x : Int) : ((-x) % PI = x % PI) ↔ x % PI = 0 := by
  constructor
  · intro h
    refine half0 (Int.emod_nonneg x (by decide)) (Int.emod_lt_of_pos x PI_pos) ?_
    rw [← Int.add_emod]
    have : (x + x) % PI = (x + -x) % PI := by rw [Int.add_emod, ← h, ← Int.add_emod, Int.add_emod x (-x), h, ← Int.add_emod, Int.add_emod, h, ← Int.add_emod]
    rw [this, Int.add_right_neg]
    rfl
  · intro h
    rw [h, Int.neg_emod, if_pos (Int.dvd_of_emod_eq_zero h)]
theorem decP {s : List Nat} (hs : ∀ x ∈ s, x < 256) : g27v realA s = some (decV (decN s)) := by
  unfold g27v g27
  by_cases hl : s.length = 32
  · have e0 : realA.ic .neq (realA.ofN s.length) 32 = false := ofNat32 hl
    have c31 : s.getD 31 0 < 256 := getD_lt hs 31
    obtain ⟨b1, b2, _, _⟩ := bits128 _ c31
    have ht : (s.take 31).drop 0 ++ [realA.nb .andNot .u8 (s.getD 31 0) 128].take 1 = plainT' s := by rw [b1]; rfl
    rw [e0]
    simp only []
    unfold g27J3
    have n1 : Nat.blt 31 s.length = true := by rw [hl]; rfl
    have n2 : realA.le 31 s.length = true := decide_eq_true (by omega)
    have n3 : realA.le (((s.take 31).drop 0).length + ([realA.nb .andNot .u8 (s.getD 31 0) 128].take 1).length) 9223372036854775807 = true := decide_eq_true (by rw [List.length_drop, List.length_take]; show _ + 1 ≤ _; omega)
    rw [ht]
    obtain ⟨m0, hm⟩ := makeOk (plain_lt hs)
    simp only [n1, n2, n3, m0]
    unfold decN
    rcases hm with ⟨_, h2, h3, h4⟩ | ⟨h2, h3, h4⟩
    · rw [h3, h4, if_pos ⟨hl, h2⟩, fe_fi h2]
      simp only [Bool.not_true]
      unfold g27J7
      obtain ⟨s1, s2, s3⟩ := sideP fok (leval (plainT' s) : Nat)
      rw [s1, s2, s3]
      cases hside : sideN (leval (plainT' s) : Nat) with
      | mk x t =>
        cases t with
        | false => rfl
        | true =>
          simp only [Bool.not_true]
          unfold g27J10
          rw [b2]
          by_cases hc : s.getD 31 0 < 128
          · rw [decide_eq_true hc, if_pos hc]
            rfl
          · rw [decide_eq_false hc, if_neg hc]
            simp only []
            unfold g27J13
            obtain ⟨k1, k2⟩ := fok.neg (x : Nat)
            rw [k1, k2, fok.lq, fok.lq, decide_eq_true (rfl : (leval (plainT' s) : Int) % PI = _)]
            have hx : ((x : Nat) : Int) % PI = 0 ↔ x = 0 := by
              have : (x : Nat) < PP := by
                have hh : (rootN (((leval (plainT' s) : Nat) * (leval (plainT' s) : Nat) - 1 : Int) % PI).toNat ((1 + (leval (plainT' s) : Nat) * (leval (plainT' s) : Nat) * dI : Int) % PI).toNat) = (x, true) := hside
                have := (rootN_true (toN_lt _) (by rw [hh])).2.1
                rw [hh] at this
                exact this
              have e : ((x : Nat) : Int) % PI = x := by rw [← PI_PP]; exact Int.emod_eq_of_lt (by omega) (by exact_mod_cast this)
              rw [e]; omega
            by_cases h0 : x = 0
            · rw [if_pos h0, decide_eq_true ((dbl0 _).2 (hx.2 h0))]
              rfl
            · rw [if_neg h0, decide_eq_false (fun e => h0 (hx.1 ((dbl0 _).1 e)))]
              rfl
    · rw [h3, h4, if_neg (fun hh => h2 ⟨plain_len hl, hh.2⟩)]
      rfl
  · have e0 : realA.ic .neq (realA.ofN s.length) 32 = true := ofNat32' hl
    rw [e0]
    unfold decN
    rw [if_neg (fun hh => hl hh.1)]
    rfl
end Go.Sx
namespace Go.Sx
set_option linter.unusedSectionVars false
open Go.Proofs
set_option linter.unusedVariables false
set_option maxRecDepth 100000
theorem SxY05lpi {R : Type} (c : Bool) {f1 f2 : Nat → Option R} {a1 a2 : Option R} (h1 : Prs f1 a1) (h2 : Prs f2 a2) : Prs (fun k => match c with | true => f1 k | false => f2 k) (match c with | true => a1 | false => a2) := by cases c <;> assumption
attribute [local irreducible] g29ok g29r0 g18ok g18r0 g12ok g12r0 g12r1 g16ok g16r0 g16r1 g26ok g26r0 g26r1 g27ok g27r0 g27r1 g27r2 g10ok g10r0
def g9O (A : Ar) : Orc := orcOf [(10, g10o A), (26, g26o A), (12, g12o A), (27, g27o A), (16, g16o A), (18, g18o A), (29, g29o A)]
theorem g9O_sound : OSound Try.prog (g9O realA) := orc_sound fun f g hm args v hv => by
  simp only [List.mem_cons, List.not_mem_nil, or_false, Prod.mk.injEq] at hm
  rcases hm with ⟨rfl, rfl⟩ | ⟨rfl, rfl⟩ | ⟨rfl, rfl⟩ | ⟨rfl, rfl⟩ | ⟨rfl, rfl⟩ | ⟨rfl, rfl⟩ | ⟨rfl, rfl⟩
  · exact g10o_sound _ _ hv
  · exact g26o_sound _ _ hv
  · exact g12o_sound _ _ hv
  · exact g27o_sound _ _ hv
  · exact g16o_sound _ _ hv
  · exact g18o_sound _ _ hv
  · exact g29o_sound _ _ hv
theorem g9O_det : ODet (g9O realA) := orc_det _
def g9an : Ann := [(0, ([0, 1], [])), (1, ([0, 1], [])), (2, ([0, 1, 5], [])), (3, ([], [])), (4, ([0, 1, 5], [])), (5, ([1, 5, 6], [5002])), (6, ([1, 5, 6, 7, 8], [5002])), (7, ([1, 5, 6, 7, 8, 9, 10], [5002, 7005])), (8, ([1, 5, 6, 7, 8, 9, 10, 11, 12], [5002, 7005])), (9, ([], [])), (10, ([1, 5, 6, 7, 11], [5002])), (11, ([1, 5, 6, 7, 11, 13, 14], [5002, 11005])), (12, ([1, 5, 6, 7, 11, 13, 14, 15, 16], [5002, 11005])), (13, ([1, 5, 6, 7, 13, 14, 15, 16, 17], [5002, 11005]))]
def g9res : List ResultVar := [.tmp 4]
def g9cut : List Nat := [4, 10, 13]
noncomputable def g9N {R : Type} (A : Ar) (kk : AV → Heap → Option R) (t : List Bool → St → Option R) (p : List Bool) (s : St) : Option R := nodeN A gtys (g9O A) g9an g9cut t (bodyOf Try.f9) (finD gtys g9res kk) p s
def g9J13s (x0 : List Nat) (x1 : Bool) (x2 : List Nat) (x3 : Bool) (x4 : List Nat) (x5 : Bool) (x6 x7 : List Nat) (x8 x9 : List Nat) : St := ⟨[(1, (tS x0)), (5, (bO x1)), (6, (pT 5002 0)), (7, (tS x2)), (13, (pT 11005 0)), (14, (bO x3)), (15, (tS x4)), (16, (bO x5)), (17, (bO true))], [(5002, ⟨[.nums .u64 4 x6, .nums .u64 4 x7], 26, 1⟩), (11005, ⟨[.nums .u64 4 x8, .nums .u64 4 x9], 26, 1⟩)]⟩
def g9J13 {R : Type} (A : Ar) (n : Nat) (kk : AV → Heap → Option R)  (x0 : List Nat) (x1 : Bool) (x2 : List Nat) (x3 : Bool) (x4 : List Nat) (x5 : Bool) (x6 x7 : List Nat) (x8 x9 : List Nat) : Option R :=
  match x1 with
  | true => match !x3 with
    | true => match g29ok A x6 with
      | true => match Nat.blt 31 x2.length with
        | true => kk (bO ((g29r0 A x6) == (A.nc .geq (x2.getD 31 0) 128))) [(5002, ⟨[.nums .u64 4 x6, .nums .u64 4 x7], 26, 1⟩), (11005, ⟨[.nums .u64 4 x8, .nums .u64 4 x9], 26, 1⟩)]
        | false => none
      | false => none
    | false => match g18ok A x8 x9 with
      | true => match g18r0 A x8 x9 with
        | true => match x5 with
          | true => match A.sc .eql x4 x0 with
            | true => match g29ok A x6 with
              | true => match Nat.blt 31 x2.length with
                | true => kk (bO ((g29r0 A x6) == (A.nc .geq (x2.getD 31 0) 128))) [(5002, ⟨[.nums .u64 4 x6, .nums .u64 4 x7], 26, 1⟩), (11005, ⟨[.nums .u64 4 x8, .nums .u64 4 x9], 26, 1⟩)]
                | false => none
              | false => none
            | false => kk (bO false) [(5002, ⟨[.nums .u64 4 x6, .nums .u64 4 x7], 26, 1⟩), (11005, ⟨[.nums .u64 4 x8, .nums .u64 4 x9], 26, 1⟩)]
          | false => kk (bO false) [(5002, ⟨[.nums .u64 4 x6, .nums .u64 4 x7], 26, 1⟩), (11005, ⟨[.nums .u64 4 x8, .nums .u64 4 x9], 26, 1⟩)]
        | false => kk (bO false) [(5002, ⟨[.nums .u64 4 x6, .nums .u64 4 x7], 26, 1⟩), (11005, ⟨[.nums .u64 4 x8, .nums .u64 4 x9], 26, 1⟩)]
      | false => none
  | false => kk (bO false) [(5002, ⟨[.nums .u64 4 x6, .nums .u64 4 x7], 26, 1⟩), (11005, ⟨[.nums .u64 4 x8, .nums .u64 4 x9], 26, 1⟩)]
def g9J13as (x0 : List Nat) (x1 : Bool) (x2 : List Nat) (x3 : Bool) (x4 : List Nat) (x5 x6 : Bool) (x7 x8 : List Nat) (x9 x10 : List Nat) : St := ⟨[(1, (tS x0)), (5, (bO x1)), (6, (pT 5002 0)), (7, (tS x2)), (13, (pT 11005 0)), (14, (bO x3)), (15, (tS x4)), (16, (bO x5)), (17, (bO x6))], [(5002, ⟨[.nums .u64 4 x7, .nums .u64 4 x8], 26, 1⟩), (11005, ⟨[.nums .u64 4 x9, .nums .u64 4 x10], 26, 1⟩)]⟩
def g9J13a {R : Type} (A : Ar) (n : Nat) (kk : AV → Heap → Option R)  (x0 : List Nat) (x1 : Bool) (x2 : List Nat) (x3 : Bool) (x4 : List Nat) (x5 x6 : Bool) (x7 x8 : List Nat) (x9 x10 : List Nat) : Option R :=
  match x1 with
  | true => match x6 with
    | true => match !x3 with
      | true => match g29ok A x7 with
        | true => match Nat.blt 31 x2.length with
          | true => kk (bO ((g29r0 A x7) == (A.nc .geq (x2.getD 31 0) 128))) [(5002, ⟨[.nums .u64 4 x7, .nums .u64 4 x8], 26, 1⟩), (11005, ⟨[.nums .u64 4 x9, .nums .u64 4 x10], 26, 1⟩)]
          | false => none
        | false => none
      | false => match g18ok A x9 x10 with
        | true => match g18r0 A x9 x10 with
          | true => match x5 with
            | true => match A.sc .eql x4 x0 with
              | true => match g29ok A x7 with
                | true => match Nat.blt 31 x2.length with
                  | true => kk (bO ((g29r0 A x7) == (A.nc .geq (x2.getD 31 0) 128))) [(5002, ⟨[.nums .u64 4 x7, .nums .u64 4 x8], 26, 1⟩), (11005, ⟨[.nums .u64 4 x9, .nums .u64 4 x10], 26, 1⟩)]
                  | false => none
                | false => none
              | false => kk (bO false) [(5002, ⟨[.nums .u64 4 x7, .nums .u64 4 x8], 26, 1⟩), (11005, ⟨[.nums .u64 4 x9, .nums .u64 4 x10], 26, 1⟩)]
            | false => kk (bO false) [(5002, ⟨[.nums .u64 4 x7, .nums .u64 4 x8], 26, 1⟩), (11005, ⟨[.nums .u64 4 x9, .nums .u64 4 x10], 26, 1⟩)]
          | false => kk (bO false) [(5002, ⟨[.nums .u64 4 x7, .nums .u64 4 x8], 26, 1⟩), (11005, ⟨[.nums .u64 4 x9, .nums .u64 4 x10], 26, 1⟩)]
        | false => none
    | false => kk (bO false) [(5002, ⟨[.nums .u64 4 x7, .nums .u64 4 x8], 26, 1⟩), (11005, ⟨[.nums .u64 4 x9, .nums .u64 4 x10], 26, 1⟩)]
  | false => kk (bO false) [(5002, ⟨[.nums .u64 4 x7, .nums .u64 4 x8], 26, 1⟩), (11005, ⟨[.nums .u64 4 x9, .nums .u64 4 x10], 26, 1⟩)]
def g9J13bs (x0 : List Nat) (x1 : Bool) (x2 : List Nat) (x3 : Bool) (x4 : List Nat) (x5 : Bool) (x6 x7 : List Nat) (x8 x9 : List Nat) : St := ⟨[(1, (tS x0)), (5, (bO x1)), (6, (pT 5002 0)), (7, (tS x2)), (13, (pT 11005 0)), (14, (bO x3)), (15, (tS x4)), (16, (bO x5)), (17, (bO false))], [(5002, ⟨[.nums .u64 4 x6, .nums .u64 4 x7], 26, 1⟩), (11005, ⟨[.nums .u64 4 x8, .nums .u64 4 x9], 26, 1⟩)]⟩
def g9J13b {R : Type} (A : Ar) (n : Nat) (kk : AV → Heap → Option R)  (x0 : List Nat) (x1 : Bool) (x2 : List Nat) (x3 : Bool) (x4 : List Nat) (x5 : Bool) (x6 x7 : List Nat) (x8 x9 : List Nat) : Option R :=
  match x1 with
  | true => kk (bO false) [(5002, ⟨[.nums .u64 4 x6, .nums .u64 4 x7], 26, 1⟩), (11005, ⟨[.nums .u64 4 x8, .nums .u64 4 x9], 26, 1⟩)]
  | false => kk (bO false) [(5002, ⟨[.nums .u64 4 x6, .nums .u64 4 x7], 26, 1⟩), (11005, ⟨[.nums .u64 4 x8, .nums .u64 4 x9], 26, 1⟩)]
def g9J10s (x0 : List Nat) (x1 : Bool) (x2 x3 : List Nat) (x4 x5 : List Nat) : St := ⟨[(1, (tS x0)), (5, (bO x1)), (6, (pT 5002 0)), (7, (tS x2)), (11, (tS x3))], [(5002, ⟨[.nums .u64 4 x4, .nums .u64 4 x5], 26, 1⟩)]⟩
def g9J10 {R : Type} (A : Ar) (n : Nat) (kk : AV → Heap → Option R)  (x0 : List Nat) (x1 : Bool) (x2 x3 : List Nat) (x4 x5 : List Nat) : Option R :=
  match g27ok A x0 with
  | true => match g12ok A (g27r0 A x0) (g27r1 A x0) with
    | true => match Nat.blt 31 x2.length with
      | true => match Nat.blt 31 x3.length with
        | true => match A.nc .eql (A.nb .xor .u8 (x2.getD 31 0) (x3.getD 31 0)) 128 with
          | true => g9J13 A n kk  x0 x1 x2 (g27r2 A x0) (g12r0 A (g27r0 A x0) (g27r1 A x0)) (g12r1 A (g27r0 A x0) (g27r1 A x0)) x4 x5 (g27r0 A x0) (g27r1 A x0)
          | false => match (A.lq x4 [0, 0, 0, 0]) && true with
            | true => g9J13a A n kk  x0 x1 x2 (g27r2 A x0) (g12r0 A (g27r0 A x0) (g27r1 A x0)) (g12r1 A (g27r0 A x0) (g27r1 A x0)) (A.sc .eql x2 x3) x4 x5 (g27r0 A x0) (g27r1 A x0)
            | false => g9J13b A n kk  x0 x1 x2 (g27r2 A x0) (g12r0 A (g27r0 A x0) (g27r1 A x0)) (g12r1 A (g27r0 A x0) (g27r1 A x0)) x4 x5 (g27r0 A x0) (g27r1 A x0)
        | false => none
      | false => none
    | false => none
  | false => none
def g9J4s (x0 x1 : List Nat) (x2 : Bool) : St := ⟨[(0, (tS x0)), (1, (tS x1)), (5, (bO x2))], []⟩
def g9J4 {R : Type} (A : Ar) (n : Nat) (kk : AV → Heap → Option R)  (x0 x1 : List Nat) (x2 : Bool) : Option R :=
  match g26ok A x0 with
  | true => match g12ok A (g26r0 A x0) (g26r1 A x0) with
    | true => match g27ok A (g12r0 A (g26r0 A x0) (g26r1 A x0)) with
      | true => match g16ok A (g26r0 A x0) (g26r1 A x0) with
        | true => match g12ok A (g16r0 A (g26r0 A x0) (g26r1 A x0)) (g16r1 A (g26r0 A x0) (g26r1 A x0)) with
          | true => match !(g12r1 A (g26r0 A x0) (g26r1 A x0)) with
            | true => kk (bO false) []
            | false => match !(g27r2 A (g12r0 A (g26r0 A x0) (g26r1 A x0))) with
              | true => kk (bO false) []
              | false => match !(g12r1 A (g16r0 A (g26r0 A x0) (g26r1 A x0)) (g16r1 A (g26r0 A x0) (g26r1 A x0))) with
                | true => kk (bO false) []
                | false => match !((A.lq (g27r0 A (g12r0 A (g26r0 A x0) (g26r1 A x0))) (g26r0 A x0)) && ((A.lq (g27r1 A (g12r0 A (g26r0 A x0) (g26r1 A x0))) (g26r1 A x0)) && true)) with
                  | true => kk (bO false) []
                  | false => match A.ic .neq (A.ofN ((g12r0 A (g26r0 A x0) (g26r1 A x0)).length)) 32 with
                    | true => kk (bO false) []
                    | false => match A.ic .neq (A.ofN ((g12r0 A (g16r0 A (g26r0 A x0) (g26r1 A x0)) (g16r1 A (g26r0 A x0) (g26r1 A x0))).length)) 32 with
                      | true => kk (bO false) []
                      | false => match A.le 31 ((g12r0 A (g26r0 A x0) (g26r1 A x0)).length) with
                        | true => match A.le 31 ((g12r0 A (g16r0 A (g26r0 A x0) (g26r1 A x0)) (g16r1 A (g26r0 A x0) (g26r1 A x0))).length) with
                          | true => match A.sc .neq (((g12r0 A (g26r0 A x0) (g26r1 A x0)).take 31).drop 0) (((g12r0 A (g16r0 A (g26r0 A x0) (g26r1 A x0)) (g16r1 A (g26r0 A x0) (g26r1 A x0))).take 31).drop 0) with
                            | true => kk (bO false) []
                            | false => g9J10 A n kk  x1 x2 (g12r0 A (g26r0 A x0) (g26r1 A x0)) (g12r0 A (g16r0 A (g26r0 A x0) (g26r1 A x0)) (g16r1 A (g26r0 A x0) (g26r1 A x0))) (g26r0 A x0) (g26r1 A x0)
                          | false => none
                        | false => none
          | false => none
        | false => none
      | false => none
    | false => none
  | false => none
def g9 {R : Type} (A : Ar) (n : Nat) (kk : AV → Heap → Option R) (a b : List Nat) : Option R :=
  match g10ok A with
  | true => match !(g10r0 A) with
    | true => kk (bO false) []
    | false => g9J4 A n kk  a b (g10r0 A)
  | false => none
section
variable {R : Type} {A : Ar} {n : Nat} {kk : AV → Heap → Option R} {tb : Nat → List Bool → St → Option R} (st : Stp (g9N A kk) tb)
include st
theorem g9J13_go {x0 : List Nat} {x1 : Bool} {x2 : List Nat} {x3 : Bool} {x4 : List Nat} {x5 : Bool} {x6 : List Nat} {x7 : List Nat} {x8 : List Nat} {x9 : List Nat} : Prs (fun k => tb k (pth 4095) (g9J13s x0 x1 x2 x3 x4 x5 x6 x7 x8 x9)) (g9J13 A n kk x0 x1 x2 x3 x4 x5 x6 x7 x8 x9) := by
  unfold g9J13
  exact st.g (pc (SxY05lpi _ (SxY05lpi _ (SxY05lpi _ (SxY05lpi _ (pf _) pn) pn) (SxY05lpi _ (SxY05lpi _ (SxY05lpi _ (SxY05lpi _ (SxY05lpi _ (SxY05lpi _ (pf _) pn) pn) (pf _)) (pf _)) (pf _)) pn)) (pf _)) (by kernel_rfl))
theorem g9J13a_go {x0 : List Nat} {x1 : Bool} {x2 : List Nat} {x3 : Bool} {x4 : List Nat} {x5 : Bool} {x6 : Bool} {x7 : List Nat} {x8 : List Nat} {x9 : List Nat} {x10 : List Nat} : Prs (fun k => tb k (pth 4095) (g9J13as x0 x1 x2 x3 x4 x5 x6 x7 x8 x9 x10)) (g9J13a A n kk x0 x1 x2 x3 x4 x5 x6 x7 x8 x9 x10) := by
  unfold g9J13a
  exact st.g (pc (SxY05lpi _ (SxY05lpi _ (SxY05lpi _ (SxY05lpi _ (SxY05lpi _ (pf _) pn) pn) (SxY05lpi _ (SxY05lpi _ (SxY05lpi _ (SxY05lpi _ (SxY05lpi _ (SxY05lpi _ (pf _) pn) pn) (pf _)) (pf _)) (pf _)) pn)) (pf _)) (pf _)) (by kernel_rfl))
theorem g9J13b_go {x0 : List Nat} {x1 : Bool} {x2 : List Nat} {x3 : Bool} {x4 : List Nat} {x5 : Bool} {x6 : List Nat} {x7 : List Nat} {x8 : List Nat} {x9 : List Nat} : Prs (fun k => tb k (pth 4095) (g9J13bs x0 x1 x2 x3 x4 x5 x6 x7 x8 x9)) (g9J13b A n kk x0 x1 x2 x3 x4 x5 x6 x7 x8 x9) := by
  unfold g9J13b
  exact st.g (pc (SxY05lpi _ (pf _) (pf _)) (by kernel_rfl))
theorem g9J10_go {x0 : List Nat} {x1 : Bool} {x2 : List Nat} {x3 : List Nat} {x4 : List Nat} {x5 : List Nat} : Prs (fun k => tb k (pth 511) (g9J10s x0 x1 x2 x3 x4 x5)) (g9J10 A n kk x0 x1 x2 x3 x4 x5) := by
  unfold g9J10
  exact st.g (pc (SxY05lpi _ (SxY05lpi _ (SxY05lpi _ (SxY05lpi _ (SxY05lpi _ (g9J13_go st) (SxY05lpi _ (g9J13a_go st) (g9J13b_go st))) pn) pn) pn) pn) (by kernel_rfl))
theorem g9J4_go {x0 : List Nat} {x1 : List Nat} {x2 : Bool} : Prs (fun k => tb k (pth 15) (g9J4s x0 x1 x2)) (g9J4 A n kk x0 x1 x2) := by
  unfold g9J4
  exact st.g (pc (SxY05lpi _ (SxY05lpi _ (SxY05lpi _ (SxY05lpi _ (SxY05lpi _ (SxY05lpi _ (pf _) (SxY05lpi _ (pf _) (SxY05lpi _ (pf _) (SxY05lpi _ (pf _) (SxY05lpi _ (pf _) (SxY05lpi _ (pf _) (SxY05lpi _ (SxY05lpi _ (SxY05lpi _ (pf _) (g9J10_go st)) pn) pn))))))) pn) pn) pn) pn) pn) (by kernel_rfl))
theorem g9_go {a : List Nat} {b : List Nat} : Prs (fun k => funN A gtys (g9O A) g9an g9cut (bodyOf Try.f9) g9res [(tS a), (tS b)] [] kk (tb k)) (g9 A n kk a b) := by
  unfold g9
  exact pc (SxY05lpi _ (SxY05lpi _ (pf _) (g9J4_go st)) pn) (by kernel_rfl)
end
def g9is (o : Option AV) : Bool := match o with
  | some (.v (.cell (.bool _))) => true
  | _ => false
def g9g0 (o : Option AV) : Bool := match o with
  | some (.v (.cell (.bool x))) => x
  | _ => false
theorem g9is_spec {o : Option AV} (h : g9is o = true) : o = some (.v (.cell (.bool (g9g0 o)))) := by
  unfold g9is at h
  split at h
  · rfl
  · cases h
def g9v (A : Ar) (a b : List Nat) : Option AV := g9 A (100000) (fun v _ => some v) a b
def g9ok (A : Ar) (a b : List Nat) : Bool := g9is (g9v A a b)
def g9r0 (A : Ar) (a b : List Nat) : Bool := g9g0 (g9v A a b)
theorem g9ok_spec {A : Ar} {a b} (h : g9ok A a b = true) : g9v A a b = some (.v (.cell (.bool (g9r0 A a b)))) := g9is_spec h
def g9o (A : Ar) (args : List AV) : Option (Bool × AV) := match args with
  | [.v (.cell (.str a)), .v (.cell (.str b))] => some (g9ok A a b, .v (.cell (.bool (g9r0 A a b))))
  | _ => none
theorem g9o_sound : ∀ args v, g9o realA args = some (true, v) → Fn1 Try.prog 9 args v := by
  intro args v h
  unfold g9o at h
  split at h
  · rename_i a b
    simp only [Option.some.injEq, Prod.mk.injEq] at h
    obtain ⟨hc, h⟩ := h
    subst h
    · skip
      exact fn1_ofG mixed gtysOK g9O_sound g9O_det (an := g9an) (cut := g9cut) Try.func9 (c := bodyOf Try.f9) rfl (by kernel_rfl) Try.call9 (Nat.le_of_ble_eq_true rfl) (fun b => rfl) (fun _ => (show g9v realA a b = _ from g9ok_spec hc)) fun _ st => g9_go st
  · cases h
attribute [local irreducible] g9ok g9r0
end Go.Sx
namespace Go.Sx
set_option linter.unusedSectionVars false
def encS (x y : Nat) : List Nat := (le32 y).take 31 ++ [(le32 y).getD 31 0 + 128 * (x % 2)]
theorem or128 : ∀ c, c < 128 → realA.nb .or .u8 c 128 = c + 128 := by
  have h : ((List.range 128).all fun c => Nat.beq (realA.nb .or .u8 c 128) (c + 128)) = true := by decide +kernel
  intro c hc
  exact beq_true (List.all_eq_true.1 h c (List.mem_range.2 hc))
theorem xor128 : ∀ c, c < 128 → realA.nb .xor .u8 (c + 128) c = 128 ∧ realA.nb .xor .u8 c (c + 128) = 128 := by
  have h : ((List.range 128).all fun c => Nat.beq (realA.nb .xor .u8 (c + 128) c) 128 && Nat.beq (realA.nb .xor .u8 c (c + 128)) 128) = true := by decide +kernel
  intro c hc
  have := List.all_eq_true.1 h c (List.mem_range.2 hc)
  rw [Bool.and_eq_true] at this
  exact ⟨beq_true this.1, beq_true this.2⟩
theorem split31 {s : List Nat} (h : s.length = 32) : s = s.take 31 ++ [s.getD 31 0] := by
  have h1 := (List.take_append_drop 31 s).symm
  have h2 : s.drop 31 = [s.getD 31 0] := by
    rw [List.drop_eq_getElem_cons (by omega), List.drop_of_length_le (by omega), List.getD_eq_getElem?_getD, List.getElem?_eq_getElem (by omega)]
    rfl
  rwa [h2] at h1
theorem top_lt {y : Nat} (h : y < PP) : (le32 y).getD 31 0 < 128 := by
  have e : (le32 y).getD 31 0 = y / 256 ^ 31 % 256 := by
    rw [List.getD_eq_getElem?_getD]
    unfold le32
    rw [List.getElem?_map, List.getElem?_range (by decide)]
    rfl
  have : y / 256 ^ 31 < 128 := Nat.div_lt_of_lt_mul (Nat.lt_trans h (by decide))
  omega
theorem encB_S {a b : List Nat} (ha : num a < PP) (hb : num b < PP) : encB a b = encS (num a) (num b) := by
  have hs := split31 (le32_len (num b))
  have ht := top_lt hb
  unfold encB encS
  rw [Nat.mod_eq_of_lt ha, Nat.mod_eq_of_lt hb]
  by_cases h1 : num a % 2 = 1
  · rw [if_pos h1, h1, or128 _ ht, List.set_eq_take_append_cons_drop, if_pos (by rw [le32_len]; decide), List.drop_of_length_le (by rw [le32_len]; decide)]
  · rw [if_neg h1, show num a % 2 = 0 by omega]
    exact hs
theorem encS_len (x y : Nat) : (encS x y).length = 32 := by
  unfold encS
  rw [List.length_append, List.length_take, le32_len]
  rfl
theorem encS_take (x y : Nat) : (encS x y).take 31 = (le32 y).take 31 := by
  unfold encS
  rw [List.take_append_of_le_length (by rw [List.length_take, le32_len]; decide), List.take_take, Nat.min_self]
theorem encS_top (x y : Nat) : (encS x y).getD 31 0 = (le32 y).getD 31 0 + 128 * (x % 2) := by
  unfold encS
  rw [List.getD_eq_getElem?_getD, List.getElem?_append_right (by rw [List.length_take, le32_len]; decide), List.length_take, le32_len]
  rfl
theorem encS_plain {x y : Nat} (hy : y < PP) : plainT' (encS x y) = le32 y := by
  have ht := top_lt hy
  unfold plainT'
  rw [encS_take, encS_top, Nat.add_mul_mod_self_left, Nat.mod_eq_of_lt ht]
  exact (split31 (le32_len y)).symm
theorem PPodd : PP % 2 = 1 := by decide
theorem zpNat {a b : Nat} (h : Zp ((a : Int) - b)) (ha : a < PP) (hb : b < PP) : a = b := by
  have : ME a b := MEof h
  unfold ME at this
  rwa [Nat.mod_eq_of_lt ha, Nat.mod_eq_of_lt hb] at this
theorem zpNat2 {a b : Nat} (h : Zp ((a : Int) + b)) (ha : a < PP) (hb : b < PP) : a + b = 0 ∨ a + b = PP := by
  have h2 : ME (a + b) 0 := MEof (h.of (by omega))
  unfold ME at h2
  rw [Nat.zero_mod] at h2
  by_cases hl : a + b < PP
  · rw [Nat.mod_eq_of_lt hl] at h2; exact .inl h2
  · rw [Nat.mod_eq_sub_mod (by omega), Nat.mod_eq_of_lt (by omega)] at h2
    exact .inr (by omega)
theorem dec_enc {x y : Nat} (hx : x < PP) (hy : y < PP) (ho : Zp (onE x y)) : ∃ x' : Int, decN (encS x y) = some (x', (y : Int)) ∧ fi x' = fi x := by
  have hl : leval (plainT' (encS x y)) = y := by rw [encS_plain hy]; exact leval_le32 y (Nat.lt_trans hy (by decide))
  obtain ⟨s1, s2⟩ := sideOn ho
  obtain ⟨s3, s4, _⟩ := sideEven (y : Int) s1
  have ht := top_lt hy
  have hp := PPodd
  unfold decN
  rw [if_pos ⟨encS_len x y, by rw [hl]; exact hy⟩, hl, encS_top]
  cases hs : sideN (y : Int) with
  | mk r t =>
    rw [hs] at s1 s2 s3 s4
    simp only at s1 s2 s3 s4
    subst s1
    simp only []
    rcases Nat.mod_two_eq_zero_or_one x with h0 | h1
    · rw [if_pos (by rw [h0]; omega)]
      refine ⟨_, rfl, ?_⟩
      rcases s2 with h | h
      · rw [zpNat h s3 hx]
      · have := zpNat2 h s3 hx
        rw [show r = x by omega]
    · rw [if_neg (by rw [h1]; omega)]
      have hr : Zp ((r : Int) + x) := by
        rcases s2 with h | h
        · have := zpNat h s3 hx
          omega
        · exact h
      have h0 : ¬ r = 0 := by
        have := zpNat2 hr s3 hx
        omega
      rw [if_neg h0]
      refine ⟨_, rfl, fi_congr (zp_iff.1 (hr.neg.of (by omega)))⟩
theorem modNat {n : Nat} (h : n < PP) : ((n : Int) % PI).toNat = n := by
  have e : (n : Int) % PI = n := by rw [← PI_PP]; exact Int.emod_eq_of_lt (by omega) (by exact_mod_cast h)
  rw [e]; rfl
theorem negNat {n : Nat} (h : n < PP) (h0 : n ≠ 0) : ((-(n : Int)) % PI).toNat = PP - n := by
  have e : (-(n : Int)) % PI = ((PP - n : Nat) : Int) := by
    have h2 : Zp (-(n : Int) - ((PP - n : Nat) : Int)) := by
      have : ((PP - n : Nat) : Int) = PI - n := by rw [← PI_PP]; omega
      rw [this]
      exact (show Zp PI by decide).neg.of (by omega)
    rw [zp_iff.1 h2, ← PI_PP]
    exact Int.emod_eq_of_lt (by omega) (by omega)
  rw [e]; rfl
theorem enc_dec {s : List Nat} (hs : ∀ x ∈ s, x < 256) {x y : Int} (h : decN s = some (x, y)) : Zp (onE x y) ∧ encS (x % PI).toNat (y % PI).toNat = s := by
  unfold decN at h
  split at h
  · rename_i hc
    obtain ⟨hl, hv⟩ := hc
    have e1 : le32 (leval (plainT' s)) = plainT' s := le32_leval (plain_lt hs) (plain_len hl)
    have t1 : (plainT' s).take 31 = s.take 31 := by
      unfold plainT'
      rw [List.take_append_of_le_length (by rw [List.length_take]; omega), List.take_take, Nat.min_self]
    have t2 : (plainT' s).getD 31 0 = s.getD 31 0 % 128 := by
      unfold plainT'
      rw [List.getD_eq_getElem?_getD, List.getElem?_append_right (by rw [List.length_take]; omega), List.length_take, hl]
      rfl
    have hp := PPodd
    have h256 : s.getD 31 0 < 256 := getD_lt hs 31
    have key : ∀ X : Nat, s.getD 31 0 % 128 + 128 * (X % 2) = s.getD 31 0 → encS X (leval (plainT' s)) = s := by
      intro X hX
      unfold encS
      rw [e1, t1, t2, hX]
      exact (split31 hl).symm
    cases hside : sideN (leval (plainT' s) : Nat) with
    | mk r t =>
      rw [hside] at h
      cases t with
      | false => cases h
      | true =>
        obtain ⟨s3, s4, s5⟩ := sideEven (leval (plainT' s) : Nat) (by rw [hside])
        rw [hside] at s3 s4 s5
        simp only at h s3 s4 s5
        split at h
        · rename_i hlt
          cases h
          refine ⟨s5, ?_⟩
          rw [modNat s3, modNat hv]
          exact key r (by omega)
        · rename_i hge
          split at h
          · cases h
          · rename_i h0
            cases h
            refine ⟨s5.of (by unfold onE; grind), ?_⟩
            rw [negNat s3 h0, modNat hv]
            exact key _ (by omega)
  · cases h
def Pt.bytes (p : Pt) : List Nat := encS (num (fi p.x)) (num (fi p.y))
theorem Pt.lx (p : Pt) : num (fi p.x) < PP := by rw [num_fi]; exact toN_lt _
theorem Pt.ly (p : Pt) : num (fi p.y) < PP := by rw [num_fi]; exact toN_lt _
theorem Pt.encE (p : Pt) : g12ok realA (fi p.x) (fi p.y) = true ∧ g12r0 realA (fi p.x) (fi p.y) = p.bytes ∧ g12r1 realA (fi p.x) (fi p.y) = true := by
  obtain ⟨h1, h2, h3⟩ := EncP (fi_W4 p.x) (fi_W4 p.y)
  rw [p.onW, if_pos rfl, encB_S p.lx p.ly] at h2
  exact ⟨h1, h2, h3.trans p.onW⟩
theorem g27of' {A : Ar} {s x y : List Nat} {t : Bool} (e : g27v A s = some (.tup [.agg [.nums .u64 4 x, .nums .u64 4 y], .cell (.bool t)])) : g27ok A s = true ∧ g27r0 A s = x ∧ g27r1 A s = y ∧ g27r2 A s = t := ⟨by unfold g27ok; rw [e]; rfl, by unfold g27r0; rw [e]; rfl, by unfold g27r1; rw [e]; rfl, by unfold g27r2; rw [e]; rfl⟩
theorem Pt.bytes_lt (p : Pt) : ∀ c ∈ p.bytes, c < 256 := by
  intro c hc
  unfold Pt.bytes encS at hc
  rcases List.mem_append.1 hc with h | h
  · exact le32_lt _ c (List.mem_of_mem_take h)
  · have e : c = (le32 (num (fi p.y))).getD 31 0 + 128 * (num (fi p.x) % 2) := by simpa using h
    have := top_lt p.ly
    omega
theorem Pt.decE (p : Pt) : g27ok realA p.bytes = true ∧ g27r0 realA p.bytes = fi p.x ∧ g27r1 realA p.bytes = fi p.y ∧ g27r2 realA p.bytes = true := by
  have ho : Zp (onE (num (fi p.x)) (num (fi p.y))) := by rw [p.nx, p.ny]; exact p.on
  obtain ⟨x', h1, h2⟩ := dec_enc p.lx p.ly ho
  have h := decP p.bytes_lt
  have h1' : decN p.bytes = some (x', ((num (fi p.y) : Nat) : Int)) := h1
  rw [h1'] at h
  obtain ⟨k1, k2, k3, k4⟩ := g27of' h
  refine ⟨k1, k2.trans (h2.trans (by rw [p.nx])), k3.trans (by rw [p.ny]), k4⟩
theorem g9J13S (A : Ar) (n : Nat) (s b w x y u v : List Nat) (t g o : Bool) (k1 : g29ok A x = true ∧ g29r0 A x = o) (k2 : A.nc .geq (b.getD 31 0) 128 = o) (k3 : Nat.blt 31 b.length = true) (hd : t = true → (g18ok A u v = true ∧ g18r0 A u v = true) ∧ g = true ∧ A.sc .eql w s = true) :
    g9J13 A n (fun v _ => some v) s true b t w g x y u v = some (.v (.cell (.bool true))) ∧ g9J13a A n (fun v _ => some v) s true b t w g true x y u v = some (.v (.cell (.bool true))) := by
  unfold g9J13 g9J13a
  cases t with
  | false => simp only [k1, k2, k3, Bool.not_false, beq_self_eq_true, and_self]
  | true =>
    obtain ⟨h1, h2, h3⟩ := hd rfl
    simp only [k1, k2, k3, h1, h2, h3, Bool.not_true, beq_self_eq_true, and_self]
theorem g9Shape (A : Ar) (h : PTK A) (n : Nat) (a s b c u v w : List Nat) (p : Pt) (t g o : Bool) (hp : g26ok A a = true ∧ g26r0 A a = fi p.x ∧ g26r1 A a = fi p.y) (en : g12ok A (fi p.x) (fi p.y) = true ∧ g12r0 A (fi p.x) (fi p.y) = b ∧ g12r1 A (fi p.x) (fi p.y) = true) (en2 : g12ok A (fi p.neg.x) (fi p.neg.y) = true ∧ g12r0 A (fi p.neg.x) (fi p.neg.y) = c ∧ g12r1 A (fi p.neg.x) (fi p.neg.y) = true)
    (de : g27ok A b = true ∧ g27r0 A b = fi p.x ∧ g27r1 A b = fi p.y ∧ g27r2 A b = true) (l1 : A.ic .neq (A.ofN b.length) 32 = false) (l2 : A.ic .neq (A.ofN c.length) 32 = false) (l3 : A.le 31 b.length = true) (l4 : A.le 31 c.length = true) (l5 : A.sc .neq ((b.take 31).drop 0) ((c.take 31).drop 0) = false)
    (ds : g27ok A s = true ∧ g27r0 A s = u ∧ g27r1 A s = v ∧ g27r2 A s = t) (es : g12ok A u v = true ∧ g12r0 A u v = w ∧ g12r1 A u v = g) (m1 : Nat.blt 31 b.length = true) (m2 : Nat.blt 31 c.length = true)
    (k1 : g29ok A (fi p.x) = true ∧ g29r0 A (fi p.x) = o) (k2 : A.nc .geq (b.getD 31 0) 128 = o) (hd : t = true → (g18ok A u v = true ∧ g18r0 A u v = true) ∧ g = true ∧ A.sc .eql w s = true)
    (tu : A.nc .eql (A.nb .xor .u8 (b.getD 31 0) (c.getD 31 0)) 128 = true ∨ (A.nc .eql (A.nb .xor .u8 (b.getD 31 0) (c.getD 31 0)) 128 = false ∧ A.lq (fi p.x) [0, 0, 0, 0] = true ∧ A.sc .eql b c = true)) : g9 A n (fun v _ => some v) a s = some (.v (.cell (.bool true))) := by
  unfold g9
  simp only [h.ex, Bool.not_true]
  unfold g9J4
  simp only [hp, en, de, h.neg, en2, Bool.not_true, h.lqs, Bool.and_true, l1, l2, l3, l4, l5]
  unfold g9J10
  simp only [ds, es, m1, m2]
  obtain ⟨j1, j2⟩ := g9J13S A n s b w (fi p.x) (fi p.y) u v t g o k1 k2 m1 hd
  rcases tu with e | ⟨e1, e2, e3⟩
  · rw [e]
    exact j1
  · rw [e1, e2, e3]
    exact j2
theorem law9 (a : List Nat) (_ha : ∀ x ∈ a, x < 256) (_la : a.length < 2 ^ 47) (s : List Nat) (hs : ∀ x ∈ s, x < 256) (_ls : s.length < 2 ^ 47) : g9o realA [.v (.cell (.str a)), .v (.cell (.str s))] = some (true, .v (.cell (.bool true))) := by
  obtain ⟨p, hp⟩ := leastE a
  have hd := decP hs
  have bl : p.bytes.length = 32 := encS_len _ _
  have cl : p.neg.bytes.length = 32 := encS_len _ _
  have ht := top_lt p.ly
  have hb : p.bytes.getD 31 0 = (le32 (num (fi p.y))).getD 31 0 + 128 * (num (fi p.x) % 2) := encS_top _ _
  have hc : p.neg.bytes.getD 31 0 = (le32 (num (fi p.y))).getD 31 0 + 128 * (num (fi p.neg.x) % 2) := encS_top _ _
  have t31 : (p.bytes.take 31).drop 0 = (p.neg.bytes.take 31).drop 0 := by
    show p.bytes.take 31 = p.neg.bytes.take 31
    unfold Pt.bytes
    rw [encS_take, encS_take]
    rfl
  have key : g9v realA a s = some (.v (.cell (.bool true))) := by
    have fin : ∀ u v t w g, (g27ok realA s = true ∧ g27r0 realA s = u ∧ g27r1 realA s = v ∧ g27r2 realA s = t) → (g12ok realA u v = true ∧ g12r0 realA u v = w ∧ g12r1 realA u v = g) → (t = true → (g18ok realA u v = true ∧ g18r0 realA u v = true) ∧ g = true ∧ realA.sc .eql w s = true) → g9v realA a s = some (.v (.cell (.bool true))) := by
      intro u v t w g h1 h2 h3
      refine g9Shape realA ptk 100000 a s p.bytes p.neg.bytes u v w p t g (decide (num (fi p.x) % 2 = 1)) hp p.encE p.neg.encE p.decE (ofNat32 bl) (ofNat32 cl) (by rw [ar_le]; exact decide_eq_true (by omega)) (by rw [ar_le]; exact decide_eq_true (by omega)) ?_ h1 h2 (by rw [bl]; rfl) (by rw [cl]; rfl) ?_ ?_ h3 ?_
      · rw [t31]
        show (!(decide _)) = false
        rw [decide_eq_true rfl]
        rfl
      · obtain ⟨o1, o2⟩ := fok.odd p.x
        refine ⟨o1, o2.trans ?_⟩
        have := p.nx
        rw [p.hx]
        exact decide_eq_decide.2 (by omega)
      · show decide (p.bytes.getD 31 0 ≥ 128) = _
        rw [hb]
        exact decide_eq_decide.2 (by omega)
      · by_cases h0 : num (fi p.x) = 0
        · right
          have hz : p.x = 0 := by have := p.nx; omega
          have en : p.neg.bytes = p.bytes := by
            have e1 : p.neg.x = p.x := by
              show (-p.x) % PI = p.x
              rw [hz]; rfl
            unfold Pt.bytes
            rw [e1]
            rfl
          refine ⟨?_, ?_, ?_⟩
          · rw [en]
            show decide (realA.nb .xor .u8 (p.bytes.getD 31 0) (p.bytes.getD 31 0) = 128) = false
            rw [hb, h0]
            have : ∀ c, c < 128 → realA.nb .xor .u8 c c = 0 := by
              have h : ((List.range 128).all fun c => Nat.beq (realA.nb .xor .u8 c c) 0) = true := by decide +kernel
              intro c hc
              exact beq_true (List.all_eq_true.1 h c (List.mem_range.2 hc))
            rw [show (le32 (num (fi p.y))).getD 31 0 + 128 * (0 % 2) = (le32 (num (fi p.y))).getD 31 0 by omega, this _ ht]
            rfl
          · rw [hz, ← fi0]; exact ptk.lqs 0
          · rw [en, ar_sceq]; exact decide_eq_true rfl
        · left
          have e1 : num (fi p.neg.x) = PP - num (fi p.x) := by
            rw [num_fi]
            show (((-p.x) % PI) % PI).toNat = _
            have := negNat p.lx h0
            rw [p.nx] at this
            rw [Int.emod_emod]
            exact this
          have hlx := p.lx
          have hp2 := PPodd
          show decide (realA.nb .xor .u8 (p.bytes.getD 31 0) (p.neg.bytes.getD 31 0) = 128) = true
          obtain ⟨x1, x2⟩ := xor128 _ ht
          refine decide_eq_true ?_
          rw [hb, hc, e1]
          rcases Nat.mod_two_eq_zero_or_one (num (fi p.x)) with h1 | h1
          · rw [h1, show (PP - num (fi p.x)) % 2 = 1 by omega]; exact x2
          · rw [h1, show (PP - num (fi p.x)) % 2 = 0 by omega]; exact x1
    cases hn : decN s with
    | none =>
      rw [hn] at hd
      obtain ⟨d1, d2, d3, d4⟩ := g27of' hd
      exact fin _ _ _ _ _ ⟨d1, d2, d3, d4⟩ (EncP (W4_of rfl (by decide)) (W4_of rfl (by decide))) (fun h => by cases h)
    | some q =>
      obtain ⟨x, y⟩ := q
      rw [hn] at hd
      obtain ⟨d1, d2, d3, d4⟩ := g27of' hd
      obtain ⟨ho, hw⟩ := enc_dec hs hn
      have hon : Zp (onE (x % PI) (y % PI)) := by
        refine ho.c3 (zpM x) (zpM y) 1 (-((x % PI + x) * (1 + dI * (y % PI * (y % PI))))) ((y % PI + y) * (1 - dI * (x * x))) ?_
        unfold onE
        grind
      have e1 : fi (x % PI) = fi x := fi_congr (Int.emod_emod _ _)
      have e2 : fi (y % PI) = fi y := fi_congr (Int.emod_emod _ _)
      obtain ⟨n1, n2, n3⟩ := Pt.encE ⟨x % PI, y % PI, Int.emod_emod _ _, Int.emod_emod _ _, hon⟩
      obtain ⟨o1, o2⟩ := onPt ⟨x % PI, y % PI, Int.emod_emod _ _, Int.emod_emod _ _, hon⟩
      simp only [e1, e2] at n1 n2 n3 o1 o2
      refine fin _ _ _ _ _ ⟨d1, d2, d3, d4⟩ ⟨n1, n2, n3⟩ (fun _ => ⟨⟨o1, o2⟩, rfl, ?_⟩)
      rw [ar_sceq]
      refine decide_eq_true ?_
      refine Eq.trans ?_ hw
      unfold Pt.bytes
      simp only [e1, e2, num_fi]
  have k : g9ok realA a s = true := by unfold g9ok; rw [key]; rfl
  have r : g9r0 realA a s = true := by unfold g9r0; rw [key]; rfl
  show some (g9ok realA a s, AV.v (.cell (.bool (g9r0 realA a s)))) = _
  rw [k, r]
end Go.Sx
