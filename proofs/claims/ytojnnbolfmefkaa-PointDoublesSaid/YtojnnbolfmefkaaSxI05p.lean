import Derived.Test.YtojnnbolfmefkaaSxI05c
import Derived.Test.YtojnnbolfmefkaaSxAr
namespace Go.Sx
set_option linter.unusedSectionVars false
def bitN (s : List Nat) (i : Nat) : Nat := s.getD (i / 8) 0 / 2 ^ (i % 8) % 2
theorem bitN_lt (s : List Nat) (i : Nat) : bitN s i < 2 := Nat.mod_lt _ (by decide)
abbrev Z4 := Int × Int × Int × Int
theorem sixE : g30ok realA = true ∧ g30r0 realA = List.replicate 31 102 := g30of six
theorem g10of {A : Ar} {t : Bool} (e : g10v A = some (.v (.cell (.bool t)))) : g10ok A = true ∧ g10r0 A = t := ⟨by unfold g10ok; rw [e]; rfl, by unfold g10r0; rw [e]; rfl⟩
theorem exShape (A : Ar) (x y : Int) (bs six : List Nat) (h : FOK A) (b : g22ok A = true ∧ g22r0 A = fi x ∧ g22r1 A = fi y) (en : g12ok A (fi x) (fi y) = true ∧ g12r0 A (fi x) (fi y) = bs ∧ g12r1 A (fi x) (fi y) = true) (on : g18ok A (fi x) (fi y) = true ∧ g18r0 A (fi x) (fi y) = true)
    (s : g30ok A = true ∧ g30r0 A = six) (l : A.le ([88].length + six.length) 9223372036854775807 = true) (e : A.sc .eql bs ([88] ++ six) = true) (ad : g14ok A (fi x) (fi y) (fi 0) (fi 1) = true ∧ g14r0 A (fi x) (fi y) (fi 0) (fi 1) = fi x ∧ g14r1 A (fi x) (fi y) (fi 0) (fi 1) = fi y) : g10v A = some (.v (.cell (.bool true))) := by
  unfold g10v g10
  simp only [b, en, on, s, l, e, zeroP h, ad, h.lq, dP h, dR h, decide_eq_true, Bool.and_true]
theorem exE : g10ok realA = true ∧ g10r0 realA = true := by
  refine g10of (exShape realA BX BY _ _ fok (baseP fok) ⟨(EncP (fi_W4 BX) (fi_W4 BY)).1, (EncP (fi_W4 BX) (fi_W4 BY)).2.1, (EncP (fi_W4 BX) (fi_W4 BY)).2.2.trans onB⟩ ⟨(onP fok (fi_W4 BX) (fi_W4 BY)).1, (onP fok (fi_W4 BX) (fi_W4 BY)).2.trans onB⟩ sixE rfl ?_ ?_)
  · rw [ar_sceq, if_pos onB, encBB]
    exact decide_eq_true rfl
  · obtain ⟨h1, h2, h3⟩ := AddP fok (fi_W4 BX) (fi_W4 BY) (fi_W4 0) (fi_W4 1)
    rw [ptB.1, ptB.2, ptO.1, ptO.2] at h2 h3
    refine ⟨h1, h2.trans (fi_congr (addB0.1.trans (show (BX : Int) = (BX : Int) % PI by decide))), h3.trans (fi_congr (addB0.2.trans (show (BY : Int) = (BY : Int) % PI by decide)))⟩
end Go.Sx
namespace Go.Sx
set_option linter.unusedSectionVars false
def Zp (a : Int) : Prop := a % PI = 0
instance (a : Int) : Decidable (Zp a) := inferInstanceAs (Decidable (a % PI = 0))
theorem Zp.zero : Zp 0 := by decide
theorem Zp.mul {a : Int} (h : Zp a) (b : Int) : Zp (b * a) := by
  show (b * a) % PI = 0
  rw [Int.mul_emod, show a % PI = 0 from h, Int.mul_zero]; rfl
theorem Zp.add {a b : Int} (h : Zp a) (k : Zp b) : Zp (a + b) := by
  show (a + b) % PI = 0
  rw [Int.add_emod, show a % PI = 0 from h, show b % PI = 0 from k]; rfl
theorem Zp.neg {a : Int} (h : Zp a) : Zp (-a) := by
  have := h.mul (-1)
  rwa [show -1 * a = -a by omega] at this
theorem Zp.sub {a b : Int} (h : Zp a) (k : Zp b) : Zp (a - b) := by
  have := h.add k.neg
  rwa [show a + -b = a - b by omega] at this
theorem zp_iff {a b : Int} : Zp (a - b) ↔ a % PI = b % PI := by
  constructor
  · intro h
    have : (a - b + b) % PI = b % PI := by rw [Int.add_emod, show (a - b) % PI = 0 from h, Int.zero_add, Int.emod_emod]
    rwa [Int.sub_add_cancel] at this
  · intro h
    show (a - b) % PI = 0
    rw [Int.sub_emod, h, Int.sub_self]; rfl
theorem Zp.of {a b : Int} (h : Zp a) (e : a = b) : Zp b := e ▸ h
theorem Zp.c1 {a f : Int} (h : Zp a) (p : Int) (e : f = p * a) : Zp f := (h.mul p).of e.symm
theorem Zp.c2 {a b f : Int} (h : Zp a) (k : Zp b) (p q : Int) (e : f = p * a + q * b) : Zp f := ((h.mul p).add (k.mul q)).of e.symm
theorem Zp.c3 {a b c f : Int} (h : Zp a) (k : Zp b) (l : Zp c) (p q r : Int) (e : f = p * a + q * b + r * c) : Zp f := (((h.mul p).add (k.mul q)).add (l.mul r)).of e.symm
theorem Zp.c4 {a b c d f : Int} (h : Zp a) (k : Zp b) (l : Zp c) (m : Zp d) (p q r s : Int) (e : f = p * a + q * b + r * c + s * d) : Zp f := ((((h.mul p).add (k.mul q)).add (l.mul r)).add (m.mul s)).of e.symm
theorem Zp.or {a b : Int} (h : Zp (a * b)) : Zp a ∨ Zp b := by
  by_cases ha : a % PI = 0
  · exact .inl ha
  · have h1 := ivMul ha
    refine .inr ?_
    have h2 : Zp (a * iv a - 1) := zp_iff.2 (h1.trans (by decide))
    exact h.c2 h2 (iv a) (-b) (by grind)
theorem one_nz : ¬ Zp 1 := by decide
theorem nzMul {a b : Int} (ha : ¬ Zp a) (hb : ¬ Zp b) : ¬ Zp (a * b) := fun h => h.or.elim ha hb
theorem cancelZ {a b : Int} (ha : ¬ Zp a) (h : Zp (a * b)) : Zp b := h.or.resolve_left ha
theorem dEuler : pw (dI % PI).toNat (PM / 2) = PM := by decide +kernel
theorem PM2_lt : PM / 2 < 2 ^ 256 := by decide
theorem PM2e : PM / 2 * 2 = PM := by decide
theorem zpN (x : Int) : Zp x ↔ (x % PI).toNat % PP = 0 := by
  rw [Nat.mod_eq_of_lt (toN_lt x)]
  have := castN x
  unfold Zp
  omega
theorem dNS {z w : Int} (h : Zp (dI * (z * z) - w * w)) : Zp z := by
  apply Classical.byContradiction
  intro hz
  have hz' : (z % PI).toNat % PP ≠ 0 := fun e => hz ((zpN z).2 e)
  have h1 := zp_iff.1 h
  have h2 : ((dI % PI).toNat * ((z % PI).toNat * (z % PI).toNat)) % PP = ((w % PI).toNat * (w % PI).toNat) % PP := by
    have : (((dI % PI).toNat * ((z % PI).toNat * (z % PI).toNat) : Nat) : Int) % PI = (((w % PI).toNat * (w % PI).toNat : Nat) : Int) % PI := by
      rw [Int.natCast_mul, Int.natCast_mul, Int.natCast_mul, castN, castN, castN]
      rw [fmulM (Int.emod_emod dI PI) (fmulM (Int.emod_emod z PI) (Int.emod_emod z PI)), fmulM (Int.emod_emod w PI) (Int.emod_emod w PI)]
      exact h1
    rw [← PI_PP] at this
    exact_mod_cast this
  have h3 := pmod h2 (PM / 2)
  rw [Nat.mul_pow, ← Nat.pow_two, ← Nat.pow_two, ← Nat.pow_mul, ← Nat.pow_mul, Nat.mul_comm 2, PM2e, Nat.mul_mod, fermat hz', Nat.mul_one, Nat.mod_mod, ← pw_spec _ _ PM2_lt, dEuler] at h3
  by_cases hw : (w % PI).toNat % PP = 0
  · rw [zero_pow_mod hw (by decide)] at h3
    exact absurd h3 (by decide)
  · rw [fermat hw] at h3
    exact absurd h3 (by decide)
def iI : Int := (pw 2 QQ : Nat)
theorem iI2 : Zp (iI * iI + 1) := by
  show ((iI * iI + 1) % PI) = 0
  decide +kernel
theorem iNZ : ¬ Zp iI := by
  intro h
  exact one_nz (iI2.c2 h 1 (-iI) (by grind))
theorem two_nz : ¬ Zp 2 := by decide
def onE (x y : Int) : Int := y * y - x * x - 1 - dI * (x * x) * (y * y)
theorem complete {x y u v e : Int} (h1 : Zp (onE x y)) (h2 : Zp (onE u v)) (he : Zp (e * e - 1)) : ¬ Zp (dI * (x * y * (u * v)) - e) := by
  intro hk
  have a1 : Zp (x * y * (iI * u + v)) := by
    refine dNS (w := iI * x + e * y) ?_
    refine ((h1.c2 h2 (-1) (dI * (x * y) * (x * y)) rfl).add ((hk.c3 iI2 he (dI * (x * y * (u * v)) + e + 2 * iI * (x * y)) (dI * (x * y) * (x * y) * (u * u) - x * x) (1 - y * y) rfl))).of ?_
    unfold onE
    grind
  have a2 : Zp (x * y * (iI * u - v)) := by
    refine dNS (w := iI * x - e * y) ?_
    refine ((h1.c2 h2 (-1) (dI * (x * y) * (x * y)) rfl).add ((hk.c3 iI2 he (dI * (x * y * (u * v)) + e - 2 * iI * (x * y)) (dI * (x * y) * (x * y) * (u * u) - x * x) (1 - y * y) rfl))).of ?_
    unfold onE
    grind
  have a3 : Zp (2 * (iI * (x * y * u))) := (a1.add a2).of (by grind)
  have a4 := cancelZ iNZ (cancelZ two_nz a3)
  have a5 : Zp (dI * (x * y * (u * v))) := a4.c1 (dI * v) (by grind)
  have a6 : Zp e := (a5.sub hk).of (by omega)
  exact one_nz (a6.c2 he e (-1) (by grind))
end Go.Sx
namespace Go.Sx
set_option linter.unusedSectionVars false
def eqE (d x y : Int) : Int := y * y - x * x - 1 - d * (x * x) * (y * y)
def kE (d x y u v : Int) : Int := d * (x * y * (u * v))
def tX (x y u v : Int) : Int := x * v + u * y
def tY (x y u v : Int) : Int := y * v + x * u
theorem closeE (d x y u v : Int) : tY x y u v * tY x y u v * ((1 + kE d x y u v) * (1 + kE d x y u v)) - tX x y u v * tX x y u v * ((1 - kE d x y u v) * (1 - kE d x y u v)) - (1 + kE d x y u v) * (1 + kE d x y u v) * ((1 - kE d x y u v) * (1 - kE d x y u v)) - d * (tX x y u v * tX x y u v) * (tY x y u v * tY x y u v) = (d*d*d*x*x*y*y*u*u*u*u*v*v*v*v - d*d*x*x*u*u*u*u*v*v*v*v + d*d*y*y*u*u*u*u*v*v*v*v - d*d*u*u*u*u*v*v*v*v - d*x*x*u*u*u*u*v*v + d*x*x*u*u*v*v*v*v + d*y*y*u*u*u*u*v*v - d*y*y*u*u*v*v*v*v - 2*d*u*u*u*u*v*v*v*v - 2*d*u*u*v*v - 2*u*u*u*u*v*v + u*u*u*u + 2*u*u*v*v*v*v - 4*u*u*v*v + v*v*v*v) * eqE d x y + (d*x*x*x*x*u*u*v*v + 2*d*x*x*u*u*v*v + d*y*y*y*y*u*u*v*v - 2*d*y*y*u*u*v*v + d*u*u*v*v + 2*x*x*u*u*v*v - x*x*u*u + x*x*v*v - 2*y*y*u*u*v*v + y*y*u*u - y*y*v*v + 2*u*u*v*v - u*u + v*v + 1) * eqE d u v := by
  unfold tX tY kE eqE; grind

def n1 (d x y u v s t : Int) : Int := tX x y u v * (1 - kE d x y u v) * t + s * (tY x y u v * (1 + kE d x y u v))
def d1 (d x y u v s t : Int) : Int := (1 + kE d x y u v) * (1 - kE d x y u v) + d * (tX x y u v * tY x y u v * (s * t))
def m1 (d x y u v s t : Int) : Int := tY x y u v * (1 + kE d x y u v) * t + tX x y u v * (1 - kE d x y u v) * s
def e1 (d x y u v s t : Int) : Int := (1 + kE d x y u v) * (1 - kE d x y u v) - d * (tX x y u v * tY x y u v * (s * t))

theorem assocX (d x y u v s t : Int) : n1 d x y u v s t * d1 d u v s t x y - n1 d u v s t x y * d1 d x y u v s t = (-d*d*x*u*u*u*u*v*v*v*s*s*t - d*d*x*u*u*u*v*v*v*v*s*t*t + d*d*y*u*u*u*u*v*v*v*s*t*t + d*d*y*u*u*u*v*v*v*v*s*s*t - d*x*u*u*u*u*v*s*s*t - d*x*u*u*u*v*v*s*s*s - d*x*u*u*u*v*v*s + d*x*u*u*v*v*v*t*t*t - d*x*u*u*v*v*v*t + d*x*u*v*v*v*v*s*t*t + d*y*u*u*u*u*v*s*t*t + d*y*u*u*u*v*v*t*t*t - d*y*u*u*u*v*v*t - d*y*u*u*v*v*v*s*s*s - d*y*u*u*v*v*v*s - d*y*u*v*v*v*v*s*s*t) * eqE d x y + (d*d*x*x*y*u*u*v*s*s*s*t*t - d*d*x*x*y*u*v*v*s*s*t*t*t - d*d*x*y*y*u*u*v*s*s*t*t*t + d*d*x*y*y*u*v*v*s*s*s*t*t + d*x*x*x*u*u*v*s*s*t + d*x*x*x*u*v*v*s*t*t + d*x*x*x*u*s*s*s*t*t + d*x*x*x*v*s*s*t*t*t - d*x*x*y*u*u*v*s*t*t - d*x*x*y*u*v*v*s*s*t + d*x*x*y*u*s*s*t*t*t + d*x*x*y*v*s*s*s*t*t - d*x*y*y*u*u*v*s*s*t - d*x*y*y*u*v*v*s*t*t - d*x*y*y*u*s*s*s*t*t - d*x*y*y*v*s*s*t*t*t + d*x*u*u*v*s*s*t + d*x*u*v*v*s*t*t + d*x*u*s*s*s*t*t + d*x*v*s*s*t*t*t + d*y*y*y*u*u*v*s*t*t + d*y*y*y*u*v*v*s*s*t - d*y*y*y*u*s*s*t*t*t - d*y*y*y*v*s*s*s*t*t - d*y*u*u*v*s*t*t - d*y*u*v*v*s*s*t + d*y*u*s*s*t*t*t + d*y*v*s*s*s*t*t + x*x*x*u*s*s*s - x*x*x*u*s*t*t + x*x*x*u*s + x*x*x*v*s*s*t - x*x*x*v*t*t*t + x*x*x*v*t + x*x*y*u*s*s*t - x*x*y*u*t*t*t + x*x*y*u*t + x*x*y*v*s*s*s - x*x*y*v*s*t*t + x*x*y*v*s - x*y*y*u*s*s*s + x*y*y*u*s*t*t - x*y*y*u*s - x*y*y*v*s*s*t + x*y*y*v*t*t*t - x*y*y*v*t + x*u*s*s*s - x*u*s*t*t + x*u*s + x*v*s*s*t - x*v*t*t*t + x*v*t - y*y*y*u*s*s*t + y*y*y*u*t*t*t - y*y*y*u*t - y*y*y*v*s*s*s + y*y*y*v*s*t*t - y*y*y*v*s + y*u*s*s*t - y*u*t*t*t + y*u*t + y*v*s*s*s - y*v*s*t*t + y*v*s) * eqE d u v + (-d*x*x*y*u*u*v*s + d*x*x*y*u*v*v*t + d*x*y*y*u*u*v*t - d*x*y*y*u*v*v*s - x*x*x*u*u*u*s - x*x*x*u*u*v*t + x*x*x*u*v*v*s - x*x*x*u*s + x*x*x*v*v*v*t - x*x*x*v*t - x*x*y*u*u*u*t - x*x*y*u*u*v*s + x*x*y*u*v*v*t - x*x*y*u*t + x*x*y*v*v*v*s - x*x*y*v*s + x*y*y*u*u*u*s + x*y*y*u*u*v*t - x*y*y*u*v*v*s + x*y*y*u*s - x*y*y*v*v*v*t + x*y*y*v*t - x*u*u*u*s - x*u*u*v*t + x*u*v*v*s - x*u*s + x*v*v*v*t - x*v*t + y*y*y*u*u*u*t + y*y*y*u*u*v*s - y*y*y*u*v*v*t + y*y*y*u*t - y*y*y*v*v*v*s + y*y*y*v*s - y*u*u*u*t - y*u*u*v*s + y*u*v*v*t - y*u*t + y*v*v*v*s - y*v*s) * eqE d s t := by
  unfold n1 d1 tX tY kE eqE; grind
theorem assocY (d x y u v s t : Int) : m1 d x y u v s t * e1 d u v s t x y - m1 d u v s t x y * e1 d x y u v s t = (d*d*x*u*u*u*u*v*v*v*s*t*t + d*d*x*u*u*u*v*v*v*v*s*s*t - d*d*y*u*u*u*u*v*v*v*s*s*t - d*d*y*u*u*u*v*v*v*v*s*t*t + d*x*u*u*u*u*v*s*t*t + d*x*u*u*u*v*v*t*t*t - d*x*u*u*u*v*v*t - d*x*u*u*v*v*v*s*s*s - d*x*u*u*v*v*v*s - d*x*u*v*v*v*v*s*s*t - d*y*u*u*u*u*v*s*s*t - d*y*u*u*u*v*v*s*s*s - d*y*u*u*u*v*v*s + d*y*u*u*v*v*v*t*t*t - d*y*u*u*v*v*v*t + d*y*u*v*v*v*v*s*t*t) * eqE d x y + (d*d*x*x*y*u*u*v*s*s*t*t*t - d*d*x*x*y*u*v*v*s*s*s*t*t - d*d*x*y*y*u*u*v*s*s*s*t*t + d*d*x*y*y*u*v*v*s*s*t*t*t - d*x*x*x*u*u*v*s*t*t - d*x*x*x*u*v*v*s*s*t + d*x*x*x*u*s*s*t*t*t + d*x*x*x*v*s*s*s*t*t + d*x*x*y*u*u*v*s*s*t + d*x*x*y*u*v*v*s*t*t + d*x*x*y*u*s*s*s*t*t + d*x*x*y*v*s*s*t*t*t + d*x*y*y*u*u*v*s*t*t + d*x*y*y*u*v*v*s*s*t - d*x*y*y*u*s*s*t*t*t - d*x*y*y*v*s*s*s*t*t - d*x*u*u*v*s*t*t - d*x*u*v*v*s*s*t + d*x*u*s*s*t*t*t + d*x*v*s*s*s*t*t - d*y*y*y*u*u*v*s*s*t - d*y*y*y*u*v*v*s*t*t - d*y*y*y*u*s*s*s*t*t - d*y*y*y*v*s*s*t*t*t + d*y*u*u*v*s*s*t + d*y*u*v*v*s*t*t + d*y*u*s*s*s*t*t + d*y*v*s*s*t*t*t + x*x*x*u*s*s*t - x*x*x*u*t*t*t + x*x*x*u*t + x*x*x*v*s*s*s - x*x*x*v*s*t*t + x*x*x*v*s + x*x*y*u*s*s*s - x*x*y*u*s*t*t + x*x*y*u*s + x*x*y*v*s*s*t - x*x*y*v*t*t*t + x*x*y*v*t - x*y*y*u*s*s*t + x*y*y*u*t*t*t - x*y*y*u*t - x*y*y*v*s*s*s + x*y*y*v*s*t*t - x*y*y*v*s + x*u*s*s*t - x*u*t*t*t + x*u*t + x*v*s*s*s - x*v*s*t*t + x*v*s - y*y*y*u*s*s*s + y*y*y*u*s*t*t - y*y*y*u*s - y*y*y*v*s*s*t + y*y*y*v*t*t*t - y*y*y*v*t + y*u*s*s*s - y*u*s*t*t + y*u*s + y*v*s*s*t - y*v*t*t*t + y*v*t) * eqE d u v + (-d*x*x*y*u*u*v*t + d*x*x*y*u*v*v*s + d*x*y*y*u*u*v*s - d*x*y*y*u*v*v*t - x*x*x*u*u*u*t - x*x*x*u*u*v*s + x*x*x*u*v*v*t - x*x*x*u*t + x*x*x*v*v*v*s - x*x*x*v*s - x*x*y*u*u*u*s - x*x*y*u*u*v*t + x*x*y*u*v*v*s - x*x*y*u*s + x*x*y*v*v*v*t - x*x*y*v*t + x*y*y*u*u*u*t + x*y*y*u*u*v*s - x*y*y*u*v*v*t + x*y*y*u*t - x*y*y*v*v*v*s + x*y*y*v*s - x*u*u*u*t - x*u*u*v*s + x*u*v*v*t - x*u*t + x*v*v*v*s - x*v*s + y*y*y*u*u*u*s + y*y*y*u*u*v*t - y*y*y*u*v*v*s + y*y*y*u*s - y*y*y*v*v*v*t + y*y*y*v*t - y*u*u*u*s - y*u*u*v*t + y*u*v*v*s - y*u*s + y*v*v*v*t - y*v*t) * eqE d s t := by
  unfold m1 e1 tX tY kE eqE; grind
end Go.Sx
namespace Go.Sx
set_option linter.unusedSectionVars false
theorem onE_eq (x y : Int) : onE x y = eqE dI x y := rfl
theorem nzP {x y u v : Int} (h1 : Zp (onE x y)) (h2 : Zp (onE u v)) : ¬ Zp (1 + kE dI x y u v) := fun h =>
  complete (e := -1) h1 h2 (by decide) (h.of (by unfold kE; omega))
theorem nzM {x y u v : Int} (h1 : Zp (onE x y)) (h2 : Zp (onE u v)) : ¬ Zp (1 - kE dI x y u v) := fun h =>
  complete (e := 1) h1 h2 (by decide) (h.neg.of (by unfold kE; omega))
theorem nzB {x y u v : Int} (h1 : Zp (onE x y)) (h2 : Zp (onE u v)) : ¬ Zp (nZ x y u v) := fun h =>
  nzMul (nzM h1 h2) (nzP h1 h2) (h.of (by unfold nZ kE; grind))
structure Pt where
  x : Int
  y : Int
  hx : x % PI = x
  hy : y % PI = y
  on : Zp (onE x y)
theorem Pt.ext' {p q : Pt} (h1 : Zp (p.x - q.x)) (h2 : Zp (p.y - q.y)) : p = q := by
  obtain ⟨x, y, hx, hy, on⟩ := p
  obtain ⟨u, v, hu, hv, on2⟩ := q
  have e1 := zp_iff.1 h1
  have e2 := zp_iff.1 h2
  simp only at e1 e2
  rw [hx, hu] at e1
  rw [hy, hv] at e2
  subst e1 e2
  rfl
theorem zpM (a : Int) : Zp (a % PI - a) := zp_iff.2 (Int.emod_emod _ _)
theorem ivM {a : Int} (h : ¬ Zp a) : Zp (a * iv a - 1) := zp_iff.2 ((ivMul h).trans (by decide))
theorem sumXs {x y u v : Int} (h : ¬ Zp (nZ x y u v)) : Zp ((nX x y u v * iv (nZ x y u v)) % PI * (1 + kE dI x y u v) - tX x y u v) :=
  (zpM (nX x y u v * iv (nZ x y u v))).c2 (ivM h) (1 + kE dI x y u v) (tX x y u v) (by unfold nX nZ kE tX; grind)
theorem sumYs {x y u v : Int} (h : ¬ Zp (nZ x y u v)) : Zp ((nY x y u v * iv (nZ x y u v)) % PI * (1 - kE dI x y u v) - tY x y u v) :=
  (zpM (nY x y u v * iv (nZ x y u v))).c2 (ivM h) (1 - kE dI x y u v) (tY x y u v) (by unfold nY nZ kE tY; grind)
theorem closeZ {x y u v X Y : Int} (h1 : Zp (onE x y)) (h2 : Zp (onE u v)) (a : Zp (X * (1 + kE dI x y u v) - tX x y u v)) (b : Zp (Y * (1 - kE dI x y u v) - tY x y u v)) : Zp (onE X Y) := by
  have hc := closeE dI x y u v
  rw [← onE_eq, ← onE_eq] at hc
  have h3 := h1.c2 h2 _ _ hc
  have hn := nzMul (nzMul (nzP h1 h2) (nzP h1 h2)) (nzMul (nzM h1 h2) (nzM h1 h2))
  refine cancelZ hn ?_
  generalize kE dI x y u v = k at *
  generalize tX x y u v = n at *
  generalize tY x y u v = m at *
  refine h3.c3 a b 1 (-(X * (1 + k) + n) * ((1 - k) * (1 - k) + dI * (Y * (1 - k)) * (Y * (1 - k)))) ((Y * (1 - k) + m) * ((1 + k) * (1 + k) - dI * n * n)) ?_
  unfold onE
  grind
def Pt.add (p q : Pt) : Pt where
  x := (nX p.x p.y q.x q.y * iv (nZ p.x p.y q.x q.y)) % PI
  y := (nY p.x p.y q.x q.y * iv (nZ p.x p.y q.x q.y)) % PI
  hx := Int.emod_emod _ _
  hy := Int.emod_emod _ _
  on := closeZ p.on q.on (sumXs (nzB p.on q.on)) (sumYs (nzB p.on q.on))
theorem Pt.addX (p q : Pt) : Zp ((p.add q).x * (1 + kE dI p.x p.y q.x q.y) - tX p.x p.y q.x q.y) := sumXs (nzB p.on q.on)
theorem Pt.addY (p q : Pt) : Zp ((p.add q).y * (1 - kE dI p.x p.y q.x q.y) - tY p.x p.y q.x q.y) := sumYs (nzB p.on q.on)
theorem Pt.add_eq {p q r : Pt} (h1 : Zp (r.x * (1 + kE dI p.x p.y q.x q.y) - tX p.x p.y q.x q.y)) (h2 : Zp (r.y * (1 - kE dI p.x p.y q.x q.y) - tY p.x p.y q.x q.y)) : p.add q = r := by
  refine Pt.ext' ?_ ?_
  · exact cancelZ (nzP p.on q.on) (((p.addX q).sub h1).of (by grind))
  · exact cancelZ (nzM p.on q.on) (((p.addY q).sub h2).of (by grind))
theorem onE01 : Zp (onE 0 1) := Zp.zero.of (by unfold onE; grind)
def Pt.zero : Pt := ⟨0, 1, by decide, by decide, onE01⟩
def Pt.neg (p : Pt) : Pt := ⟨(-p.x) % PI, p.y, Int.emod_emod _ _, p.hy, (p.on.c2 (zpM (-p.x)) 1 (-((-p.x) % PI - p.x) * (1 + dI * (p.y * p.y))) (by unfold onE; grind))⟩
theorem Pt.add_comm (p q : Pt) : p.add q = q.add p :=
  Pt.add_eq ((q.addX p).of (by unfold kE tX; grind)) ((q.addY p).of (by unfold kE tY; grind))
theorem Pt.add_zero (p : Pt) : p.add Pt.zero = p :=
  Pt.add_eq (Zp.zero.of (by show _ = p.x * (1 + kE dI p.x p.y 0 1) - tX p.x p.y 0 1; unfold kE tX; grind)) (Zp.zero.of (by show _ = p.y * (1 - kE dI p.x p.y 0 1) - tY p.x p.y 0 1; unfold kE tY; grind))
theorem Pt.add_neg (p : Pt) : p.add p.neg = Pt.zero := by
  have e := zpM (-p.x)
  refine Pt.add_eq ?_ ?_
  · show Zp (0 * (1 + kE dI p.x p.y ((-p.x) % PI) p.y) - tX p.x p.y ((-p.x) % PI) p.y)
    exact e.c1 (-p.y) (by unfold kE tX; grind)
  · show Zp (1 * (1 - kE dI p.x p.y ((-p.x) % PI) p.y) - tY p.x p.y ((-p.x) % PI) p.y)
    exact p.on.c2 e (-1) (-(dI * (p.x * p.y * p.y)) - p.x) (by unfold kE tY onE; grind)
theorem dOne (x y u v X Y s t : Int) (a : Zp (X * (1 + kE dI x y u v) - tX x y u v)) (b : Zp (Y * (1 - kE dI x y u v) - tY x y u v)) : Zp (d1 dI x y u v s t - (1 + kE dI x y u v) * (1 - kE dI x y u v) * (1 + kE dI X Y s t)) := by
  generalize hk : kE dI x y u v = k at *
  generalize hn : tX x y u v = n at *
  generalize hm : tY x y u v = m at *
  refine a.c2 b (-(dI * s * t * (Y * (1 - k)))) (-(dI * s * t * n)) ?_
  unfold d1
  rw [hk, hn, hm]
  unfold kE
  grind
theorem nOne (x y u v X Y s t : Int) (a : Zp (X * (1 + kE dI x y u v) - tX x y u v)) (b : Zp (Y * (1 - kE dI x y u v) - tY x y u v)) : Zp (n1 dI x y u v s t - (1 + kE dI x y u v) * (1 - kE dI x y u v) * tX X Y s t) := by
  generalize hk : kE dI x y u v = k at *
  generalize hn : tX x y u v = n at *
  generalize hm : tY x y u v = m at *
  refine a.c2 b (-((1 - k) * t)) (-(s * (1 + k))) ?_
  unfold n1
  rw [hk, hn, hm]
  unfold tX
  grind
theorem eOne (x y u v X Y s t : Int) (a : Zp (X * (1 + kE dI x y u v) - tX x y u v)) (b : Zp (Y * (1 - kE dI x y u v) - tY x y u v)) : Zp (e1 dI x y u v s t - (1 + kE dI x y u v) * (1 - kE dI x y u v) * (1 - kE dI X Y s t)) := by
  generalize hk : kE dI x y u v = k at *
  generalize hn : tX x y u v = n at *
  generalize hm : tY x y u v = m at *
  refine a.c2 b (dI * s * t * (Y * (1 - k))) (dI * s * t * n) ?_
  unfold e1
  rw [hk, hn, hm]
  unfold kE
  grind
theorem mOne (x y u v X Y s t : Int) (a : Zp (X * (1 + kE dI x y u v) - tX x y u v)) (b : Zp (Y * (1 - kE dI x y u v) - tY x y u v)) : Zp (m1 dI x y u v s t - (1 + kE dI x y u v) * (1 - kE dI x y u v) * tY X Y s t) := by
  generalize hk : kE dI x y u v = k at *
  generalize hn : tX x y u v = n at *
  generalize hm : tY x y u v = m at *
  refine a.c2 b (-((1 - k) * s)) (-(t * (1 + k))) ?_
  unfold m1
  rw [hk, hn, hm]
  unfold tY
  grind
theorem Pt.add3X (p q r : Pt) : Zp (((p.add q).add r).x * d1 dI p.x p.y q.x q.y r.x r.y - n1 dI p.x p.y q.x q.y r.x r.y) := by
  have hd := dOne p.x p.y q.x q.y _ _ r.x r.y (p.addX q) (p.addY q)
  have hn := nOne p.x p.y q.x q.y _ _ r.x r.y (p.addX q) (p.addY q)
  have h := (p.add q).addX r
  exact hd.c3 hn h ((p.add q).add r).x (-1) ((1 + kE dI p.x p.y q.x q.y) * (1 - kE dI p.x p.y q.x q.y)) (by grind)
theorem Pt.add3Y (p q r : Pt) : Zp (((p.add q).add r).y * e1 dI p.x p.y q.x q.y r.x r.y - m1 dI p.x p.y q.x q.y r.x r.y) := by
  have hd := eOne p.x p.y q.x q.y _ _ r.x r.y (p.addX q) (p.addY q)
  have hn := mOne p.x p.y q.x q.y _ _ r.x r.y (p.addX q) (p.addY q)
  have h := (p.add q).addY r
  exact hd.c3 hn h ((p.add q).add r).y (-1) ((1 + kE dI p.x p.y q.x q.y) * (1 - kE dI p.x p.y q.x q.y)) (by grind)
theorem Pt.nzD (p q r : Pt) : ¬ Zp (d1 dI p.x p.y q.x q.y r.x r.y) := fun h =>
  nzMul (nzMul (nzP p.on q.on) (nzM p.on q.on)) (nzP (p.add q).on r.on) ((h.sub (dOne p.x p.y q.x q.y _ _ r.x r.y (p.addX q) (p.addY q))).of (by grind))
theorem Pt.nzE (p q r : Pt) : ¬ Zp (e1 dI p.x p.y q.x q.y r.x r.y) := fun h =>
  nzMul (nzMul (nzP p.on q.on) (nzM p.on q.on)) (nzM (p.add q).on r.on) ((h.sub (eOne p.x p.y q.x q.y _ _ r.x r.y (p.addX q) (p.addY q))).of (by grind))
theorem Pt.assoc (p q r : Pt) : (p.add q).add r = p.add (q.add r) := by
  rw [Pt.add_comm p (q.add r)]
  have hx := assocX dI p.x p.y q.x q.y r.x r.y
  have hy := assocY dI p.x p.y q.x q.y r.x r.y
  rw [← onE_eq, ← onE_eq, ← onE_eq] at hx hy
  have ax := p.on.c3 q.on r.on _ _ _ hx
  have ay := p.on.c3 q.on r.on _ _ _ hy
  refine Pt.ext' ?_ ?_
  · refine cancelZ (nzMul (p.nzD q r) (q.nzD r p)) ?_
    exact ax.c3 (p.add3X q r) (q.add3X r p) 1 (d1 dI q.x q.y r.x r.y p.x p.y) (-(d1 dI p.x p.y q.x q.y r.x r.y)) (by grind)
  · refine cancelZ (nzMul (p.nzE q r) (q.nzE r p)) ?_
    exact ay.c3 (p.add3Y q r) (q.add3Y r p) 1 (e1 dI q.x q.y r.x r.y p.x p.y) (-(e1 dI p.x p.y q.x q.y r.x r.y)) (by grind)
def nP : Nat → Pt → Pt
  | 0, _ => Pt.zero
  | n + 1, p => (nP n p).add p
theorem Pt.zero_add (p : Pt) : Pt.zero.add p = p := by rw [Pt.add_comm, Pt.add_zero]
theorem nP_add (m n : Nat) (p : Pt) : nP (m + n) p = (nP m p).add (nP n p) := by
  induction n with
  | zero => rw [Nat.add_zero]; exact (Pt.add_zero _).symm
  | succ n ih => rw [Nat.add_succ, nP, ih, Pt.assoc]; rfl
theorem nP_one (p : Pt) : nP 1 p = p := Pt.zero_add p
theorem nP_two (p : Pt) : nP 2 p = p.add p := by rw [nP, nP_one]
theorem nP_mul (m n : Nat) (p : Pt) : nP (m * n) p = nP m (nP n p) := by
  induction m with
  | zero => rw [Nat.zero_mul]; rfl
  | succ m ih => rw [Nat.succ_mul, nP_add, ih]; rfl
theorem Pt.swap (p q r s : Pt) : (p.add q).add (r.add s) = (p.add r).add (q.add s) := by
  rw [Pt.assoc, ← Pt.assoc q r s, Pt.add_comm q r, Pt.assoc r q s, ← Pt.assoc]
theorem nP_sum (n : Nat) (p q : Pt) : nP n (p.add q) = (nP n p).add (nP n q) := by
  induction n with
  | zero => exact (Pt.add_zero _).symm
  | succ n ih => rw [nP, ih, Pt.swap]; rfl
theorem Pt.neg_uniq {p q : Pt} (h : p.add q = Pt.zero) : q = p.neg := by
  rw [← Pt.zero_add q, ← Pt.add_neg p, Pt.add_comm p, Pt.assoc, h, Pt.add_zero]
theorem nP_zero (n : Nat) : nP n Pt.zero = Pt.zero := by
  induction n with
  | zero => rfl
  | succ n ih => rw [nP, ih, Pt.add_zero]
theorem nP_neg (n : Nat) (p : Pt) : nP n p.neg = (nP n p).neg := by
  refine Pt.neg_uniq ?_
  rw [← nP_sum, Pt.add_neg, nP_zero]
end Go.Sx
namespace Go.Sx
set_option linter.unusedSectionVars false
theorem ptX_mod (a b : List Nat) : ptX a b % PI = ptX a b := by
  unfold ptX
  split
  · rename_i ho
    unfold onW at ho
    simp only [Bool.and_eq_true, decide_eq_true_eq] at ho
    have := PI_PP
    exact Int.emod_eq_of_lt (by omega) (by omega)
  · rfl
theorem ptY_mod (a b : List Nat) : ptY a b % PI = ptY a b := by
  unfold ptY
  split
  · rename_i ho
    unfold onW at ho
    simp only [Bool.and_eq_true, decide_eq_true_eq] at ho
    have := PI_PP
    exact Int.emod_eq_of_lt (by omega) (by omega)
  · decide
theorem onZ_iff (x y : Int) : onZ x y = true ↔ Zp (onE x y) := by
  unfold onZ
  rw [decide_eq_true_eq, ← zp_iff]
  have : y * y - x * x - dI * (x * x * (y * y)) - 1 = onE x y := by unfold onE; grind
  rw [this]
theorem pt_on (a b : List Nat) : Zp (onE (ptX a b) (ptY a b)) := by
  unfold ptX ptY
  split
  · rename_i ho
    unfold onW at ho
    simp only [Bool.and_eq_true, decide_eq_true_eq] at ho
    exact (onZ_iff _ _).1 ho.2.2
  · exact onE01
def ptOf (a b : List Nat) : Pt := ⟨ptX a b, ptY a b, ptX_mod a b, ptY_mod a b, pt_on a b⟩
theorem Pt.lo (p : Pt) : 0 ≤ p.x ∧ p.x < PI ∧ 0 ≤ p.y ∧ p.y < PI := by
  have h1 := Int.emod_nonneg p.x (show PI ≠ 0 by decide)
  have h2 := Int.emod_lt_of_pos p.x PI_pos
  have h3 := Int.emod_nonneg p.y (show PI ≠ 0 by decide)
  have h4 := Int.emod_lt_of_pos p.y PI_pos
  rw [p.hx] at h1 h2
  rw [p.hy] at h3 h4
  exact ⟨h1, h2, h3, h4⟩
theorem Pt.nx (p : Pt) : ((num (fi p.x) : Nat) : Int) = p.x := by rw [num_fi, castN, p.hx]
theorem Pt.ny (p : Pt) : ((num (fi p.y) : Nat) : Int) = p.y := by rw [num_fi, castN, p.hy]
theorem Pt.onW (p : Pt) : onW (fi p.x) (fi p.y) = true := by
  unfold Go.Sx.onW
  have h1 : num (fi p.x) < PP := by rw [num_fi]; exact toN_lt _
  have h2 : num (fi p.y) < PP := by rw [num_fi]; exact toN_lt _
  rw [decide_eq_true h1, decide_eq_true h2, p.nx, p.ny, (onZ_iff _ _).2 p.on]
  rfl
theorem Pt.ptX (p : Pt) : ptX (fi p.x) (fi p.y) = p.x := by unfold Go.Sx.ptX; rw [if_pos p.onW, p.nx]
theorem Pt.ptY (p : Pt) : ptY (fi p.x) (fi p.y) = p.y := by unfold Go.Sx.ptY; rw [if_pos p.onW, p.ny]
theorem Pt.of (p : Pt) : ptOf (fi p.x) (fi p.y) = p := by
  refine Pt.ext' ?_ ?_
  · show Zp (Go.Sx.ptX _ _ - p.x); rw [p.ptX, Int.sub_self]; exact Zp.zero
  · show Zp (Go.Sx.ptY _ _ - p.y); rw [p.ptY, Int.sub_self]; exact Zp.zero
def Rp (q : Z4) (p : Pt) : Prop := ¬ Zp q.2.2.1 ∧ Zp (q.1 - p.x * q.2.2.1) ∧ Zp (q.2.1 - p.y * q.2.2.1) ∧ Zp (q.2.2.2 - p.x * p.y * q.2.2.1)
theorem efgh {e f g h : Int} {p : Pt} (hf : ¬ Zp f) (hg : ¬ Zp g) (he : Zp (e - p.x * g)) (hh : Zp (h - p.y * f)) : Rp (e * f, g * h, f * g, e * h) p :=
  ⟨nzMul hf hg, he.c1 f (by grind), hh.c1 g (by grind), he.c2 hh h (p.x * g) (by grind)⟩
theorem nzOf {a b : Int} (h : ¬ Zp a) (k : Zp (b - a)) : ¬ Zp b := fun l => h ((l.sub k).of (by omega))
theorem sumAB {q r : Z4} {p t : Pt} (hq : Rp q p) (hr : Rp r t) :
    Zp (q.1 * r.2.1 + r.1 * q.2.1 - tX p.x p.y t.x t.y * (q.2.2.1 * r.2.2.1)) ∧
    Zp (q.2.1 * r.2.1 + q.1 * r.1 - tY p.x p.y t.x t.y * (q.2.2.1 * r.2.2.1)) ∧
    Zp ((q.2.2.1 * r.2.2.1 - dI * (q.2.2.2 * r.2.2.2)) - (1 - kE dI p.x p.y t.x t.y) * (q.2.2.1 * r.2.2.1)) ∧
    Zp ((q.2.2.1 * r.2.2.1 + dI * (q.2.2.2 * r.2.2.2)) - (1 + kE dI p.x p.y t.x t.y) * (q.2.2.1 * r.2.2.1)) := by
  obtain ⟨X, Y, Z, T⟩ := q
  obtain ⟨U, V, W, S⟩ := r
  obtain ⟨_, a1, a2, a3⟩ := hq
  obtain ⟨_, b1, b2, b3⟩ := hr
  simp only at *
  refine ⟨?_, ?_, ?_, ?_⟩
  · exact a1.c4 b2 b1 a2 V (p.x * Z) Y (t.x * W) (by unfold tX; grind)
  · exact a2.c4 b2 a1 b1 V (p.y * Z) U (p.x * Z) (by unfold tY; grind)
  · exact a3.c2 b3 (-(dI * S)) (-(dI * (p.x * p.y * Z))) (by unfold kE; grind)
  · exact a3.c2 b3 (dI * S) (dI * (p.x * p.y * Z)) (by unfold kE; grind)
theorem sumRp' {q r : Z4} {p t : Pt} (hq : Rp q p) (hr : Rp r t) {e f g h c : Int} (hc : ¬ Zp c) (he : e = c * (q.1 * r.2.1 + r.1 * q.2.1)) (hh : h = c * (q.2.1 * r.2.1 + q.1 * r.1)) (hf : f = c * (q.2.2.1 * r.2.2.1 - dI * (q.2.2.2 * r.2.2.2))) (hg : g = c * (q.2.2.1 * r.2.2.1 + dI * (q.2.2.2 * r.2.2.2))) : Rp (e * f, g * h, f * g, e * h) (p.add t) := by
  obtain ⟨s1, s2, s3, s4⟩ := sumAB hq hr
  have hw := nzMul hq.1 hr.1
  have ax := p.addX t
  have ay := p.addY t
  have f0 := nzMul hc (nzOf (nzMul (nzM p.on t.on) hw) s3)
  have g0 := nzMul hc (nzOf (nzMul (nzP p.on t.on) hw) s4)
  rw [← hf] at f0
  rw [← hg] at g0
  refine efgh f0 g0 ?_ ?_
  · exact ax.c3 s1 s4 (-(c * (q.2.2.1 * r.2.2.1))) c (-(c * (p.add t).x)) (by rw [he, hg]; grind)
  · exact ay.c3 s2 s3 (-(c * (q.2.2.1 * r.2.2.1))) c (-(c * (p.add t).y)) (by rw [hh, hf]; grind)
def sumP (p q : Z4) : Z4 := (((p.2.1 + p.1) * (q.2.1 + q.1) - (p.2.1 - p.1) * (q.2.1 - q.1)) * (p.2.2.1 * q.2.2.1 + p.2.2.1 * q.2.2.1 - p.2.2.2 * (dI + dI) * q.2.2.2), (p.2.2.1 * q.2.2.1 + p.2.2.1 * q.2.2.1 + p.2.2.2 * (dI + dI) * q.2.2.2) * ((p.2.1 + p.1) * (q.2.1 + q.1) + (p.2.1 - p.1) * (q.2.1 - q.1)), (p.2.2.1 * q.2.2.1 + p.2.2.1 * q.2.2.1 - p.2.2.2 * (dI + dI) * q.2.2.2) * (p.2.2.1 * q.2.2.1 + p.2.2.1 * q.2.2.1 + p.2.2.2 * (dI + dI) * q.2.2.2), ((p.2.1 + p.1) * (q.2.1 + q.1) - (p.2.1 - p.1) * (q.2.1 - q.1)) * ((p.2.1 + p.1) * (q.2.1 + q.1) + (p.2.1 - p.1) * (q.2.1 - q.1)))
theorem sumPRp {q r : Z4} {p t : Pt} (hq : Rp q p) (hr : Rp r t) : Rp (sumP q r) (p.add t) :=
  sumRp' hq hr (c := 2) two_nz (by grind) (by grind) (by grind) (by grind)
def twiceP (p : Z4) : Z4 := (((p.1 + p.2.1) * (p.1 + p.2.1) - p.1 * p.1 - p.2.1 * p.2.1) * (p.2.1 * p.2.1 - p.1 * p.1 - (p.2.2.1 * p.2.2.1 + p.2.2.1 * p.2.2.1)), (p.2.1 * p.2.1 - p.1 * p.1) * -(p.1 * p.1 + p.2.1 * p.2.1), (p.2.1 * p.2.1 - p.1 * p.1 - (p.2.2.1 * p.2.2.1 + p.2.2.1 * p.2.2.1)) * (p.2.1 * p.2.1 - p.1 * p.1), ((p.1 + p.2.1) * (p.1 + p.2.1) - p.1 * p.1 - p.2.1 * p.2.1) * -(p.1 * p.1 + p.2.1 * p.2.1))
theorem twiceRp {q : Z4} {p : Pt} (hq : Rp q p) : Rp (twiceP q) (p.add p) := by
  have ax := p.addX p
  have ay := p.addY p
  have hn := hq.1
  have hw := nzMul hq.1 hq.1
  have n1 := nzMul (nzM p.on p.on) hw
  have n2 := nzMul (nzP p.on p.on) hw
  have ho := p.on
  obtain ⟨X, Y, Z, T⟩ := q
  obtain ⟨_, a1, a2, a3⟩ := hq
  simp only at *
  have hg : Zp ((Y * Y - X * X) - (1 + kE dI p.x p.y p.x p.y) * (Z * Z)) := a1.c3 a2 ho (-(X + p.x * Z)) (Y + p.y * Z) (Z * Z) (by unfold kE onE; grind)
  have hf : Zp ((Y * Y - X * X - (Z * Z + Z * Z)) - -((1 - kE dI p.x p.y p.x p.y) * (Z * Z))) := hg.of (by grind)
  refine efgh (nzOf (fun h => n1 (h.neg.of (by grind))) hf) (nzOf n2 hg) ?_ ?_
  · exact ax.c4 hg a1 a2 (-(Z * Z)) (-(p.add p).x) (2 * Y) (2 * (p.x * Z)) (by unfold tX; grind)
  · exact ay.c4 hf a1 a2 (Z * Z) (-(p.add p).y) (-(X + p.x * Z)) (-(Y + p.y * Z)) (by unfold tY; grind)
theorem wholeRp {q : Z4} {p : Pt} (hq : Rp q p) : fi (q.1 * iv q.2.2.1) = fi p.x ∧ fi (q.2.1 * iv q.2.2.1) = fi p.y := by
  obtain ⟨hz, a1, a2, _⟩ := hq
  have hi := ivM hz
  constructor
  · exact fi_congr (zp_iff.1 (a1.c2 hi (iv q.2.2.1) p.x (by grind)))
  · exact fi_congr (zp_iff.1 (a2.c2 hi (iv q.2.2.1) p.y (by grind)))
theorem openRp (p : Pt) : Rp (p.x, p.y, 1, p.x * p.y) p := ⟨one_nz, Zp.zero.of (by grind), Zp.zero.of (by grind), Zp.zero.of (by grind)⟩
theorem zeroRp : Rp (0, 1, 1, 0 * 1) Pt.zero := openRp Pt.zero
def lowN (s : List Nat) : Nat → Nat
  | 0 => 0
  | k + 1 => bitN s k * 2 ^ k + lowN s k
def nS (s : List Nat) : Nat := lowN s (8 * min s.length 32)
end Go.Sx
namespace Go.Sx
set_option linter.unusedSectionVars false
theorem bitE2 {s : List Nat} {i : Nat} (hi : i < 1000000) (hs : s.length < 9223372036854775808) : g51v realA s i = some (.v (.cell (.int .i64 (bitN s i : Nat)))) := by
  unfold g51v g51
  have q : realA.ib .quo .i64 (i : Int) 8 = ((i / 8 : Nat) : Int) := by rw [ar_quo (by omega) (by omega) (by omega)]; rfl
  have m : realA.ib .rem .i64 (i : Int) 8 = ((i % 8 : Nat) : Int) := by rw [ar_rem (by omega)]; rfl
  rw [ar_lss, q, ar_geq, ar_ofN]
  rw [decide_eq_false (by omega)]
  simp only []
  by_cases hl : i / 8 < s.length
  · rw [decide_eq_false (by omega)]
    simp only []
    unfold g51J3
    rw [q, m]
    simp only [ar_negN, ar_toNN, ar_lt, decide_eq_true hl, ar_nshr, ar_ofN, and1]
    rfl
  · rw [decide_eq_true (by omega)]
    simp only []
    unfold bitN
    rw [List.getD_eq_getElem?_getD, List.getElem?_eq_none (by omega)]
    show some (i6 0) = some (.v (.cell (.int .i64 (((0 : Nat) / 2 ^ (i % 8) % 2 : Nat) : Int))))
    rw [Nat.zero_div]
    rfl
theorem bitP {s : List Nat} {i : Nat} (hi : i < 1000000) (hs : s.length < 9223372036854775808) : g51ok realA s i = true ∧ g51r0 realA s i = (bitN s i : Nat) := ⟨by unfold g51ok; rw [bitE2 hi hs]; rfl, by unfold g51r0; rw [bitE2 hi hs]; rfl⟩
theorem g52of {A : Ar} {a b c d z x y u v w : List Nat} (e : g52v A a b c d z = some (.v (.agg [.nums .u64 4 x, .nums .u64 4 y, .nums .u64 4 u, .nums .u64 4 v, .nums .u64 4 w]))) : g52ok A a b c d z = true ∧ g52r0 A a b c d z = x ∧ g52r1 A a b c d z = y ∧ g52r2 A a b c d z = u ∧ g52r3 A a b c d z = v ∧ g52r4 A a b c d z = w := ⟨by unfold g52ok; rw [e]; rfl, by unfold g52r0; rw [e]; rfl, by unfold g52r1; rw [e]; rfl, by unfold g52r2; rw [e]; rfl, by unfold g52r3; rw [e]; rfl, by unfold g52r4; rw [e]; rfl⟩
theorem twiceE {A : Ar} (h : FOK A) (p : Z4) (d : Int) : g52ok A (fi p.1) (fi p.2.1) (fi p.2.2.1) (fi p.2.2.2) (fi d) = true ∧ g52r0 A (fi p.1) (fi p.2.1) (fi p.2.2.1) (fi p.2.2.2) (fi d) = fi (twiceP p).1 ∧ g52r1 A (fi p.1) (fi p.2.1) (fi p.2.2.1) (fi p.2.2.2) (fi d) = fi (twiceP p).2.1 ∧ g52r2 A (fi p.1) (fi p.2.1) (fi p.2.2.1) (fi p.2.2.2) (fi d) = fi (twiceP p).2.2.1 ∧ g52r3 A (fi p.1) (fi p.2.1) (fi p.2.2.1) (fi p.2.2.2) (fi d) = fi (twiceP p).2.2.2 ∧ g52r4 A (fi p.1) (fi p.2.1) (fi p.2.2.1) (fi p.2.2.2) (fi d) = fi d := by
  refine g52of ?_
  unfold g52v g52
  simp only [h.mul, h.add, h.sub, h.neg, g52t0, g52t1]
  rfl
theorem addE (p q : Z4) : g37ok realA (fi p.1) (fi p.2.1) (fi p.2.2.1) (fi p.2.2.2) (fi (dI + dI)) (fi q.1) (fi q.2.1) (fi q.2.2.1) (fi q.2.2.2) (fi (dI + dI)) = true ∧
    g37r0 realA (fi p.1) (fi p.2.1) (fi p.2.2.1) (fi p.2.2.2) (fi (dI + dI)) (fi q.1) (fi q.2.1) (fi q.2.2.1) (fi q.2.2.2) (fi (dI + dI)) = fi (sumP p q).1 ∧
    g37r1 realA (fi p.1) (fi p.2.1) (fi p.2.2.1) (fi p.2.2.2) (fi (dI + dI)) (fi q.1) (fi q.2.1) (fi q.2.2.1) (fi q.2.2.2) (fi (dI + dI)) = fi (sumP p q).2.1 ∧
    g37r2 realA (fi p.1) (fi p.2.1) (fi p.2.2.1) (fi p.2.2.2) (fi (dI + dI)) (fi q.1) (fi q.2.1) (fi q.2.2.1) (fi q.2.2.2) (fi (dI + dI)) = fi (sumP p q).2.2.1 ∧
    g37r3 realA (fi p.1) (fi p.2.1) (fi p.2.2.1) (fi p.2.2.2) (fi (dI + dI)) (fi q.1) (fi q.2.1) (fi q.2.2.1) (fi q.2.2.2) (fi (dI + dI)) = fi (sumP p q).2.2.2 ∧
    g37r4 realA (fi p.1) (fi p.2.1) (fi p.2.2.1) (fi p.2.2.2) (fi (dI + dI)) (fi q.1) (fi q.2.1) (fi q.2.2.1) (fi q.2.2.2) (fi (dI + dI)) = fi (dI + dI) :=
  addP fok p.1 p.2.1 p.2.2.1 p.2.2.2 (dI + dI) q.1 q.2.1 q.2.2.1 q.2.2.2 (dI + dI)
def mulP' (s : List Nat) : Nat → Nat → Z4 → Z4 → Z4
  | 0, _, _, o => o
  | k + 1, i, w, o => mulP' s k (i + 1) (twiceP w) (if bitN s i = 0 then o else sumP o w)
theorem mulLoopP (n : Nat) (s : List Nat) (hs : s.length < 9223372036854775808) (x3 x4 : List Nat) (t : Nat) (ht : t ≤ 256) : ∀ (k m i : Nat) (w o : Z4), i + k = t →
    g20L3 realA n (fun v _ => some v) (m + k + 1) s (t : Nat) (i : Nat) x3 x4 (fi w.1) (fi w.2.1) (fi w.2.2.1) (fi w.2.2.2) (fi (dI + dI)) (fi o.1) (fi o.2.1) (fi o.2.2.1) (fi o.2.2.2) (fi (dI + dI)) = some (.v (.agg [.nums .u64 4 (fi ((mulP' s k i w o).1 * iv (mulP' s k i w o).2.2.1)), .nums .u64 4 (fi ((mulP' s k i w o).2.1 * iv (mulP' s k i w o).2.2.1))])) := by
  intro k
  induction k with
  | zero =>
    intro m i w o hi
    rw [g20L3, ar_lss, decide_eq_false (by omega)]
    obtain ⟨w1, w2, w3⟩ := closeP fok o.1 o.2.1 o.2.2.1 o.2.2.2 (dI + dI)
    simp only [w1, w2, w3]
    rfl
  | succ k ih =>
    intro m i w o hi
    rw [show m + (k + 1) + 1 = (m + k + 1) + 1 by omega, g20L3, ar_lss, decide_eq_true (by omega)]
    simp only []
    unfold g20J4
    obtain ⟨b1, b2⟩ := bitP (s := s) (i := i) (by omega) hs
    obtain ⟨s0, s1, s2, s3, s4, s5⟩ := twiceE fok w (dI + dI)
    have es : mulP' s (k + 1) i w o = mulP' s k (i + 1) (twiceP w) (if bitN s i = 0 then o else sumP o w) := rfl
    have ei : realA.ib .add .i64 (i : Int) 1 = ((i + 1 : Nat) : Int) := (ar_add (a := (i : Int)) (b := 1) (by omega)).trans (by omega)
    rw [b1, b2, ar_neq, s0, es, s1, s2, s3, s4, s5, ei]
    by_cases hb : bitN s i = 0
    · rw [if_pos hb, decide_eq_true (show (bitN s i : Int) = 0 by omega)]
      simp only [Bool.not_true]
      exact ih m (i + 1) (twiceP w) o (by omega)
    · rw [if_neg hb, decide_eq_false (show ¬ (bitN s i : Int) = 0 by omega)]
      obtain ⟨t0, t1, t2, t3, t4, t5⟩ := addE o w
      simp only [Bool.not_false, t0, t1, t2, t3, t4, t5]
      exact ih m (i + 1) (twiceP w) (sumP o w) (by omega)
theorem mulP'Rp (s : List Nat) {p : Pt} : ∀ (k i : Nat) (w o : Z4), Rp w (nP (2 ^ i) p) → Rp o (nP (lowN s i) p) → Rp (mulP' s k i w o) (nP (lowN s (i + k)) p) := by
  intro k
  induction k with
  | zero => intro i w o _ ho; exact ho
  | succ k ih =>
    intro i w o hw ho
    rw [mulP', show i + (k + 1) = (i + 1) + k by omega]
    refine ih _ _ _ ?_ ?_
    · have := twiceRp hw
      rwa [← nP_two, ← nP_mul, Nat.mul_comm, ← Nat.pow_succ] at this
    · rw [lowN]
      by_cases hb : bitN s i = 0
      · rw [if_pos hb, hb, Nat.zero_mul, Nat.zero_add]
        exact ho
      · have : bitN s i = 1 := by have := bitN_lt s i; omega
        rw [if_neg hb, this, Nat.one_mul, nP_add, Pt.add_comm]
        exact sumPRp ho hw
theorem g20of {A : Ar} {s a b x y : List Nat} (e : g20v A s a b = some (.v (.agg [.nums .u64 4 x, .nums .u64 4 y]))) : g20ok A s a b = true ∧ g20r0 A s a b = x ∧ g20r1 A s a b = y := ⟨by unfold g20ok; rw [e]; rfl, by unfold g20r0; rw [e]; rfl, by unfold g20r1; rw [e]; rfl⟩
theorem g20Shape (A : Ar) (h : FOK A) (n : Nat) {s a b : List Nat} (ha : W4 a) (hb : W4 b) : g20 A n (fun v _ => some v) s a b = g20L3 A n (fun v _ => some v) n s (A.ib .mul .i64 8 (A.mn (A.ofN s.length) 32)) 0 [0, 0, 0, 0] [0, 0, 0, 0] (fi (ptX a b)) (fi (ptY a b)) (fi 1) (fi (ptX a b * ptY a b)) (fi (dI + dI)) (fi (ptX (fi 0) (fi 1))) (fi (ptY (fi 0) (fi 1))) (fi 1) (fi (ptX (fi 0) (fi 1) * ptY (fi 0) (fi 1))) (fi (dI + dI)) := by
  unfold g20
  simp only [openP h ha hb, zeroP h, openP h (fi_W4 0) (fi_W4 1)]
theorem MulPpt {s a b : List Nat} (ha : W4 a) (hb : W4 b) (hs : s.length < 9223372036854775808) : g20ok realA s a b = true ∧ g20r0 realA s a b = fi (nP (nS s) (ptOf a b)).x ∧ g20r1 realA s a b = fi (nP (nS s) (ptOf a b)).y := by
  refine g20of ?_
  unfold g20v
  rw [g20Shape realA fok 100000 ha hb, ptO.1, ptO.2]
  have e1 : realA.ib .mul .i64 8 (realA.mn (realA.ofN s.length) 32) = ((8 * min s.length 32 : Nat) : Int) := by
    rw [ar_ofN, ar_mn, ar_mul (by omega)]
    omega
  have hp : Rp (ptX a b, ptY a b, 1, ptX a b * ptY a b) (nP (2 ^ 0) (ptOf a b)) := by
    show Rp _ (nP 1 _)
    rw [nP_one]
    exact openRp (ptOf a b)
  have hr := mulP'Rp s (8 * min s.length 32) 0 _ (0, 1, 1, 0 * 1) hp zeroRp
  rw [Nat.zero_add] at hr
  obtain ⟨r1, r2⟩ := wholeRp hr
  rw [e1, show 100000 = (99999 - 8 * min s.length 32) + 8 * min s.length 32 + 1 by omega]
  refine (mulLoopP _ s hs [0, 0, 0, 0] [0, 0, 0, 0] (8 * min s.length 32) (by omega) (8 * min s.length 32) _ 0 (ptX a b, ptY a b, 1, ptX a b * ptY a b) (0, 1, 1, 0 * 1) (by omega)).trans ?_
  rw [r1, r2]
  rfl
theorem mulPt (p : Pt) {s : List Nat} (hs : s.length < 9223372036854775808) : g20ok realA s (fi p.x) (fi p.y) = true ∧ g20r0 realA s (fi p.x) (fi p.y) = fi (nP (nS s) p).x ∧ g20r1 realA s (fi p.x) (fi p.y) = fi (nP (nS s) p).y := by
  have := MulPpt (fi_W4 p.x) (fi_W4 p.y) hs
  rwa [p.of] at this
theorem addPt (p q : Pt) : g14ok realA (fi p.x) (fi p.y) (fi q.x) (fi q.y) = true ∧ g14r0 realA (fi p.x) (fi p.y) (fi q.x) (fi q.y) = fi (p.add q).x ∧ g14r1 realA (fi p.x) (fi p.y) (fi q.x) (fi q.y) = fi (p.add q).y := by
  obtain ⟨h1, h2, h3⟩ := AddP fok (fi_W4 p.x) (fi_W4 p.y) (fi_W4 q.x) (fi_W4 q.y)
  rw [p.ptX, p.ptY, q.ptX, q.ptY] at h2 h3
  exact ⟨h1, h2.trans (fi_congr (Int.emod_emod _ _).symm), h3.trans (fi_congr (Int.emod_emod _ _).symm)⟩
theorem negPt (p : Pt) : g16ok realA (fi p.x) (fi p.y) = true ∧ g16r0 realA (fi p.x) (fi p.y) = fi p.neg.x ∧ g16r1 realA (fi p.x) (fi p.y) = fi p.neg.y := by
  obtain ⟨h1, h2, h3⟩ := NegP fok (fi_W4 p.x) (fi_W4 p.y)
  rw [p.ptX] at h2
  rw [p.ptY] at h3
  exact ⟨h1, h2.trans (fi_congr (Int.emod_emod _ _).symm), h3⟩
theorem onPt (p : Pt) : g18ok realA (fi p.x) (fi p.y) = true ∧ g18r0 realA (fi p.x) (fi p.y) = true := by
  obtain ⟨h1, h2⟩ := onP fok (fi_W4 p.x) (fi_W4 p.y)
  exact ⟨h1, h2.trans p.onW⟩
def Pt.base : Pt := ptOf (fi BX) (fi BY)
theorem ptOf_x (a b : List Nat) : (ptOf a b).x = ptX a b := rfl
theorem ptOf_y (a b : List Nat) : (ptOf a b).y = ptY a b := rfl
theorem base_x : Pt.base.x = BX := by unfold Pt.base; rw [ptOf_x]; exact ptB.1
theorem base_y : Pt.base.y = BY := by unfold Pt.base; rw [ptOf_y]; exact ptB.2
theorem basePt : g22ok realA = true ∧ g22r0 realA = fi Pt.base.x ∧ g22r1 realA = fi Pt.base.y := by
  obtain ⟨h1, h2, h3⟩ := baseP fok
  exact ⟨h1, by rw [h2, base_x], by rw [h3, base_y]⟩
theorem zeroPt : g24ok realA = true ∧ g24r0 realA = fi Pt.zero.x ∧ g24r1 realA = fi Pt.zero.y := zeroP fok
end Go.Sx
namespace Go.Sx
set_option linter.unusedSectionVars false
theorem lowN_step (s : List Nat) (i : Nat) : ∀ j, j ≤ 8 → lowN s (8 * i + j) = lowN s (8 * i) + 256 ^ i * (s.getD i 0 % 2 ^ j) := by
  intro j
  induction j with
  | zero => intro _; rw [Nat.pow_zero, Nat.mod_one]; rfl
  | succ j ih =>
    intro hj
    have e1 : (8 * i + j) / 8 = i := by omega
    have e2 : (8 * i + j) % 8 = j := by omega
    rw [show 8 * i + (j + 1) = (8 * i + j) + 1 by omega, lowN, ih (by omega), Nat.mod_pow_succ]
    unfold bitN
    rw [e1, e2, Nat.pow_add, Nat.pow_mul, show 2 ^ 8 = 256 from rfl]
    generalize lowN s (8 * i) = a
    generalize s.getD i 0 % 2 ^ j = b
    generalize s.getD i 0 / 2 ^ j % 2 = c
    have : c * (256 ^ i * 2 ^ j) = 256 ^ i * (2 ^ j * c) := by rw [Nat.mul_comm, Nat.mul_assoc]
    rw [Nat.mul_add]
    omega
theorem lowN_8 (s : List Nat) (i : Nat) : lowN s (8 * (i + 1)) = lowN s (8 * i) + 256 ^ i * (s.getD i 0 % 256) := lowN_step s i 8 (Nat.le_refl _)
theorem nS1 (x : Nat) : nS [x] = x % 256 := by
  show lowN [x] (8 * (0 + 1)) = _
  rw [lowN_8]
  show 0 + 256 ^ 0 * (x % 256) = _
  omega
theorem nS2 (x y : Nat) : nS [x, y] = x % 256 + 256 * (y % 256) := by
  show lowN [x, y] (8 * (1 + 1)) = _
  rw [lowN_8, show (1 : Nat) = 0 + 1 from rfl, lowN_8]
  show 0 + 256 ^ 0 * (x % 256) + 256 ^ 1 * (y % 256) = _
  omega
theorem Rp.congr {q r : Z4} {p : Pt} (h : Rp q p) (h1 : Zp (r.1 - q.1)) (h2 : Zp (r.2.1 - q.2.1)) (h3 : Zp (r.2.2.1 - q.2.2.1)) (h4 : Zp (r.2.2.2 - q.2.2.2)) : Rp r p := by
  obtain ⟨a, b, c, d⟩ := h
  exact ⟨nzOf a h3, b.c3 h1 h3 1 1 (-p.x) (by grind), c.c3 h2 h3 1 1 (-p.y) (by grind), d.c3 h4 h3 1 1 (-(p.x * p.y)) (by grind)⟩
end Go.Sx
namespace Go.Sx
set_option linter.unusedSectionVars false
theorem baseRpt : g23ok realA = true ∧ g23r0 realA = fi Pt.base.x ∧ g23r1 realA = fi Pt.base.y := by
  obtain ⟨h1, h2, h3⟩ := baseR fok
  exact ⟨h1, by rw [h2, base_x], by rw [h3, base_y]⟩
structure PTK (A : Ar) : Prop where
  ex : g10ok A = true ∧ g10r0 A = true
  add : ∀ p q : Pt, g14ok A (fi p.x) (fi p.y) (fi q.x) (fi q.y) = true ∧ g14r0 A (fi p.x) (fi p.y) (fi q.x) (fi q.y) = fi (p.add q).x ∧ g14r1 A (fi p.x) (fi p.y) (fi q.x) (fi q.y) = fi (p.add q).y
  mul : ∀ (p : Pt) (s : List Nat), s.length < 9223372036854775808 → g20ok A s (fi p.x) (fi p.y) = true ∧ g20r0 A s (fi p.x) (fi p.y) = fi (nP (nS s) p).x ∧ g20r1 A s (fi p.x) (fi p.y) = fi (nP (nS s) p).y
  neg : ∀ p : Pt, g16ok A (fi p.x) (fi p.y) = true ∧ g16r0 A (fi p.x) (fi p.y) = fi p.neg.x ∧ g16r1 A (fi p.x) (fi p.y) = fi p.neg.y
  on : ∀ p : Pt, g18ok A (fi p.x) (fi p.y) = true ∧ g18r0 A (fi p.x) (fi p.y) = true
  base : g22ok A = true ∧ g22r0 A = fi Pt.base.x ∧ g22r1 A = fi Pt.base.y
  baseR : g23ok A = true ∧ g23r0 A = fi Pt.base.x ∧ g23r1 A = fi Pt.base.y
  zero : g24ok A = true ∧ g24r0 A = fi Pt.zero.x ∧ g24r1 A = fi Pt.zero.y
  zeroR : g25ok A = true ∧ g25r0 A = fi Pt.zero.x ∧ g25r1 A = fi Pt.zero.y
  lqs : ∀ x : Int, A.lq (fi x) (fi x) = true
theorem ptk : PTK realA where
  ex := exE
  add := addPt
  mul := fun p _ hs => mulPt p hs
  neg := negPt
  on := onPt
  base := basePt
  baseR := baseRpt
  zero := zeroPt
  zeroR := zeroR fok
  lqs := fun x => by rw [fok.lq]; exact decide_eq_true rfl
theorem g26of {A : Ar} {s x y : List Nat} (e : g26v A s = some (.v (.agg [.nums .u64 4 x, .nums .u64 4 y]))) : g26ok A s = true ∧ g26r0 A s = x ∧ g26r1 A s = y := ⟨by unfold g26ok; rw [e]; rfl, by unfold g26r0; rw [e]; rfl, by unfold g26r1; rw [e]; rfl⟩
theorem g26Shape (A : Ar) (h : PTK A) (n : Nat) (s t : List Nat) (k : Int) (e0 : A.mn (A.ofN s.length) 4 = k) (e1 : A.neg k = false) (e2 : A.le (A.toN k) s.length = true) (et : (s.take (A.toN k)).drop 0 = t) (ht : t.length < 9223372036854775808) : g26 A n (fun v _ => some v) s = some (.v (.agg [.nums .u64 4 (fi (nP (nS t) Pt.base).x), .nums .u64 4 (fi (nP (nS t) Pt.base).y)])) := by
  unfold g26
  simp only [e0, e1, e2, et, h.base, h.mul Pt.base t ht]
theorem leastE (s : List Nat) : ∃ p : Pt, g26ok realA s = true ∧ g26r0 realA s = fi p.x ∧ g26r1 realA s = fi p.y := by
  have n0 : realA.mn (realA.ofN s.length) 4 = ((min s.length 4 : Nat) : Int) := by rw [ar_mn, ar_ofN]; omega
  exact ⟨_, g26of (g26Shape realA ptk 100000 s _ _ n0 (ar_negN _) (by rw [ar_toNN, ar_le]; exact decide_eq_true (by omega)) rfl (by rw [List.length_drop, List.length_take, ar_toNN]; omega))⟩
end Go.Sx
namespace Go.Sx
set_option linter.unusedSectionVars false
open Go.Proofs
set_option linter.unusedVariables false
set_option maxRecDepth 100000
theorem SxY05jpi {R : Type} (c : Bool) {f1 f2 : Nat → Option R} {a1 a2 : Option R} (h1 : Prs f1 a1) (h2 : Prs f2 a2) : Prs (fun k => match c with | true => f1 k | false => f2 k) (match c with | true => a1 | false => a2) := by cases c <;> assumption
attribute [local irreducible] g14ok g14r0 g14r1 g16ok g16r0 g16r1 g20ok g20r0 g20r1 g26ok g26r0 g26r1 g10ok g10r0
def g7O (A : Ar) : Orc := orcOf [(10, g10o A), (26, g26o A), (20, g20o A), (14, g14o A), (16, g16o A)]
theorem g7O_sound : OSound Try.prog (g7O realA) := orc_sound fun f g hm args v hv => by
  simp only [List.mem_cons, List.not_mem_nil, or_false, Prod.mk.injEq] at hm
  rcases hm with ⟨rfl, rfl⟩ | ⟨rfl, rfl⟩ | ⟨rfl, rfl⟩ | ⟨rfl, rfl⟩ | ⟨rfl, rfl⟩
  · exact g10o_sound _ _ hv
  · exact g26o_sound _ _ hv
  · exact g20o_sound _ _ hv
  · exact g14o_sound _ _ hv
  · exact g16o_sound _ _ hv
theorem g7O_det : ODet (g7O realA) := orc_det _
def g7an : Ann := [(0, ([0, 1, 2], [])), (1, ([0, 1, 2], [])), (2, ([0, 1, 2, 7], [])), (3, ([], [])), (4, ([0, 1, 2, 7], [])), (5, ([1, 2, 7, 8], [5002])), (6, ([1, 2, 7, 8, 9], [5002])), (7, ([1, 7, 8, 9, 10], [5002, 7009]))]
def g7res : List ResultVar := [.tmp 6]
def g7cut : List Nat := [4]
abbrev g7t0 (A : Ar) (x0 : List Nat) (x1 x2 : Nat) : List Nat := g20r0 A ([A.i2n .u8 (A.ib .mul .i64 (A.ofN x1) (A.ofN x2)), A.i2n .u8 (A.ish .shr .i64 (A.ib .mul .i64 (A.ofN x1) (A.ofN x2)) 8)].take 2) (g26r0 A x0) (g26r1 A x0)
abbrev g7t1 (A : Ar) (x0 : List Nat) (x1 x2 : Nat) : List Nat := g20r1 A ([A.i2n .u8 (A.ib .mul .i64 (A.ofN x1) (A.ofN x2)), A.i2n .u8 (A.ish .shr .i64 (A.ib .mul .i64 (A.ofN x1) (A.ofN x2)) 8)].take 2) (g26r0 A x0) (g26r1 A x0)
noncomputable def g7N {R : Type} (A : Ar) (kk : AV → Heap → Option R) (t : List Bool → St → Option R) (p : List Bool) (s : St) : Option R := nodeN A gtys (g7O A) g7an g7cut t (bodyOf Try.f7) (finD gtys g7res kk) p s
def g7J4s (x0 : List Nat) (x1 x2 : Nat) (x3 : Bool) : St := ⟨[(0, (tS x0)), (1, (u8v x1)), (2, (u8v x2)), (7, (bO x3))], []⟩
def g7J4 {R : Type} (A : Ar) (n : Nat) (kk : AV → Heap → Option R)  (x0 : List Nat) (x1 x2 : Nat) (x3 : Bool) : Option R :=
  match g26ok A x0 with
  | true => match g20ok A ([x2].take 1) (g26r0 A x0) (g26r1 A x0) with
    | true => match g20ok A ([x1].take 1) (g20r0 A ([x2].take 1) (g26r0 A x0) (g26r1 A x0)) (g20r1 A ([x2].take 1) (g26r0 A x0) (g26r1 A x0)) with
      | true => match x3 with
        | true => match g20ok A [2] (g26r0 A x0) (g26r1 A x0) with
          | true => match g14ok A (g26r0 A x0) (g26r1 A x0) (g26r0 A x0) (g26r1 A x0) with
            | true => match (A.lq (g20r0 A [2] (g26r0 A x0) (g26r1 A x0)) (g14r0 A (g26r0 A x0) (g26r1 A x0) (g26r0 A x0) (g26r1 A x0))) && ((A.lq (g20r1 A [2] (g26r0 A x0) (g26r1 A x0)) (g14r1 A (g26r0 A x0) (g26r1 A x0) (g26r0 A x0) (g26r1 A x0))) && true) with
              | true => match g20ok A ([A.i2n .u8 (A.ib .mul .i64 (A.ofN x1) (A.ofN x2)), A.i2n .u8 (A.ish .shr .i64 (A.ib .mul .i64 (A.ofN x1) (A.ofN x2)) 8)].take 2) (g26r0 A x0) (g26r1 A x0) with
                | true => match (A.lq (g20r0 A ([x1].take 1) (g20r0 A ([x2].take 1) (g26r0 A x0) (g26r1 A x0)) (g20r1 A ([x2].take 1) (g26r0 A x0) (g26r1 A x0))) (g7t0 A x0 x1 x2)) && ((A.lq (g20r1 A ([x1].take 1) (g20r0 A ([x2].take 1) (g26r0 A x0) (g26r1 A x0)) (g20r1 A ([x2].take 1) (g26r0 A x0) (g26r1 A x0))) (g7t1 A x0 x1 x2)) && true) with
                  | true => match g20ok A ([x1].take 1) (g26r0 A x0) (g26r1 A x0) with
                    | true => match g16ok A (g20r0 A ([x1].take 1) (g26r0 A x0) (g26r1 A x0)) (g20r1 A ([x1].take 1) (g26r0 A x0) (g26r1 A x0)) with
                      | true => match g16ok A (g26r0 A x0) (g26r1 A x0) with
                        | true => match g20ok A ([x1].take 1) (g16r0 A (g26r0 A x0) (g26r1 A x0)) (g16r1 A (g26r0 A x0) (g26r1 A x0)) with
                          | true => kk (bO ((A.lq (g16r0 A (g20r0 A ([x1].take 1) (g26r0 A x0) (g26r1 A x0)) (g20r1 A ([x1].take 1) (g26r0 A x0) (g26r1 A x0))) (g20r0 A ([x1].take 1) (g16r0 A (g26r0 A x0) (g26r1 A x0)) (g16r1 A (g26r0 A x0) (g26r1 A x0)))) && ((A.lq (g16r1 A (g20r0 A ([x1].take 1) (g26r0 A x0) (g26r1 A x0)) (g20r1 A ([x1].take 1) (g26r0 A x0) (g26r1 A x0))) (g20r1 A ([x1].take 1) (g16r0 A (g26r0 A x0) (g26r1 A x0)) (g16r1 A (g26r0 A x0) (g26r1 A x0)))) && true))) [(8030, ⟨[.nums .u8 1 [x1]], 5, 2⟩), (8024, ⟨[.nums .u8 1 [x1]], 5, 2⟩), (8016, ⟨[.nums .u8 2 [A.i2n .u8 (A.ib .mul .i64 (A.ofN x1) (A.ofN x2)), A.i2n .u8 (A.ish .shr .i64 (A.ib .mul .i64 (A.ofN x1) (A.ofN x2)) 8)]], 5, 2⟩), (5002, ⟨[.nums .u64 4 (g26r0 A x0), .nums .u64 4 (g26r1 A x0)], 26, 1⟩), (7009, ⟨[.nums .u64 4 (g20r0 A ([x1].take 1) (g20r0 A ([x2].take 1) (g26r0 A x0) (g26r1 A x0)) (g20r1 A ([x2].take 1) (g26r0 A x0) (g26r1 A x0))), .nums .u64 4 (g20r1 A ([x1].take 1) (g20r0 A ([x2].take 1) (g26r0 A x0) (g26r1 A x0)) (g20r1 A ([x2].take 1) (g26r0 A x0) (g26r1 A x0)))], 26, 1⟩)]
                          | false => none
                        | false => none
                      | false => none
                    | false => none
                  | false => kk (bO false) [(8016, ⟨[.nums .u8 2 [A.i2n .u8 (A.ib .mul .i64 (A.ofN x1) (A.ofN x2)), A.i2n .u8 (A.ish .shr .i64 (A.ib .mul .i64 (A.ofN x1) (A.ofN x2)) 8)]], 5, 2⟩), (5002, ⟨[.nums .u64 4 (g26r0 A x0), .nums .u64 4 (g26r1 A x0)], 26, 1⟩), (7009, ⟨[.nums .u64 4 (g20r0 A ([x1].take 1) (g20r0 A ([x2].take 1) (g26r0 A x0) (g26r1 A x0)) (g20r1 A ([x2].take 1) (g26r0 A x0) (g26r1 A x0))), .nums .u64 4 (g20r1 A ([x1].take 1) (g20r0 A ([x2].take 1) (g26r0 A x0) (g26r1 A x0)) (g20r1 A ([x2].take 1) (g26r0 A x0) (g26r1 A x0)))], 26, 1⟩)]
                | false => none
              | false => kk (bO false) [(5002, ⟨[.nums .u64 4 (g26r0 A x0), .nums .u64 4 (g26r1 A x0)], 26, 1⟩), (7009, ⟨[.nums .u64 4 (g20r0 A ([x1].take 1) (g20r0 A ([x2].take 1) (g26r0 A x0) (g26r1 A x0)) (g20r1 A ([x2].take 1) (g26r0 A x0) (g26r1 A x0))), .nums .u64 4 (g20r1 A ([x1].take 1) (g20r0 A ([x2].take 1) (g26r0 A x0) (g26r1 A x0)) (g20r1 A ([x2].take 1) (g26r0 A x0) (g26r1 A x0)))], 26, 1⟩)]
            | false => none
          | false => none
        | false => kk (bO false) [(5002, ⟨[.nums .u64 4 (g26r0 A x0), .nums .u64 4 (g26r1 A x0)], 26, 1⟩), (7009, ⟨[.nums .u64 4 (g20r0 A ([x1].take 1) (g20r0 A ([x2].take 1) (g26r0 A x0) (g26r1 A x0)) (g20r1 A ([x2].take 1) (g26r0 A x0) (g26r1 A x0))), .nums .u64 4 (g20r1 A ([x1].take 1) (g20r0 A ([x2].take 1) (g26r0 A x0) (g26r1 A x0)) (g20r1 A ([x2].take 1) (g26r0 A x0) (g26r1 A x0)))], 26, 1⟩)]
      | false => none
    | false => none
  | false => none
def g7 {R : Type} (A : Ar) (n : Nat) (kk : AV → Heap → Option R) (a : List Nat) (b c : Nat) : Option R :=
  match g10ok A with
  | true => match !(g10r0 A) with
    | true => kk (bO false) []
    | false => g7J4 A n kk  a b c (g10r0 A)
  | false => none
section
variable {R : Type} {A : Ar} {n : Nat} {kk : AV → Heap → Option R} {tb : Nat → List Bool → St → Option R} (st : Stp (g7N A kk) tb)
include st
theorem g7J4_go {x0 : List Nat} {x1 : Nat} {x2 : Nat} {x3 : Bool} : Prs (fun k => tb k (pth 15) (g7J4s x0 x1 x2 x3)) (g7J4 A n kk x0 x1 x2 x3) := by
  unfold g7J4
  exact st.g (pc (SxY05jpi _ (SxY05jpi _ (SxY05jpi _ (SxY05jpi _ (SxY05jpi _ (SxY05jpi _ (SxY05jpi _ (SxY05jpi _ (SxY05jpi _ (SxY05jpi _ (SxY05jpi _ (SxY05jpi _ (SxY05jpi _ (pf _) pn) pn) pn) pn) (pf _)) pn) (pf _)) pn) pn) (pf _)) pn) pn) pn) (by kernel_rfl))
theorem g7_go {a : List Nat} {b : Nat} {c : Nat} : Prs (fun k => funN A gtys (g7O A) g7an g7cut (bodyOf Try.f7) g7res [(tS a), (u8v b), (u8v c)] [] kk (tb k)) (g7 A n kk a b c) := by
  unfold g7
  exact pc (SxY05jpi _ (SxY05jpi _ (pf _) (g7J4_go st)) pn) (by kernel_rfl)
end
def g7is (o : Option AV) : Bool := match o with
  | some (.v (.cell (.bool _))) => true
  | _ => false
def g7g0 (o : Option AV) : Bool := match o with
  | some (.v (.cell (.bool x))) => x
  | _ => false
theorem g7is_spec {o : Option AV} (h : g7is o = true) : o = some (.v (.cell (.bool (g7g0 o)))) := by
  unfold g7is at h
  split at h
  · rfl
  · cases h
def g7v (A : Ar) (a : List Nat) (b c : Nat) : Option AV := g7 A (100000) (fun v _ => some v) a b c
def g7ok (A : Ar) (a : List Nat) (b c : Nat) : Bool := g7is (g7v A a b c)
def g7r0 (A : Ar) (a : List Nat) (b c : Nat) : Bool := g7g0 (g7v A a b c)
theorem g7ok_spec {A : Ar} {a b c} (h : g7ok A a b c = true) : g7v A a b c = some (.v (.cell (.bool (g7r0 A a b c)))) := g7is_spec h
def g7o (A : Ar) (args : List AV) : Option (Bool × AV) := match args with
  | [.v (.cell (.str a)), .v (.cell (.nat .u8 b)), .v (.cell (.nat .u8 c))] => some (g7ok A a b c, .v (.cell (.bool (g7r0 A a b c))))
  | _ => none
theorem g7o_sound : ∀ args v, g7o realA args = some (true, v) → Fn1 Try.prog 7 args v := by
  intro args v h
  unfold g7o at h
  split at h
  · rename_i a b c
    simp only [Option.some.injEq, Prod.mk.injEq] at h
    obtain ⟨hc, h⟩ := h
    subst h
    · skip
      exact fn1_ofG mixed gtysOK g7O_sound g7O_det (an := g7an) (cut := g7cut) Try.func7 (c := bodyOf Try.f7) rfl (by kernel_rfl) Try.call7 (Nat.le_of_ble_eq_true rfl) (fun b => rfl) (fun _ => (show g7v realA a b c = _ from g7ok_spec hc)) fun _ st => g7_go st
  · cases h
attribute [local irreducible] g7ok g7r0
end Go.Sx
namespace Go.Sx
set_option linter.unusedSectionVars false
theorem g7Shape (A : Ar) (h : PTK A) (n : Nat) (a : List Nat) (b c : Nat) (p : Pt) (x y z : List Nat) (ex : [b].take 1 = x) (ey : [c].take 1 = y) (ez : [A.i2n .u8 (A.ib .mul .i64 (A.ofN b) (A.ofN c)), A.i2n .u8 (A.ish .shr .i64 (A.ib .mul .i64 (A.ofN b) (A.ofN c)) 8)].take 2 = z)
    (hx : x.length < 9223372036854775808) (hy : y.length < 9223372036854775808) (hz : z.length < 9223372036854775808) (e1 : nS z = nS x * nS y) (e2 : nS [2] = 2) (hp : g26ok A a = true ∧ g26r0 A a = fi p.x ∧ g26r1 A a = fi p.y) :
    g7 A n (fun v _ => some v) a b c = some (.v (.cell (.bool true))) := by
  unfold g7
  simp only [h.ex, Bool.not_true]
  unfold g7J4
  have mx := fun p : Pt => h.mul p x hx
  have my := fun p : Pt => h.mul p y hy
  have mz := fun p : Pt => h.mul p z hz
  have m2 := fun p : Pt => h.mul p [2] (by decide)
  simp only [ex, ey, ez, hp, mx, my, mz, m2, h.add, h.neg, g7t0, g7t1, e1, nP_mul, e2, nP_two, nP_neg, h.lqs, Bool.and_true]
theorem law7n (a : List Nat) (_ha : ∀ x ∈ a, x < 256) (_la : a.length < 2 ^ 47) (b : Nat) (hb : b < 2 ^ IntKind.bits .u8) (c : Nat) (hc : c < 2 ^ IntKind.bits .u8) : g7o realA [.v (.cell (.str a)), .v (.cell (.nat .u8 b)), .v (.cell (.nat .u8 c))] = some (true, .v (.cell (.bool true))) := by
  obtain ⟨p, hp⟩ := leastE a
  have hb' : b < 256 := hb
  have hc' : c < 256 := hc
  have hm : b * c < 65536 := by
    have := Nat.mul_le_mul (show b ≤ 255 by omega) (show c ≤ 255 by omega)
    omega
  have ec : realA.ib .mul .i64 (realA.ofN b) (realA.ofN c) = ((b * c : Nat) : Int) := by
    rw [ar_ofN, ar_ofN]
    have : (b : Int) * (c : Int) = ((b * c : Nat) : Int) := (Int.natCast_mul b c).symm
    exact (ar_mul (a := (b : Int)) (b := (c : Int)) (by rw [this]; omega)).trans this
  have e8 : realA.ish .shr .i64 ((b * c : Nat) : Int) 8 = (((b * c) / 256 : Nat) : Int) := by
    rw [ar_shr (by decide)]
    rfl
  have key : g7v realA a b c = some (.v (.cell (.bool true))) := by
    refine g7Shape realA ptk 100000 a b c p [b] [c] [(b * c) % 256, (b * c) / 256 % 256] rfl rfl ?_ (by show 1 < _; decide) (by show 1 < _; decide) (by show 2 < _; decide) ?_ rfl hp
    · rw [ec, e8, ar_i2nN, ar_i2nN]
      rfl
    · rw [nS2, nS1, nS1, Nat.mod_eq_of_lt hb', Nat.mod_eq_of_lt hc']
      omega
  have k : g7ok realA a b c = true := by unfold g7ok; rw [key]; rfl
  have r : g7r0 realA a b c = true := by unfold g7r0; rw [key]; rfl
  show some (g7ok realA a b c, AV.v (.cell (.bool (g7r0 realA a b c)))) = _
  rw [k, r]
theorem nat8 {x : Int} (h : (Lit.int .u8 x).wf = true) : x.toNat < 256 := by
  have : (0 ≤ x ∧ x ≤ 255) := by simpa [Lit.wf, IntKind.min, IntKind.max, IntKind.signed, IntKind.bits] using h
  omega
theorem law7 (a : List Nat) (ha : ∀ x ∈ a, x < 256) (la : a.length < 2 ^ 47) (b : Int) (hb : (Lit.int .u8 b).wf = true) (c : Int) (hc : (Lit.int .u8 c).wf = true) : g7o realA [.v (.cell (.str a)), .v (.cell (.nat .u8 b.toNat)), .v (.cell (.nat .u8 c.toNat))] = some (true, .v (.cell (.bool true))) := law7n a ha la _ (nat8 hb) _ (nat8 hc)
end Go.Sx
