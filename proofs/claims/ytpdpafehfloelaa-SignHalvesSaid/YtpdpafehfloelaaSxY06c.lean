import Derived.Test.YtpdpafehfloelaaSxW06Ic
import Derived.Test.YtpdpafehfloelaaSxAr
import Derived.Test.YtpdpafehfloelaaSxY06p
import Derived.Test.YtpdpafehfloelaaSxY06a
namespace Go.Sx
set_option linter.unusedSectionVars false
def bitN (s:List Nat) (i:Nat):Nat:=s.getD (i/8) 0/2^(i%8)%2
theorem bitN_lt (s:List Nat) (i:Nat):bitN s i<2:=Nat.mod_lt _ (by decide)
abbrev Z4:=Int × Int × Int × Int
def sumI (p q:Z4):Z4:=((p.1*q.2.1+q.1*p.2.1)*(p.2.2.1*q.2.2.1 - dI*(p.2.2.2*q.2.2.2)),(p.2.1*q.2.1+p.1*q.1)*(p.2.2.1*q.2.2.1+dI*(p.2.2.2*q.2.2.2)),(p.2.2.1*q.2.2.1 - dI*(p.2.2.2*q.2.2.2))*(p.2.2.1*q.2.2.1+dI*(p.2.2.2*q.2.2.2)),(p.1*q.2.1+q.1*p.2.1)*(p.2.1*q.2.1+p.1*q.1))
end Go.Sx
namespace Go.Sx
set_option linter.unusedSectionVars false
def Zp (a:Int):Prop:=a%PI=0
instance (a:Int):Decidable (Zp a):=inferInstanceAs (Decidable (a%PI=0))
theorem Zp.zero:Zp 0:=by decide
theorem Zp.mul {a:Int} (h:Zp a) (b:Int):Zp (b*a):=by
  show (b*a)%PI=0
  rw [Int.mul_emod,show a%PI=0 from h,Int.mul_zero]; rfl
theorem Zp.add {a b:Int} (h:Zp a) (k:Zp b):Zp (a+b):=by
  show (a+b)%PI=0
  rw [Int.add_emod,show a%PI=0 from h,show b%PI=0 from k]; rfl
theorem Zp.neg {a:Int} (h:Zp a):Zp (-a):=by
  have:=h.mul (-1)
  rwa [show -1*a= -a by omega] at this
theorem Zp.sub {a b:Int} (h:Zp a) (k:Zp b):Zp (a - b):=by
  have:=h.add k.neg
  rwa [show a + -b=a - b by omega] at this
theorem zp_iff {a b:Int}:Zp (a - b)↔a%PI=b%PI:=by
  constructor
  · intro h
    have:(a - b+b)%PI=b%PI:=by rw [Int.add_emod,show (a - b)%PI=0 from h,Int.zero_add,Int.emod_emod]
    rwa [Int.sub_add_cancel] at this
  · intro h
    show (a - b)%PI=0
    rw [Int.sub_emod,h,Int.sub_self]; rfl
theorem Zp.of {a b:Int} (h:Zp a) (e:a=b):Zp b:=e ▸ h
theorem Zp.c1 {a f:Int} (h:Zp a) (p:Int) (e:f=p*a):Zp f:=(h.mul p).of e.symm
theorem Zp.c2 {a b f:Int} (h:Zp a) (k:Zp b) (p q:Int) (e:f=p*a+q*b):Zp f:=((h.mul p).add (k.mul q)).of e.symm
theorem Zp.c3 {a b c f:Int} (h:Zp a) (k:Zp b) (l:Zp c) (p q r:Int) (e:f=p*a+q*b+r*c):Zp f:=(((h.mul p).add (k.mul q)).add (l.mul r)).of e.symm
theorem Zp.c4 {a b c d f:Int} (h:Zp a) (k:Zp b) (l:Zp c) (m:Zp d) (p q r s:Int) (e:f=p*a+q*b+r*c+s*d):Zp f:=((((h.mul p).add (k.mul q)).add (l.mul r)).add (m.mul s)).of e.symm
theorem Zp.or {a b:Int} (h:Zp (a*b)):Zp a∨Zp b:=by
  by_cases ha:a%PI=0
  · exact .inl ha
  · have h1:=ivMul ha
    refine .inr ?_
    have h2:Zp (a*iv a - 1):=zp_iff.2 (h1.trans (by decide))
    exact h.c2 h2 (iv a) (-b) (by grind)
theorem one_nz:¬ Zp 1:=by decide
theorem nzMul {a b:Int} (ha:¬ Zp a) (hb:¬ Zp b):¬ Zp (a*b):=fun h=>h.or.elim ha hb
theorem cancelZ {a b:Int} (ha:¬ Zp a) (h:Zp (a*b)):Zp b:=h.or.resolve_left ha
theorem dEuler:pw (dI%PI).toNat (PM/2)=PM:=by decide +kernel
theorem PM2_lt:PM/2<2^256:=by decide
theorem PM2e:PM/2*2=PM:=by decide
theorem zpN (x:Int):Zp x↔(x%PI).toNat%PP=0:=by
  rw [Nat.mod_eq_of_lt (toN_lt x)]
  have:=castN x
  unfold Zp
  omega
theorem dNS {z w:Int} (h:Zp (dI*(z*z) - w*w)):Zp z:=by
  apply Classical.byContradiction
  intro hz
  have hz':(z%PI).toNat%PP≠0:=fun e=>hz ((zpN z).2 e)
  have h1:=zp_iff.1 h
  have h2:((dI%PI).toNat*((z%PI).toNat*(z%PI).toNat))%PP=((w%PI).toNat*(w%PI).toNat)%PP:=by
    have:(((dI%PI).toNat*((z%PI).toNat*(z%PI).toNat):Nat):Int)%PI=(((w%PI).toNat*(w%PI).toNat:Nat):Int)%PI:=by
      rw [Int.natCast_mul,Int.natCast_mul,Int.natCast_mul,castN,castN,castN]
      rw [fmulM (Int.emod_emod dI PI) (fmulM (Int.emod_emod z PI) (Int.emod_emod z PI)),fmulM (Int.emod_emod w PI) (Int.emod_emod w PI)]
      exact h1
    rw [← PI_PP] at this
    exact_mod_cast this
  have h3:=pmod h2 (PM/2)
  rw [Nat.mul_pow,← Nat.pow_two,← Nat.pow_two,← Nat.pow_mul,← Nat.pow_mul,Nat.mul_comm 2,PM2e,Nat.mul_mod,fermat hz',Nat.mul_one,Nat.mod_mod,← pw_spec _ _ PM2_lt,dEuler] at h3
  by_cases hw:(w%PI).toNat%PP=0
  · rw [zero_pow_mod hw (by decide)] at h3
    exact absurd h3 (by decide)
  · rw [fermat hw] at h3
    exact absurd h3 (by decide)
def iI:Int:=(pw 2 QQ:Nat)
theorem iI2:Zp (iI*iI+1):=by
  show ((iI*iI+1)%PI)=0
  decide +kernel
theorem iNZ:¬ Zp iI:=by
  intro h
  exact one_nz (iI2.c2 h 1 (-iI) (by grind))
theorem two_nz:¬ Zp 2:=by decide
def onE (x y:Int):Int:=y*y - x*x - 1 - dI*(x*x)*(y*y)
theorem complete {x y u v e:Int} (h1:Zp (onE x y)) (h2:Zp (onE u v)) (he:Zp (e*e - 1)):¬ Zp (dI*(x*y*(u*v)) - e):=by
  intro hk
  have a1:Zp (x*y*(iI*u+v)):=by
    refine dNS (w:=iI*x+e*y) ?_
    refine ((h1.c2 h2 (-1) (dI*(x*y)*(x*y)) rfl).add ((hk.c3 iI2 he (dI*(x*y*(u*v))+e+2*iI*(x*y)) (dI*(x*y)*(x*y)*(u*u) - x*x) (1 - y*y) rfl))).of ?_
    unfold onE
    grind
  have a2:Zp (x*y*(iI*u - v)):=by
    refine dNS (w:=iI*x - e*y) ?_
    refine ((h1.c2 h2 (-1) (dI*(x*y)*(x*y)) rfl).add ((hk.c3 iI2 he (dI*(x*y*(u*v))+e - 2*iI*(x*y)) (dI*(x*y)*(x*y)*(u*u) - x*x) (1 - y*y) rfl))).of ?_
    unfold onE
    grind
  have a3:Zp (2*(iI*(x*y*u))):=(a1.add a2).of (by grind)
  have a4:=cancelZ iNZ (cancelZ two_nz a3)
  have a5:Zp (dI*(x*y*(u*v))):=a4.c1 (dI*v) (by grind)
  have a6:Zp e:=(a5.sub hk).of (by omega)
  exact one_nz (a6.c2 he e (-1) (by grind))
end Go.Sx
namespace Go.Sx
set_option linter.unusedSectionVars false
def eqE (d x y:Int):Int:=y*y - x*x - 1 - d*(x*x)*(y*y)
def kE (d x y u v:Int):Int:=d*(x*y*(u*v))
def tX (x y u v:Int):Int:=x*v+u*y
def tY (x y u v:Int):Int:=y*v+x*u
theorem closeE (d x y u v:Int):tY x y u v*tY x y u v*((1+kE d x y u v)*(1+kE d x y u v)) - tX x y u v*tX x y u v*((1 - kE d x y u v)*(1 - kE d x y u v)) - (1+kE d x y u v)*(1+kE d x y u v)*((1 - kE d x y u v)*(1 - kE d x y u v)) - d*(tX x y u v*tX x y u v)*(tY x y u v*tY x y u v)=(d*d*d*x*x*y*y*u*u*u*u*v*v*v*v - d*d*x*x*u*u*u*u*v*v*v*v+d*d*y*y*u*u*u*u*v*v*v*v - d*d*u*u*u*u*v*v*v*v - d*x*x*u*u*u*u*v*v+d*x*x*u*u*v*v*v*v+d*y*y*u*u*u*u*v*v - d*y*y*u*u*v*v*v*v - 2*d*u*u*u*u*v*v*v*v - 2*d*u*u*v*v - 2*u*u*u*u*v*v+u*u*u*u+2*u*u*v*v*v*v - 4*u*u*v*v+v*v*v*v)*eqE d x y+(d*x*x*x*x*u*u*v*v+2*d*x*x*u*u*v*v+d*y*y*y*y*u*u*v*v - 2*d*y*y*u*u*v*v+d*u*u*v*v+2*x*x*u*u*v*v - x*x*u*u+x*x*v*v - 2*y*y*u*u*v*v+y*y*u*u - y*y*v*v+2*u*u*v*v - u*u+v*v+1)*eqE d u v:=by
  unfold tX tY kE eqE; grind

def n1 (d x y u v s t:Int):Int:=tX x y u v*(1 - kE d x y u v)*t+s*(tY x y u v*(1+kE d x y u v))
def d1 (d x y u v s t:Int):Int:=(1+kE d x y u v)*(1 - kE d x y u v)+d*(tX x y u v*tY x y u v*(s*t))
def m1 (d x y u v s t:Int):Int:=tY x y u v*(1+kE d x y u v)*t+tX x y u v*(1 - kE d x y u v)*s
def e1 (d x y u v s t:Int):Int:=(1+kE d x y u v)*(1 - kE d x y u v) - d*(tX x y u v*tY x y u v*(s*t))

theorem assocX (d x y u v s t:Int):n1 d x y u v s t*d1 d u v s t x y - n1 d u v s t x y*d1 d x y u v s t=(-d*d*x*u*u*u*u*v*v*v*s*s*t - d*d*x*u*u*u*v*v*v*v*s*t*t+d*d*y*u*u*u*u*v*v*v*s*t*t+d*d*y*u*u*u*v*v*v*v*s*s*t - d*x*u*u*u*u*v*s*s*t - d*x*u*u*u*v*v*s*s*s - d*x*u*u*u*v*v*s+d*x*u*u*v*v*v*t*t*t - d*x*u*u*v*v*v*t+d*x*u*v*v*v*v*s*t*t+d*y*u*u*u*u*v*s*t*t+d*y*u*u*u*v*v*t*t*t - d*y*u*u*u*v*v*t - d*y*u*u*v*v*v*s*s*s - d*y*u*u*v*v*v*s - d*y*u*v*v*v*v*s*s*t)*eqE d x y+(d*d*x*x*y*u*u*v*s*s*s*t*t - d*d*x*x*y*u*v*v*s*s*t*t*t - d*d*x*y*y*u*u*v*s*s*t*t*t+d*d*x*y*y*u*v*v*s*s*s*t*t+d*x*x*x*u*u*v*s*s*t+d*x*x*x*u*v*v*s*t*t+d*x*x*x*u*s*s*s*t*t+d*x*x*x*v*s*s*t*t*t - d*x*x*y*u*u*v*s*t*t - d*x*x*y*u*v*v*s*s*t+d*x*x*y*u*s*s*t*t*t+d*x*x*y*v*s*s*s*t*t - d*x*y*y*u*u*v*s*s*t - d*x*y*y*u*v*v*s*t*t - d*x*y*y*u*s*s*s*t*t - d*x*y*y*v*s*s*t*t*t+d*x*u*u*v*s*s*t+d*x*u*v*v*s*t*t+d*x*u*s*s*s*t*t+d*x*v*s*s*t*t*t+d*y*y*y*u*u*v*s*t*t+d*y*y*y*u*v*v*s*s*t - d*y*y*y*u*s*s*t*t*t - d*y*y*y*v*s*s*s*t*t - d*y*u*u*v*s*t*t - d*y*u*v*v*s*s*t+d*y*u*s*s*t*t*t+d*y*v*s*s*s*t*t+x*x*x*u*s*s*s - x*x*x*u*s*t*t+x*x*x*u*s+x*x*x*v*s*s*t - x*x*x*v*t*t*t+x*x*x*v*t+x*x*y*u*s*s*t - x*x*y*u*t*t*t+x*x*y*u*t+x*x*y*v*s*s*s - x*x*y*v*s*t*t+x*x*y*v*s - x*y*y*u*s*s*s+x*y*y*u*s*t*t - x*y*y*u*s - x*y*y*v*s*s*t+x*y*y*v*t*t*t - x*y*y*v*t+x*u*s*s*s - x*u*s*t*t+x*u*s+x*v*s*s*t - x*v*t*t*t+x*v*t - y*y*y*u*s*s*t+y*y*y*u*t*t*t - y*y*y*u*t - y*y*y*v*s*s*s+y*y*y*v*s*t*t - y*y*y*v*s+y*u*s*s*t - y*u*t*t*t+y*u*t+y*v*s*s*s - y*v*s*t*t+y*v*s)*eqE d u v+(-d*x*x*y*u*u*v*s+d*x*x*y*u*v*v*t+d*x*y*y*u*u*v*t - d*x*y*y*u*v*v*s - x*x*x*u*u*u*s - x*x*x*u*u*v*t+x*x*x*u*v*v*s - x*x*x*u*s+x*x*x*v*v*v*t - x*x*x*v*t - x*x*y*u*u*u*t - x*x*y*u*u*v*s+x*x*y*u*v*v*t - x*x*y*u*t+x*x*y*v*v*v*s - x*x*y*v*s+x*y*y*u*u*u*s+x*y*y*u*u*v*t - x*y*y*u*v*v*s+x*y*y*u*s - x*y*y*v*v*v*t+x*y*y*v*t - x*u*u*u*s - x*u*u*v*t+x*u*v*v*s - x*u*s+x*v*v*v*t - x*v*t+y*y*y*u*u*u*t+y*y*y*u*u*v*s - y*y*y*u*v*v*t+y*y*y*u*t - y*y*y*v*v*v*s+y*y*y*v*s - y*u*u*u*t - y*u*u*v*s+y*u*v*v*t - y*u*t+y*v*v*v*s - y*v*s)*eqE d s t:=by
  unfold n1 d1 tX tY kE eqE; grind
theorem assocY (d x y u v s t:Int):m1 d x y u v s t*e1 d u v s t x y - m1 d u v s t x y*e1 d x y u v s t=(d*d*x*u*u*u*u*v*v*v*s*t*t+d*d*x*u*u*u*v*v*v*v*s*s*t - d*d*y*u*u*u*u*v*v*v*s*s*t - d*d*y*u*u*u*v*v*v*v*s*t*t+d*x*u*u*u*u*v*s*t*t+d*x*u*u*u*v*v*t*t*t - d*x*u*u*u*v*v*t - d*x*u*u*v*v*v*s*s*s - d*x*u*u*v*v*v*s - d*x*u*v*v*v*v*s*s*t - d*y*u*u*u*u*v*s*s*t - d*y*u*u*u*v*v*s*s*s - d*y*u*u*u*v*v*s+d*y*u*u*v*v*v*t*t*t - d*y*u*u*v*v*v*t+d*y*u*v*v*v*v*s*t*t)*eqE d x y+(d*d*x*x*y*u*u*v*s*s*t*t*t - d*d*x*x*y*u*v*v*s*s*s*t*t - d*d*x*y*y*u*u*v*s*s*s*t*t+d*d*x*y*y*u*v*v*s*s*t*t*t - d*x*x*x*u*u*v*s*t*t - d*x*x*x*u*v*v*s*s*t+d*x*x*x*u*s*s*t*t*t+d*x*x*x*v*s*s*s*t*t+d*x*x*y*u*u*v*s*s*t+d*x*x*y*u*v*v*s*t*t+d*x*x*y*u*s*s*s*t*t+d*x*x*y*v*s*s*t*t*t+d*x*y*y*u*u*v*s*t*t+d*x*y*y*u*v*v*s*s*t - d*x*y*y*u*s*s*t*t*t - d*x*y*y*v*s*s*s*t*t - d*x*u*u*v*s*t*t - d*x*u*v*v*s*s*t+d*x*u*s*s*t*t*t+d*x*v*s*s*s*t*t - d*y*y*y*u*u*v*s*s*t - d*y*y*y*u*v*v*s*t*t - d*y*y*y*u*s*s*s*t*t - d*y*y*y*v*s*s*t*t*t+d*y*u*u*v*s*s*t+d*y*u*v*v*s*t*t+d*y*u*s*s*s*t*t+d*y*v*s*s*t*t*t+x*x*x*u*s*s*t - x*x*x*u*t*t*t+x*x*x*u*t+x*x*x*v*s*s*s - x*x*x*v*s*t*t+x*x*x*v*s+x*x*y*u*s*s*s - x*x*y*u*s*t*t+x*x*y*u*s+x*x*y*v*s*s*t - x*x*y*v*t*t*t+x*x*y*v*t - x*y*y*u*s*s*t+x*y*y*u*t*t*t - x*y*y*u*t - x*y*y*v*s*s*s+x*y*y*v*s*t*t - x*y*y*v*s+x*u*s*s*t - x*u*t*t*t+x*u*t+x*v*s*s*s - x*v*s*t*t+x*v*s - y*y*y*u*s*s*s+y*y*y*u*s*t*t - y*y*y*u*s - y*y*y*v*s*s*t+y*y*y*v*t*t*t - y*y*y*v*t+y*u*s*s*s - y*u*s*t*t+y*u*s+y*v*s*s*t - y*v*t*t*t+y*v*t)*eqE d u v+(-d*x*x*y*u*u*v*t+d*x*x*y*u*v*v*s+d*x*y*y*u*u*v*s - d*x*y*y*u*v*v*t - x*x*x*u*u*u*t - x*x*x*u*u*v*s+x*x*x*u*v*v*t - x*x*x*u*t+x*x*x*v*v*v*s - x*x*x*v*s - x*x*y*u*u*u*s - x*x*y*u*u*v*t+x*x*y*u*v*v*s - x*x*y*u*s+x*x*y*v*v*v*t - x*x*y*v*t+x*y*y*u*u*u*t+x*y*y*u*u*v*s - x*y*y*u*v*v*t+x*y*y*u*t - x*y*y*v*v*v*s+x*y*y*v*s - x*u*u*u*t - x*u*u*v*s+x*u*v*v*t - x*u*t+x*v*v*v*s - x*v*s+y*y*y*u*u*u*s+y*y*y*u*u*v*t - y*y*y*u*v*v*s+y*y*y*u*s - y*y*y*v*v*v*t+y*y*y*v*t - y*u*u*u*s - y*u*u*v*t+y*u*v*v*s - y*u*s+y*v*v*v*t - y*v*t)*eqE d s t:=by
  unfold m1 e1 tX tY kE eqE; grind
end Go.Sx
namespace Go.Sx
set_option linter.unusedSectionVars false
theorem onE_eq (x y:Int):onE x y=eqE dI x y:=rfl
theorem nzP {x y u v:Int} (h1:Zp (onE x y)) (h2:Zp (onE u v)):¬ Zp (1+kE dI x y u v):=fun h =>
  complete (e:= -1) h1 h2 (by decide) (h.of (by unfold kE; omega))
theorem nzM {x y u v:Int} (h1:Zp (onE x y)) (h2:Zp (onE u v)):¬ Zp (1 - kE dI x y u v):=fun h =>
  complete (e:=1) h1 h2 (by decide) (h.neg.of (by unfold kE; omega))
theorem nzB {x y u v:Int} (h1:Zp (onE x y)) (h2:Zp (onE u v)):¬ Zp (nZ x y u v):=fun h =>
  nzMul (nzM h1 h2) (nzP h1 h2) (h.of (by unfold nZ kE; grind))
structure Pt where
  x:Int
  y:Int
  hx:x%PI=x
  hy:y%PI=y
  on:Zp (onE x y)
theorem Pt.ext' {p q:Pt} (h1:Zp (p.x - q.x)) (h2:Zp (p.y - q.y)):p=q:=by
  obtain ⟨x,y,hx,hy,on⟩:=p
  obtain ⟨u,v,hu,hv,on2⟩:=q
  have e1:=zp_iff.1 h1
  have e2:=zp_iff.1 h2
  simp only at e1 e2
  rw [hx,hu] at e1
  rw [hy,hv] at e2
  subst e1 e2
  rfl
theorem zpM (a:Int):Zp (a%PI - a):=zp_iff.2 (Int.emod_emod _ _)
theorem ivM {a:Int} (h:¬ Zp a):Zp (a*iv a - 1):=zp_iff.2 ((ivMul h).trans (by decide))
theorem sumXs {x y u v:Int} (h:¬ Zp (nZ x y u v)):Zp ((nX x y u v*iv (nZ x y u v))%PI*(1+kE dI x y u v) - tX x y u v) :=
  (zpM (nX x y u v*iv (nZ x y u v))).c2 (ivM h) (1+kE dI x y u v) (tX x y u v) (by unfold nX nZ kE tX; grind)
theorem sumYs {x y u v:Int} (h:¬ Zp (nZ x y u v)):Zp ((nY x y u v*iv (nZ x y u v))%PI*(1 - kE dI x y u v) - tY x y u v) :=
  (zpM (nY x y u v*iv (nZ x y u v))).c2 (ivM h) (1 - kE dI x y u v) (tY x y u v) (by unfold nY nZ kE tY; grind)
theorem closeZ {x y u v X Y:Int} (h1:Zp (onE x y)) (h2:Zp (onE u v)) (a:Zp (X*(1+kE dI x y u v) - tX x y u v)) (b:Zp (Y*(1 - kE dI x y u v) - tY x y u v)):Zp (onE X Y):=by
  have hc:=closeE dI x y u v
  rw [← onE_eq,← onE_eq] at hc
  have h3:=h1.c2 h2 _ _ hc
  have hn:=nzMul (nzMul (nzP h1 h2) (nzP h1 h2)) (nzMul (nzM h1 h2) (nzM h1 h2))
  refine cancelZ hn ?_
  generalize kE dI x y u v=k at *
  generalize tX x y u v=n at *
  generalize tY x y u v=m at *
  refine h3.c3 a b 1 (-(X*(1+k)+n)*((1 - k)*(1 - k)+dI*(Y*(1 - k))*(Y*(1 - k)))) ((Y*(1 - k)+m)*((1+k)*(1+k) - dI*n*n)) ?_
  unfold onE
  grind
def Pt.add (p q:Pt):Pt where
  x:=(nX p.x p.y q.x q.y*iv (nZ p.x p.y q.x q.y))%PI
  y:=(nY p.x p.y q.x q.y*iv (nZ p.x p.y q.x q.y))%PI
  hx:=Int.emod_emod _ _
  hy:=Int.emod_emod _ _
  on:=closeZ p.on q.on (sumXs (nzB p.on q.on)) (sumYs (nzB p.on q.on))
theorem Pt.addX (p q:Pt):Zp ((p.add q).x*(1+kE dI p.x p.y q.x q.y) - tX p.x p.y q.x q.y):=sumXs (nzB p.on q.on)
theorem Pt.addY (p q:Pt):Zp ((p.add q).y*(1 - kE dI p.x p.y q.x q.y) - tY p.x p.y q.x q.y):=sumYs (nzB p.on q.on)
theorem Pt.add_eq {p q r:Pt} (h1:Zp (r.x*(1+kE dI p.x p.y q.x q.y) - tX p.x p.y q.x q.y)) (h2:Zp (r.y*(1 - kE dI p.x p.y q.x q.y) - tY p.x p.y q.x q.y)):p.add q=r:=by
  refine Pt.ext' ?_ ?_
  · exact cancelZ (nzP p.on q.on) (((p.addX q).sub h1).of (by grind))
  · exact cancelZ (nzM p.on q.on) (((p.addY q).sub h2).of (by grind))
theorem onE01:Zp (onE 0 1):=Zp.zero.of (by unfold onE; grind)
def Pt.zero:Pt:=⟨0,1,by decide,by decide,onE01⟩
def Pt.neg (p:Pt):Pt:=⟨(-p.x)%PI,p.y,Int.emod_emod _ _,p.hy,(p.on.c2 (zpM (-p.x)) 1 (-((-p.x)%PI - p.x)*(1+dI*(p.y*p.y))) (by unfold onE; grind))⟩
theorem Pt.add_comm (p q:Pt):p.add q=q.add p :=
  Pt.add_eq ((q.addX p).of (by unfold kE tX; grind)) ((q.addY p).of (by unfold kE tY; grind))
theorem Pt.add_zero (p:Pt):p.add Pt.zero=p :=
  Pt.add_eq (Zp.zero.of (by show _=p.x*(1+kE dI p.x p.y 0 1) - tX p.x p.y 0 1; unfold kE tX; grind)) (Zp.zero.of (by show _=p.y*(1 - kE dI p.x p.y 0 1) - tY p.x p.y 0 1; unfold kE tY; grind))
theorem Pt.add_neg (p:Pt):p.add p.neg=Pt.zero:=by
  have e:=zpM (-p.x)
  refine Pt.add_eq ?_ ?_
  · show Zp (0*(1+kE dI p.x p.y ((-p.x)%PI) p.y) - tX p.x p.y ((-p.x)%PI) p.y)
    exact e.c1 (-p.y) (by unfold kE tX; grind)
  · show Zp (1*(1 - kE dI p.x p.y ((-p.x)%PI) p.y) - tY p.x p.y ((-p.x)%PI) p.y)
    exact p.on.c2 e (-1) (-(dI*(p.x*p.y*p.y)) - p.x) (by unfold kE tY onE; grind)
theorem dOne (x y u v X Y s t:Int) (a:Zp (X*(1+kE dI x y u v) - tX x y u v)) (b:Zp (Y*(1 - kE dI x y u v) - tY x y u v)):Zp (d1 dI x y u v s t - (1+kE dI x y u v)*(1 - kE dI x y u v)*(1+kE dI X Y s t)):=by
  generalize hk:kE dI x y u v=k at *
  generalize hn:tX x y u v=n at *
  generalize hm:tY x y u v=m at *
  refine a.c2 b (-(dI*s*t*(Y*(1 - k)))) (-(dI*s*t*n)) ?_
  unfold d1
  rw [hk,hn,hm]
  unfold kE
  grind
theorem nOne (x y u v X Y s t:Int) (a:Zp (X*(1+kE dI x y u v) - tX x y u v)) (b:Zp (Y*(1 - kE dI x y u v) - tY x y u v)):Zp (n1 dI x y u v s t - (1+kE dI x y u v)*(1 - kE dI x y u v)*tX X Y s t):=by
  generalize hk:kE dI x y u v=k at *
  generalize hn:tX x y u v=n at *
  generalize hm:tY x y u v=m at *
  refine a.c2 b (-((1 - k)*t)) (-(s*(1+k))) ?_
  unfold n1
  rw [hk,hn,hm]
  unfold tX
  grind
theorem eOne (x y u v X Y s t:Int) (a:Zp (X*(1+kE dI x y u v) - tX x y u v)) (b:Zp (Y*(1 - kE dI x y u v) - tY x y u v)):Zp (e1 dI x y u v s t - (1+kE dI x y u v)*(1 - kE dI x y u v)*(1 - kE dI X Y s t)):=by
  generalize hk:kE dI x y u v=k at *
  generalize hn:tX x y u v=n at *
  generalize hm:tY x y u v=m at *
  refine a.c2 b (dI*s*t*(Y*(1 - k))) (dI*s*t*n) ?_
  unfold e1
  rw [hk,hn,hm]
  unfold kE
  grind
theorem mOne (x y u v X Y s t:Int) (a:Zp (X*(1+kE dI x y u v) - tX x y u v)) (b:Zp (Y*(1 - kE dI x y u v) - tY x y u v)):Zp (m1 dI x y u v s t - (1+kE dI x y u v)*(1 - kE dI x y u v)*tY X Y s t):=by
  generalize hk:kE dI x y u v=k at *
  generalize hn:tX x y u v=n at *
  generalize hm:tY x y u v=m at *
  refine a.c2 b (-((1 - k)*s)) (-(t*(1+k))) ?_
  unfold m1
  rw [hk,hn,hm]
  unfold tY
  grind
theorem Pt.add3X (p q r:Pt):Zp (((p.add q).add r).x*d1 dI p.x p.y q.x q.y r.x r.y - n1 dI p.x p.y q.x q.y r.x r.y):=by
  have hd:=dOne p.x p.y q.x q.y _ _ r.x r.y (p.addX q) (p.addY q)
  have hn:=nOne p.x p.y q.x q.y _ _ r.x r.y (p.addX q) (p.addY q)
  have h:=(p.add q).addX r
  exact hd.c3 hn h ((p.add q).add r).x (-1) ((1+kE dI p.x p.y q.x q.y)*(1 - kE dI p.x p.y q.x q.y)) (by grind)
theorem Pt.add3Y (p q r:Pt):Zp (((p.add q).add r).y*e1 dI p.x p.y q.x q.y r.x r.y - m1 dI p.x p.y q.x q.y r.x r.y):=by
  have hd:=eOne p.x p.y q.x q.y _ _ r.x r.y (p.addX q) (p.addY q)
  have hn:=mOne p.x p.y q.x q.y _ _ r.x r.y (p.addX q) (p.addY q)
  have h:=(p.add q).addY r
  exact hd.c3 hn h ((p.add q).add r).y (-1) ((1+kE dI p.x p.y q.x q.y)*(1 - kE dI p.x p.y q.x q.y)) (by grind)
theorem Pt.nzD (p q r:Pt):¬ Zp (d1 dI p.x p.y q.x q.y r.x r.y):=fun h =>
  nzMul (nzMul (nzP p.on q.on) (nzM p.on q.on)) (nzP (p.add q).on r.on) ((h.sub (dOne p.x p.y q.x q.y _ _ r.x r.y (p.addX q) (p.addY q))).of (by grind))
theorem Pt.nzE (p q r:Pt):¬ Zp (e1 dI p.x p.y q.x q.y r.x r.y):=fun h =>
  nzMul (nzMul (nzP p.on q.on) (nzM p.on q.on)) (nzM (p.add q).on r.on) ((h.sub (eOne p.x p.y q.x q.y _ _ r.x r.y (p.addX q) (p.addY q))).of (by grind))
theorem Pt.assoc (p q r:Pt):(p.add q).add r=p.add (q.add r):=by
  rw [Pt.add_comm p (q.add r)]
  have hx:=assocX dI p.x p.y q.x q.y r.x r.y
  have hy:=assocY dI p.x p.y q.x q.y r.x r.y
  rw [← onE_eq,← onE_eq,← onE_eq] at hx hy
  have ax:=p.on.c3 q.on r.on _ _ _ hx
  have ay:=p.on.c3 q.on r.on _ _ _ hy
  refine Pt.ext' ?_ ?_
  · refine cancelZ (nzMul (p.nzD q r) (q.nzD r p)) ?_
    exact ax.c3 (p.add3X q r) (q.add3X r p) 1 (d1 dI q.x q.y r.x r.y p.x p.y) (-(d1 dI p.x p.y q.x q.y r.x r.y)) (by grind)
  · refine cancelZ (nzMul (p.nzE q r) (q.nzE r p)) ?_
    exact ay.c3 (p.add3Y q r) (q.add3Y r p) 1 (e1 dI q.x q.y r.x r.y p.x p.y) (-(e1 dI p.x p.y q.x q.y r.x r.y)) (by grind)
def nP:Nat→Pt→Pt
  | 0,_=>Pt.zero
  | n+1,p=>(nP n p).add p
theorem Pt.zero_add (p:Pt):Pt.zero.add p=p:=by rw [Pt.add_comm,Pt.add_zero]
theorem nP_add (m n:Nat) (p:Pt):nP (m+n) p=(nP m p).add (nP n p):=by
  induction n with
  | zero=>rw [Nat.add_zero]; exact (Pt.add_zero _).symm
  | succ n ih=>rw [Nat.add_succ,nP,ih,Pt.assoc]; rfl
theorem nP_one (p:Pt):nP 1 p=p:=Pt.zero_add p
theorem nP_two (p:Pt):nP 2 p=p.add p:=by rw [nP,nP_one]
theorem nP_mul (m n:Nat) (p:Pt):nP (m*n) p=nP m (nP n p):=by
  induction m with
  | zero=>rw [Nat.zero_mul]; rfl
  | succ m ih=>rw [Nat.succ_mul,nP_add,ih]; rfl
theorem Pt.swap (p q r s:Pt):(p.add q).add (r.add s)=(p.add r).add (q.add s):=by
  rw [Pt.assoc,← Pt.assoc q r s,Pt.add_comm q r,Pt.assoc r q s,← Pt.assoc]
theorem nP_sum (n:Nat) (p q:Pt):nP n (p.add q)=(nP n p).add (nP n q):=by
  induction n with
  | zero=>exact (Pt.add_zero _).symm
  | succ n ih=>rw [nP,ih,Pt.swap]; rfl
theorem Pt.neg_uniq {p q:Pt} (h:p.add q=Pt.zero):q=p.neg:=by
  rw [← Pt.zero_add q,← Pt.add_neg p,Pt.add_comm p,Pt.assoc,h,Pt.add_zero]
theorem nP_zero (n:Nat):nP n Pt.zero=Pt.zero:=by
  induction n with
  | zero=>rfl
  | succ n ih=>rw [nP,ih,Pt.add_zero]
theorem nP_neg (n:Nat) (p:Pt):nP n p.neg=(nP n p).neg:=by
  refine Pt.neg_uniq ?_
  rw [← nP_sum,Pt.add_neg,nP_zero]
end Go.Sx
namespace Go.Sx
set_option linter.unusedSectionVars false
theorem ptX_mod (a b:List Nat):ptX a b%PI=ptX a b:=by
  unfold ptX
  split
  · rename_i ho
    unfold onW at ho
    simp only [Bool.and_eq_true,decide_eq_true_eq] at ho
    have:=PI_PP
    exact Int.emod_eq_of_lt (by omega) (by omega)
  · rfl
theorem ptY_mod (a b:List Nat):ptY a b%PI=ptY a b:=by
  unfold ptY
  split
  · rename_i ho
    unfold onW at ho
    simp only [Bool.and_eq_true,decide_eq_true_eq] at ho
    have:=PI_PP
    exact Int.emod_eq_of_lt (by omega) (by omega)
  · decide
theorem onZ_iff (x y:Int):onZ x y=true↔Zp (onE x y):=by
  unfold onZ
  rw [decide_eq_true_eq,← zp_iff]
  have:y*y - x*x - dI*(x*x*(y*y)) - 1=onE x y:=by unfold onE; grind
  rw [this]
theorem pt_on (a b:List Nat):Zp (onE (ptX a b) (ptY a b)):=by
  unfold ptX ptY
  split
  · rename_i ho
    unfold onW at ho
    simp only [Bool.and_eq_true,decide_eq_true_eq] at ho
    exact (onZ_iff _ _).1 ho.2.2
  · exact onE01
def ptOf (a b:List Nat):Pt:=⟨ptX a b,ptY a b,ptX_mod a b,ptY_mod a b,pt_on a b⟩
theorem Pt.lo (p:Pt):0≤p.x∧p.x<PI∧0≤p.y∧p.y<PI:=by
  have h1:=Int.emod_nonneg p.x (show PI≠0 by decide)
  have h2:=Int.emod_lt_of_pos p.x PI_pos
  have h3:=Int.emod_nonneg p.y (show PI≠0 by decide)
  have h4:=Int.emod_lt_of_pos p.y PI_pos
  rw [p.hx] at h1 h2
  rw [p.hy] at h3 h4
  exact ⟨h1,h2,h3,h4⟩
theorem Pt.nx (p:Pt):((num (fi p.x):Nat):Int)=p.x:=by rw [num_fi,castN,p.hx]
theorem Pt.ny (p:Pt):((num (fi p.y):Nat):Int)=p.y:=by rw [num_fi,castN,p.hy]
theorem Pt.onW (p:Pt):onW (fi p.x) (fi p.y)=true:=by
  unfold Go.Sx.onW
  have h1:num (fi p.x)<PP:=by rw [num_fi]; exact toN_lt _
  have h2:num (fi p.y)<PP:=by rw [num_fi]; exact toN_lt _
  rw [decide_eq_true h1,decide_eq_true h2,p.nx,p.ny,(onZ_iff _ _).2 p.on]
  rfl
theorem Pt.ptX (p:Pt):ptX (fi p.x) (fi p.y)=p.x:=by unfold Go.Sx.ptX; rw [if_pos p.onW,p.nx]
theorem Pt.ptY (p:Pt):ptY (fi p.x) (fi p.y)=p.y:=by unfold Go.Sx.ptY; rw [if_pos p.onW,p.ny]
theorem Pt.of (p:Pt):ptOf (fi p.x) (fi p.y)=p:=by
  refine Pt.ext' ?_ ?_
  · show Zp (Go.Sx.ptX _ _ - p.x); rw [p.ptX,Int.sub_self]; exact Zp.zero
  · show Zp (Go.Sx.ptY _ _ - p.y); rw [p.ptY,Int.sub_self]; exact Zp.zero
def Rp (q:Z4) (p:Pt):Prop:=¬ Zp q.2.2.1∧Zp (q.1 - p.x*q.2.2.1)∧Zp (q.2.1 - p.y*q.2.2.1)∧Zp (q.2.2.2 - p.x*p.y*q.2.2.1)
theorem efgh {e f g h:Int} {p:Pt} (hf:¬ Zp f) (hg:¬ Zp g) (he:Zp (e - p.x*g)) (hh:Zp (h - p.y*f)):Rp (e*f,g*h,f*g,e*h) p :=
  ⟨nzMul hf hg,he.c1 f (by grind),hh.c1 g (by grind),he.c2 hh h (p.x*g) (by grind)⟩
theorem nzOf {a b:Int} (h:¬ Zp a) (k:Zp (b - a)):¬ Zp b:=fun l=>h ((l.sub k).of (by omega))
theorem sumAB {q r:Z4} {p t:Pt} (hq:Rp q p) (hr:Rp r t) :
    Zp (q.1*r.2.1+r.1*q.2.1 - tX p.x p.y t.x t.y*(q.2.2.1*r.2.2.1)) ∧
    Zp (q.2.1*r.2.1+q.1*r.1 - tY p.x p.y t.x t.y*(q.2.2.1*r.2.2.1)) ∧
    Zp ((q.2.2.1*r.2.2.1 - dI*(q.2.2.2*r.2.2.2)) - (1 - kE dI p.x p.y t.x t.y)*(q.2.2.1*r.2.2.1)) ∧
    Zp ((q.2.2.1*r.2.2.1+dI*(q.2.2.2*r.2.2.2)) - (1+kE dI p.x p.y t.x t.y)*(q.2.2.1*r.2.2.1)):=by
  obtain ⟨X,Y,Z,T⟩:=q
  obtain ⟨U,V,W,S⟩:=r
  obtain ⟨_,a1,a2,a3⟩:=hq
  obtain ⟨_,b1,b2,b3⟩:=hr
  simp only at *
  refine ⟨?_, ?_, ?_, ?_⟩
  · exact a1.c4 b2 b1 a2 V (p.x*Z) Y (t.x*W) (by unfold tX; grind)
  · exact a2.c4 b2 a1 b1 V (p.y*Z) U (p.x*Z) (by unfold tY; grind)
  · exact a3.c2 b3 (-(dI*S)) (-(dI*(p.x*p.y*Z))) (by unfold kE; grind)
  · exact a3.c2 b3 (dI*S) (dI*(p.x*p.y*Z)) (by unfold kE; grind)
theorem sumRp' {q r:Z4} {p t:Pt} (hq:Rp q p) (hr:Rp r t) {e f g h c:Int} (hc:¬ Zp c) (he:e=c*(q.1*r.2.1+r.1*q.2.1)) (hh:h=c*(q.2.1*r.2.1+q.1*r.1)) (hf:f=c*(q.2.2.1*r.2.2.1 - dI*(q.2.2.2*r.2.2.2))) (hg:g=c*(q.2.2.1*r.2.2.1+dI*(q.2.2.2*r.2.2.2))):Rp (e*f,g*h,f*g,e*h) (p.add t):=by
  obtain ⟨s1,s2,s3,s4⟩:=sumAB hq hr
  have hw:=nzMul hq.1 hr.1
  have ax:=p.addX t
  have ay:=p.addY t
  have f0:=nzMul hc (nzOf (nzMul (nzM p.on t.on) hw) s3)
  have g0:=nzMul hc (nzOf (nzMul (nzP p.on t.on) hw) s4)
  rw [← hf] at f0
  rw [← hg] at g0
  refine efgh f0 g0 ?_ ?_
  · exact ax.c3 s1 s4 (-(c*(q.2.2.1*r.2.2.1))) c (-(c*(p.add t).x)) (by rw [he,hg]; grind)
  · exact ay.c3 s2 s3 (-(c*(q.2.2.1*r.2.2.1))) c (-(c*(p.add t).y)) (by rw [hh,hf]; grind)
theorem sumRp {q r:Z4} {p t:Pt} (hq:Rp q p) (hr:Rp r t):Rp (sumI q r) (p.add t):=by
  have:=sumRp' hq hr (c:=1) one_nz (Int.one_mul _).symm (Int.one_mul _).symm (Int.one_mul _).symm (Int.one_mul _).symm
  unfold sumI
  rwa [Int.mul_comm (q.2.2.1*r.2.2.1+_) (q.2.1*r.2.1+_)] at this
def sumP (p q:Z4):Z4:=(((p.2.1+p.1)*(q.2.1+q.1) - (p.2.1 - p.1)*(q.2.1 - q.1))*(p.2.2.1*q.2.2.1+p.2.2.1*q.2.2.1 - p.2.2.2*(dI+dI)*q.2.2.2),(p.2.2.1*q.2.2.1+p.2.2.1*q.2.2.1+p.2.2.2*(dI+dI)*q.2.2.2)*((p.2.1+p.1)*(q.2.1+q.1)+(p.2.1 - p.1)*(q.2.1 - q.1)),(p.2.2.1*q.2.2.1+p.2.2.1*q.2.2.1 - p.2.2.2*(dI+dI)*q.2.2.2)*(p.2.2.1*q.2.2.1+p.2.2.1*q.2.2.1+p.2.2.2*(dI+dI)*q.2.2.2),((p.2.1+p.1)*(q.2.1+q.1) - (p.2.1 - p.1)*(q.2.1 - q.1))*((p.2.1+p.1)*(q.2.1+q.1)+(p.2.1 - p.1)*(q.2.1 - q.1)))
theorem sumPRp {q r:Z4} {p t:Pt} (hq:Rp q p) (hr:Rp r t):Rp (sumP q r) (p.add t) :=
  sumRp' hq hr (c:=2) two_nz (by grind) (by grind) (by grind) (by grind)
def twiceP (p:Z4):Z4:=(((p.1+p.2.1)*(p.1+p.2.1) - p.1*p.1 - p.2.1*p.2.1)*(p.2.1*p.2.1 - p.1*p.1 - (p.2.2.1*p.2.2.1+p.2.2.1*p.2.2.1)),(p.2.1*p.2.1 - p.1*p.1) * -(p.1*p.1+p.2.1*p.2.1),(p.2.1*p.2.1 - p.1*p.1 - (p.2.2.1*p.2.2.1+p.2.2.1*p.2.2.1))*(p.2.1*p.2.1 - p.1*p.1),((p.1+p.2.1)*(p.1+p.2.1) - p.1*p.1 - p.2.1*p.2.1) * -(p.1*p.1+p.2.1*p.2.1))
theorem twiceRp {q:Z4} {p:Pt} (hq:Rp q p):Rp (twiceP q) (p.add p):=by
  have ax:=p.addX p
  have ay:=p.addY p
  have hn:=hq.1
  have hw:=nzMul hq.1 hq.1
  have n1:=nzMul (nzM p.on p.on) hw
  have n2:=nzMul (nzP p.on p.on) hw
  have ho:=p.on
  obtain ⟨X,Y,Z,T⟩:=q
  obtain ⟨_,a1,a2,a3⟩:=hq
  simp only at *
  have hg:Zp ((Y*Y - X*X) - (1+kE dI p.x p.y p.x p.y)*(Z*Z)):=a1.c3 a2 ho (-(X+p.x*Z)) (Y+p.y*Z) (Z*Z) (by unfold kE onE; grind)
  have hf:Zp ((Y*Y - X*X - (Z*Z+Z*Z)) - -((1 - kE dI p.x p.y p.x p.y)*(Z*Z))):=hg.of (by grind)
  refine efgh (nzOf (fun h=>n1 (h.neg.of (by grind))) hf) (nzOf n2 hg) ?_ ?_
  · exact ax.c4 hg a1 a2 (-(Z*Z)) (-(p.add p).x) (2*Y) (2*(p.x*Z)) (by unfold tX; grind)
  · exact ay.c4 hf a1 a2 (Z*Z) (-(p.add p).y) (-(X+p.x*Z)) (-(Y+p.y*Z)) (by unfold tY; grind)
theorem wholeRp {q:Z4} {p:Pt} (hq:Rp q p):fi (q.1*iv q.2.2.1)=fi p.x∧fi (q.2.1*iv q.2.2.1)=fi p.y:=by
  obtain ⟨hz,a1,a2,_⟩:=hq
  have hi:=ivM hz
  constructor
  · exact fi_congr (zp_iff.1 (a1.c2 hi (iv q.2.2.1) p.x (by grind)))
  · exact fi_congr (zp_iff.1 (a2.c2 hi (iv q.2.2.1) p.y (by grind)))
theorem openRp (p:Pt):Rp (p.x,p.y,1,p.x*p.y) p:=⟨one_nz,Zp.zero.of (by grind),Zp.zero.of (by grind),Zp.zero.of (by grind)⟩
theorem zeroRp:Rp (0,1,1,0*1) Pt.zero:=openRp Pt.zero
def lowN (s:List Nat):Nat→Nat
  | 0=>0
  | k+1=>bitN s k*2^k+lowN s k
def nS (s:List Nat):Nat:=lowN s (8*min s.length 32)
end Go.Sx
namespace Go.Sx
set_option linter.unusedSectionVars false
theorem bitE2 {s:List Nat} {i:Nat} (hi:i<1000000) (hs:s.length<9223372036854775808):g39v realA s i=some (.v (.cell (.int .i64 (bitN s i:Nat)))):=by
  unfold g39v g39
  have q:realA.ib .quo .i64 (i:Int) 8=((i/8:Nat):Int):=by rw [ar_quo (by omega) (by omega) (by omega)]; rfl
  have m:realA.ib .rem .i64 (i:Int) 8=((i%8:Nat):Int):=by rw [ar_rem (by omega)]; rfl
  rw [ar_lss,q,ar_geq,ar_ofN]
  rw [decide_eq_false (by omega)]
  simp only []
  by_cases hl:i/8<s.length
  · rw [decide_eq_false (by omega)]
    simp only []
    unfold g39J3
    rw [q,m]
    simp only [ar_negN,ar_toNN,ar_lt,decide_eq_true hl,ar_nshr,ar_ofN,and1]
    rfl
  · rw [decide_eq_true (by omega)]
    simp only []
    unfold bitN
    rw [List.getD_eq_getElem?_getD,List.getElem?_eq_none (by omega)]
    show some (i6 0)=some (.v (.cell (.int .i64 (((0:Nat)/2^(i%8)%2:Nat):Int))))
    rw [Nat.zero_div]
    rfl
theorem bitP {s:List Nat} {i:Nat} (hi:i<1000000) (hs:s.length<9223372036854775808):g39ok realA s i=true∧g39r0 realA s i=(bitN s i:Nat):=⟨by unfold g39ok; rw [bitE2 hi hs]; rfl,by unfold g39r0; rw [bitE2 hi hs]; rfl⟩
theorem g40of {A:Ar} {a b c d z x y u v w:List Nat} (e:g40v A a b c d z=some (.v (.agg [.nums .u64 4 x,.nums .u64 4 y,.nums .u64 4 u,.nums .u64 4 v,.nums .u64 4 w]))):g40ok A a b c d z=true∧g40r0 A a b c d z=x∧g40r1 A a b c d z=y∧g40r2 A a b c d z=u∧g40r3 A a b c d z=v∧g40r4 A a b c d z=w:=⟨by unfold g40ok; rw [e]; rfl,by unfold g40r0; rw [e]; rfl,by unfold g40r1; rw [e]; rfl,by unfold g40r2; rw [e]; rfl,by unfold g40r3; rw [e]; rfl,by unfold g40r4; rw [e]; rfl⟩
theorem twiceE {A:Ar} (h:FOK A) (p:Z4) (d:Int):g40ok A (fi p.1) (fi p.2.1) (fi p.2.2.1) (fi p.2.2.2) (fi d)=true∧g40r0 A (fi p.1) (fi p.2.1) (fi p.2.2.1) (fi p.2.2.2) (fi d)=fi (twiceP p).1∧g40r1 A (fi p.1) (fi p.2.1) (fi p.2.2.1) (fi p.2.2.2) (fi d)=fi (twiceP p).2.1∧g40r2 A (fi p.1) (fi p.2.1) (fi p.2.2.1) (fi p.2.2.2) (fi d)=fi (twiceP p).2.2.1∧g40r3 A (fi p.1) (fi p.2.1) (fi p.2.2.1) (fi p.2.2.2) (fi d)=fi (twiceP p).2.2.2∧g40r4 A (fi p.1) (fi p.2.1) (fi p.2.2.1) (fi p.2.2.2) (fi d)=fi d:=by
  refine g40of ?_
  unfold g40v g40
  simp only [h.mul,h.add,h.sub,h.neg,g40t0,g40t1]
  rfl
theorem addE (p q:Z4):g36ok realA (fi p.1) (fi p.2.1) (fi p.2.2.1) (fi p.2.2.2) (fi (dI+dI)) (fi q.1) (fi q.2.1) (fi q.2.2.1) (fi q.2.2.2) (fi (dI+dI))=true ∧
    g36r0 realA (fi p.1) (fi p.2.1) (fi p.2.2.1) (fi p.2.2.2) (fi (dI+dI)) (fi q.1) (fi q.2.1) (fi q.2.2.1) (fi q.2.2.2) (fi (dI+dI))=fi (sumP p q).1 ∧
    g36r1 realA (fi p.1) (fi p.2.1) (fi p.2.2.1) (fi p.2.2.2) (fi (dI+dI)) (fi q.1) (fi q.2.1) (fi q.2.2.1) (fi q.2.2.2) (fi (dI+dI))=fi (sumP p q).2.1 ∧
    g36r2 realA (fi p.1) (fi p.2.1) (fi p.2.2.1) (fi p.2.2.2) (fi (dI+dI)) (fi q.1) (fi q.2.1) (fi q.2.2.1) (fi q.2.2.2) (fi (dI+dI))=fi (sumP p q).2.2.1 ∧
    g36r3 realA (fi p.1) (fi p.2.1) (fi p.2.2.1) (fi p.2.2.2) (fi (dI+dI)) (fi q.1) (fi q.2.1) (fi q.2.2.1) (fi q.2.2.2) (fi (dI+dI))=fi (sumP p q).2.2.2 ∧
    g36r4 realA (fi p.1) (fi p.2.1) (fi p.2.2.1) (fi p.2.2.2) (fi (dI+dI)) (fi q.1) (fi q.2.1) (fi q.2.2.1) (fi q.2.2.2) (fi (dI+dI))=fi (dI+dI) :=
  addP fok p.1 p.2.1 p.2.2.1 p.2.2.2 (dI+dI) q.1 q.2.1 q.2.2.1 q.2.2.2 (dI+dI)
def mulP' (s:List Nat):Nat→Nat→Z4→Z4→Z4
  | 0,_,_,o=>o
  | k+1,i,w,o=>mulP' s k (i+1) (twiceP w) (if bitN s i=0 then o else sumP o w)
theorem mulLoopP (n:Nat) (s:List Nat) (hs:s.length<9223372036854775808) (x3 x4:List Nat) (t:Nat) (ht:t≤256):∀ (k m i:Nat) (w o:Z4),i+k=t →
    g20L3 realA n (fun v _=>some v) (m+k+1) s (t:Nat) (i:Nat) x3 x4 (fi w.1) (fi w.2.1) (fi w.2.2.1) (fi w.2.2.2) (fi (dI+dI)) (fi o.1) (fi o.2.1) (fi o.2.2.1) (fi o.2.2.2) (fi (dI+dI))=some (.v (.agg [.nums .u64 4 (fi ((mulP' s k i w o).1*iv (mulP' s k i w o).2.2.1)),.nums .u64 4 (fi ((mulP' s k i w o).2.1*iv (mulP' s k i w o).2.2.1))])):=by
  intro k
  induction k with
  | zero =>
    intro m i w o hi
    rw [g20L3,ar_lss,decide_eq_false (by omega)]
    obtain ⟨w1,w2,w3⟩:=closeP fok o.1 o.2.1 o.2.2.1 o.2.2.2 (dI+dI)
    simp only [w1,w2,w3]
    rfl
  | succ k ih =>
    intro m i w o hi
    rw [show m+(k+1)+1=(m+k+1)+1 by omega,g20L3,ar_lss,decide_eq_true (by omega)]
    simp only []
    unfold g20J4
    obtain ⟨b1,b2⟩:=bitP (s:=s) (i:=i) (by omega) hs
    obtain ⟨s0,s1,s2,s3,s4,s5⟩:=twiceE fok w (dI+dI)
    have es:mulP' s (k+1) i w o=mulP' s k (i+1) (twiceP w) (if bitN s i=0 then o else sumP o w):=rfl
    have ei:realA.ib .add .i64 (i:Int) 1=((i+1:Nat):Int):=(ar_add (a:=(i:Int)) (b:=1) (by omega)).trans (by omega)
    rw [b1,b2,ar_neq,s0,es,s1,s2,s3,s4,s5,ei]
    by_cases hb:bitN s i=0
    · rw [if_pos hb,decide_eq_true (show (bitN s i:Int)=0 by omega)]
      simp only [Bool.not_true]
      exact ih m (i+1) (twiceP w) o (by omega)
    · rw [if_neg hb,decide_eq_false (show ¬ (bitN s i:Int)=0 by omega)]
      obtain ⟨t0,t1,t2,t3,t4,t5⟩:=addE o w
      simp only [Bool.not_false,t0,t1,t2,t3,t4,t5]
      exact ih m (i+1) (twiceP w) (sumP o w) (by omega)
theorem mulP'Rp (s:List Nat) {p:Pt}:∀ (k i:Nat) (w o:Z4),Rp w (nP (2^i) p)→Rp o (nP (lowN s i) p)→Rp (mulP' s k i w o) (nP (lowN s (i+k)) p):=by
  intro k
  induction k with
  | zero=>intro i w o _ ho; exact ho
  | succ k ih =>
    intro i w o hw ho
    rw [mulP',show i+(k+1)=(i+1)+k by omega]
    refine ih _ _ _ ?_ ?_
    · have:=twiceRp hw
      rwa [← nP_two,← nP_mul,Nat.mul_comm,← Nat.pow_succ] at this
    · rw [lowN]
      by_cases hb:bitN s i=0
      · rw [if_pos hb,hb,Nat.zero_mul,Nat.zero_add]
        exact ho
      · have:bitN s i=1:=by have:=bitN_lt s i; omega
        rw [if_neg hb,this,Nat.one_mul,nP_add,Pt.add_comm]
        exact sumPRp ho hw
theorem g20of {A:Ar} {s a b x y:List Nat} (e:g20v A s a b=some (.v (.agg [.nums .u64 4 x,.nums .u64 4 y]))):g20ok A s a b=true∧g20r0 A s a b=x∧g20r1 A s a b=y:=⟨by unfold g20ok; rw [e]; rfl,by unfold g20r0; rw [e]; rfl,by unfold g20r1; rw [e]; rfl⟩
theorem g20Shape (A:Ar) (h:FOK A) (n:Nat) {s a b:List Nat} (ha:W4 a) (hb:W4 b):g20 A n (fun v _=>some v) s a b=g20L3 A n (fun v _=>some v) n s (A.ib .mul .i64 8 (A.mn (A.ofN s.length) 32)) 0 [0,0,0,0] [0,0,0,0] (fi (ptX a b)) (fi (ptY a b)) (fi 1) (fi (ptX a b*ptY a b)) (fi (dI+dI)) (fi (ptX (fi 0) (fi 1))) (fi (ptY (fi 0) (fi 1))) (fi 1) (fi (ptX (fi 0) (fi 1)*ptY (fi 0) (fi 1))) (fi (dI+dI)):=by
  unfold g20
  simp only [openP h ha hb,zeroP h,openP h (fi_W4 0) (fi_W4 1)]
theorem MulPpt {s a b:List Nat} (ha:W4 a) (hb:W4 b) (hs:s.length<9223372036854775808):g20ok realA s a b=true∧g20r0 realA s a b=fi (nP (nS s) (ptOf a b)).x∧g20r1 realA s a b=fi (nP (nS s) (ptOf a b)).y:=by
  refine g20of ?_
  unfold g20v
  rw [g20Shape realA fok 100000 ha hb,ptO.1,ptO.2]
  have e1:realA.ib .mul .i64 8 (realA.mn (realA.ofN s.length) 32)=((8*min s.length 32:Nat):Int):=by
    rw [ar_ofN,ar_mn,ar_mul (by omega)]
    omega
  have hp:Rp (ptX a b,ptY a b,1,ptX a b*ptY a b) (nP (2^0) (ptOf a b)):=by
    show Rp _ (nP 1 _)
    rw [nP_one]
    exact openRp (ptOf a b)
  have hr:=mulP'Rp s (8*min s.length 32) 0 _ (0,1,1,0*1) hp zeroRp
  rw [Nat.zero_add] at hr
  obtain ⟨r1,r2⟩:=wholeRp hr
  rw [e1,show 100000=(99999 - 8*min s.length 32)+8*min s.length 32+1 by omega]
  refine (mulLoopP _ s hs [0,0,0,0] [0,0,0,0] (8*min s.length 32) (by omega) (8*min s.length 32) _ 0 (ptX a b,ptY a b,1,ptX a b*ptY a b) (0,1,1,0*1) (by omega)).trans ?_
  rw [r1,r2]
  rfl
theorem mulPt (p:Pt) {s:List Nat} (hs:s.length<9223372036854775808):g20ok realA s (fi p.x) (fi p.y)=true∧g20r0 realA s (fi p.x) (fi p.y)=fi (nP (nS s) p).x∧g20r1 realA s (fi p.x) (fi p.y)=fi (nP (nS s) p).y:=by
  have:=MulPpt (fi_W4 p.x) (fi_W4 p.y) hs
  rwa [p.of] at this
theorem addPt (p q:Pt):g19ok realA (fi p.x) (fi p.y) (fi q.x) (fi q.y)=true∧g19r0 realA (fi p.x) (fi p.y) (fi q.x) (fi q.y)=fi (p.add q).x∧g19r1 realA (fi p.x) (fi p.y) (fi q.x) (fi q.y)=fi (p.add q).y:=by
  obtain ⟨h1,h2,h3⟩:=AddP fok (fi_W4 p.x) (fi_W4 p.y) (fi_W4 q.x) (fi_W4 q.y)
  rw [p.ptX,p.ptY,q.ptX,q.ptY] at h2 h3
  exact ⟨h1,h2.trans (fi_congr (Int.emod_emod _ _).symm),h3.trans (fi_congr (Int.emod_emod _ _).symm)⟩
theorem negPt (p:Pt):g22ok realA (fi p.x) (fi p.y)=true∧g22r0 realA (fi p.x) (fi p.y)=fi p.neg.x∧g22r1 realA (fi p.x) (fi p.y)=fi p.neg.y:=by
  obtain ⟨h1,h2,h3⟩:=NegP fok (fi_W4 p.x) (fi_W4 p.y)
  rw [p.ptX] at h2
  rw [p.ptY] at h3
  exact ⟨h1,h2.trans (fi_congr (Int.emod_emod _ _).symm),h3⟩
theorem onPt (p:Pt):g32ok realA (fi p.x) (fi p.y)=true∧g32r0 realA (fi p.x) (fi p.y)=true:=by
  obtain ⟨h1,h2⟩:=onP fok (fi_W4 p.x) (fi_W4 p.y)
  exact ⟨h1,h2.trans p.onW⟩
def Pt.base:Pt:=ptOf (fi BX) (fi BY)
theorem ptOf_x (a b:List Nat):(ptOf a b).x=ptX a b:=rfl
theorem ptOf_y (a b:List Nat):(ptOf a b).y=ptY a b:=rfl
theorem base_x:Pt.base.x=BX:=by unfold Pt.base; rw [ptOf_x]; exact ptB.1
theorem base_y:Pt.base.y=BY:=by unfold Pt.base; rw [ptOf_y]; exact ptB.2
theorem basePt:g21ok realA=true∧g21r0 realA=fi Pt.base.x∧g21r1 realA=fi Pt.base.y:=by
  obtain ⟨h1,h2,h3⟩:=baseP fok
  exact ⟨h1,by rw [h2,base_x],by rw [h3,base_y]⟩
theorem zeroPt:g38ok realA=true∧g38r0 realA=fi Pt.zero.x∧g38r1 realA=fi Pt.zero.y:=zeroP fok
end Go.Sx
namespace Go.Sx
set_option linter.unusedSectionVars false
theorem lowN_step (s:List Nat) (i:Nat):∀ j,j≤8→lowN s (8*i+j)=lowN s (8*i)+256^i*(s.getD i 0%2^j):=by
  intro j
  induction j with
  | zero=>intro _; rw [Nat.pow_zero,Nat.mod_one]; rfl
  | succ j ih =>
    intro hj
    have e1:(8*i+j)/8=i:=by omega
    have e2:(8*i+j)%8=j:=by omega
    rw [show 8*i+(j+1)=(8*i+j)+1 by omega,lowN,ih (by omega),Nat.mod_pow_succ]
    unfold bitN
    rw [e1,e2,Nat.pow_add,Nat.pow_mul,show 2^8=256 from rfl]
    generalize lowN s (8*i)=a
    generalize s.getD i 0%2^j=b
    generalize s.getD i 0/2^j%2=c
    have:c*(256^i*2^j)=256^i*(2^j*c):=by rw [Nat.mul_comm,Nat.mul_assoc]
    rw [Nat.mul_add]
    omega
theorem lowN_8 (s:List Nat) (i:Nat):lowN s (8*(i+1))=lowN s (8*i)+256^i*(s.getD i 0%256):=lowN_step s i 8 (Nat.le_refl _)
def ordB:List Nat:=[237,211,245,92,26,99,18,88,214,156,247,162,222,249,222,20]++List.replicate 15 0++[16]
def LL:Nat:=7237005577332262213973186563042994240857116359379907606001950938285454250989
theorem nS_ord:nS ordB=LL:=by decide +kernel
def frc {α:Type} (x:Nat) (f:Nat→α):α:=match x with
  | 0=>f 0
  | n+1=>f (n+1)
theorem frcE {α:Type} (x:Nat) (f:Nat→α):frc x f=f x:=by cases x <;> rfl
def DN:Nat:=37095705934669439343138083508754565189542113879843219016388785533085940283555
theorem DNe:(dI%PI)=DN:=by decide +kernel
def sumM {α:Type} (x y z t u v w s:Nat) (k:Nat→Nat→Nat→Nat→α):α :=
  frc ((x*v+u*y)%PP) fun a=>frc ((y*v+x*u)%PP) fun b=>frc (z*w%PP) fun m=>frc (DN*(t*s)%PP) fun c =>
  frc ((m+(PP - 1)*c)%PP) fun f=>frc ((m+c)%PP) fun g =>
  frc (a*f%PP) fun x3=>frc (b*g%PP) fun y3=>frc (f*g%PP) fun z3=>frc (a*b%PP) fun t3=>k x3 y3 z3 t3
def mulQ (s:List Nat) (u v w r:Nat):Nat→Nat→Nat→Nat→Nat→Nat × Nat × Nat × Nat
  | 0,x,y,z,t=>(x,y,z,t)
  | k+1,x,y,z,t=>sumM x y z t x y z t fun x y z t=>match Nat.beq (bitN s k) 1 with
    | true=>sumM x y z t u v w r fun x y z t=>mulQ s u v w r k x y z t
    | false=>mulQ s u v w r k x y z t
def cast4 (x y z t:Nat):Z4:=((x:Int),(y:Int),(z:Int),(t:Int))
theorem Rp.congr {q r:Z4} {p:Pt} (h:Rp q p) (h1:Zp (r.1 - q.1)) (h2:Zp (r.2.1 - q.2.1)) (h3:Zp (r.2.2.1 - q.2.2.1)) (h4:Zp (r.2.2.2 - q.2.2.2)):Rp r p:=by
  obtain ⟨a,b,c,d⟩:=h
  exact ⟨nzOf a h3,b.c3 h1 h3 1 1 (-p.x) (by grind),c.c3 h2 h3 1 1 (-p.y) (by grind),d.c3 h4 h3 1 1 (-(p.x*p.y)) (by grind)⟩
theorem zpN' (n:Nat):Zp (((n%PP:Nat):Int) - n):=by
  rw [Int.natCast_emod,PI_PP]
  exact zpM _
theorem zpMul {a b c d:Int} (h:Zp (a - c)) (k:Zp (b - d)):Zp (a*b - c*d):=h.c2 k b c (by grind)
theorem zpN2 {n:Nat} {a:Int} (h:Zp ((n:Int) - a)):Zp (((n%PP:Nat):Int) - a):=((zpN' n).add h).of (by omega)
theorem sumMRp {α:Type} {x y z t u v w s:Nat} {p q:Pt} (h:Rp (cast4 x y z t) p) (h2:Rp (cast4 u v w s) q) (k:Nat→Nat→Nat→Nat→α):∃ x3 y3 z3 t3,sumM x y z t u v w s k=k x3 y3 z3 t3∧Rp (cast4 x3 y3 z3 t3) (p.add q):=by
  have hs:=sumRp h h2
  unfold sumM
  simp only [frcE]
  refine ⟨_,_,_,_,rfl, ?_⟩
  have ha:Zp ((((x*v+u*y)%PP:Nat):Int) - (x*v+u*y)):=zpN2 (Zp.zero.of (by push_cast; omega))
  have hb:Zp ((((y*v+x*u)%PP:Nat):Int) - (y*v+x*u)):=zpN2 (Zp.zero.of (by push_cast; omega))
  have hm:Zp (((z*w%PP:Nat):Int) - z*w):=zpN2 (Zp.zero.of (by push_cast; omega))
  have hd:Zp ((DN:Int) - dI):=by rw [← DNe]; exact zpM _
  have hc:Zp (((DN*(t*s)%PP:Nat):Int) - dI*(t*s)):=zpN2 (hd.c1 (t*s) (by push_cast; grind))
  generalize (x*v+u*y)%PP=a at *
  generalize (y*v+x*u)%PP=b at *
  generalize z*w%PP=m at *
  generalize DN*(t*s)%PP=c at *
  have hf:Zp ((((m+(PP - 1)*c)%PP:Nat):Int) - (z*w - dI*(t*s))):=by
    refine zpN2 ?_
    have e:(((m+(PP - 1)*c:Nat)):Int)=m+(PI - 1)*c:=by
      rw [Int.natCast_add,Int.natCast_mul,show ((PP - 1:Nat):Int)=PI - 1 by decide]
    rw [e]
    exact hm.c3 hc (show Zp PI by decide) 1 (-1) c (by grind)
  have hg:Zp ((((m+c)%PP:Nat):Int) - (z*w+dI*(t*s))):=zpN2 (hm.c2 hc 1 1 (by push_cast; grind))
  generalize (m+(PP - 1)*c)%PP=f at *
  generalize (m+c)%PP=g at *
  refine hs.congr ?_ ?_ ?_ ?_
  · exact zpN2 ((zpMul ha hf).of (by push_cast; rfl))
  · exact zpN2 ((zpMul hb hg).of (by push_cast; rfl))
  · exact zpN2 ((zpMul hf hg).of (by push_cast; rfl))
  · exact zpN2 ((zpMul ha hb).of (by push_cast; rfl))
theorem mulMRp (s:List Nat) {u v w r:Nat} {p:Pt} (hq:Rp (cast4 u v w r) p):∀ (k x y z t:Nat) (o:Pt),Rp (cast4 x y z t) o→∃ x3 y3 z3 t3,mulQ s u v w r k x y z t=(x3,y3,z3,t3)∧Rp (cast4 x3 y3 z3 t3) ((nP (2^k) o).add (nP (lowN s k) p)):=by
  intro k
  induction k with
  | zero =>
    intro x y z t o ho
    have:(nP (2^0) o).add (nP (lowN s 0) p)=o:=by
      show (nP 1 o).add Pt.zero=o
      rw [Pt.add_zero,nP_one]
    rw [this]
    exact ⟨x,y,z,t,rfl,ho⟩
  | succ k ih =>
    intro x y z t o ho
    rw [mulQ]
    have e:(nP (2^(k+1)) o).add (nP (lowN s (k+1)) p)=(nP (2^k) ((o.add o).add (nP (bitN s k) p))).add (nP (lowN s k) p):=by
      rw [nP_sum,lowN,nP_add,Nat.pow_succ,nP_mul,nP_two,Nat.mul_comm (bitN s k),nP_mul,Pt.assoc]
    rw [e]
    obtain ⟨x3,y3,z3,t3,e2,h2⟩:=sumMRp ho ho (fun x y z t=>match Nat.beq (bitN s k) 1 with
    | true=>sumM x y z t u v w r fun x y z t=>mulQ s u v w r k x y z t
    | false=>mulQ s u v w r k x y z t)
    rw [e2]
    rcases Nat.lt_or_ge (bitN s k) 1 with hb | hb
    · have:bitN s k=0:=by omega
      rw [this]
      exact ih x3 y3 z3 t3 _ (by show Rp _ ((o.add o).add Pt.zero); rw [Pt.add_zero]; exact h2)
    · have:bitN s k=1:=by have:=bitN_lt s k; omega
      rw [this,nP_one]
      obtain ⟨x4,y4,z4,t4,e4,h4⟩:=sumMRp h2 hq (fun x y z t=>mulQ s u v w r k x y z t)
      show ∃ x5 y5 z5 t5,sumM x3 y3 z3 t3 u v w r (fun x y z t=>mulQ s u v w r k x y z t)=(x5,y5,z5,t5)∧_
      rw [e4]
      exact ih x4 y4 z4 t4 _ h4
def chkQ (q:Nat × Nat × Nat × Nat):Bool:=Nat.beq (q.1%PP) 0&&Nat.beq (q.2.1%PP) (q.2.2.1%PP)
theorem chkL:chkQ (mulQ ordB BX BY 1 (BX*BY%PP) 256 0 1 1 0)=true:=by decide +kernel
theorem LBase:nP LL Pt.base=Pt.zero:=by
  have hb:Rp (cast4 BX BY 1 (BX*BY%PP)) Pt.base:=by
    refine (openRp Pt.base).congr ?_ ?_ ?_ ?_
    · rw [base_x]; exact Zp.zero.of (Int.sub_self _).symm
    · rw [base_y]; exact Zp.zero.of (Int.sub_self _).symm
    · exact Zp.zero.of (Int.sub_self _).symm
    · show Zp (((BX*BY%PP:Nat):Int) - Pt.base.x*Pt.base.y)
      rw [base_x,base_y]
      exact zpN2 (Zp.zero.of (by push_cast; omega))
  obtain ⟨x,y,z,t,e,h⟩:=mulMRp ordB hb 256 0 1 1 0 Pt.zero zeroRp
  rw [nP_zero,Pt.zero_add,show lowN ordB 256=LL from nS_ord] at h
  have hk:=chkL
  rw [e] at hk
  unfold chkQ at hk
  simp only [Bool.and_eq_true] at hk
  have k1:=Nat.eq_of_beq_eq_true hk.1
  have k2:=Nat.eq_of_beq_eq_true hk.2
  obtain ⟨hz,h1,h2,_⟩:=h
  have z1:Zp (x:Int):=by
    show (x:Int)%PI=0
    rw [← PI_PP,← Int.natCast_emod,k1]; rfl
  have z2:Zp ((y:Int) - z):=zp_iff.2 (natM k2)
  simp only [cast4] at hz h1 h2
  refine Pt.ext' ?_ ?_
  · refine cancelZ hz ?_
    exact z1.c2 h1 1 (-1) (by show (z:Int)*((nP LL Pt.base).x - 0)=_; grind)
  · refine cancelZ hz ?_
    exact z2.c2 h2 1 (-1) (by show (z:Int)*((nP LL Pt.base).y - 1)=_; grind)
end Go.Sx
namespace Go.Sx
set_option linter.unusedSectionVars false
structure PTK (A:Ar):Prop where
  add:∀ p q:Pt,g19ok A (fi p.x) (fi p.y) (fi q.x) (fi q.y)=true∧g19r0 A (fi p.x) (fi p.y) (fi q.x) (fi q.y)=fi (p.add q).x∧g19r1 A (fi p.x) (fi p.y) (fi q.x) (fi q.y)=fi (p.add q).y
  mul:∀ (p:Pt) (s:List Nat),s.length<9223372036854775808→g20ok A s (fi p.x) (fi p.y)=true∧g20r0 A s (fi p.x) (fi p.y)=fi (nP (nS s) p).x∧g20r1 A s (fi p.x) (fi p.y)=fi (nP (nS s) p).y
  neg:∀ p:Pt,g22ok A (fi p.x) (fi p.y)=true∧g22r0 A (fi p.x) (fi p.y)=fi p.neg.x∧g22r1 A (fi p.x) (fi p.y)=fi p.neg.y
  on:∀ p:Pt,g32ok A (fi p.x) (fi p.y)=true∧g32r0 A (fi p.x) (fi p.y)=true
  base:g21ok A=true∧g21r0 A=fi Pt.base.x∧g21r1 A=fi Pt.base.y
  zero:g38ok A=true∧g38r0 A=fi Pt.zero.x∧g38r1 A=fi Pt.zero.y
  lqs:∀ x:Int,A.lq (fi x) (fi x)=true
theorem ptk:PTK realA where
  add:=addPt
  mul:=fun p _ hs=>mulPt p hs
  neg:=negPt
  on:=onPt
  base:=basePt
  zero:=zeroPt
  lqs:=fun x=>by rw [fok.lq]; exact decide_eq_true rfl
end Go.Sx
namespace Go.Sx
set_option linter.unusedSectionVars false
theorem rootAlg (v x k:Nat):(v*x^2)*v^3*((v*x^2)*v^7)^k=(x^(k+1))^2*v^(8*k+4):=by
  rw [show (v*x^2)*v^7=x^2*v^8 by grind,Nat.mul_pow,← Nat.pow_mul,← Nat.pow_mul,Nat.pow_succ x k,Nat.pow_add v (8*k) 4,Nat.mul_comm 2 k,Nat.pow_mul]
  generalize x^k=a
  generalize v^(8*k)=b
  grind
def ME (a b:Nat):Prop:=a%PP=b%PP
theorem ME.mul {a b c d:Nat} (h:ME a b) (k:ME c d):ME (a*c) (b*d):=mmod h k
theorem ME.m {a b:Nat} (h:ME a b):ME (a%PP) b:=(Nat.mod_mod _ _).trans h
theorem ME.pow {a b:Nat} (h:ME a b) (k:Nat):ME (a^k) (b^k):=powM h k
theorem ME.r {a:Nat}:ME a a:=rfl
theorem K84:8*KK+4=PM∧2*(KK+1)*2=2+PM/2:=by decide
theorem rootXE {u v x:Nat} (hv:v%PP≠0) (hu:ME u (v*x^2)):ME (rootX u v) ((x^(KK+1))^2):=by
  have c3:ME (v*(v*v%PP)%PP) (v^3):=(ME.mul ME.r (ME.m (show ME (v*v) (v*v) from rfl))).m.trans (by rw [show v*(v*v)=v^3 by grind])
  have c7:ME (v*((v*(v*v%PP)%PP)*(v*(v*v%PP)%PP)%PP)%PP) (v^7):=(ME.mul (ME.r (a:=v)) (c3.mul c3).m).m.trans (by rw [show v*(v^3*v^3)=v^7 by grind])
  have ca:ME (u*(v*(v*v%PP)%PP)%PP) (v*x^2*v^3):=(hu.mul c3).m
  have cb:ME (u*(v*((v*(v*v%PP)%PP)*(v*(v*v%PP)%PP)%PP)%PP)%PP) (v*x^2*v^7):=(hu.mul c7).m
  unfold rootX
  rw [pw_spec _ KK (by decide)]
  have h:=(ca.mul (cb.pow KK).m).m
  rw [rootAlg,K84.1] at h
  refine h.trans ?_
  rw [Nat.mul_mod,fermat hv,Nat.mul_one,Nat.mod_mod]
theorem rootUV {u v x:Nat} (hu:u<PP) (hv:v%PP≠0) (he:ME u (v*x^2)):(rootN u v).2=true:=by
  have hX:=rootXE hv he
  have hC:rootC u v<PP:=Nat.mod_lt _ PP_pos
  have e1:ME (rootC u v) (v*x^2*x^(PM/2)):=by
    unfold rootC
    have h:=(ME.mul (ME.r (a:=v)) (hX.mul hX).m).m
    refine h.trans ?_
    rw [← Nat.pow_mul,← Nat.pow_add,show (KK+1)*2+(KK+1)*2=2*(KK+1)*2 by omega,K84.2,Nat.pow_add,Nat.mul_assoc]
  have e2:rootC u v*rootC u v%PP=u*u%PP:=by
    refine (e1.mul e1).trans ?_
    refine Eq.trans ?_ (he.mul he).symm
    have hh:=halfPow x
    rw [← Nat.mul_mod,Nat.mod_mul_mod] at hh
    have:=mmod hh (show v*v*(x*x*x)%PP=v*v*(x*x*x)%PP from rfl)
    generalize x^(PM/2)=t at *
    rw [show v*x^2*t*(v*x^2*t)=t*t*x*(v*v*(x*x*x)) by grind,this]
    exact congrArg (· % PP) (by grind)
  cases h1:Nat.beq (rootC u v) (u%PP) with
  | true=>exact congrArg Prod.snd (rn1 h1)
  | false =>
    rcases sqE hC hu e2 with h | h
    · rw [h,Nat.mod_eq_of_lt hu,Nat.beq_refl] at h1
      cases h1
    · exact congrArg Prod.snd (rn2 h1 (by rw [Nat.mod_eq_of_lt hu,h]; rfl))
theorem vNZ (y:Int):¬ Zp (1+y*y*dI):=by
  intro h
  have h2:Zp y:=dNS (w:=iI) ((h.c2 iI2 1 (-1) (by grind)))
  exact one_nz (h.c2 h2 1 (-(y*dI)) (by grind))
theorem MEof {a b:Nat} (h:Zp ((a:Int) - b)):ME a b:=by
  have:=zp_iff.1 h
  rw [← PI_PP,← Int.natCast_emod,← Int.natCast_emod] at this
  exact_mod_cast this
theorem zpC (a:Int):Zp (((a%PI).toNat:Int) - a):=by rw [castN]; exact zpM a
theorem sideOn {x y:Int} (ho:Zp (onE x y)):(sideN y).2=true∧(Zp (((sideN y).1:Int) - x)∨Zp (((sideN y).1:Int)+x)):=by
  have hu:=zpC (y*y - 1)
  have hv:=zpC (1+y*y*dI)
  have hx:=zpC x
  have hv0:((1+y*y*dI)%PI).toNat%PP≠0:=by
    intro e
    exact vNZ y ((zpN _).2 e)
  have ht:(sideN y).2=true:=by
    unfold sideN
    refine rootUV (x:=(x%PI).toNat) (toN_lt _) hv0 (MEof ?_)
    rw [Int.natCast_mul,Int.natCast_pow]
    generalize ((y*y - 1)%PI).toNat=u at *
    generalize ((1+y*y*dI)%PI).toNat=v at *
    generalize (x%PI).toNat=z at *
    exact ((hu.c3 hv hx 1 (-((z:Int)^2)) (-((1+y*y*dI)*(z+x))) rfl).add ho).of (by unfold onE; grind)
  refine ⟨ht, ?_⟩
  have hs:=rootN_true (toN_lt (y*y - 1)) (v:=((1+y*y*dI)%PI).toNat) ht
  have h1:=hs.1
  have h2:Zp ((((1+y*y*dI)%PI).toNat:Int)*(((sideN y).1:Int)*(sideN y).1) - ((y*y - 1)%PI).toNat):=by
    refine zp_iff.2 ?_
    have:((((1+y*y*dI)%PI).toNat*((sideN y).1*(sideN y).1%PP):Nat):Int)%PI=(((y*y - 1)%PI).toNat:Int)%PI:=natM (by
      refine Eq.trans h1 (Nat.mod_eq_of_lt (toN_lt _)).symm)
    rw [← this,← Int.natCast_mul,← Int.natCast_mul]
    exact natM (by rw [Nat.mul_mod_mod])
  generalize (sideN y).1=r at *
  have h3:Zp ((1+y*y*dI)*(((r:Int) - x)*(r+x))):=by
    refine ((h2.c3 hv hu 1 (-((r:Int)*r)) 1 rfl).add ho).of ?_
    unfold onE
    grind
  exact (cancelZ (vNZ y) h3).or
theorem sideEven (y:Int) (ht:(sideN y).2=true):(sideN y).1<PP∧(sideN y).1%2=0∧Zp (onE (sideN y).1 y):=by
  have hs:=rootN_true (toN_lt (y*y - 1)) (v:=((1+y*y*dI)%PI).toNat) ht
  refine ⟨hs.2.1,hs.2.2, ?_⟩
  have h1:=hs.1
  have hu:=zpC (y*y - 1)
  have hv:=zpC (1+y*y*dI)
  have h2:Zp ((((1+y*y*dI)%PI).toNat:Int)*(((sideN y).1:Int)*(sideN y).1) - ((y*y - 1)%PI).toNat):=by
    refine zp_iff.2 ?_
    have:((((1+y*y*dI)%PI).toNat*((sideN y).1*(sideN y).1%PP):Nat):Int)%PI=(((y*y - 1)%PI).toNat:Int)%PI:=natM (by
      refine Eq.trans h1 (Nat.mod_eq_of_lt (toN_lt _)).symm)
    rw [← this,← Int.natCast_mul,← Int.natCast_mul]
    exact natM (by rw [Nat.mul_mod_mod])
  generalize (sideN y).1=r at *
  exact (h2.c3 hv hu (-1) ((r:Int)*r) (-1) (by unfold onE; grind))
end Go.Sx
namespace Go.Sx
set_option linter.unusedSectionVars false
def plainT' (s:List Nat):List Nat:=s.take 31++[s.getD 31 0%128]
def decN (s:List Nat):Option (Int × Int) :=
  if s.length=32∧leval (plainT' s)<PP then
    (match sideN (leval (plainT' s):Nat) with
     | (x,true)=>if s.getD 31 0<128 then some ((x:Nat),(leval (plainT' s):Nat)) else if x=0 then none else some (-(x:Nat),(leval (plainT' s):Nat))
     | (_,false)=>none)
  else none
def decV:Option (Int × Int)→AV
  | some (x,y)=> .tup [.agg [.nums .u64 4 (fi x),.nums .u64 4 (fi y)],.cell (.bool true)]
  | none=> .tup [.agg [.nums .u64 4 [0,0,0,0],.nums .u64 4 [0,0,0,0]],.cell (.bool false)]
theorem bits128:∀ c,c<256→realA.nb .andNot .u8 c 128=c%128∧realA.nc .eql (realA.nb .and .u8 c 128) 0=decide (c<128)∧realA.nb .rem .u8 c 128=c%128∧realA.nc .geq c 128= !(decide (c<128)):=by
  have h:((List.range 256).all fun c=>Nat.beq (realA.nb .andNot .u8 c 128) (c%128)&&((realA.nc .eql (realA.nb .and .u8 c 128) 0 == decide (c<128))&&(Nat.beq (realA.nb .rem .u8 c 128) (c%128)&&(realA.nc .geq c 128 == !(decide (c<128))))))=true:=by decide +kernel
  intro c hc
  have:=List.all_eq_true.1 h c (List.mem_range.2 hc)
  simp only [Bool.and_eq_true,beq_iff_eq] at this
  exact ⟨beq_true this.1,this.2.1,beq_true this.2.2.1,this.2.2.2⟩
theorem plain_len {s:List Nat} (h:s.length=32):(plainT' s).length=32:=by
  unfold plainT'
  rw [List.length_append,List.length_take,h]
  rfl
theorem plain_lt {s:List Nat} (hs:∀ x ∈ s,x<256):∀ x ∈ plainT' s,x<256:=by
  intro x hx
  unfold plainT' at hx
  rcases List.mem_append.1 hx with h | h
  · exact hs x (List.mem_of_mem_take h)
  · have:x=s.getD 31 0%128:=by simpa using h
    omega
theorem half0 {r:Int} (h0:0≤r) (h1:r<PI) (h:(r+r)%PI=0):r=0:=by
  by_cases hlt:r+r<PI
  · rw [Int.emod_eq_of_lt (by omega) hlt] at h
    omega
  · have e:(r+r)%PI=r+r - PI:=by
      have:(r+r - PI)%PI=(r+r)%PI:=Int.sub_emod_right (r+r) PI
      rw [← this,Int.emod_eq_of_lt (by omega) (by omega)]
    rw [e] at h
    have hp:PI=2*28948022309329048855892746252171976963317496166410141009864396001978282409974+1:=by decide
    omega
theorem dbl0 (x:Int):((-x)%PI=x%PI)↔x%PI=0:=by
  constructor
  · intro h
    refine half0 (Int.emod_nonneg x (by decide)) (Int.emod_lt_of_pos x PI_pos) ?_
    rw [← Int.add_emod]
    have:(x+x)%PI=(x + -x)%PI:=by rw [Int.add_emod,← h,← Int.add_emod,Int.add_emod x (-x),h,← Int.add_emod,Int.add_emod,h,← Int.add_emod]
    rw [this,Int.add_right_neg]
    rfl
  · intro h
    rw [h,Int.neg_emod,if_pos (Int.dvd_of_emod_eq_zero h)]
theorem decP {s:List Nat} (hs:∀ x ∈ s,x<256):g17v realA s=some (decV (decN s)):=by
  unfold g17v g17
  by_cases hl:s.length=32
  · have e0:realA.ic .neq (realA.ofN s.length) 32=false:=ofNat32 hl
    have c31:s.getD 31 0<256:=getD_lt hs 31
    obtain ⟨b1,b2,_,_⟩:=bits128 _ c31
    have ht:(s.take 31).drop 0++[realA.nb .andNot .u8 (s.getD 31 0) 128].take 1=plainT' s:=by rw [b1]; rfl
    rw [e0]
    simp only []
    unfold g17J3
    have n1:Nat.blt 31 s.length=true:=by rw [hl]; rfl
    have n2:realA.le 31 s.length=true:=decide_eq_true (by omega)
    have n3:realA.le (((s.take 31).drop 0).length+([realA.nb .andNot .u8 (s.getD 31 0) 128].take 1).length) 9223372036854775807=true:=decide_eq_true (by rw [List.length_drop,List.length_take]; show _+1≤_; omega)
    rw [ht]
    obtain ⟨m0,hm⟩:=makeOk (plain_lt hs)
    simp only [n1,n2,n3,m0]
    unfold decN
    rcases hm with ⟨_,h2,h3,h4⟩ | ⟨h2,h3,h4⟩
    · rw [h3,h4,if_pos ⟨hl,h2⟩,fe_fi h2]
      simp only [Bool.not_true]
      unfold g17J7
      obtain ⟨s1,s2,s3⟩:=sideP fok (leval (plainT' s):Nat)
      rw [s1,s2,s3]
      cases hside:sideN (leval (plainT' s):Nat) with
      | mk x t =>
        cases t with
        | false=>rfl
        | true =>
          simp only [Bool.not_true]
          unfold g17J10
          rw [b2]
          by_cases hc:s.getD 31 0<128
          · rw [decide_eq_true hc,if_pos hc]
            rfl
          · rw [decide_eq_false hc,if_neg hc]
            simp only []
            unfold g17J13
            obtain ⟨k1,k2⟩:=fok.neg (x:Nat)
            rw [k1,k2,fok.lq,fok.lq,decide_eq_true (rfl:(leval (plainT' s):Int)%PI=_)]
            have hx:((x:Nat):Int)%PI=0↔x=0:=by
              have:(x:Nat)<PP:=by
                have hh:(rootN (((leval (plainT' s):Nat)*(leval (plainT' s):Nat) - 1:Int)%PI).toNat ((1+(leval (plainT' s):Nat)*(leval (plainT' s):Nat)*dI:Int)%PI).toNat)=(x,true):=hside
                have:=(rootN_true (toN_lt _) (by rw [hh])).2.1
                rw [hh] at this
                exact this
              have e:((x:Nat):Int)%PI=x:=by rw [← PI_PP]; exact Int.emod_eq_of_lt (by omega) (by exact_mod_cast this)
              rw [e]; omega
            by_cases h0:x=0
            · rw [if_pos h0,decide_eq_true ((dbl0 _).2 (hx.2 h0))]
              rfl
            · rw [if_neg h0,decide_eq_false (fun e=>h0 (hx.1 ((dbl0 _).1 e)))]
              rfl
    · rw [h3,h4,if_neg (fun hh=>h2 ⟨plain_len hl,hh.2⟩)]
      rfl
  · have e0:realA.ic .neq (realA.ofN s.length) 32=true:=ofNat32' hl
    rw [e0]
    unfold decN
    rw [if_neg (fun hh=>hl hh.1)]
    rfl
end Go.Sx
namespace Go.Sx
set_option linter.unusedSectionVars false
def encS (x y:Nat):List Nat:=(le32 y).take 31++[(le32 y).getD 31 0+128*(x%2)]
theorem or128:∀ c,c<128→realA.nb .or .u8 c 128=c+128:=by
  have h:((List.range 128).all fun c=>Nat.beq (realA.nb .or .u8 c 128) (c+128))=true:=by decide +kernel
  intro c hc
  exact beq_true (List.all_eq_true.1 h c (List.mem_range.2 hc))
theorem split31 {s:List Nat} (h:s.length=32):s=s.take 31++[s.getD 31 0]:=by
  have h1:=(List.take_append_drop 31 s).symm
  have h2:s.drop 31=[s.getD 31 0]:=by
    rw [List.drop_eq_getElem_cons (by omega),List.drop_of_length_le (by omega),List.getD_eq_getElem?_getD,List.getElem?_eq_getElem (by omega)]
    rfl
  rwa [h2] at h1
theorem top_lt {y:Nat} (h:y<PP):(le32 y).getD 31 0<128:=by
  have e:(le32 y).getD 31 0=y/256^31%256:=by
    rw [List.getD_eq_getElem?_getD]
    unfold le32
    rw [List.getElem?_map,List.getElem?_range (by decide)]
    rfl
  have:y/256^31<128:=Nat.div_lt_of_lt_mul (Nat.lt_trans h (by decide))
  omega
theorem encB_S {a b:List Nat} (ha:num a<PP) (hb:num b<PP):encB a b=encS (num a) (num b):=by
  have hs:=split31 (le32_len (num b))
  have ht:=top_lt hb
  unfold encB encS
  rw [Nat.mod_eq_of_lt ha,Nat.mod_eq_of_lt hb]
  by_cases h1:num a%2=1
  · rw [if_pos h1,h1,or128 _ ht,List.set_eq_take_append_cons_drop,if_pos (by rw [le32_len]; decide),List.drop_of_length_le (by rw [le32_len]; decide)]
  · rw [if_neg h1,show num a%2=0 by omega]
    exact hs
theorem encS_len (x y:Nat):(encS x y).length=32:=by
  unfold encS
  rw [List.length_append,List.length_take,le32_len]
  rfl
theorem encS_take (x y:Nat):(encS x y).take 31=(le32 y).take 31:=by
  unfold encS
  rw [List.take_append_of_le_length (by rw [List.length_take,le32_len]; decide),List.take_take,Nat.min_self]
theorem encS_top (x y:Nat):(encS x y).getD 31 0=(le32 y).getD 31 0+128*(x%2):=by
  unfold encS
  rw [List.getD_eq_getElem?_getD,List.getElem?_append_right (by rw [List.length_take,le32_len]; decide),List.length_take,le32_len]
  rfl
theorem encS_plain {x y:Nat} (hy:y<PP):plainT' (encS x y)=le32 y:=by
  have ht:=top_lt hy
  unfold plainT'
  rw [encS_take,encS_top,Nat.add_mul_mod_self_left,Nat.mod_eq_of_lt ht]
  exact (split31 (le32_len y)).symm
theorem PPodd:PP%2=1:=by decide
theorem zpNat {a b:Nat} (h:Zp ((a:Int) - b)) (ha:a<PP) (hb:b<PP):a=b:=by
  have:ME a b:=MEof h
  unfold ME at this
  rwa [Nat.mod_eq_of_lt ha,Nat.mod_eq_of_lt hb] at this
theorem zpNat2 {a b:Nat} (h:Zp ((a:Int)+b)) (ha:a<PP) (hb:b<PP):a+b=0∨a+b=PP:=by
  have h2:ME (a+b) 0:=MEof (h.of (by omega))
  unfold ME at h2
  rw [Nat.zero_mod] at h2
  by_cases hl:a+b<PP
  · rw [Nat.mod_eq_of_lt hl] at h2; exact .inl h2
  · rw [Nat.mod_eq_sub_mod (by omega),Nat.mod_eq_of_lt (by omega)] at h2
    exact .inr (by omega)
theorem dec_enc {x y:Nat} (hx:x<PP) (hy:y<PP) (ho:Zp (onE x y)):∃ x':Int,decN (encS x y)=some (x',(y:Int))∧fi x'=fi x:=by
  have hl:leval (plainT' (encS x y))=y:=by rw [encS_plain hy]; exact leval_le32 y (Nat.lt_trans hy (by decide))
  obtain ⟨s1,s2⟩:=sideOn ho
  obtain ⟨s3,s4,_⟩:=sideEven (y:Int) s1
  have ht:=top_lt hy
  have hp:=PPodd
  unfold decN
  rw [if_pos ⟨encS_len x y,by rw [hl]; exact hy⟩,hl,encS_top]
  cases hs:sideN (y:Int) with
  | mk r t =>
    rw [hs] at s1 s2 s3 s4
    simp only at s1 s2 s3 s4
    subst s1
    simp only []
    rcases Nat.mod_two_eq_zero_or_one x with h0 | h1
    · rw [if_pos (by rw [h0]; omega)]
      refine ⟨_,rfl, ?_⟩
      rcases s2 with h | h
      · rw [zpNat h s3 hx]
      · have:=zpNat2 h s3 hx
        rw [show r=x by omega]
    · rw [if_neg (by rw [h1]; omega)]
      have hr:Zp ((r:Int)+x):=by
        rcases s2 with h | h
        · have:=zpNat h s3 hx
          omega
        · exact h
      have h0:¬ r=0:=by
        have:=zpNat2 hr s3 hx
        omega
      rw [if_neg h0]
      refine ⟨_,rfl,fi_congr (zp_iff.1 (hr.neg.of (by omega)))⟩
def Pt.bytes (p:Pt):List Nat:=encS (num (fi p.x)) (num (fi p.y))
theorem Pt.lx (p:Pt):num (fi p.x)<PP:=by rw [num_fi]; exact toN_lt _
theorem Pt.ly (p:Pt):num (fi p.y)<PP:=by rw [num_fi]; exact toN_lt _
theorem Pt.encE (p:Pt):g18ok realA (fi p.x) (fi p.y)=true∧g18r0 realA (fi p.x) (fi p.y)=p.bytes∧g18r1 realA (fi p.x) (fi p.y)=true:=by
  obtain ⟨h1,h2,h3⟩:=EncP (fi_W4 p.x) (fi_W4 p.y)
  rw [p.onW,if_pos rfl,encB_S p.lx p.ly] at h2
  exact ⟨h1,h2,h3.trans p.onW⟩
theorem g17of' {A:Ar} {s x y:List Nat} {t:Bool} (e:g17v A s=some (.tup [.agg [.nums .u64 4 x,.nums .u64 4 y],.cell (.bool t)])):g17ok A s=true∧g17r0 A s=x∧g17r1 A s=y∧g17r2 A s=t:=⟨by unfold g17ok; rw [e]; rfl,by unfold g17r0; rw [e]; rfl,by unfold g17r1; rw [e]; rfl,by unfold g17r2; rw [e]; rfl⟩
theorem Pt.bytes_lt (p:Pt):∀ c ∈ p.bytes,c<256:=by
  intro c hc
  unfold Pt.bytes encS at hc
  rcases List.mem_append.1 hc with h | h
  · exact le32_lt _ c (List.mem_of_mem_take h)
  · have e:c=(le32 (num (fi p.y))).getD 31 0+128*(num (fi p.x)%2):=by simpa using h
    have:=top_lt p.ly
    omega
theorem Pt.decE (p:Pt):g17ok realA p.bytes=true∧g17r0 realA p.bytes=fi p.x∧g17r1 realA p.bytes=fi p.y∧g17r2 realA p.bytes=true:=by
  have ho:Zp (onE (num (fi p.x)) (num (fi p.y))):=by rw [p.nx,p.ny]; exact p.on
  obtain ⟨x',h1,h2⟩:=dec_enc p.lx p.ly ho
  have h:=decP p.bytes_lt
  have h1':decN p.bytes=some (x',((num (fi p.y):Nat):Int)):=h1
  rw [h1'] at h
  obtain ⟨k1,k2,k3,k4⟩:=g17of' h
  refine ⟨k1,k2.trans (h2.trans (by rw [p.nx])),k3.trans (by rw [p.ny]),k4⟩
end Go.Sx
namespace Go.Sx
set_option linter.unusedSectionVars false
theorem lowN_leval {s:List Nat} (hs:∀ x ∈ s,x<256):∀ k,k≤s.length→lowN s (8*k)=leval (s.take k):=by
  intro k
  induction k with
  | zero=>intro _; rfl
  | succ k ih =>
    intro hk
    rw [lowN_8,ih (by omega),leval_step s k (by omega),Nat.mod_eq_of_lt (getD_lt hs k)]
theorem nS32 {s:List Nat} (hs:∀ x ∈ s,x<256) (hl:s.length=32):nS s=leval s:=by
  unfold nS
  rw [hl,show min 32 32=32 from rfl,lowN_leval hs 32 (by omega),List.take_of_length_le (by omega)]
theorem nP_LL (k:Nat):nP (LL*k) Pt.base=Pt.zero:=by rw [Nat.mul_comm,nP_mul,LBase,nP_zero]
theorem nP_mod (x:Nat):nP (x%LL) Pt.base=nP x Pt.base:=by
  have h:=Nat.mod_add_div x LL
  have h2:nP (x%LL+LL*(x/LL)) Pt.base=nP x Pt.base:=by rw [h]
  rw [← h2,nP_add,nP_LL,Pt.add_zero]
theorem verEq (K N R:Nat):(nP ((K*N+R)%LL) Pt.base).add (nP K (nP N Pt.base).neg)=nP R Pt.base:=by
  rw [nP_mod,nP_add,nP_neg,nP_mul,Pt.add_comm (nP K (nP N Pt.base)),Pt.assoc,Pt.add_neg,Pt.add_zero]
def isAt (q:Nat × Nat × Nat × Nat) (x y:Nat):Bool:=Nat.beq (q.1%PP) (x*q.2.2.1%PP)&&Nat.beq (q.2.1%PP) (y*q.2.2.1%PP)
theorem baseQ:Rp (cast4 BX BY 1 (BX*BY%PP)) Pt.base:=by
  refine (openRp Pt.base).congr ?_ ?_ ?_ ?_
  · rw [base_x]; exact Zp.zero.of (Int.sub_self _).symm
  · rw [base_y]; exact Zp.zero.of (Int.sub_self _).symm
  · exact Zp.zero.of (Int.sub_self _).symm
  · show Zp (((BX*BY%PP:Nat):Int) - Pt.base.x*Pt.base.y)
    rw [base_x,base_y]
    exact zpN2 (Zp.zero.of (by push_cast; omega))
theorem timesAt {s:List Nat} {x y:Nat} (hx:x<PP) (hy:y<PP) (h:isAt (mulQ s BX BY 1 (BX*BY%PP) 256 0 1 1 0) x y=true):(nP (lowN s 256) Pt.base).x=x∧(nP (lowN s 256) Pt.base).y=y:=by
  obtain ⟨X,Y,Z,T,e,hr⟩:=mulMRp s baseQ 256 0 1 1 0 Pt.zero zeroRp
  rw [nP_zero,Pt.zero_add] at hr
  rw [e] at h
  unfold isAt at h
  simp only [Bool.and_eq_true] at h
  have k1:=Nat.eq_of_beq_eq_true h.1
  have k2:=Nat.eq_of_beq_eq_true h.2
  obtain ⟨hz,h1,h2,_⟩:=hr
  simp only [cast4] at hz h1 h2
  have z1:Zp ((X:Int) - x*Z):=by
    refine zp_iff.2 ?_
    have:=natM k1
    rwa [Int.natCast_mul] at this
  have z2:Zp ((Y:Int) - y*Z):=by
    refine zp_iff.2 ?_
    have:=natM k2
    rwa [Int.natCast_mul] at this
  generalize nP (lowN s 256) Pt.base=p at *
  have fin:∀ (a b:Int),a%PI=a→b%PI=b→Zp (a - b)→a=b:=by
    intro a b ha hb h
    have:=zp_iff.1 h
    rwa [ha,hb] at this
  have small:∀ n:Nat,n<PP→(n:Int)%PI=n:=fun n hn=>by rw [← PI_PP]; exact Int.emod_eq_of_lt (by omega) (by exact_mod_cast hn)
  refine ⟨fin _ _ p.hx (small x hx) (cancelZ hz (z1.c2 h1 1 (-1) (by grind))),fin _ _ p.hy (small y hy) (cancelZ hz (z2.c2 h2 1 (-1) (by grind)))⟩
end Go.Sx
namespace Go.Sx
set_option linter.unusedSectionVars false
open Go.Proofs
set_option linter.unusedVariables false
set_option maxRecDepth 100000
theorem SxY06cpi {R:Type} (c:Bool) {f1 f2:Nat→Option R} {a1 a2:Option R} (h1:Prs f1 a1) (h2:Prs f2 a2):Prs (fun k=>match c with | true=>f1 k | false=>f2 k) (match c with | true=>a1 | false=>a2):=by cases c <;> assumption
attribute [local irreducible] carryok add64a add64b sub64a sub64b g49ok g49r0 g49r1
def g62O (A:Ar):Orc:=orcOf []
theorem g62O_sound:OSound Try.prog (g62O realA):=orc_sound fun f g hm args v hv=>by
  cases hm
theorem g62O_det:ODet (g62O realA):=orc_det _
def g62an:Ann:=[(0,([],[])),(1,([0],[1000]))]
def g62res:List ResultVar:=[.cell 0 82]
def g62cut:List Nat:=[]
noncomputable def g62N {R:Type} (A:Ar) (kk:AV→Heap→Option R) (t:List Bool→St→Option R) (p:List Bool) (s:St):Option R:=nodeN A gtys (g62O A) g62an g62cut t (bodyOf Try.f62) (finD gtys g62res kk) p s
def g62 {R:Type} (A:Ar) (n:Nat) (kk:AV→Heap→Option R)  : Option R :=
 kk (aN .u64 5 (((([0,0,0,0,0].set 0 6346243789798364141).set 1 1503914060200516822).set 2 0).set 3 1152921504606846976)) [(1000,(bU 5 (((([0,0,0,0,0].set 0 6346243789798364141).set 1 1503914060200516822).set 2 0).set 3 1152921504606846976) 82))]
section
variable {R:Type} {A:Ar} {n:Nat} {kk:AV→Heap→Option R} {tb:Nat→List Bool→St→Option R} (st:Stp (g62N A kk) tb)
include st
theorem g62_go  : Prs (fun k=>funN A gtys (g62O A) g62an g62cut (bodyOf Try.f62) g62res [] [] kk (tb k)) (g62 A n kk ):=by
  unfold g62
  exact pc (pf _) (by kernel_rfl)
end
def g62is (o:Option AV):Bool:=match o with
 | some (aN .u64 5 _)=>true
 | _=>false
def g62g0 (o:Option AV):List Nat:=match o with
 | some (aN .u64 5 x)=>x
 | _=>[]
theorem g62is_spec {o:Option AV} (h:g62is o=true):o=some (aN .u64 5 (g62g0 o)):=by
  unfold g62is at h
  split at h
  · rfl
  · cases h
def g62v (A:Ar)  : Option AV:=g62 A (100000) (fun v _=>some v) 
def g62ok (A:Ar)  : Bool:=g62is (g62v A )
def g62r0 (A:Ar)  : List Nat:=g62g0 (g62v A )
theorem g62ok_spec {A:Ar} (h:g62ok A=true):g62v A=some (aN .u64 5 (g62r0 A)):=g62is_spec h
def g62o (A:Ar) (args:List AV):Option (Bool × AV):=match args with
 | []=>some (g62ok A ,.v (.agg [.nums .u64 5 (g62r0 A)]))
 | _=>none
theorem g62o_sound:∀ args v,g62o realA args=some (true,v)→Fn1 Try.prog 62 args v:=by
  intro args v h
  unfold g62o at h
  split at h
  · simp only [Option.some.injEq,Prod.mk.injEq] at h
    obtain ⟨hc,h⟩:=h
    subst h
    · skip
      exact fn1_ofG mixed gtysOK g62O_sound g62O_det (an:=g62an) (cut:=g62cut) Try.func62 (c:=bodyOf Try.f62) rfl (by kernel_rfl) Try.call62 (Nat.le_of_ble_eq_true rfl) (fun b=>rfl) (fun _=>(show g62v realA  = _ from g62ok_spec hc)) fun _ st=>g62_go st
  · cases h
attribute [local irreducible] g62ok g62r0
def g71o (A:Ar):=sub64o
theorem g71o_sound:∀ args v,g71o realA args=some (true,v)→Fn1 Try.prog 71 args v:=sub64o_sound Try.func71 (by kernel_rfl) (by kernel_rfl) (by kernel_rfl) (by kernel_rfl)
def g63O (A:Ar):Orc:=orcOf [(49,g49o A),(70,g70o A),(71,g71o A)]
theorem g63O_sound:OSound Try.prog (g63O realA):=orc_sound fun f g hm args v hv=>by
  simp only [List.mem_cons,List.not_mem_nil,or_false,Prod.mk.injEq] at hm
  rcases hm with ⟨rfl,rfl⟩ | ⟨rfl,rfl⟩ | ⟨rfl,rfl⟩
  · exact g49o_sound _ _ hv
  · exact g70o_sound _ _ hv
  · exact g71o_sound _ _ hv
theorem g63O_det:ODet (g63O realA):=orc_det _
def g63an:Ann:=[(0,([0,1,2],[])),(1,([2,3,4,6],[1000,1001,1002])),(2,([2,3,4,6,7,8],[1000,1001,1002])),(3,([2,3,4,6,7,8,13],[1000,1001,1002])),(4,([2,3,4,6,7,8,13],[1000,1001,1002])),(5,([2,3,4,6,7,8,9,13],[1000,1001,1002])),(6,([2,3,4,6,7,8,9,10,11,13],[1000,1001,1002])),(7,([2,3,4,6,7,8,9,10,11,13],[1000,1001,1002])),(8,([2,3,4,6,8,9,10,11,12,13],[1000,1001,1002])),(9,([2,3,4,6,7,8,9,11,13],[1000,1001,1002])),(10,([2,3,4,6,7,8,13],[1000,1001,1002])),(11,([3,6],[1000,1002]))]
def g63res:List ResultVar:=[.cell 6 82]
def g63cut:List Nat:=[4]
noncomputable def g63N {R:Type} (A:Ar) (kk:AV→Heap→Option R) (t:List Bool→St→Option R) (p:List Bool) (s:St):Option R:=nodeN A gtys (g63O A) g63an g63cut t (bodyOf Try.f63) (finD gtys g63res kk) p s
def g63J4s (x0 x1 x2:Nat) (x3:Int) (x4 x5 x6:List Nat):St:=⟨[(2,(u64v x0)),(3,(pT 1000 0)),(4,(pT 1001 0)),(6,(pT 1002 0)),(7,(u64v x1)),(8,(u64v x2)),(13,(i6 x3))],[(1000,(bU 5 x4 82)),(1001,(bU 5 x5 82)),(1002,(bU 5 x6 82))]⟩
def g63J4 {R:Type} (A:Ar) (n:Nat) (kk:AV→Heap→Option R) (lg63L3:Nat→Nat→Nat→Int→List Nat→List Nat→List Nat→Option R) (x0 x1 x2:Nat) (x3:Int) (x4 x5 x6:List Nat):Option R :=
 match A.neg x3 with
 | true=>none
 | false=>match A.lt (A.toN x3) 5 with
  | true=>match g49ok A (x5.getD (A.toN x3) 0) x0 with
   | true=>match carryok (g49r1 A (x5.getD (A.toN x3) 0) x0) x1 0 with
    | true=>match A.neg x3 with
     | true=>none
     | false=>match A.lt (A.toN x3) 5 with
      | true=>match carryok (x4.getD (A.toN x3) 0) (add64a (g49r1 A (x5.getD (A.toN x3) 0) x0) x1 0) x2 with
       | true=>match A.neg x3 with
        | true=>none
        | false=>match A.lt (A.toN x3) 5 with
         | true=>lg63L3 x0 (A.nb .add .u64 (g49r0 A (x5.getD (A.toN x3) 0) x0) (add64b (g49r1 A (x5.getD (A.toN x3) 0) x0) x1 0)) (sub64b (x4.getD (A.toN x3) 0) (add64a (g49r1 A (x5.getD (A.toN x3) 0) x0) x1 0) x2) (A.ib .add .i64 x3 1) (x4.set (A.toN x3) (sub64a (x4.getD (A.toN x3) 0) (add64a (g49r1 A (x5.getD (A.toN x3) 0) x0) x1 0) x2)) x5 x6
         | false=>none
       | false=>none
      | false=>none
    | false=>none
   | false=>none
  | false=>none
def g63L3s (x0 x1 x2:Nat) (x3:Int) (x4 x5 x6:List Nat):St:=⟨[(2,(u64v x0)),(3,(pT 1000 0)),(4,(pT 1001 0)),(6,(pT 1002 0)),(7,(u64v x1)),(8,(u64v x2)),(13,(i6 x3))],[(1000,(bU 5 x4 82)),(1001,(bU 5 x5 82)),(1002,(bU 5 x6 82))]⟩
def g63L3 {R:Type} (A:Ar) (n:Nat) (kk:AV→Heap→Option R)  : Nat→Nat→Nat→Nat→Int→List Nat→List Nat→List Nat→Option R
 | 0,_,_,_,_,_,_,_=>none
 | m+1,x0,x1,x2,x3,x4,x5,x6=>match A.ic .lss x3 5 with
 | true=>g63J4 A n kk (g63L3 A n kk  m) x0 x1 x2 x3 x4 x5 x6
 | false=>kk (aN .u64 5 x4) [(1000,(bU 5 x4 82)),(1002,(bU 5 x4 82))]
def g63 {R:Type} (A:Ar) (n:Nat) (kk:AV→Heap→Option R) (a b:List Nat) (c:Nat):Option R :=
 g63L3 A n kk  n c 0 0 0 a b [0,0,0,0,0]
section
variable {R:Type} {A:Ar} {n:Nat} {kk:AV→Heap→Option R} {tb:Nat→List Bool→St→Option R} (st:Stp (g63N A kk) tb)
include st
theorem g63J4_go {lg63L3:Nat→Nat→Nat→Int→List Nat→List Nat→List Nat→Option R} (hg63L3:∀ (x0 x1 x2:Nat) (x3:Int) (x4 x5 x6:List Nat),Prs (fun k=>tb k (pth 116) (g63L3s x0 x1 x2 x3 x4 x5 x6)) (lg63L3 x0 x1 x2 x3 x4 x5 x6)) {x0:Nat} {x1:Nat} {x2:Nat} {x3:Int} {x4:List Nat} {x5:List Nat} {x6:List Nat}:Prs (fun k=>tb k (pth 467) (g63J4s x0 x1 x2 x3 x4 x5 x6)) (g63J4 A n kk lg63L3 x0 x1 x2 x3 x4 x5 x6):=by
  unfold g63J4
  exact st.g (pc (SxY06cpi _ pn (SxY06cpi _ (SxY06cpi _ (SxY06cpi _ (SxY06cpi _ pn (SxY06cpi _ (SxY06cpi _ (SxY06cpi _ pn (SxY06cpi _ (hg63L3 _ _ _ _ _ _ _) pn)) pn) pn)) pn) pn) pn)) (by kernel_rfl))
theorem g63L3_go (m:Nat):∀ (x0 x1 x2:Nat) (x3:Int) (x4 x5 x6:List Nat),Prs (fun k=>tb k (pth 116) (g63L3s x0 x1 x2 x3 x4 x5 x6)) (g63L3 A n kk m x0 x1 x2 x3 x4 x5 x6):=by
  induction m with
  | zero=>intro x0 x1 x2 x3 x4 x5 x6; exact pn0
  | succ m ih =>
    intro x0 x1 x2 x3 x4 x5 x6; rw [g63L3]
    exact st.g (pc (SxY06cpi _ (g63J4_go st ih) (pf _)) (by kernel_rfl))
theorem g63_go {a:List Nat} {b:List Nat} {c:Nat}:Prs (fun k=>funN A gtys (g63O A) g63an g63cut (bodyOf Try.f63) g63res [(aN .u64 5 a),(aN .u64 5 b),(u64v c)] [] kk (tb k)) (g63 A n kk a b c):=by
  unfold g63
  exact pc (g63L3_go st n _ _ _ _ _ _ _) (by kernel_rfl)
end
def g63is (o:Option AV):Bool:=match o with
 | some (aN .u64 5 _)=>true
 | _=>false
def g63g0 (o:Option AV):List Nat:=match o with
 | some (aN .u64 5 x)=>x
 | _=>[]
theorem g63is_spec {o:Option AV} (h:g63is o=true):o=some (aN .u64 5 (g63g0 o)):=by
  unfold g63is at h
  split at h
  · rfl
  · cases h
def g63v (A:Ar) (a b:List Nat) (c:Nat):Option AV:=g63 A (100000) (fun v _=>some v) a b c
def g63ok (A:Ar) (a b:List Nat) (c:Nat):Bool:=g63is (g63v A a b c)
def g63r0 (A:Ar) (a b:List Nat) (c:Nat):List Nat:=g63g0 (g63v A a b c)
theorem g63ok_spec {A:Ar} {a b c} (h:g63ok A a b c=true):g63v A a b c=some (aN .u64 5 (g63r0 A a b c)):=g63is_spec h
def g63o (A:Ar) (args:List AV):Option (Bool × AV):=match args with
 | [.v (.agg [.nums .u64 n0 a]),.v (.agg [.nums .u64 n1 b]),.v (.cell (.nat .u64 c))]=>some (Nat.beq n0 5&&(Nat.beq n1 5&&(g63ok A a b c)),.v (.agg [.nums .u64 5 (g63r0 A a b c)]))
 | _=>none
theorem g63o_sound:∀ args v,g63o realA args=some (true,v)→Fn1 Try.prog 63 args v:=by
  intro args v h
  unfold g63o at h
  split at h
  · rename_i n0 a n1 b c
    simp only [Option.some.injEq,Prod.mk.injEq] at h
    obtain ⟨hc,h⟩:=h
    subst h
    · skip
      simp only [Bool.and_eq_true] at hc
      have en0:=beq_true hc.1
      subst en0
      replace hc:=hc.2
      have en1:=beq_true hc.1
      subst en1
      replace hc:=hc.2
      exact fn1_ofG mixed gtysOK g63O_sound g63O_det (an:=g63an) (cut:=g63cut) Try.func63 (c:=bodyOf Try.f63) rfl (by kernel_rfl) Try.call63 (Nat.le_of_ble_eq_true rfl) (fun b=>rfl) (fun _=>(show g63v realA a b c=_ from g63ok_spec hc)) fun _ st=>g63_go st
  · cases h
attribute [local irreducible] g63ok g63r0
def g64O (A:Ar):Orc:=orcOf []
theorem g64O_sound:OSound Try.prog (g64O realA):=orc_sound fun f g hm args v hv=>by
  cases hm
theorem g64O_det:ODet (g64O realA):=orc_det _
def g64an:Ann:=[(0,([0,1],[])),(1,([2,3],[1000,1001])),(2,([2,3,5],[1000,1001])),(3,([2,3,5],[1000,1001])),(4,([2,3,5],[1000,1001])),(5,([2,3,5],[1000,1001])),(6,([],[]))]
def g64res:List ResultVar:=[.tmp 4]
def g64cut:List Nat:=[4]
noncomputable def g64N {R:Type} (A:Ar) (kk:AV→Heap→Option R) (t:List Bool→St→Option R) (p:List Bool) (s:St):Option R:=nodeN A gtys (g64O A) g64an g64cut t (bodyOf Try.f64) (finD gtys g64res kk) p s
def g64J4s (x0:Int) (x1 x2:List Nat):St:=⟨[(2,(pT 1000 0)),(3,(pT 1001 0)),(5,(i6 x0))],[(1000,(bU 5 x1 82)),(1001,(bU 5 x2 82))]⟩
def g64J4 {R:Type} (A:Ar) (n:Nat) (kk:AV→Heap→Option R) (lg64L2:Int→List Nat→List Nat→Option R) (x0:Int) (x1 x2:List Nat):Option R :=
 match A.neg x0 with
 | true=>none
 | false=>match A.lt (A.toN x0) 5 with
  | true=>match A.neg x0 with
   | true=>none
   | false=>match A.lt (A.toN x0) 5 with
    | true=>match A.nc .neq (x1.getD (A.toN x0) 0) (x2.getD (A.toN x0) 0) with
     | true=>match A.neg x0 with
      | true=>none
      | false=>match A.lt (A.toN x0) 5 with
       | true=>match A.neg x0 with
        | true=>none
        | false=>match A.lt (A.toN x0) 5 with
         | true=>kk (bO (A.nc .lss (x1.getD (A.toN x0) 0) (x2.getD (A.toN x0) 0))) [(1000,(bU 5 x1 82)),(1001,(bU 5 x2 82))]
         | false=>none
       | false=>none
     | false=>lg64L2 (A.ib .sub .i64 x0 1) x1 x2
    | false=>none
  | false=>none
def g64L2s (x0:Int) (x1 x2:List Nat):St:=⟨[(2,(pT 1000 0)),(3,(pT 1001 0)),(5,(i6 x0))],[(1000,(bU 5 x1 82)),(1001,(bU 5 x2 82))]⟩
def g64L2 {R:Type} (A:Ar) (n:Nat) (kk:AV→Heap→Option R)  : Nat→Int→List Nat→List Nat→Option R
 | 0,_,_,_=>none
 | m+1,x0,x1,x2=>match A.ic .geq x0 0 with
 | true=>g64J4 A n kk (g64L2 A n kk  m) x0 x1 x2
 | false=>kk (bO false) []
def g64 {R:Type} (A:Ar) (n:Nat) (kk:AV→Heap→Option R) (a b:List Nat):Option R :=
 g64L2 A n kk  n 4 a b
section
variable {R:Type} {A:Ar} {n:Nat} {kk:AV→Heap→Option R} {tb:Nat→List Bool→St→Option R} (st:Stp (g64N A kk) tb)
include st
theorem g64J4_go {lg64L2:Int→List Nat→List Nat→Option R} (hg64L2:∀ (x0:Int) (x1 x2:List Nat),Prs (fun k=>tb k (pth 52) (g64L2s x0 x1 x2)) (lg64L2 x0 x1 x2)) {x0:Int} {x1:List Nat} {x2:List Nat}:Prs (fun k=>tb k (pth 105) (g64J4s x0 x1 x2)) (g64J4 A n kk lg64L2 x0 x1 x2):=by
  unfold g64J4
  exact st.g (pc (SxY06cpi _ pn (SxY06cpi _ (SxY06cpi _ pn (SxY06cpi _ (SxY06cpi _ (SxY06cpi _ pn (SxY06cpi _ (SxY06cpi _ pn (SxY06cpi _ (pf _) pn)) pn)) (hg64L2 _ _ _)) pn)) pn)) (by kernel_rfl))
theorem g64L2_go (m:Nat):∀ (x0:Int) (x1 x2:List Nat),Prs (fun k=>tb k (pth 52) (g64L2s x0 x1 x2)) (g64L2 A n kk m x0 x1 x2):=by
  induction m with
  | zero=>intro x0 x1 x2; exact pn0
  | succ m ih =>
    intro x0 x1 x2; rw [g64L2]
    exact st.g (pc (SxY06cpi _ (g64J4_go st ih) (pf _)) (by kernel_rfl))
theorem g64_go {a:List Nat} {b:List Nat}:Prs (fun k=>funN A gtys (g64O A) g64an g64cut (bodyOf Try.f64) g64res [(aN .u64 5 a),(aN .u64 5 b)] [] kk (tb k)) (g64 A n kk a b):=by
  unfold g64
  exact pc (g64L2_go st n _ _ _) (by kernel_rfl)
end
def g64is (o:Option AV):Bool:=match o with
 | some (.v (.cell (.bool _)))=>true
 | _=>false
def g64g0 (o:Option AV):Bool:=match o with
 | some (.v (.cell (.bool x)))=>x
 | _=>false
theorem g64is_spec {o:Option AV} (h:g64is o=true):o=some (.v (.cell (.bool (g64g0 o)))):=by
  unfold g64is at h
  split at h
  · rfl
  · cases h
def g64v (A:Ar) (a b:List Nat):Option AV:=g64 A (100000) (fun v _=>some v) a b
def g64ok (A:Ar) (a b:List Nat):Bool:=g64is (g64v A a b)
def g64r0 (A:Ar) (a b:List Nat):Bool:=g64g0 (g64v A a b)
theorem g64ok_spec {A:Ar} {a b} (h:g64ok A a b=true):g64v A a b=some (.v (.cell (.bool (g64r0 A a b)))):=g64is_spec h
def g64o (A:Ar) (args:List AV):Option (Bool × AV):=match args with
 | [.v (.agg [.nums .u64 n0 a]),.v (.agg [.nums .u64 n1 b])]=>some (Nat.beq n0 5&&(Nat.beq n1 5&&(g64ok A a b)),.v (.cell (.bool (g64r0 A a b))))
 | _=>none
theorem g64o_sound:∀ args v,g64o realA args=some (true,v)→Fn1 Try.prog 64 args v:=by
  intro args v h
  unfold g64o at h
  split at h
  · rename_i n0 a n1 b
    simp only [Option.some.injEq,Prod.mk.injEq] at h
    obtain ⟨hc,h⟩:=h
    subst h
    · skip
      simp only [Bool.and_eq_true] at hc
      have en0:=beq_true hc.1
      subst en0
      replace hc:=hc.2
      have en1:=beq_true hc.1
      subst en1
      replace hc:=hc.2
      exact fn1_ofG mixed gtysOK g64O_sound g64O_det (an:=g64an) (cut:=g64cut) Try.func64 (c:=bodyOf Try.f64) rfl (by kernel_rfl) Try.call64 (Nat.le_of_ble_eq_true rfl) (fun b=>rfl) (fun _=>(show g64v realA a b=_ from g64ok_spec hc)) fun _ st=>g64_go st
  · cases h
attribute [local irreducible] g64ok g64r0
def g47O (A:Ar):Orc:=orcOf [(62,g62o A),(63,g63o A),(64,g64o A)]
theorem g47O_sound:OSound Try.prog (g47O realA):=orc_sound fun f g hm args v hv=>by
  simp only [List.mem_cons,List.not_mem_nil,or_false,Prod.mk.injEq] at hm
  rcases hm with ⟨rfl,rfl⟩ | ⟨rfl,rfl⟩ | ⟨rfl,rfl⟩
  · exact g62o_sound _ _ hv
  · exact g63o_sound _ _ hv
  · exact g64o_sound _ _ hv
theorem g47O_det:ODet (g47O realA):=orc_det _
def g47an:Ann:=[(0,([0,1],[])),(1,([1,2,4],[1000,1001])),(2,([1,2,4,5],[1000,1001])),(3,([1,2,4,5],[1000,1001])),(4,([1,2,4,5],[1000,1001])),(5,([1,2,4],[1000,1001])),(6,([2,4],[1000,1001])),(7,([2,4,6],[1000,1001])),(8,([2,4,6,7],[1000,1001,8001])),(9,([2,4,6,7],[1000,1001,8001])),(10,([2,4,6,7],[1000,1001,8001])),(11,([2,4,7],[1000,1001,8001])),(12,([2,4,7],[1000,1001,8001])),(13,([2,4],[1000,1001]))]
def g47res:List ResultVar:=[.cell 4 82]
def g47cut:List Nat:=[4,5,10]
noncomputable def g47N {R:Type} (A:Ar) (kk:AV→Heap→Option R) (t:List Bool→St→Option R) (p:List Bool) (s:St):Option R:=nodeN A gtys (g47O A) g47an g47cut t (bodyOf Try.f47) (finD gtys g47res kk) p s
def g47J4s (x0:Nat) (x1:Int) (x2 x3:List Nat):St:=⟨[(1,(u8v x0)),(2,(pT 1000 0)),(4,(pT 1001 0)),(5,(i6 x1))],[(1000,(bU 5 x2 82)),(1001,(bU 5 x3 82))]⟩
def g47J4 {R:Type} (A:Ar) (n:Nat) (kk:AV→Heap→Option R) (lg47L2:Nat→Int→List Nat→List Nat→Option R) (x0:Nat) (x1:Int) (x2 x3:List Nat):Option R :=
 match A.neg x1 with
 | true=>none
 | false=>match A.lt (A.toN x1) 5 with
  | true=>match A.neg (A.ib .sub .i64 x1 1) with
   | true=>none
   | false=>match A.lt (A.toN (A.ib .sub .i64 x1 1)) 5 with
    | true=>match A.neg x1 with
     | true=>none
     | false=>match A.lt (A.toN x1) 5 with
      | true=>lg47L2 x0 (A.ib .sub .i64 x1 1) (x2.set (A.toN x1) (A.nb .or .u64 (A.nsh .shl .u64 (x2.getD (A.toN x1) 0) 8) (A.nsh .shr .u64 (x2.getD (A.toN (A.ib .sub .i64 x1 1)) 0) 56))) x3
      | false=>none
    | false=>none
  | false=>none
def g47L11s (x0 x1 x2:List Nat):St:=⟨[(2,(pT 1000 0)),(4,(pT 1001 0)),(7,(pT 8001 0))],[(1000,(bU 5 x0 82)),(1001,(bU 5 x1 82)),(8001,(bU 5 x2 82))]⟩
def g47L11 {R:Type} (A:Ar) (n:Nat) (kk:AV→Heap→Option R)  : Nat→List Nat→List Nat→List Nat→Option R
 | 0,_,_,_=>none
 | m+1,x0,x1,x2=>match g64ok A x0 x2 with
 | true=>match !(g64r0 A x0 x2) with
  | true=>match g63ok A x0 x2 1 with
   | true=>g47L11 A n kk  m (g63r0 A x0 x2 1) x1 x2
   | false=>none
  | false=>kk (aN .u64 5 x0) [(1000,(bU 5 x0 82)),(1001,(bU 5 x0 82))]
 | false=>none
def g47J10s (x0:Nat) (x1 x2 x3:List Nat):St:=⟨[(2,(pT 1000 0)),(4,(pT 1001 0)),(6,(u64v x0)),(7,(pT 8001 0))],[(1000,(bU 5 x1 82)),(1001,(bU 5 x2 82)),(8001,(bU 5 x3 82))]⟩
def g47J10 {R:Type} (A:Ar) (n:Nat) (kk:AV→Heap→Option R)  (x0:Nat) (x1 x2 x3:List Nat):Option R :=
 match g63ok A x1 x3 x0 with
 | true=>g47L11 A n kk  n (g63r0 A x1 x3 x0) x2 x3
 | false=>none
def g47J5s (x0:Nat) (x1 x2:List Nat):St:=⟨[(1,(u8v x0)),(2,(pT 1000 0)),(4,(pT 1001 0))],[(1000,(bU 5 x1 82)),(1001,(bU 5 x2 82))]⟩
def g47J5 {R:Type} (A:Ar) (n:Nat) (kk:AV→Heap→Option R)  (x0:Nat) (x1 x2:List Nat):Option R :=
 match g62ok A with
 | true=>match A.nc .gtr (A.nb .or .u64 (A.nsh .shr .u64 ((x1.set 0 (A.nb .or .u64 (A.nsh .shl .u64 (x1.getD 0 0) 8) x0)).getD 3 0) 60) (A.nsh .shl .u64 ((x1.set 0 (A.nb .or .u64 (A.nsh .shl .u64 (x1.getD 0 0) 8) x0)).getD 4 0) 4)) 0 with
  | true=>g47J10 A n kk  (A.nb .sub .u64 (A.nb .or .u64 (A.nsh .shr .u64 ((x1.set 0 (A.nb .or .u64 (A.nsh .shl .u64 (x1.getD 0 0) 8) x0)).getD 3 0) 60) (A.nsh .shl .u64 ((x1.set 0 (A.nb .or .u64 (A.nsh .shl .u64 (x1.getD 0 0) 8) x0)).getD 4 0) 4)) 1) (x1.set 0 (A.nb .or .u64 (A.nsh .shl .u64 (x1.getD 0 0) 8) x0)) x2 (g62r0 A)
  | false=>g47J10 A n kk  (A.nb .or .u64 (A.nsh .shr .u64 ((x1.set 0 (A.nb .or .u64 (A.nsh .shl .u64 (x1.getD 0 0) 8) x0)).getD 3 0) 60) (A.nsh .shl .u64 ((x1.set 0 (A.nb .or .u64 (A.nsh .shl .u64 (x1.getD 0 0) 8) x0)).getD 4 0) 4)) (x1.set 0 (A.nb .or .u64 (A.nsh .shl .u64 (x1.getD 0 0) 8) x0)) x2 (g62r0 A)
 | false=>none
def g47L2s (x0:Nat) (x1:Int) (x2 x3:List Nat):St:=⟨[(1,(u8v x0)),(2,(pT 1000 0)),(4,(pT 1001 0)),(5,(i6 x1))],[(1000,(bU 5 x2 82)),(1001,(bU 5 x3 82))]⟩
def g47L2 {R:Type} (A:Ar) (n:Nat) (kk:AV→Heap→Option R)  : Nat→Nat→Int→List Nat→List Nat→Option R
 | 0,_,_,_,_=>none
 | m+1,x0,x1,x2,x3=>match A.ic .gtr x1 0 with
 | true=>g47J4 A n kk (g47L2 A n kk  m) x0 x1 x2 x3
 | false=>g47J5 A n kk  x0 x2 x3
def g47 {R:Type} (A:Ar) (n:Nat) (kk:AV→Heap→Option R) (a:List Nat) (b:Nat):Option R :=
 g47L2 A n kk  n b 4 a [0,0,0,0,0]
section
variable {R:Type} {A:Ar} {n:Nat} {kk:AV→Heap→Option R} {tb:Nat→List Bool→St→Option R} (st:Stp (g47N A kk) tb)
include st
theorem g47J4_go {lg47L2:Nat→Int→List Nat→List Nat→Option R} (hg47L2:∀ (x0:Nat) (x1:Int) (x2 x3:List Nat),Prs (fun k=>tb k (pth 52) (g47L2s x0 x1 x2 x3)) (lg47L2 x0 x1 x2 x3)) {x0:Nat} {x1:Int} {x2:List Nat} {x3:List Nat}:Prs (fun k=>tb k (pth 105) (g47J4s x0 x1 x2 x3)) (g47J4 A n kk lg47L2 x0 x1 x2 x3):=by
  unfold g47J4
  exact st.g (pc (SxY06cpi _ pn (SxY06cpi _ (SxY06cpi _ pn (SxY06cpi _ (SxY06cpi _ pn (SxY06cpi _ (hg47L2 _ _ _ _) pn)) pn)) pn)) (by kernel_rfl))
theorem g47L11_go (m:Nat):∀ (x0 x1 x2:List Nat),Prs (fun k=>tb k (pth 2040) (g47L11s x0 x1 x2)) (g47L11 A n kk m x0 x1 x2):=by
  induction m with
  | zero=>intro x0 x1 x2; exact pn0
  | succ m ih =>
    intro x0 x1 x2; rw [g47L11]
    exact st.g (pc (SxY06cpi _ (SxY06cpi _ (SxY06cpi _ (ih _ _ _) pn) (pf _)) pn) (by kernel_rfl))
theorem g47J10_go {x0:Nat} {x1:List Nat} {x2:List Nat} {x3:List Nat}:Prs (fun k=>tb k (pth 127) (g47J10s x0 x1 x2 x3)) (g47J10 A n kk x0 x1 x2 x3):=by
  unfold g47J10
  exact st.g (pc (SxY06cpi _ (g47L11_go st n _ _ _) pn) (by kernel_rfl))
theorem g47J5_go {x0:Nat} {x1:List Nat} {x2:List Nat}:Prs (fun k=>tb k (pth 7) (g47J5s x0 x1 x2)) (g47J5 A n kk x0 x1 x2):=by
  unfold g47J5
  exact st.g (pc (SxY06cpi _ (SxY06cpi _ (g47J10_go st) (g47J10_go st)) pn) (by kernel_rfl))
theorem g47L2_go (m:Nat):∀ (x0:Nat) (x1:Int) (x2 x3:List Nat),Prs (fun k=>tb k (pth 52) (g47L2s x0 x1 x2 x3)) (g47L2 A n kk m x0 x1 x2 x3):=by
  induction m with
  | zero=>intro x0 x1 x2 x3; exact pn0
  | succ m ih =>
    intro x0 x1 x2 x3; rw [g47L2]
    exact st.g (pc (SxY06cpi _ (g47J4_go st ih) (g47J5_go st)) (by kernel_rfl))
theorem g47_go {a:List Nat} {b:Nat}:Prs (fun k=>funN A gtys (g47O A) g47an g47cut (bodyOf Try.f47) g47res [(aN .u64 5 a),(u8v b)] [] kk (tb k)) (g47 A n kk a b):=by
  unfold g47
  exact pc (g47L2_go st n _ _ _ _) (by kernel_rfl)
end
def g47is (o:Option AV):Bool:=match o with
 | some (aN .u64 5 _)=>true
 | _=>false
def g47g0 (o:Option AV):List Nat:=match o with
 | some (aN .u64 5 x)=>x
 | _=>[]
theorem g47is_spec {o:Option AV} (h:g47is o=true):o=some (aN .u64 5 (g47g0 o)):=by
  unfold g47is at h
  split at h
  · rfl
  · cases h
def g47v (A:Ar) (a:List Nat) (b:Nat):Option AV:=g47 A (100000) (fun v _=>some v) a b
def g47ok (A:Ar) (a:List Nat) (b:Nat):Bool:=g47is (g47v A a b)
def g47r0 (A:Ar) (a:List Nat) (b:Nat):List Nat:=g47g0 (g47v A a b)
theorem g47ok_spec {A:Ar} {a b} (h:g47ok A a b=true):g47v A a b=some (aN .u64 5 (g47r0 A a b)):=g47is_spec h
def g47o (A:Ar) (args:List AV):Option (Bool × AV):=match args with
 | [.v (.agg [.nums .u64 n0 a]),.v (.cell (.nat .u8 b))]=>some (Nat.beq n0 5&&(g47ok A a b),.v (.agg [.nums .u64 5 (g47r0 A a b)]))
 | _=>none
theorem g47o_sound:∀ args v,g47o realA args=some (true,v)→Fn1 Try.prog 47 args v:=by
  intro args v h
  unfold g47o at h
  split at h
  · rename_i n0 a b
    simp only [Option.some.injEq,Prod.mk.injEq] at h
    obtain ⟨hc,h⟩:=h
    subst h
    · skip
      simp only [Bool.and_eq_true] at hc
      have en0:=beq_true hc.1
      subst en0
      replace hc:=hc.2
      exact fn1_ofG mixed gtysOK g47O_sound g47O_det (an:=g47an) (cut:=g47cut) Try.func47 (c:=bodyOf Try.f47) rfl (by kernel_rfl) Try.call47 (Nat.le_of_ble_eq_true rfl) (fun b=>rfl) (fun _=>(show g47v realA a b=_ from g47ok_spec hc)) fun _ st=>g47_go st
  · cases h
attribute [local irreducible] g47ok g47r0
def g48O (A:Ar):Orc:=orcOf []
theorem g48O_sound:OSound Try.prog (g48O realA):=orc_sound fun f g hm args v hv=>by
  cases hm
theorem g48O_det:ODet (g48O realA):=orc_det _
def g48an:Ann:=[(0,([0],[])),(1,([1],[1000])),(2,([1,3],[1000,2000])),(3,([1,3,7,8],[1000,2000])),(4,([1,3,7,8],[1000,2000])),(5,([1,3,4,7,8],[1000,2000])),(6,([1,3,7,8],[1000,2000])),(7,([3],[2000]))]
def g48res:List ResultVar:=[.tmp 2]
def g48cut:List Nat:=[4]
noncomputable def g48N {R:Type} (A:Ar) (kk:AV→Heap→Option R) (t:List Bool→St→Option R) (p:List Bool) (s:St):Option R:=nodeN A gtys (g48O A) g48an g48cut t (bodyOf Try.f48) (finD gtys g48res kk) p s
def g48J4s (x0:Nat) (x1 x2:Int) (x3:List Nat) (x4:Nat) (x5:List Nat):St:=⟨[(1,(pT 1000 0)),(3,(sL 2000 none x0 1)),(7,(i6 x1)),(8,(i6 x2))],[(1000,(bU 5 x3 82)),(2000,⟨[.nums .u8 x4 x5],5,2⟩)]⟩
def g48J4 {R:Type} (A:Ar) (n:Nat) (kk:AV→Heap→Option R) (lg48L3:Nat→Int→Int→List Nat→Nat→List Nat→Option R) (x0:Nat) (x1 x2:Int) (x3:List Nat) (x4:Nat) (x5:List Nat):Option R :=
 match A.neg (A.ib .quo .i64 x2 8) with
 | true=>none
 | false=>match A.lt (A.toN (A.ib .quo .i64 x2 8)) 5 with
  | true=>match A.neg (A.ib .mul .i64 8 (A.ib .rem .i64 x2 8)) with
   | true=>none
   | false=>match A.neg x2 with
    | true=>none
    | false=>match A.lt (A.toN x2) x0 with
     | true=>lg48L3 x0 x1 (A.ib .add .i64 x2 1) x3 x4 (x5.set (A.toN x2) (A.n2n .u8 (A.nsh .shr .u64 (x3.getD (A.toN (A.ib .quo .i64 x2 8)) 0) (A.toN (A.ib .mul .i64 8 (A.ib .rem .i64 x2 8))))))
     | false=>none
  | false=>none
def g48L3s (x0:Nat) (x1 x2:Int) (x3:List Nat) (x4:Nat) (x5:List Nat):St:=⟨[(1,(pT 1000 0)),(3,(sL 2000 none x0 1)),(7,(i6 x1)),(8,(i6 x2))],[(1000,(bU 5 x3 82)),(2000,⟨[.nums .u8 x4 x5],5,2⟩)]⟩
def g48L3 {R:Type} (A:Ar) (n:Nat) (kk:AV→Heap→Option R)  : Nat→Nat→Int→Int→List Nat→Nat→List Nat→Option R
 | 0,_,_,_,_,_,_=>none
 | m+1,x0,x1,x2,x3,x4,x5=>match A.ic .lss x2 x1 with
 | true=>g48J4 A n kk (g48L3 A n kk  m) x0 x1 x2 x3 x4 x5
 | false=>kk (tS (x5.take x0)) [(2000,⟨[.nums .u8 x4 x5],5,2⟩)]
def g48 {R:Type} (A:Ar) (n:Nat) (kk:AV→Heap→Option R) (a:List Nat):Option R :=
 match A.le 32 32 with
 | true=>match A.le 32 140737488355328 with
  | true=>g48L3 A n kk  n 32 (A.ofN 32) 0 a 32 (List.replicate 32 0)
  | false=>none
 | false=>none
section
variable {R:Type} {A:Ar} {n:Nat} {kk:AV→Heap→Option R} {tb:Nat→List Bool→St→Option R} (st:Stp (g48N A kk) tb)
include st
theorem g48J4_go {lg48L3:Nat→Int→Int→List Nat→Nat→List Nat→Option R} (hg48L3:∀ (x0:Nat) (x1 x2:Int) (x3:List Nat) (x4:Nat) (x5:List Nat),Prs (fun k=>tb k (pth 116) (g48L3s x0 x1 x2 x3 x4 x5)) (lg48L3 x0 x1 x2 x3 x4 x5)) {x0:Nat} {x1:Int} {x2:Int} {x3:List Nat} {x4:Nat} {x5:List Nat}:Prs (fun k=>tb k (pth 467) (g48J4s x0 x1 x2 x3 x4 x5)) (g48J4 A n kk lg48L3 x0 x1 x2 x3 x4 x5):=by
  unfold g48J4
  exact st.g (pc (SxY06cpi _ pn (SxY06cpi _ (SxY06cpi _ pn (SxY06cpi _ pn (SxY06cpi _ (hg48L3 _ _ _ _ _ _) pn))) pn)) (by kernel_rfl))
theorem g48L3_go (m:Nat):∀ (x0:Nat) (x1 x2:Int) (x3:List Nat) (x4:Nat) (x5:List Nat),Prs (fun k=>tb k (pth 116) (g48L3s x0 x1 x2 x3 x4 x5)) (g48L3 A n kk m x0 x1 x2 x3 x4 x5):=by
  induction m with
  | zero=>intro x0 x1 x2 x3 x4 x5; exact pn0
  | succ m ih =>
    intro x0 x1 x2 x3 x4 x5; rw [g48L3]
    exact st.g (pc (SxY06cpi _ (g48J4_go st ih) (pf _)) (by kernel_rfl))
theorem g48_go {a:List Nat}:Prs (fun k=>funN A gtys (g48O A) g48an g48cut (bodyOf Try.f48) g48res [(aN .u64 5 a)] [] kk (tb k)) (g48 A n kk a):=by
  unfold g48
  exact pc (SxY06cpi _ (SxY06cpi _ (g48L3_go st n _ _ _ _ _ _) pn) pn) (by kernel_rfl)
end
def g48is (o:Option AV):Bool:=match o with
 | some (.v (.cell (.str _)))=>true
 | _=>false
def g48g0 (o:Option AV):List Nat:=match o with
 | some (.v (.cell (.str x)))=>x
 | _=>[]
theorem g48is_spec {o:Option AV} (h:g48is o=true):o=some (.v (.cell (.str (g48g0 o)))):=by
  unfold g48is at h
  split at h
  · rfl
  · cases h
def g48v (A:Ar) (a:List Nat):Option AV:=g48 A (100000) (fun v _=>some v) a
def g48ok (A:Ar) (a:List Nat):Bool:=g48is (g48v A a)
def g48r0 (A:Ar) (a:List Nat):List Nat:=g48g0 (g48v A a)
theorem g48ok_spec {A:Ar} {a} (h:g48ok A a=true):g48v A a=some (.v (.cell (.str (g48r0 A a)))):=g48is_spec h
def g48o (A:Ar) (args:List AV):Option (Bool × AV):=match args with
 | [.v (.agg [.nums .u64 n0 a])]=>some (Nat.beq n0 5&&(g48ok A a),.v (.cell (.str (g48r0 A a))))
 | _=>none
theorem g48o_sound:∀ args v,g48o realA args=some (true,v)→Fn1 Try.prog 48 args v:=by
  intro args v h
  unfold g48o at h
  split at h
  · rename_i n0 a
    simp only [Option.some.injEq,Prod.mk.injEq] at h
    obtain ⟨hc,h⟩:=h
    subst h
    · skip
      simp only [Bool.and_eq_true] at hc
      have en0:=beq_true hc.1
      subst en0
      replace hc:=hc.2
      exact fn1_ofG mixed gtysOK g48O_sound g48O_det (an:=g48an) (cut:=g48cut) Try.func48 (c:=bodyOf Try.f48) rfl (by kernel_rfl) Try.call48 (Nat.le_of_ble_eq_true rfl) (fun b=>rfl) (fun _=>(show g48v realA a=_ from g48ok_spec hc)) fun _ st=>g48_go st
  · cases h
attribute [local irreducible] g48ok g48r0
def g27O (A:Ar):Orc:=orcOf [(47,g47o A),(48,g48o A)]
theorem g27O_sound:OSound Try.prog (g27O realA):=orc_sound fun f g hm args v hv=>by
  simp only [List.mem_cons,List.not_mem_nil,or_false,Prod.mk.injEq] at hm
  rcases hm with ⟨rfl,rfl⟩ | ⟨rfl,rfl⟩
  · exact g47o_sound _ _ hv
  · exact g48o_sound _ _ hv
theorem g27O_det:ODet (g27O realA):=orc_det _
def g27an:Ann:=[(0,([0],[])),(1,([0],[])),(2,([0,3],[2000])),(3,([0,3,4],[2000])),(4,([0,3,4],[2000])),(5,([0,3,4],[2000])),(6,([3],[2000]))]
def g27res:List ResultVar:=[.tmp 2]
def g27cut:List Nat:=[5]
noncomputable def g27N {R:Type} (A:Ar) (kk:AV→Heap→Option R) (t:List Bool→St→Option R) (p:List Bool) (s:St):Option R:=nodeN A gtys (g27O A) g27an g27cut t (bodyOf Try.f27) (finD gtys g27res kk) p s
def g27J5s (x0:List Nat) (x1:Int) (x2:List Nat):St:=⟨[(0,(tS x0)),(3,(pT 2000 0)),(4,(i6 x1))],[(2000,(bU 5 x2 82))]⟩
def g27J5 {R:Type} (A:Ar) (n:Nat) (kk:AV→Heap→Option R) (lg27L3:List Nat→Int→List Nat→Option R) (x0:List Nat) (x1:Int) (x2:List Nat):Option R :=
 match A.neg x1 with
 | true=>none
 | false=>match A.lt (A.toN x1) x0.length with
  | true=>match g47ok A x2 (x0.getD (A.toN x1) 0) with
   | true=>lg27L3 x0 (A.ib .sub .i64 x1 1) (g47r0 A x2 (x0.getD (A.toN x1) 0))
   | false=>none
  | false=>none
def g27L3s (x0:List Nat) (x1:Int) (x2:List Nat):St:=⟨[(0,(tS x0)),(3,(pT 2000 0)),(4,(i6 x1))],[(2000,(bU 5 x2 82))]⟩
def g27L3 {R:Type} (A:Ar) (n:Nat) (kk:AV→Heap→Option R)  : Nat→List Nat→Int→List Nat→Option R
 | 0,_,_,_=>none
 | m+1,x0,x1,x2=>match A.ic .geq x1 0 with
 | true=>g27J5 A n kk (g27L3 A n kk  m) x0 x1 x2
 | false=>match g48ok A x2 with
  | true=>kk (tS (g48r0 A x2)) [(2000,(bU 5 x2 82))]
  | false=>none
def g27 {R:Type} (A:Ar) (n:Nat) (kk:AV→Heap→Option R) (a:List Nat):Option R :=
 g27L3 A n kk  n a (A.ib .sub .i64 (A.mn (A.ofN a.length) 64) 1) [0,0,0,0,0]
section
variable {R:Type} {A:Ar} {n:Nat} {kk:AV→Heap→Option R} {tb:Nat→List Bool→St→Option R} (st:Stp (g27N A kk) tb)
include st
theorem g27J5_go {lg27L3:List Nat→Int→List Nat→Option R} (hg27L3:∀ (x0:List Nat) (x1:Int) (x2:List Nat),Prs (fun k=>tb k (pth 116) (g27L3s x0 x1 x2)) (lg27L3 x0 x1 x2)) {x0:List Nat} {x1:Int} {x2:List Nat}:Prs (fun k=>tb k (pth 233) (g27J5s x0 x1 x2)) (g27J5 A n kk lg27L3 x0 x1 x2):=by
  unfold g27J5
  exact st.g (pc (SxY06cpi _ pn (SxY06cpi _ (SxY06cpi _ (hg27L3 _ _ _) pn) pn)) (by kernel_rfl))
theorem g27L3_go (m:Nat):∀ (x0:List Nat) (x1:Int) (x2:List Nat),Prs (fun k=>tb k (pth 116) (g27L3s x0 x1 x2)) (g27L3 A n kk m x0 x1 x2):=by
  induction m with
  | zero=>intro x0 x1 x2; exact pn0
  | succ m ih =>
    intro x0 x1 x2; rw [g27L3]
    exact st.g (pc (SxY06cpi _ (g27J5_go st ih) (SxY06cpi _ (pf _) pn)) (by kernel_rfl))
theorem g27_go {a:List Nat}:Prs (fun k=>funN A gtys (g27O A) g27an g27cut (bodyOf Try.f27) g27res [(tS a)] [] kk (tb k)) (g27 A n kk a):=by
  unfold g27
  exact pc (g27L3_go st n _ _ _) (by kernel_rfl)
end
def g27is (o:Option AV):Bool:=match o with
 | some (.v (.cell (.str _)))=>true
 | _=>false
def g27g0 (o:Option AV):List Nat:=match o with
 | some (.v (.cell (.str x)))=>x
 | _=>[]
theorem g27is_spec {o:Option AV} (h:g27is o=true):o=some (.v (.cell (.str (g27g0 o)))):=by
  unfold g27is at h
  split at h
  · rfl
  · cases h
def g27v (A:Ar) (a:List Nat):Option AV:=g27 A (100000) (fun v _=>some v) a
def g27ok (A:Ar) (a:List Nat):Bool:=g27is (g27v A a)
def g27r0 (A:Ar) (a:List Nat):List Nat:=g27g0 (g27v A a)
theorem g27ok_spec {A:Ar} {a} (h:g27ok A a=true):g27v A a=some (.v (.cell (.str (g27r0 A a)))):=g27is_spec h
def g27o (A:Ar) (args:List AV):Option (Bool × AV):=match args with
 | [.v (.cell (.str a))]=>some (g27ok A a,.v (.cell (.str (g27r0 A a))))
 | _=>none
theorem g27o_sound:∀ args v,g27o realA args=some (true,v)→Fn1 Try.prog 27 args v:=by
  intro args v h
  unfold g27o at h
  split at h
  · rename_i a
    simp only [Option.some.injEq,Prod.mk.injEq] at h
    obtain ⟨hc,h⟩:=h
    subst h
    · skip
      exact fn1_ofG mixed gtysOK g27O_sound g27O_det (an:=g27an) (cut:=g27cut) Try.func27 (c:=bodyOf Try.f27) rfl (by kernel_rfl) Try.call27 (Nat.le_of_ble_eq_true rfl) (fun b=>rfl) (fun _=>(show g27v realA a=_ from g27ok_spec hc)) fun _ st=>g27_go st
  · cases h
attribute [local irreducible] g27ok g27r0
def g15O (A:Ar):Orc:=orcOf [(27,g27o A)]
theorem g15O_sound:OSound Try.prog (g15O realA):=orc_sound fun f g hm args v hv=>by
  simp only [List.mem_cons,List.not_mem_nil,or_false,Prod.mk.injEq] at hm
  rcases hm with ⟨rfl,rfl⟩
  · exact g27o_sound _ _ hv
theorem g15O_det:ODet (g15O realA):=orc_det _
def g15an:Ann:=[(0,([0,1,2],[])),(1,([0,1,2],[])),(2,([0,1,2,7],[2000])),(3,([0,1,2,7,15,16],[2000])),(4,([0,1,2,7,15,16],[2000])),(5,([0,1,2,7,8,15,16],[2000])),(6,([0,1,2,7,8,15,16,21,22],[2000])),(7,([0,1,2,7,8,15,16,21,22],[2000])),(8,([0,1,2,7,8,9,15,16,21,22],[2000])),(9,([0,1,2,7,8,15,16,21,22],[2000])),(10,([0,1,2,7,15,16],[2000])),(11,([2,7],[2000])),(12,([2,7,45,46],[2000])),(13,([2,7,45,46],[2000])),(14,([2,7,10,45,46],[2000])),(15,([2,7,45,46],[2000])),(16,([7],[2000])),(17,([7,11],[2000,17000])),(18,([7,11,61,62],[2000,17000])),(19,([7,11,61,62],[2000,17000])),(20,([7,11,12,61,62],[2000,17000])),(21,([7,11,12,61,62],[2000,17000])),(22,([7,11,61,62],[2000,17000])),(23,([11],[17000]))]
def g15res:List ResultVar:=[.tmp 6]
def g15cut:List Nat:=[4,7,11,13,16,19]
noncomputable def g15N {R:Type} (A:Ar) (kk:AV→Heap→Option R) (t:List Bool→St→Option R) (p:List Bool) (s:St):Option R:=nodeN A gtys (g15O A) g15an g15cut t (bodyOf Try.f15) (finD gtys g15res kk) p s
def g15J7s (x0 x1 x2:List Nat) (x3 x4:Int) (x5 x6 x7:Int) (x8:List Nat):St:=⟨[(0,(tS x0)),(1,(tS x1)),(2,(tS x2)),(7,(pT 2000 0)),(8,(i6 x3)),(15,(i6 x4)),(16,(i6 x5)),(21,(i6 x6)),(22,(i6 x7))],[(2000,(bW 65 x8 56))]⟩
def g15J7 {R:Type} (A:Ar) (n:Nat) (kk:AV→Heap→Option R) (lg15L3:List Nat→List Nat→List Nat→Int→Int→List Nat→Option R) (lg15L6:List Nat→List Nat→List Nat→Int→Int→Int→Int→Int→List Nat→Option R) (x0 x1 x2:List Nat) (x3 x4:Int) (x5 x6 x7:Int) (x8:List Nat):Option R :=
 match A.neg (A.ib .add .i64 x3 x7) with
 | true=>none
 | false=>match A.lt (A.toN (A.ib .add .i64 x3 x7)) 65 with
  | true=>match A.neg x3 with
   | true=>none
   | false=>match A.lt (A.toN x3) x0.length with
    | true=>match A.neg x7 with
     | true=>none
     | false=>match A.lt (A.toN x7) x1.length with
      | true=>match A.neg (A.ib .add .i64 x3 x7) with
       | true=>none
       | false=>match A.lt (A.toN (A.ib .add .i64 x3 x7)) 65 with
        | true=>lg15L6 x0 x1 x2 x3 x4 x5 x6 (A.ib .add .i64 x7 1) (x8.set (A.toN (A.ib .add .i64 x3 x7)) (A.nb .add .u32 (x8.getD (A.toN (A.ib .add .i64 x3 x7)) 0) (A.nb .mul .u32 (x0.getD (A.toN x3) 0) (x1.getD (A.toN x7) 0))))
        | false=>none
      | false=>none
    | false=>none
  | false=>none
def g15L6s (x0 x1 x2:List Nat) (x3 x4:Int) (x5 x6 x7:Int) (x8:List Nat):St:=⟨[(0,(tS x0)),(1,(tS x1)),(2,(tS x2)),(7,(pT 2000 0)),(8,(i6 x3)),(15,(i6 x4)),(16,(i6 x5)),(21,(i6 x6)),(22,(i6 x7))],[(2000,(bW 65 x8 56))]⟩
def g15L6 {R:Type} (A:Ar) (n:Nat) (kk:AV→Heap→Option R) (lg15L3:List Nat→List Nat→List Nat→Int→Int→List Nat→Option R):Nat→List Nat→List Nat→List Nat→Int→Int→Int→Int→Int→List Nat→Option R
 | 0,_,_,_,_,_,_,_,_,_=>none
 | m+1,x0,x1,x2,x3,x4,x5,x6,x7,x8=>match A.ic .lss x7 x6 with
 | true=>g15J7 A n kk lg15L3 (g15L6 A n kk lg15L3 m) x0 x1 x2 x3 x4 x5 x6 x7 x8
 | false=>lg15L3 x0 x1 x2 x4 (A.ib .add .i64 x5 1) x8
def g15J4s (x0 x1 x2:List Nat) (x3 x4:Int) (x5:List Nat):St:=⟨[(0,(tS x0)),(1,(tS x1)),(2,(tS x2)),(7,(pT 2000 0)),(15,(i6 x3)),(16,(i6 x4))],[(2000,(bW 65 x5 56))]⟩
def g15J4 {R:Type} (A:Ar) (n:Nat) (kk:AV→Heap→Option R) (lg15L3:List Nat→List Nat→List Nat→Int→Int→List Nat→Option R) (x0 x1 x2:List Nat) (x3 x4:Int) (x5:List Nat):Option R :=
 g15L6 A n kk lg15L3 n x0 x1 x2 x4 x3 x4 (A.mn (A.ofN x1.length) 32) 0 x5
def g15J13s (x0:List Nat) (x1 x2:Int) (x3:List Nat):St:=⟨[(2,(tS x0)),(7,(pT 2000 0)),(45,(i6 x1)),(46,(i6 x2))],[(2000,(bW 65 x3 56))]⟩
def g15J13 {R:Type} (A:Ar) (n:Nat) (kk:AV→Heap→Option R) (lg15L12:List Nat→Int→Int→List Nat→Option R) (x0:List Nat) (x1 x2:Int) (x3:List Nat):Option R :=
 match A.neg x2 with
 | true=>none
 | false=>match A.lt (A.toN x2) 65 with
  | true=>match A.neg x2 with
   | true=>none
   | false=>match A.lt (A.toN x2) x0.length with
    | true=>match A.neg x2 with
     | true=>none
     | false=>match A.lt (A.toN x2) 65 with
      | true=>lg15L12 x0 x1 (A.ib .add .i64 x2 1) (x3.set (A.toN x2) (A.nb .add .u32 (x3.getD (A.toN x2) 0) (x0.getD (A.toN x2) 0)))
      | false=>none
    | false=>none
  | false=>none
def g15J19s (x0:Nat) (x1 x2:Int) (x3:List Nat) (x4:Nat) (x5:List Nat):St:=⟨[(7,(pT 2000 0)),(11,(sL 17000 none x0 1)),(61,(i6 x1)),(62,(i6 x2))],[(2000,(bW 65 x3 56)),(17000,⟨[.nums .u8 x4 x5],5,2⟩)]⟩
def g15J19 {R:Type} (A:Ar) (n:Nat) (kk:AV→Heap→Option R) (lg15L18:Nat→Int→Int→List Nat→Nat→List Nat→Option R) (x0:Nat) (x1 x2:Int) (x3:List Nat) (x4:Nat) (x5:List Nat):Option R :=
 match A.neg x2 with
 | true=>none
 | false=>match A.lt (A.toN x2) 65 with
  | true=>match A.neg x2 with
   | true=>none
   | false=>match A.lt (A.toN x2) x0 with
    | true=>match A.neg (A.ib .add .i64 x2 1) with
     | true=>none
     | false=>match A.lt (A.toN (A.ib .add .i64 x2 1)) 65 with
      | true=>match A.neg x2 with
       | true=>none
       | false=>match A.lt (A.toN x2) 65 with
        | true=>match A.neg (A.ib .add .i64 x2 1) with
         | true=>none
         | false=>match A.lt (A.toN (A.ib .add .i64 x2 1)) 65 with
          | true=>lg15L18 x0 x1 (A.ib .add .i64 x2 1) (x3.set (A.toN (A.ib .add .i64 x2 1)) (A.nb .add .u32 (x3.getD (A.toN (A.ib .add .i64 x2 1)) 0) (A.nsh .shr .u32 (x3.getD (A.toN x2) 0) 8))) x4 (x5.set (A.toN x2) (A.n2n .u8 (x3.getD (A.toN x2) 0)))
          | false=>none
        | false=>none
      | false=>none
    | false=>none
  | false=>none
def g15L18s (x0:Nat) (x1 x2:Int) (x3:List Nat) (x4:Nat) (x5:List Nat):St:=⟨[(7,(pT 2000 0)),(11,(sL 17000 none x0 1)),(61,(i6 x1)),(62,(i6 x2))],[(2000,(bW 65 x3 56)),(17000,⟨[.nums .u8 x4 x5],5,2⟩)]⟩
def g15L18 {R:Type} (A:Ar) (n:Nat) (kk:AV→Heap→Option R)  : Nat→Nat→Int→Int→List Nat→Nat→List Nat→Option R
 | 0,_,_,_,_,_,_=>none
 | m+1,x0,x1,x2,x3,x4,x5=>match A.ic .lss x2 x1 with
 | true=>g15J19 A n kk (g15L18 A n kk  m) x0 x1 x2 x3 x4 x5
 | false=>match g27ok A (x5.take x0) with
  | true=>kk (tS (g27r0 A (x5.take x0))) [(17000,⟨[.nums .u8 x4 x5],5,2⟩)]
  | false=>none
def g15J16s (x0:List Nat):St:=⟨[(7,(pT 2000 0))],[(2000,(bW 65 x0 56))]⟩
def g15J16 {R:Type} (A:Ar) (n:Nat) (kk:AV→Heap→Option R)  (x0:List Nat):Option R :=
 match A.le 64 64 with
 | true=>match A.le 64 140737488355328 with
  | true=>g15L18 A n kk  n 64 (A.ofN 64) 0 x0 64 (List.replicate 64 0)
  | false=>none
 | false=>none
def g15L12s (x0:List Nat) (x1 x2:Int) (x3:List Nat):St:=⟨[(2,(tS x0)),(7,(pT 2000 0)),(45,(i6 x1)),(46,(i6 x2))],[(2000,(bW 65 x3 56))]⟩
def g15L12 {R:Type} (A:Ar) (n:Nat) (kk:AV→Heap→Option R)  : Nat→List Nat→Int→Int→List Nat→Option R
 | 0,_,_,_,_=>none
 | m+1,x0,x1,x2,x3=>match A.ic .lss x2 x1 with
 | true=>g15J13 A n kk (g15L12 A n kk  m) x0 x1 x2 x3
 | false=>g15J16 A n kk  x3
def g15J11s (x0 x1:List Nat):St:=⟨[(2,(tS x0)),(7,(pT 2000 0))],[(2000,(bW 65 x1 56))]⟩
def g15J11 {R:Type} (A:Ar) (n:Nat) (kk:AV→Heap→Option R)  (x0 x1:List Nat):Option R :=
 g15L12 A n kk  n x0 (A.mn (A.ofN x0.length) 32) 0 x1
def g15L3s (x0 x1 x2:List Nat) (x3 x4:Int) (x5:List Nat):St:=⟨[(0,(tS x0)),(1,(tS x1)),(2,(tS x2)),(7,(pT 2000 0)),(15,(i6 x3)),(16,(i6 x4))],[(2000,(bW 65 x5 56))]⟩
def g15L3 {R:Type} (A:Ar) (n:Nat) (kk:AV→Heap→Option R)  : Nat→List Nat→List Nat→List Nat→Int→Int→List Nat→Option R
 | 0,_,_,_,_,_,_=>none
 | m+1,x0,x1,x2,x3,x4,x5=>match A.ic .lss x4 x3 with
 | true=>g15J4 A n kk (g15L3 A n kk  m) x0 x1 x2 x3 x4 x5
 | false=>g15J11 A n kk  x2 x5
def g15 {R:Type} (A:Ar) (n:Nat) (kk:AV→Heap→Option R) (a b c:List Nat):Option R :=
 g15L3 A n kk  n a b c (A.mn (A.ofN a.length) 32) 0 [0,0,0,0,0,0,0,0,0,0,0,0,0,0,0,0,0,0,0,0,0,0,0,0,0,0,0,0,0,0,0,0,0,0,0,0,0,0,0,0,0,0,0,0,0,0,0,0,0,0,0,0,0,0,0,0,0,0,0,0,0,0,0,0,0]
section
variable {R:Type} {A:Ar} {n:Nat} {kk:AV→Heap→Option R} {tb:Nat→List Bool→St→Option R} (st:Stp (g15N A kk) tb)
include st
theorem g15J7_go {lg15L3:List Nat→List Nat→List Nat→Int→Int→List Nat→Option R} {lg15L6:List Nat→List Nat→List Nat→Int→Int→Int→Int→Int→List Nat→Option R} (hg15L3:∀ (x0 x1 x2:List Nat) (x3 x4:Int) (x5:List Nat),Prs (fun k=>tb k (pth 116) (g15L3s x0 x1 x2 x3 x4 x5)) (lg15L3 x0 x1 x2 x3 x4 x5)) (hg15L6:∀ (x0 x1 x2:List Nat) (x3 x4:Int) (x5 x6 x7:Int) (x8:List Nat),Prs (fun k=>tb k (pth 29900) (g15L6s x0 x1 x2 x3 x4 x5 x6 x7 x8)) (lg15L6 x0 x1 x2 x3 x4 x5 x6 x7 x8)) {x0:List Nat} {x1:List Nat} {x2:List Nat} {x3:Int} {x4:Int} {x5:Int} {x6:Int} {x7:Int} {x8:List Nat}:Prs (fun k=>tb k (pth 119603) (g15J7s x0 x1 x2 x3 x4 x5 x6 x7 x8)) (g15J7 A n kk lg15L3 lg15L6 x0 x1 x2 x3 x4 x5 x6 x7 x8):=by
  unfold g15J7
  exact st.g (pc (SxY06cpi _ pn (SxY06cpi _ (SxY06cpi _ pn (SxY06cpi _ (SxY06cpi _ pn (SxY06cpi _ (SxY06cpi _ pn (SxY06cpi _ (hg15L6 _ _ _ _ _ _ _ _ _) pn)) pn)) pn)) pn)) (by kernel_rfl))
theorem g15L6_go {lg15L3:List Nat→List Nat→List Nat→Int→Int→List Nat→Option R} (hg15L3:∀ (x0 x1 x2:List Nat) (x3 x4:Int) (x5:List Nat),Prs (fun k=>tb k (pth 116) (g15L3s x0 x1 x2 x3 x4 x5)) (lg15L3 x0 x1 x2 x3 x4 x5)) (m:Nat):∀ (x0 x1 x2:List Nat) (x3 x4:Int) (x5 x6 x7:Int) (x8:List Nat),Prs (fun k=>tb k (pth 29900) (g15L6s x0 x1 x2 x3 x4 x5 x6 x7 x8)) (g15L6 A n kk lg15L3 m x0 x1 x2 x3 x4 x5 x6 x7 x8):=by
  induction m with
  | zero=>intro x0 x1 x2 x3 x4 x5 x6 x7 x8; exact pn0
  | succ m ih =>
    intro x0 x1 x2 x3 x4 x5 x6 x7 x8; rw [g15L6]
    exact st.g (pc (SxY06cpi _ (g15J7_go st hg15L3 ih) (hg15L3 _ _ _ _ _ _)) (by kernel_rfl))
theorem g15J4_go {lg15L3:List Nat→List Nat→List Nat→Int→Int→List Nat→Option R} (hg15L3:∀ (x0 x1 x2:List Nat) (x3 x4:Int) (x5:List Nat),Prs (fun k=>tb k (pth 116) (g15L3s x0 x1 x2 x3 x4 x5)) (lg15L3 x0 x1 x2 x3 x4 x5)) {x0:List Nat} {x1:List Nat} {x2:List Nat} {x3:Int} {x4:Int} {x5:List Nat}:Prs (fun k=>tb k (pth 467) (g15J4s x0 x1 x2 x3 x4 x5)) (g15J4 A n kk lg15L3 x0 x1 x2 x3 x4 x5):=by
  unfold g15J4
  exact st.g (pc (g15L6_go st hg15L3 n _ _ _ _ _ _ _ _ _) (by kernel_rfl))
theorem g15J13_go {lg15L12:List Nat→Int→Int→List Nat→Option R} (hg15L12:∀ (x0:List Nat) (x1 x2:Int) (x3:List Nat),Prs (fun k=>tb k (pth 244) (g15L12s x0 x1 x2 x3)) (lg15L12 x0 x1 x2 x3)) {x0:List Nat} {x1:Int} {x2:Int} {x3:List Nat}:Prs (fun k=>tb k (pth 979) (g15J13s x0 x1 x2 x3)) (g15J13 A n kk lg15L12 x0 x1 x2 x3):=by
  unfold g15J13
  exact st.g (pc (SxY06cpi _ pn (SxY06cpi _ (SxY06cpi _ pn (SxY06cpi _ (SxY06cpi _ pn (SxY06cpi _ (hg15L12 _ _ _ _) pn)) pn)) pn)) (by kernel_rfl))
theorem g15J19_go {lg15L18:Nat→Int→Int→List Nat→Nat→List Nat→Option R} (hg15L18:∀ (x0:Nat) (x1 x2:Int) (x3:List Nat) (x4:Nat) (x5:List Nat),Prs (fun k=>tb k (pth 1012) (g15L18s x0 x1 x2 x3 x4 x5)) (lg15L18 x0 x1 x2 x3 x4 x5)) {x0:Nat} {x1:Int} {x2:Int} {x3:List Nat} {x4:Nat} {x5:List Nat}:Prs (fun k=>tb k (pth 4051) (g15J19s x0 x1 x2 x3 x4 x5)) (g15J19 A n kk lg15L18 x0 x1 x2 x3 x4 x5):=by
  unfold g15J19
  exact st.g (pc (SxY06cpi _ pn (SxY06cpi _ (SxY06cpi _ pn (SxY06cpi _ (SxY06cpi _ pn (SxY06cpi _ (SxY06cpi _ pn (SxY06cpi _ (SxY06cpi _ pn (SxY06cpi _ (hg15L18 _ _ _ _ _ _) pn)) pn)) pn)) pn)) pn)) (by kernel_rfl))
theorem g15L18_go (m:Nat):∀ (x0:Nat) (x1 x2:Int) (x3:List Nat) (x4:Nat) (x5:List Nat),Prs (fun k=>tb k (pth 1012) (g15L18s x0 x1 x2 x3 x4 x5)) (g15L18 A n kk m x0 x1 x2 x3 x4 x5):=by
  induction m with
  | zero=>intro x0 x1 x2 x3 x4 x5; exact pn0
  | succ m ih =>
    intro x0 x1 x2 x3 x4 x5; rw [g15L18]
    exact st.g (pc (SxY06cpi _ (g15J19_go st ih) (SxY06cpi _ (pf _) pn)) (by kernel_rfl))
theorem g15J16_go {x0:List Nat}:Prs (fun k=>tb k (pth 31) (g15J16s x0)) (g15J16 A n kk x0):=by
  unfold g15J16
  exact st.g (pc (SxY06cpi _ (SxY06cpi _ (g15L18_go st n _ _ _ _ _ _) pn) pn) (by kernel_rfl))
theorem g15L12_go (m:Nat):∀ (x0:List Nat) (x1 x2:Int) (x3:List Nat),Prs (fun k=>tb k (pth 244) (g15L12s x0 x1 x2 x3)) (g15L12 A n kk m x0 x1 x2 x3):=by
  induction m with
  | zero=>intro x0 x1 x2 x3; exact pn0
  | succ m ih =>
    intro x0 x1 x2 x3; rw [g15L12]
    exact st.g (pc (SxY06cpi _ (g15J13_go st ih) (g15J16_go st)) (by kernel_rfl))
theorem g15J11_go {x0:List Nat} {x1:List Nat}:Prs (fun k=>tb k (pth 15) (g15J11s x0 x1)) (g15J11 A n kk x0 x1):=by
  unfold g15J11
  exact st.g (pc (g15L12_go st n _ _ _ _) (by kernel_rfl))
theorem g15L3_go (m:Nat):∀ (x0 x1 x2:List Nat) (x3 x4:Int) (x5:List Nat),Prs (fun k=>tb k (pth 116) (g15L3s x0 x1 x2 x3 x4 x5)) (g15L3 A n kk m x0 x1 x2 x3 x4 x5):=by
  induction m with
  | zero=>intro x0 x1 x2 x3 x4 x5; exact pn0
  | succ m ih =>
    intro x0 x1 x2 x3 x4 x5; rw [g15L3]
    exact st.g (pc (SxY06cpi _ (g15J4_go st ih) (g15J11_go st)) (by kernel_rfl))
theorem g15_go {a:List Nat} {b:List Nat} {c:List Nat}:Prs (fun k=>funN A gtys (g15O A) g15an g15cut (bodyOf Try.f15) g15res [(tS a),(tS b),(tS c)] [] kk (tb k)) (g15 A n kk a b c):=by
  unfold g15
  exact pc (g15L3_go st n _ _ _ _ _ _) (by kernel_rfl)
end
def g15is (o:Option AV):Bool:=match o with
 | some (.v (.cell (.str _)))=>true
 | _=>false
def g15g0 (o:Option AV):List Nat:=match o with
 | some (.v (.cell (.str x)))=>x
 | _=>[]
theorem g15is_spec {o:Option AV} (h:g15is o=true):o=some (.v (.cell (.str (g15g0 o)))):=by
  unfold g15is at h
  split at h
  · rfl
  · cases h
def g15v (A:Ar) (a b c:List Nat):Option AV:=g15 A (100000) (fun v _=>some v) a b c
def g15ok (A:Ar) (a b c:List Nat):Bool:=g15is (g15v A a b c)
def g15r0 (A:Ar) (a b c:List Nat):List Nat:=g15g0 (g15v A a b c)
theorem g15ok_spec {A:Ar} {a b c} (h:g15ok A a b c=true):g15v A a b c=some (.v (.cell (.str (g15r0 A a b c)))):=g15is_spec h
def g15o (A:Ar) (args:List AV):Option (Bool × AV):=match args with
 | [.v (.cell (.str a)),.v (.cell (.str b)),.v (.cell (.str c))]=>some (g15ok A a b c,.v (.cell (.str (g15r0 A a b c))))
 | _=>none
theorem g15o_sound:∀ args v,g15o realA args=some (true,v)→Fn1 Try.prog 15 args v:=by
  intro args v h
  unfold g15o at h
  split at h
  · rename_i a b c
    simp only [Option.some.injEq,Prod.mk.injEq] at h
    obtain ⟨hc,h⟩:=h
    subst h
    · skip
      exact fn1_ofG mixed gtysOK g15O_sound g15O_det (an:=g15an) (cut:=g15cut) Try.func15 (c:=bodyOf Try.f15) rfl (by kernel_rfl) Try.call15 (Nat.le_of_ble_eq_true rfl) (fun b=>rfl) (fun _=>(show g15v realA a b c=_ from g15ok_spec hc)) fun _ st=>g15_go st
  · cases h
attribute [local irreducible] g15ok g15r0
def g16O (A:Ar):Orc:=orcOf [(27,g27o A)]
theorem g16O_sound:OSound Try.prog (g16O realA):=orc_sound fun f g hm args v hv=>by
  simp only [List.mem_cons,List.not_mem_nil,or_false,Prod.mk.injEq] at hm
  rcases hm with ⟨rfl,rfl⟩
  · exact g27o_sound _ _ hv
theorem g16O_det:ODet (g16O realA):=orc_det _
def g16an:Ann:=[(0,([0],[])),(1,([0],[]))]
def g16res:List ResultVar:=[.tmp 2]
def g16cut:List Nat:=[]
noncomputable def g16N {R:Type} (A:Ar) (kk:AV→Heap→Option R) (t:List Bool→St→Option R) (p:List Bool) (s:St):Option R:=nodeN A gtys (g16O A) g16an g16cut t (bodyOf Try.f16) (finD gtys g16res kk) p s
def g16 {R:Type} (A:Ar) (n:Nat) (kk:AV→Heap→Option R) (a:List Nat):Option R :=
 match A.ic .eql (A.ofN a.length) 32 with
 | true=>match g27ok A a with
  | true=>kk (bO (A.sc .eql (g27r0 A a) a)) []
  | false=>none
 | false=>kk (bO false) []
section
variable {R:Type} {A:Ar} {n:Nat} {kk:AV→Heap→Option R} {tb:Nat→List Bool→St→Option R} (st:Stp (g16N A kk) tb)
include st
theorem g16_go {a:List Nat}:Prs (fun k=>funN A gtys (g16O A) g16an g16cut (bodyOf Try.f16) g16res [(tS a)] [] kk (tb k)) (g16 A n kk a):=by
  unfold g16
  exact pc (SxY06cpi _ (SxY06cpi _ (pf _) pn) (pf _)) (by kernel_rfl)
end
def g16is (o:Option AV):Bool:=match o with
 | some (.v (.cell (.bool _)))=>true
 | _=>false
def g16g0 (o:Option AV):Bool:=match o with
 | some (.v (.cell (.bool x)))=>x
 | _=>false
theorem g16is_spec {o:Option AV} (h:g16is o=true):o=some (.v (.cell (.bool (g16g0 o)))):=by
  unfold g16is at h
  split at h
  · rfl
  · cases h
def g16v (A:Ar) (a:List Nat):Option AV:=g16 A (100000) (fun v _=>some v) a
def g16ok (A:Ar) (a:List Nat):Bool:=g16is (g16v A a)
def g16r0 (A:Ar) (a:List Nat):Bool:=g16g0 (g16v A a)
theorem g16ok_spec {A:Ar} {a} (h:g16ok A a=true):g16v A a=some (.v (.cell (.bool (g16r0 A a)))):=g16is_spec h
def g16o (A:Ar) (args:List AV):Option (Bool × AV):=match args with
 | [.v (.cell (.str a))]=>some (g16ok A a,.v (.cell (.bool (g16r0 A a))))
 | _=>none
theorem g16o_sound:∀ args v,g16o realA args=some (true,v)→Fn1 Try.prog 16 args v:=by
  intro args v h
  unfold g16o at h
  split at h
  · rename_i a
    simp only [Option.some.injEq,Prod.mk.injEq] at h
    obtain ⟨hc,h⟩:=h
    subst h
    · skip
      exact fn1_ofG mixed gtysOK g16O_sound g16O_det (an:=g16an) (cut:=g16cut) Try.func16 (c:=bodyOf Try.f16) rfl (by kernel_rfl) Try.call16 (Nat.le_of_ble_eq_true rfl) (fun b=>rfl) (fun _=>(show g16v realA a=_ from g16ok_spec hc)) fun _ st=>g16_go st
  · cases h
attribute [local irreducible] g16ok g16r0
def g24O (A:Ar):Orc:=orcOf []
theorem g24O_sound:OSound Try.prog (g24O realA):=orc_sound fun f g hm args v hv=>by
  cases hm
theorem g24O_det:ODet (g24O realA):=orc_det _
def g24an:Ann:=[(0,([0],[])),(1,([0],[])),(2,([],[])),(3,([0],[])),(4,([4],[4001])),(5,([4],[4001])),(6,([4],[4001]))]
def g24res:List ResultVar:=[.tmp 2,.tmp 3]
def g24cut:List Nat:=[3]
noncomputable def g24N {R:Type} (A:Ar) (kk:AV→Heap→Option R) (t:List Bool→St→Option R) (p:List Bool) (s:St):Option R:=nodeN A gtys (g24O A) g24an g24cut t (bodyOf Try.f24) (finD gtys g24res kk) p s
def g24J3s (x0:List Nat):St:=⟨[(0,(tS x0))],[]⟩
def g24J3 {R:Type} (A:Ar) (n:Nat) (kk:AV→Heap→Option R)  (x0:List Nat):Option R :=
 match A.le x0.length 9223372036854775807 with
 | true=>match Nat.blt 0 x0.length with
  | true=>match Nat.blt 0 x0.length with
   | true=>match Nat.blt 31 x0.length with
    | true=>match Nat.blt 31 x0.length with
     | true=>kk (.tup [(.cell (.str (((x0.set 0 (A.nb .and .u8 (x0.getD 0 0) 248)).set 31 (A.nb .or .u8 (A.nb .and .u8 ((x0.set 0 (A.nb .and .u8 (x0.getD 0 0) 248)).getD 31 0) 63) 64)).take x0.length))),(.cell (.bool true))]) [(4001,⟨[.nums .u8 x0.length ((x0.set 0 (A.nb .and .u8 (x0.getD 0 0) 248)).set 31 (A.nb .or .u8 (A.nb .and .u8 ((x0.set 0 (A.nb .and .u8 (x0.getD 0 0) 248)).getD 31 0) 63) 64))],5,1⟩)]
     | false=>none
    | false=>none
   | false=>none
  | false=>none
 | false=>none
def g24 {R:Type} (A:Ar) (n:Nat) (kk:AV→Heap→Option R) (a:List Nat):Option R :=
 match A.ic .neq (A.ofN a.length) 32 with
 | true=>kk (.tup [(.cell (.str [])),(.cell (.bool false))]) []
 | false=>g24J3 A n kk  a
section
variable {R:Type} {A:Ar} {n:Nat} {kk:AV→Heap→Option R} {tb:Nat→List Bool→St→Option R} (st:Stp (g24N A kk) tb)
include st
theorem g24J3_go {x0:List Nat}:Prs (fun k=>tb k (pth 7) (g24J3s x0)) (g24J3 A n kk x0):=by
  unfold g24J3
  exact st.g (pc (SxY06cpi _ (SxY06cpi _ (SxY06cpi _ (SxY06cpi _ (SxY06cpi _ (pf _) pn) pn) pn) pn) pn) (by kernel_rfl))
theorem g24_go {a:List Nat}:Prs (fun k=>funN A gtys (g24O A) g24an g24cut (bodyOf Try.f24) g24res [(tS a)] [] kk (tb k)) (g24 A n kk a):=by
  unfold g24
  exact pc (SxY06cpi _ (pf _) (g24J3_go st)) (by kernel_rfl)
end
def g24is (o:Option AV):Bool:=match o with
 | some (.tup [.cell (.str _),.cell (.bool _)])=>true
 | _=>false
def g24g0 (o:Option AV):List Nat:=match o with
 | some (.tup [.cell (.str x),.cell (.bool _)])=>x
 | _=>[]
def g24g1 (o:Option AV):Bool:=match o with
 | some (.tup [.cell (.str _),.cell (.bool x)])=>x
 | _=>false
theorem g24is_spec {o:Option AV} (h:g24is o=true):o=some (.tup [.cell (.str (g24g0 o)),.cell (.bool (g24g1 o))]):=by
  unfold g24is at h
  split at h
  · rfl
  · cases h
def g24v (A:Ar) (a:List Nat):Option AV:=g24 A (100000) (fun v _=>some v) a
def g24ok (A:Ar) (a:List Nat):Bool:=g24is (g24v A a)
def g24r0 (A:Ar) (a:List Nat):List Nat:=g24g0 (g24v A a)
def g24r1 (A:Ar) (a:List Nat):Bool:=g24g1 (g24v A a)
theorem g24ok_spec {A:Ar} {a} (h:g24ok A a=true):g24v A a=some (.tup [.cell (.str (g24r0 A a)),.cell (.bool (g24r1 A a))]):=g24is_spec h
def g24o (A:Ar) (args:List AV):Option (Bool × AV):=match args with
 | [.v (.cell (.str a))]=>some (g24ok A a,.tup [.cell (.str (g24r0 A a)),.cell (.bool (g24r1 A a))])
 | _=>none
theorem g24o_sound:∀ args v,g24o realA args=some (true,v)→Fn1 Try.prog 24 args v:=by
  intro args v h
  unfold g24o at h
  split at h
  · rename_i a
    simp only [Option.some.injEq,Prod.mk.injEq] at h
    obtain ⟨hc,h⟩:=h
    subst h
    · skip
      exact fn1_ofG mixed gtysOK g24O_sound g24O_det (an:=g24an) (cut:=g24cut) Try.func24 (c:=bodyOf Try.f24) rfl (by kernel_rfl) Try.call24 (Nat.le_of_ble_eq_true rfl) (fun b=>rfl) (fun _=>(show g24v realA a=_ from g24ok_spec hc)) fun _ st=>g24_go st
  · cases h
attribute [local irreducible] g24ok g24r0 g24r1
end Go.Sx
