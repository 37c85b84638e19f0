import Derived.Test.YtpdpafehfloelaaSxW06N03c
import Derived.Test.YtpdpafehfloelaaSxPl
import Derived.Test.YtpdpafehfloelaaSxY06p
namespace Go.Sx
set_option linter.unusedSectionVars false
def W4 (a:List Nat):Prop:=∃ a0 a1 a2 a3,a=[a0,a1,a2,a3]∧a0<18446744073709551616∧a1<18446744073709551616∧a2<18446744073709551616∧a3<18446744073709551616
def num (a:List Nat):Nat:=v64 (a.getD 0 0) (a.getD 1 0) (a.getD 2 0) (a.getD 3 0)
def LB (l:List Nat):Prop:=∃ l0 l1 l2 l3 l4,l=[l0,l1,l2,l3,l4]∧l0<2251799813685248+57∧l1<2251799813685248∧l2<2251799813685248∧l3<2251799813685248∧l4<2251799813685248
def nv (l:List Nat):Nat:=v51 (l.getD 0 0) (l.getD 1 0) (l.getD 2 0) (l.getD 3 0) (l.getD 4 0)
theorem PP_pos:0<PP:=by decide
theorem fe_W4 (x:Nat):W4 (fe x):=⟨_,_,_,_,rfl,by omega,by omega,by omega,by omega⟩
theorem num_fe {x:Nat} (h:x<115792089237316195423570985008687907853269984665640564039457584007913129639936):num (fe x)=x:=by
  show v64 (x%18446744073709551616) (x/18446744073709551616%18446744073709551616) (x/340282366920938463463374607431768211456%18446744073709551616) (x/6277101735386680763835789423207666416102355444464034512896%18446744073709551616)=x
  unfold v64
  omega
theorem fe_num {a:List Nat} (h:W4 a):fe (num a)=a:=by
  obtain ⟨a0,a1,a2,a3,rfl,h0,h1,h2,h3⟩:=h
  show fe (v64 a0 a1 a2 a3)=_
  have z0:v64 a0 a1 a2 a3%18446744073709551616=a0:=by unfold v64; omega
  have z1:v64 a0 a1 a2 a3/18446744073709551616%18446744073709551616=a1:=by unfold v64; omega
  have z2:v64 a0 a1 a2 a3/340282366920938463463374607431768211456%18446744073709551616=a2:=by unfold v64; omega
  have z3:v64 a0 a1 a2 a3/6277101735386680763835789423207666416102355444464034512896%18446744073709551616=a3:=by unfold v64; omega
  unfold fe
  rw [z0,z1,z2,z3]
def fm (x:Nat):List Nat:=fe (x%PP)
theorem fm_W4 (x:Nat):W4 (fm x):=fe_W4 _
theorem mod_lt256 (x:Nat):x%PP<115792089237316195423570985008687907853269984665640564039457584007913129639936:=Nat.lt_trans (Nat.mod_lt _ PP_pos) (by decide)
theorem num_fm (x:Nat):num (fm x)=x%PP:=num_fe (mod_lt256 x)
theorem fm_congr {x y:Nat} (h:x%PP=y%PP):fm x=fm y:=by unfold fm; rw [h]
theorem load4 {a:List Nat} (h:W4 a):g55ok realA a=true∧LB (g55r0 realA a)∧nv (g55r0 realA a)%PP=num a%PP:=by
  obtain ⟨a0,a1,a2,a3,rfl,h0,h1,h2,h3⟩:=h
  obtain ⟨k,r0,r1,r2,r3,r4,c,q1,q2,q3,q4,q5,q6,q7⟩:=loadOk h0 h1 h2 h3
  refine ⟨k,⟨r0,r1,r2,r3,r4,q7,q5,q1,q2,q3,q4⟩, ?_⟩
  rw [q7]
  show v51 r0 r1 r2 r3 r4%PP=v64 a0 a1 a2 a3%PP
  rw [← q6,Nat.add_mul_mod_self_left]
theorem times5 {l m:List Nat} (hl:LB l) (hm:LB m):g57ok realA l m=true∧LB (g57r0 realA l m)∧nv (g57r0 realA l m)%PP=(nv l*nv m)%PP:=by
  obtain ⟨l0,l1,l2,l3,l4,rfl,a0,a1,a2,a3,a4⟩:=hl
  obtain ⟨m0,m1,m2,m3,m4,rfl,b0,b1,b2,b3,b4⟩:=hm
  obtain ⟨k,r0,r1,r2,r3,r4,q1,q2,q3,q4,q5,q6,q7⟩:=timesOk (l0:=l0) (m0:=m0) (l1:=l1) (m1:=m1) (l2:=l2) (m2:=m2) (l3:=l3) (m3:=m3) (l4:=l4) (m4:=m4) (by omega) (by omega) (by omega) (by omega) (by omega) (by omega) (by omega) (by omega) (by omega) (by omega)
  refine ⟨k,⟨r0,r1,r2,r3,r4,q7,q5,q1,q2,q3,q4⟩, ?_⟩
  rw [q7]
  exact q6
theorem store5 {l:List Nat} (hl:LB l):g56ok realA l=true∧g56r0 realA l=fm (nv l):=by
  obtain ⟨l0,l1,l2,l3,l4,rfl,a0,a1,a2,a3,a4⟩:=hl
  exact storeOk (by omega) (by omega) (by omega) (by omega) (by omega)
theorem mulOk {a b:List Nat} (ha:W4 a) (hb:W4 b):g41ok realA a b=true∧g41r0 realA a b=fm (num a*num b):=by
  obtain ⟨k1,x1,y1⟩:=load4 ha
  obtain ⟨k2,x2,y2⟩:=load4 hb
  obtain ⟨k3,x3,y3⟩:=times5 x1 x2
  obtain ⟨k4,y4⟩:=store5 x3
  have e:g41v realA a b=some (.v (.agg [.nums .u64 4 (fm (num a*num b))])):=by
    unfold g41v
    generalize 100000=n
    unfold g41
    rw [k1,k2,k3,k4,y4]
    rw [fm_congr (y3.trans (show nv (g55r0 realA a)*nv (g55r0 realA b)%PP=num a*num b%PP by rw [Nat.mul_mod,y1,y2,← Nat.mul_mod]))]
  exact ⟨by unfold g41ok; rw [e]; rfl,by unfold g41r0; rw [e]; rfl⟩
theorem addStep (n m i:Nat) (d l b:List Nat) (hi:i<5) (hs:l.getD i 0+b.getD i 0<18446744073709551616):g53L3 realA n (fun v _=>some v) (m+1) i d l b=g53L3 realA n (fun v _=>some v) m ((i+1:Nat):Int) d (l.set i (l.getD i 0+b.getD i 0)) b:=by
  have e1:realA.ib .add .i64 (i:Int) 1=((i+1:Nat):Int):=addN 1 (by omega)
  rw [g53L3,lssT (show (i:Int)<5 by omega)]
  simp only [g53J4,negN,toNN,ltT hi,nadd hs]
  rw [e1]
theorem v51_add (a0 a1 a2 a3 a4 b0 b1 b2 b3 b4:Nat):v51 (a0+b0) (a1+b1) (a2+b2) (a3+b3) (a4+b4)=v51 a0 a1 a2 a3 a4+v51 b0 b1 b2 b3 b4:=by unfold v51; omega
theorem addOk {a b:List Nat} (ha:W4 a) (hb:W4 b):g53ok realA a b=true∧g53r0 realA a b=fm (num a+num b):=by
  obtain ⟨k1,⟨l0,l1,l2,l3,l4,el,a0,a1,a2,a3,a4⟩,y1⟩:=load4 ha
  obtain ⟨k2,⟨m0,m1,m2,m3,m4,em,b0,b1,b2,b3,b4⟩,y2⟩:=load4 hb
  rw [el] at y1
  rw [em] at y2
  obtain ⟨k4,y4⟩:=storeOk (l0:=l0+m0) (l1:=l1+m1) (l2:=l2+m2) (l3:=l3+m3) (l4:=l4+m4) (by omega) (by omega) (by omega) (by omega) (by omega)
  have hm:v51 (l0+m0) (l1+m1) (l2+m2) (l3+m3) (l4+m4)%PP=(num a+num b)%PP:=by
    rw [v51_add,Nat.add_mod,show v51 l0 l1 l2 l3 l4%PP=num a%PP from y1,show v51 m0 m1 m2 m3 m4%PP=num b%PP from y2,← Nat.add_mod]
  have e:g53v realA a b=some (.v (.agg [.nums .u64 4 (fm (num a+num b))])):=by
    unfold g53v
    rw [show (100000:Nat)=99994+6 from rfl]
    generalize 99994=m
    unfold g53
    rw [k1,k2,el,em]
    have s0:=addStep (m+6) (m+5) 0 [0,0,0,0] [l0,l1,l2,l3,l4] [m0,m1,m2,m3,m4] (by decide) (show l0+m0<_ by omega)
    have s1:=addStep (m+6) (m+4) 1 [0,0,0,0] [l0+m0,l1,l2,l3,l4] [m0,m1,m2,m3,m4] (by decide) (show l1+m1<_ by omega)
    have s2:=addStep (m+6) (m+3) 2 [0,0,0,0] [l0+m0,l1+m1,l2,l3,l4] [m0,m1,m2,m3,m4] (by decide) (show l2+m2<_ by omega)
    have s3:=addStep (m+6) (m+2) 3 [0,0,0,0] [l0+m0,l1+m1,l2+m2,l3,l4] [m0,m1,m2,m3,m4] (by decide) (show l3+m3<_ by omega)
    have s4:=addStep (m+6) (m+1) 4 [0,0,0,0] [l0+m0,l1+m1,l2+m2,l3+m3,l4] [m0,m1,m2,m3,m4] (by decide) (show l4+m4<_ by omega)
    refine Eq.trans (b:=g53L3 realA (m+6) (fun v _=>some v) (m+5+1) ((0:Nat):Int) [0,0,0,0] [l0,l1,l2,l3,l4] [m0,m1,m2,m3,m4]) rfl ?_
    refine s0.trans (s1.trans (s2.trans (s3.trans (s4.trans ?_))))
    have hx:g53L3 realA (m+6) (fun v _=>some v) (m+1) ((5:Nat):Int) [0,0,0,0] [l0+m0,l1+m1,l2+m2,l3+m3,l4+m4] [m0,m1,m2,m3,m4]=some (.v (.agg [.nums .u64 4 (fm (num a+num b))])):=by
      rw [g53L3,show realA.ic .lss (((5:Nat)):Int) 5=false from rfl]
      rw [k4,y4,hm]
      rfl
    exact hx
  exact ⟨by unfold g53ok; rw [e]; rfl,by unfold g53r0; rw [e]; rfl⟩
theorem subStep (n m i:Nat) (d l b f:List Nat) (hi:i<5) (hf:b.getD i 0≤f.getD i 0) (hs:l.getD i 0+(f.getD i 0 - b.getD i 0)<18446744073709551616) (hf2:f.getD i 0<18446744073709551616):g52L4 realA n (fun v _=>some v) (m+1) i d l b f=g52L4 realA n (fun v _=>some v) m ((i+1:Nat):Int) d (l.set i (l.getD i 0+(f.getD i 0 - b.getD i 0))) b f:=by
  have e1:realA.ib .add .i64 (i:Int) 1=((i+1:Nat):Int):=addN 1 (by omega)
  have e2:realA.nb .sub .u64 (f.getD i 0) (b.getD i 0)=f.getD i 0 - b.getD i 0:=by
    show (f.getD i 0+18446744073709551616 - b.getD i 0)%18446744073709551616=_
    omega
  rw [g52L4,lssT (show (i:Int)<5 by omega)]
  simp only [g52J5,negN,toNN,ltT hi,e2,nadd hs]
  rw [e1]
theorem v51_sub (a0 a1 a2 a3 a4 b0 b1 b2 b3 b4:Nat) (h0:b0≤9007199254740916) (h1:b1≤9007199254740988) (h2:b2≤9007199254740988) (h3:b3≤9007199254740988) (h4:b4≤9007199254740988) :
    v51 (a0+(9007199254740916 - b0)) (a1+(9007199254740988 - b1)) (a2+(9007199254740988 - b2)) (a3+(9007199254740988 - b3)) (a4+(9007199254740988 - b4))+v51 b0 b1 b2 b3 b4=v51 a0 a1 a2 a3 a4+PP*4:=by unfold v51 PP; omega
theorem subOk {a b:List Nat} (ha:W4 a) (hb:W4 b):∃ x,g52ok realA a b=true∧g52r0 realA a b=fm x∧(x+num b)%PP=num a%PP:=by
  obtain ⟨k1,⟨l0,l1,l2,l3,l4,el,a0,a1,a2,a3,a4⟩,y1⟩:=load4 ha
  obtain ⟨k2,⟨m0,m1,m2,m3,m4,em,b0,b1,b2,b3,b4⟩,y2⟩:=load4 hb
  rw [el] at y1
  rw [em] at y2
  obtain ⟨k4,y4⟩:=storeOk (l0:=l0+(9007199254740916 - m0)) (l1:=l1+(9007199254740988 - m1)) (l2:=l2+(9007199254740988 - m2)) (l3:=l3+(9007199254740988 - m3)) (l4:=l4+(9007199254740988 - m4)) (by omega) (by omega) (by omega) (by omega) (by omega)
  have hv:=v51_sub l0 l1 l2 l3 l4 m0 m1 m2 m3 m4 (by omega) (by omega) (by omega) (by omega) (by omega)
  refine ⟨v51 (l0+(9007199254740916 - m0)) (l1+(9007199254740988 - m1)) (l2+(9007199254740988 - m2)) (l3+(9007199254740988 - m3)) (l4+(9007199254740988 - m4)), ?_⟩
  have e:g52v realA a b=some (.v (.agg [.nums .u64 4 (fm (v51 (l0+(9007199254740916 - m0)) (l1+(9007199254740988 - m1)) (l2+(9007199254740988 - m2)) (l3+(9007199254740988 - m3)) (l4+(9007199254740988 - m4))))])):=by
    unfold g52v
    rw [show (100000:Nat)=99994+6 from rfl]
    generalize 99994=m
    unfold g52
    rw [k1,k2,el,em]
    have s0:=subStep (m+6) (m+5) 0 [0,0,0,0] [l0,l1,l2,l3,l4] [m0,m1,m2,m3,m4] [9007199254740916,9007199254740988,9007199254740988,9007199254740988,9007199254740988] (by decide) (show m0≤9007199254740916 by omega) (show l0+(9007199254740916 - m0)<_ by omega) (by decide)
    have s1:=subStep (m+6) (m+4) 1 [0,0,0,0] [l0+(9007199254740916 - m0),l1,l2,l3,l4] [m0,m1,m2,m3,m4] [9007199254740916,9007199254740988,9007199254740988,9007199254740988,9007199254740988] (by decide) (show m1≤9007199254740988 by omega) (show l1+(9007199254740988 - m1)<_ by omega) (by decide)
    have s2:=subStep (m+6) (m+3) 2 [0,0,0,0] [l0+(9007199254740916 - m0),l1+(9007199254740988 - m1),l2,l3,l4] [m0,m1,m2,m3,m4] [9007199254740916,9007199254740988,9007199254740988,9007199254740988,9007199254740988] (by decide) (show m2≤9007199254740988 by omega) (show l2+(9007199254740988 - m2)<_ by omega) (by decide)
    have s3:=subStep (m+6) (m+2) 3 [0,0,0,0] [l0+(9007199254740916 - m0),l1+(9007199254740988 - m1),l2+(9007199254740988 - m2),l3,l4] [m0,m1,m2,m3,m4] [9007199254740916,9007199254740988,9007199254740988,9007199254740988,9007199254740988] (by decide) (show m3≤9007199254740988 by omega) (show l3+(9007199254740988 - m3)<_ by omega) (by decide)
    have s4:=subStep (m+6) (m+1) 4 [0,0,0,0] [l0+(9007199254740916 - m0),l1+(9007199254740988 - m1),l2+(9007199254740988 - m2),l3+(9007199254740988 - m3),l4] [m0,m1,m2,m3,m4] [9007199254740916,9007199254740988,9007199254740988,9007199254740988,9007199254740988] (by decide) (show m4≤9007199254740988 by omega) (show l4+(9007199254740988 - m4)<_ by omega) (by decide)
    refine Eq.trans (b:=g52L4 realA (m+6) (fun v _=>some v) (m+5+1) ((0:Nat):Int) [0,0,0,0] [l0,l1,l2,l3,l4] [m0,m1,m2,m3,m4] [9007199254740916,9007199254740988,9007199254740988,9007199254740988,9007199254740988]) rfl ?_
    refine s0.trans (s1.trans (s2.trans (s3.trans (s4.trans ?_))))
    have hx:g52L4 realA (m+6) (fun v _=>some v) (m+1) ((5:Nat):Int) [0,0,0,0] [l0+(9007199254740916 - m0),l1+(9007199254740988 - m1),l2+(9007199254740988 - m2),l3+(9007199254740988 - m3),l4+(9007199254740988 - m4)] [m0,m1,m2,m3,m4] [9007199254740916,9007199254740988,9007199254740988,9007199254740988,9007199254740988]=some (.v (.agg [.nums .u64 4 (fm (v51 (l0+(9007199254740916 - m0)) (l1+(9007199254740988 - m1)) (l2+(9007199254740988 - m2)) (l3+(9007199254740988 - m3)) (l4+(9007199254740988 - m4))))])):=by
      rw [g52L4,show realA.ic .lss (((5:Nat)):Int) 5=false from rfl]
      rw [k4,y4]
      rfl
    exact hx
  refine ⟨by unfold g52ok; rw [e]; rfl,by unfold g52r0; rw [e]; rfl, ?_⟩
  have y1':v51 l0 l1 l2 l3 l4%PP=num a%PP:=y1
  have y2':v51 m0 m1 m2 m3 m4%PP=num b%PP:=y2
  rw [Nat.add_mod,← y2',← Nat.add_mod,hv,Nat.add_mul_mod_self_left,y1']
theorem negOk {a:List Nat} (ha:W4 a):∃ x,g31ok realA a=true∧g31r0 realA a=fm x∧(x+num a)%PP=0:=by
  obtain ⟨x,h1,h2,h3⟩:=subOk (a:=[0,0,0,0]) ⟨0,0,0,0,rfl,by decide,by decide,by decide,by decide⟩ ha
  have e:g31v realA a=some (.v (.agg [.nums .u64 4 (fm x)])):=by
    unfold g31v
    generalize 100000=n
    unfold g31
    rw [h1,h2]
  exact ⟨x,by unfold g31ok; rw [e]; rfl,by unfold g31r0; rw [e]; rfl,h3⟩
theorem lqE (a b:List Nat):realA.lq a b=decide (a=b):=rfl
theorem rightOk {a:List Nat} (ha:W4 a):g50ok realA a=true∧g50r0 realA a=decide (num a<PP):=by
  obtain ⟨k1,x1,y1⟩:=load4 ha
  obtain ⟨k4,y4⟩:=store5 x1
  rw [fm_congr y1] at y4
  have e:g50v realA a=some (.v (.cell (.bool (decide (num a<PP))))):=by
    unfold g50v
    generalize 100000=n
    unfold g50
    rw [k1,k4,y4,lqE,Bool.and_true]
    have:(fm (num a)=a)↔num a<PP:=by
      constructor
      · intro h
        rw [← h,num_fm]
        exact Nat.mod_lt _ PP_pos
      · intro h
        unfold fm
        rw [Nat.mod_eq_of_lt h]
        exact fe_num ha
    rw [decide_eq_decide.2 this]
  exact ⟨by unfold g50ok; rw [e]; rfl,by unfold g50r0; rw [e]; rfl⟩
theorem smallOk {x:Nat} (hx:x<18446744073709551616):g42ok realA x=true∧g42r0 realA x=fe x:=by
  have e:g42v realA x=some (.v (.agg [.nums .u64 4 [x,0,0,0]])):=rfl
  refine ⟨by unfold g42ok; rw [e]; rfl, ?_⟩
  unfold g42r0
  rw [e]
  show [x,0,0,0]=_
  unfold fe
  rw [Nat.mod_eq_of_lt hx,Nat.div_eq_of_lt hx,Nat.div_eq_of_lt (Nat.lt_trans hx (by decide)),Nat.div_eq_of_lt (Nat.lt_trans hx (by decide))]
theorem oddB (y:Nat):(!(decide ((y%18446744073709551616)%2=0)))=decide (y%2=1):=by
  have h1:y%18446744073709551616%2=y%2:=by omega
  rw [h1]
  by_cases h:y%2=0
  · rw [decide_eq_true h,decide_eq_false (by omega)]; rfl
  · rw [decide_eq_false h,decide_eq_true (by omega)]; rfl
theorem oddC (a:List Nat) (y:Nat) (h:a.getD 0 0=y%18446744073709551616):realA.nc .neq (realA.nb .and .u64 (a.getD 0 0) 1) 0=decide (y%2=1):=by
  have:realA.nc .neq (realA.nb .and .u64 (a.getD 0 0) 1) 0= !(decide ((a.getD 0 0&&&1)=0)):=rfl
  rw [this,h,Nat.and_one_is_mod]
  exact oddB y
theorem oddOk {a:List Nat} (ha:W4 a):g34ok realA a=true∧g34r0 realA a=decide (num a%PP%2=1):=by
  obtain ⟨k1,x1,y1⟩:=load4 ha
  obtain ⟨k4,y4⟩:=store5 x1
  rw [fm_congr y1] at y4
  have e:g34v realA a=some (.v (.cell (.bool (decide (num a%PP%2=1))))):=by
    unfold g34v
    generalize 100000=n
    unfold g34
    rw [k1,k4,y4,oddC (fm (num a)) (num a%PP) rfl]
  exact ⟨by unfold g34ok; rw [e]; rfl,by unfold g34r0; rw [e]; rfl⟩
end Go.Sx
namespace Go.Sx
set_option linter.unusedSectionVars false
theorem mmod {x x' y y':Nat} (hx:x%PP=x'%PP) (hy:y%PP=y'%PP):x*y%PP=x'*y'%PP:=by rw [Nat.mul_mod,hx,hy,← Nat.mul_mod]
theorem pmod {x x':Nat} (hx:x%PP=x'%PP) (k:Nat):x^k%PP=x'^k%PP:=by rw [Nat.pow_mod,hx,← Nat.pow_mod]
theorem powstep (a w:Nat):a^w=a^(w%2)*(a*a)^(w/2):=by
  have h:w=w%2+2*(w/2):=by omega
  have h2:(a*a)^(w/2)=a^(2*(w/2)):=by rw [Nat.pow_mul]; congr 1; rw [Nat.pow_two]
  rw [h2,← Nat.pow_add,← h]
theorem sqpow (a r:Nat):(a*a)^(2^r)=a^(2^(r+1)):=by
  rw [show a*a=a^2 from (Nat.pow_two a).symm,← Nat.pow_mul,Nat.pow_succ,Nat.mul_comm]
theorem inner (n m i:Nat) (kk:AV→Heap→Option AV) (lg:List Nat→Int→List Nat→List Nat→List Nat→List Nat→Option AV) (b e c:List Nat) (hi:i<4) (hno:i≠3∨e.getD 3 0≠0) :
    ∀ (r k w:Nat) (a out:List Nat),k+r=64→w<2^r→LB a→LB out→∃ a' out',LB a'∧LB out'∧nv a'%PP=nv a^(2^r)%PP∧nv out'%PP=nv out*nv a^w%PP ∧
      g69L6 realA n kk lg (m+r+1) i w b i k a e c out=lg b ((i+1:Nat):Int) a' e c out':=by
  intro r
  induction r with
  | zero =>
    intro k w a out hk hw ha ho
    have hw0:w=0:=by rw [Nat.pow_zero] at hw; omega
    subst hw0
    refine ⟨a,out,ha,ho,by rw [Nat.pow_zero,Nat.pow_one],by rw [Nat.pow_zero,Nat.mul_one], ?_⟩
    have e1:realA.ib .add .i64 (i:Int) 1=((i+1:Nat):Int):=addN 1 (by omega)
    rw [g69L6,lssF (show ¬ (k:Int)<64 by omega)]
    simp only []
    rw [e1]
  | succ r ih =>
    intro k w a out hk hw ha ho
    have e1:realA.ib .add .i64 (k:Int) 1=((k+1:Nat):Int):=addN 1 (by omega)
    have e2:realA.nsh .shr .u64 w 1=w/2:=by show w/2^1=_; rw [Nat.pow_one]
    have e3:realA.nc .neq (realA.nb .and .u64 w 1) 0= !(decide (w%2=0)):=by show (!(decide ((w&&&1)=0)))=_; rw [Nat.and_one_is_mod]
    have hw2:w/2<2^r:=by rw [Nat.pow_succ] at hw; omega
    obtain ⟨ka,la,va⟩:=times5 ha ha
    have nobreak:g69L6 realA n kk lg (m+(r+1)+1) i w b i k a e c out=g69J8 realA n kk lg (g69L6 realA n kk lg (m+r+1)) i w b i k a e c out:=by
      rw [show m+(r+1)+1=(m+r+1)+1 from by omega,g69L6,lssT (show (k:Int)<64 by omega)]
      simp only []
      unfold g69J7
      by_cases h1:realA.nc .eql w 0=true
      · rw [h1]
        by_cases h2:realA.nc .eql (e.getD 3 0) 0=true
        · rw [h2]
          have h3:i≠3:=hno.elim id fun h=>absurd (of_decide_eq_true h2) h
          have h4:realA.ic .eql (i:Int) 3=false:=by show decide ((i:Int)=3)=false; exact decide_eq_false (by omega)
          rw [h4]
        · rw [Bool.not_eq_true] at h2
          rw [h2]
      · rw [Bool.not_eq_true] at h1
        rw [h1]
    rw [nobreak]
    by_cases hodd:w%2=0
    · obtain ⟨a',out',x1,x2,x3,x4,x5⟩:=ih (k+1) (w/2) (g57r0 realA a a) out (by omega) hw2 la ho
      refine ⟨a',out',x1,x2, ?_, ?_, ?_⟩
      · rw [x3,← sqpow]
        exact pmod va _
      · rw [x4,powstep (nv a) w,hodd,Nat.pow_zero,Nat.one_mul]
        exact mmod rfl (pmod va _)
      · unfold g69J8
        rw [e3,decide_eq_true hodd]
        simp only [Bool.not_true,g69J10,ka,e1,e2]
        exact x5
    · obtain ⟨ko,lo,vo⟩:=times5 ho ha
      obtain ⟨a',out',x1,x2,x3,x4,x5⟩:=ih (k+1) (w/2) (g57r0 realA a a) (g57r0 realA out a) (by omega) hw2 la lo
      refine ⟨a',out',x1,x2, ?_, ?_, ?_⟩
      · rw [x3,← sqpow]
        exact pmod va _
      · have h1:w%2=1:=by omega
        rw [x4,powstep (nv a) w,h1,Nat.pow_one,← Nat.mul_assoc]
        exact mmod vo (pmod va _)
      · unfold g69J8
        rw [e3,decide_eq_false hodd]
        simp only [Bool.not_false,ko,g69J10,ka,e1,e2]
        exact x5
def E64:Nat:=18446744073709551616
theorem outerStep (n0 m i:Nat) (kk:AV→Heap→Option AV) (b e c a out:List Nat) (hi:i<4) (hno:i≠3∨e.getD 3 0≠0) (hw:b.getD i 0<18446744073709551616) (ha:LB a) (ho:LB out) :
    ∃ a' out',LB a'∧LB out'∧nv a'%PP=nv a^E64%PP∧nv out'%PP=nv out*nv a^(b.getD i 0)%PP ∧
      g69L3 realA (n0+65) kk (m+1) b i a e c out=g69L3 realA (n0+65) kk m b ((i+1:Nat):Int) a' e c out':=by
  obtain ⟨a',out',x1,x2,x3,x4,x5⟩:=inner (n0+65) n0 i kk (g69L3 realA (n0+65) kk m) b e c hi hno 64 0 (b.getD i 0) a out rfl hw ha ho
  rw [show (2:Nat)^64=E64 from rfl] at x3
  refine ⟨a',out',x1,x2,x3,x4, ?_⟩
  rw [g69L3,lssT (show (i:Int)<4 by omega)]
  simp only [g69J4,negN,toNN,ltT hi]
  exact x5
theorem LB_one:LB [1,0,0,0,0]:=⟨1,0,0,0,0,rfl,by decide,by decide,by decide,by decide,by decide⟩
theorem expo (a0 a1 a2 a3 o0 o1 o2 o3 o4 e0 e1 e2 e3:Nat) (h1:a1%PP=a0^E64%PP) (h2:a2%PP=a1^E64%PP) (h3:a3%PP=a2^E64%PP)
    (g0:o0=1) (g1:o1%PP=o0*a0^e0%PP) (g2:o2%PP=o1*a1^e1%PP) (g3:o3%PP=o2*a2^e2%PP) (g4:o4%PP=o3*a3^e3%PP):o4%PP=a0^(v64 e0 e1 e2 e3)%PP:=by
  have p2:a2%PP=a0^(E64*E64)%PP:=by
    rw [h2,pmod h1,← Nat.pow_mul]
  have p3:a3%PP=a0^(E64*E64*E64)%PP:=by
    rw [h3,pmod p2,← Nat.pow_mul]
  have r1:a1^e1%PP=a0^(E64*e1)%PP:=by rw [pmod h1,← Nat.pow_mul]
  have r2:a2^e2%PP=a0^(E64*E64*e2)%PP:=by rw [pmod p2,← Nat.pow_mul]
  have r3:a3^e3%PP=a0^(E64*E64*E64*e3)%PP:=by rw [pmod p3,← Nat.pow_mul]
  have ev:v64 e0 e1 e2 e3=e0+E64*e1+E64*E64*e2+E64*E64*E64*e3:=by unfold v64 E64; omega
  rw [ev,Nat.pow_add,Nat.pow_add,Nat.pow_add]
  rw [g0,Nat.one_mul] at g1
  exact g4.trans (mmod (g3.trans (mmod (g2.trans (mmod g1 r1)) r2)) r3)
theorem powerE {a b:List Nat} (ha:LB a) (hb:W4 b):g69ok realA a b=true∧LB (g69r0 realA a b)∧nv (g69r0 realA a b)%PP=nv a^num b%PP:=by
  obtain ⟨e0,e1,e2,e3,rfl,b0,b1,b2,b3⟩:=hb
  suffices h:∃ out,LB out∧nv out%PP=nv a^num [e0,e1,e2,e3]%PP∧g69v realA a [e0,e1,e2,e3]=some (.v (.agg [.nums .u64 5 out])) by
    obtain ⟨out,h1,h2,h3⟩:=h
    obtain ⟨o0,o1,o2,o3,o4,rfl,q⟩:=h1
    have r:g69r0 realA a [e0,e1,e2,e3]=[o0,o1,o2,o3,o4]:=by unfold g69r0; rw [h3]; rfl
    exact ⟨by unfold g69ok; rw [h3]; rfl,by rw [r]; exact ⟨o0,o1,o2,o3,o4,rfl,q⟩,by rw [r]; exact h2⟩
  obtain ⟨a1,o1,la1,lo1,va1,vo1,s1⟩:=outerStep 99935 99999 0 (fun v _=>some v) [e0,e1,e2,e3] [e0,e1,e2,e3] [0,0,0,0,0] a [1,0,0,0,0] (by decide) (.inl (by decide)) b0 ha LB_one
  obtain ⟨a2,o2,la2,lo2,va2,vo2,s2⟩:=outerStep 99935 99998 1 (fun v _=>some v) [e0,e1,e2,e3] [e0,e1,e2,e3] [0,0,0,0,0] a1 o1 (by decide) (.inl (by decide)) b1 la1 lo1
  obtain ⟨a3,o3,la3,lo3,va3,vo3,s3⟩:=outerStep 99935 99997 2 (fun v _=>some v) [e0,e1,e2,e3] [e0,e1,e2,e3] [0,0,0,0,0] a2 o2 (by decide) (.inl (by decide)) b2 la2 lo2
  have st:g69v realA a [e0,e1,e2,e3]=g69L3 realA (99935+65) (fun v _=>some v) (99999+1) [e0,e1,e2,e3] ((0:Nat):Int) a [e0,e1,e2,e3] [0,0,0,0,0] [1,0,0,0,0]:=rfl
  by_cases h3:e3=0
  · subst h3
    refine ⟨o3,lo3, ?_, ?_⟩
    · exact expo (nv a) (nv a1) (nv a2) (nv a3) 1 (nv o1) (nv o2) (nv o3) (nv o3) e0 e1 e2 0 va1 va2 va3 rfl vo1 vo2 vo3 (by rw [Nat.pow_zero,Nat.mul_one])
    · rw [st]
      refine s1.trans (s2.trans (s3.trans ?_))
      generalize 99935=N
      rw [show (99997:Nat)=99996+1 from rfl]
      generalize 99996=M
      rw [g69L3,lssT (show (((2+1:Nat)):Int)<4 by decide)]
      simp only [g69J4,negN,toNN,ltT (show 2+1<4 by decide)]
      rw [show N+65=(N+64)+1 from rfl]
      rw [g69L6]
      rfl
  · obtain ⟨a4,o4,la4,lo4,va4,vo4,s4⟩:=outerStep 99935 99996 3 (fun v _=>some v) [e0,e1,e2,e3] [e0,e1,e2,e3] [0,0,0,0,0] a3 o3 (by decide) (.inr h3) b3 la3 lo3
    refine ⟨o4,lo4, ?_, ?_⟩
    · exact expo (nv a) (nv a1) (nv a2) (nv a3) 1 (nv o1) (nv o2) (nv o3) (nv o4) e0 e1 e2 e3 va1 va2 va3 rfl vo1 vo2 vo3 vo4
    · rw [st]
      refine s1.trans (s2.trans (s3.trans (s4.trans ?_)))
      generalize 99935=N
      rw [show (99996:Nat)=99995+1 from rfl]
      generalize 99995=M
      rw [g69L3]
      rfl
theorem powOk {a b:List Nat} (ha:W4 a) (hb:W4 b):g58ok realA a b=true∧g58r0 realA a b=fm (num a^num b):=by
  obtain ⟨k1,x1,y1⟩:=load4 ha
  obtain ⟨k2,x2,y2⟩:=powerE x1 hb
  obtain ⟨k4,y4⟩:=store5 x2
  have e:g58v realA a b=some (.v (.agg [.nums .u64 4 (fm (num a^num b))])):=by
    unfold g58v
    generalize 100000=n
    unfold g58
    rw [k1,k2,k4,y4]
    rw [fm_congr (y2.trans (pmod y1 _))]
  exact ⟨by unfold g58ok; rw [e]; rfl,by unfold g58r0; rw [e]; rfl⟩
def pwGo:Nat→Nat→Nat→Nat→Nat
  | 0,_,_,acc=>acc
  | f+1,b,e,acc=>match Nat.beq e 0 with
    | true=>acc
    | false=>match Nat.beq (e%2) 1 with
      | true=>pwGo f (b*b%PP) (e/2) (acc*b%PP)
      | false=>pwGo f (b*b%PP) (e/2) acc
def pw (b e:Nat):Nat:=pwGo 256 b e 1%PP
theorem pwGo_spec:∀ (f b e acc:Nat),e<2^f→pwGo f b e acc%PP=acc*b^e%PP:=by
  intro f
  induction f with
  | zero =>
    intro b e acc h
    have:e=0:=by rw [Nat.pow_zero] at h; omega
    subst this
    rw [Nat.pow_zero,Nat.mul_one]
    rfl
  | succ f ih =>
    intro b e acc h
    have h2:e/2<2^f:=by rw [Nat.pow_succ] at h; omega
    unfold pwGo
    split
    · rename_i h0
      rw [beq_true h0,Nat.pow_zero,Nat.mul_one]
    · split
      · rename_i h1
        rw [ih _ _ _ h2,powstep b e,beq_true h1,Nat.pow_one,← Nat.mul_assoc]
        exact mmod (Nat.mod_mod _ _) (pmod (Nat.mod_mod _ _) _)
      · rename_i h1
        have:e%2=0:=by
          have:¬ e%2=1:=fun q=>by rw [q] at h1; cases h1
          omega
        rw [ih _ _ _ h2,powstep b e,this,Nat.pow_zero,Nat.one_mul]
        exact mmod rfl (pmod (Nat.mod_mod _ _) _)
theorem pw_spec (b e:Nat) (h:e<2^256):pw b e=b^e%PP:=by
  unfold pw
  rw [pwGo_spec 256 b e 1 h,Nat.one_mul]
end Go.Sx
namespace Go.Sx
set_option linter.unusedSectionVars false
def KK:Nat:=7237005577332262213973186563042994240829374041602535252466099000494570602493
def QQ:Nat:=14474011154664524427946373126085988481658748083205070504932198000989141204987
def finN (x:Nat):Nat:=match Nat.beq (x%2) 1 with
  | true=>PP - x
  | false=>x
def rootX (u v:Nat):Nat:=u*(v*(v*v%PP)%PP)%PP*pw (u*(v*((v*(v*v%PP)%PP)*(v*(v*v%PP)%PP)%PP)%PP)%PP) KK%PP
def rootC (u v:Nat):Nat:=v*(rootX u v*rootX u v%PP)%PP
def rootN (u v:Nat):Nat × Bool:=match Nat.beq (rootC u v) (u%PP) with
  | true=>(finN (rootX u v),true)
  | false=>match Nat.beq ((rootC u v+u%PP)%PP) 0 with
    | true=>(finN (rootX u v*pw 2 QQ%PP),true)
    | false=>(0,false)
theorem fe_eq {x y:Nat} (hx:x<PP) (hy:y<PP):fe x=fe y↔x=y:=by
  constructor
  · intro h
    have:=congrArg num h
    rw [num_fe (Nat.lt_trans hx (by decide)),num_fe (Nat.lt_trans hy (by decide))] at this
    exact this
  · intro h; rw [h]
theorem mulFm (x y:Nat):g41ok realA (fe x) (fe y)=true∧(x<PP→y<PP→g41r0 realA (fe x) (fe y)=fe (x*y%PP)):=by
  obtain ⟨h1,h2⟩:=mulOk (fe_W4 x) (fe_W4 y)
  refine ⟨h1,fun hx hy=> ?_⟩
  rw [h2,num_fe (Nat.lt_trans hx (by decide)),num_fe (Nat.lt_trans hy (by decide))]
  rfl
theorem negFm {x:Nat} (hx:x<PP):g31ok realA (fe x)=true∧g31r0 realA (fe x)=fe ((PP - x)%PP):=by
  obtain ⟨z,h1,h2,h3⟩:=negOk (fe_W4 x)
  rw [num_fe (Nat.lt_trans hx (by decide))] at h3
  refine ⟨h1, ?_⟩
  rw [h2]
  unfold fm
  have:z%PP=(PP - x)%PP:=by
    have hz:=Nat.mod_lt z PP_pos
    have e:(z%PP+x)%PP=0:=by rw [Nat.mod_add_mod]; exact h3
    generalize z%PP=y at *
    unfold PP at *
    omega
  rw [this]
theorem fin10 (n:Nat) (d:List Nat) {x:Nat} (hx:x<PP):g51J10 realA n (fun v _=>some v) d (fe x)=some (.tup [.agg [.nums .u64 4 (fe (finN x))],.cell (.bool true)]):=by
  obtain ⟨o1,o2⟩:=oddOk (fe_W4 x)
  obtain ⟨n1,n2⟩:=negFm hx
  rw [num_fe (Nat.lt_trans hx (by decide)),Nat.mod_eq_of_lt hx] at o2
  unfold g51J10 finN
  rw [o1,o2]
  by_cases h:x%2=1
  · rw [decide_eq_true h,h]
    simp only [n1,n2]
    have:(PP - x)%PP=PP - x:=Nat.mod_eq_of_lt (by unfold PP at *; omega)
    rw [this]
  · rw [decide_eq_false h]
    have:Nat.beq (x%2) 1=false:=by
      cases hb:Nat.beq (x%2) 1 with
      | true=>exact absurd (beq_true hb) h
      | false=>rfl
    rw [this]
theorem W4k:W4 [18446744073709551613,18446744073709551615,18446744073709551615,1152921504606846975]:=⟨_,_,_,_,rfl,by decide,by decide,by decide,by decide⟩
theorem W4q:W4 [18446744073709551611,18446744073709551615,18446744073709551615,2305843009213693951]:=⟨_,_,_,_,rfl,by decide,by decide,by decide,by decide⟩
theorem powFm {x:Nat} (hx:x<PP):(g58ok realA (fe x) [18446744073709551613,18446744073709551615,18446744073709551615,1152921504606846975]=true∧g58r0 realA (fe x) [18446744073709551613,18446744073709551615,18446744073709551615,1152921504606846975]=fe (pw x KK)) ∧
    g58ok realA (fe x) [18446744073709551611,18446744073709551615,18446744073709551615,2305843009213693951]=true∧g58r0 realA (fe x) [18446744073709551611,18446744073709551615,18446744073709551615,2305843009213693951]=fe (pw x QQ):=by
  obtain ⟨h1,h2⟩:=powOk (fe_W4 x) W4k
  obtain ⟨h3,h4⟩:=powOk (fe_W4 x) W4q
  rw [num_fe (Nat.lt_trans hx (by decide))] at h2 h4
  have e1:num [18446744073709551613,18446744073709551615,18446744073709551615,1152921504606846975]=KK:=by decide
  have e2:num [18446744073709551611,18446744073709551615,18446744073709551615,2305843009213693951]=QQ:=by decide
  rw [e1] at h2
  rw [e2] at h4
  refine ⟨⟨h1, ?_⟩,h3, ?_⟩
  · rw [h2,pw_spec x KK (by decide)]; rfl
  · rw [h4,pw_spec x QQ (by decide)]; rfl
theorem lqF {x y:Nat} (hx:x<PP) (hy:y<PP):realA.lq (fe x) (fe y)=Nat.beq x y:=by
  rw [lqE]
  cases hb:Nat.beq x y with
  | true=>exact decide_eq_true (by rw [beq_true hb])
  | false=>exact decide_eq_false (fun h=>by rw [(fe_eq hx hy).1 h] at hb; simp [Nat.beq_refl] at hb)
theorem pw_lt (b e:Nat):pw b e<PP:=Nat.mod_lt _ PP_pos
theorem rootE {u v:Nat} (hu:u<PP) (hv:v<PP):g51v realA (fe u) (fe v)=some (.tup [.agg [.nums .u64 4 (fe (rootN u v).1)],.cell (.bool (rootN u v).2)]):=by
  have m:=fun x=>Nat.mod_lt x PP_pos
  unfold g51v
  generalize 100000=n
  obtain ⟨k1,x1,y1⟩:=load4 (fe_W4 u)
  obtain ⟨k4,y4⟩:=store5 x1
  have want:g56r0 realA (g55r0 realA (fe u))=fe (u%PP):=by
    rw [y4,fm_congr y1,num_fe (Nat.lt_trans hu (by decide))]; rfl
  have ew:((((([0,0,0,0]:List Nat).set 0 18446744073709551613).set 1 18446744073709551615).set 2 18446744073709551615).set 3 1152921504606846975)=[18446744073709551613,18446744073709551615,18446744073709551615,1152921504606846975]:=rfl
  have ew2:((((([0,0,0,0]:List Nat).set 0 18446744073709551611).set 1 18446744073709551615).set 2 18446744073709551615).set 3 2305843009213693951)=[18446744073709551611,18446744073709551615,18446744073709551615,2305843009213693951]:=rfl
  unfold g51
  rw [ew,ew2]
  rw [(mulFm v v).1,(mulFm v v).2 hv hv]
  rw [(mulFm v (v*v%PP)).1,(mulFm v (v*v%PP)).2 hv (m _)]
  rw [(mulFm (v*(v*v%PP)%PP) (v*(v*v%PP)%PP)).1,(mulFm (v*(v*v%PP)%PP) (v*(v*v%PP)%PP)).2 (m _) (m _)]
  rw [(mulFm v ((v*(v*v%PP)%PP)*(v*(v*v%PP)%PP)%PP)).1,(mulFm v ((v*(v*v%PP)%PP)*(v*(v*v%PP)%PP)%PP)).2 hv (m _)]
  rw [(mulFm u (v*(v*v%PP)%PP)).1,(mulFm u (v*(v*v%PP)%PP)).2 hu (m _)]
  rw [(mulFm u (v*((v*(v*v%PP)%PP)*(v*(v*v%PP)%PP)%PP)%PP)).1,(mulFm u (v*((v*(v*v%PP)%PP)*(v*(v*v%PP)%PP)%PP)%PP)).2 hu (m _)]
  rw [(powFm (m (u*(v*((v*(v*v%PP)%PP)*(v*(v*v%PP)%PP)%PP)%PP)))).1.1,(powFm (m (u*(v*((v*(v*v%PP)%PP)*(v*(v*v%PP)%PP)%PP)%PP)))).1.2]
  rw [(mulFm _ _).1,(mulFm _ _).2 (m _) (pw_lt _ _)]
  rw [show u*(v*(v*v%PP)%PP)%PP*pw (u*(v*((v*(v*v%PP)%PP)*(v*(v*v%PP)%PP)%PP)%PP)%PP) KK%PP=rootX u v from rfl]
  have hX:rootX u v<PP:=m _
  have hC:rootC u v<PP:=m _
  rw [k1,k4,(mulFm (rootX u v) (rootX u v)).1,(mulFm (rootX u v) (rootX u v)).2 hX hX]
  rw [(mulFm v (rootX u v*rootX u v%PP)).1,(mulFm v (rootX u v*rootX u v%PP)).2 hv (m _)]
  rw [show v*(rootX u v*rootX u v%PP)%PP=rootC u v from rfl,want,lqF hC (m _)]
  obtain ⟨n1,n2⟩:=negFm (m u)
  obtain ⟨s1,s2⟩:=smallOk (x:=2) (by decide)
  rw [n1,n2,lqF hC (m _),s1,s2,(powFm (show 2<PP by decide)).2.1,(powFm (show 2<PP by decide)).2.2]
  rw [(mulFm (rootX u v) (pw 2 QQ)).1,(mulFm (rootX u v) (pw 2 QQ)).2 hX (pw_lt _ _)]
  rw [fin10 n _ hX,fin10 n _ (m _)]
  unfold rootN
  have hsw:Nat.beq (rootC u v) ((PP - u%PP)%PP)=Nat.beq ((rootC u v+u%PP)%PP) 0:=by
    have hw:=m u
    generalize u%PP=w at *
    generalize rootC u v=c at *
    have:c=(PP - w)%PP↔(c+w)%PP=0:=by unfold PP at *; omega
    cases h1:Nat.beq c ((PP - w)%PP) with
    | true=>rw [this.1 (beq_true h1)]; rfl
    | false =>
      cases h2:Nat.beq ((c+w)%PP) 0 with
      | true=>rw [← this.2 (beq_true h2)] at h1; simp [Nat.beq_refl] at h1
      | false=>rfl
  rw [hsw,Bool.and_true,Bool.and_true]
  clear hsw n1 n2 s1 s2 ew ew2 k1 k4 x1 y1 y4 want m hX hC
  generalize finN (rootX u v)=X1
  generalize finN (rootX u v*pw 2 QQ%PP)=X2
  generalize Nat.beq ((rootC u v+u%PP)%PP) 0=c2
  generalize Nat.beq (rootC u v) (u%PP)=c1
  cases c1 with
  | true=>rfl
  | false =>
    cases c2 with
    | true=>rfl
    | false =>
      show some (AV.tup [.agg [.nums .u64 4 [0,0,0,0]],.cell (.bool false)])=some (AV.tup [.agg [.nums .u64 4 (fe 0)],.cell (.bool false)])
      rw [show fe 0=[0,0,0,0] by decide]
theorem rootOk {u v:Nat} (hu:u<PP) (hv:v<PP):g51ok realA (fe u) (fe v)=true∧g51r0 realA (fe u) (fe v)=fe (rootN u v).1∧g51r1 realA (fe u) (fe v)=(rootN u v).2:=by
  have e:=rootE hu hv
  exact ⟨by unfold g51ok; rw [e]; rfl,by unfold g51r0; rw [e]; rfl,by unfold g51r1; rw [e]; rfl⟩
end Go.Sx
namespace Go.Sx
set_option linter.unusedSectionVars false
end Go.Sx
namespace Go.Sx
set_option linter.unusedSectionVars false
def leval:List Nat→Nat
  | []=>0
  | x::r=>x+256*leval r
def le32 (v:Nat):List Nat:=(List.range 32).map fun i=>v/256^i%256
theorem le32_length (v:Nat):(le32 v).length=32:=by simp [le32]
theorem le32_lt (v:Nat):∀ x ∈ le32 v,x<256:=by
  intro x hx
  simp only [le32,List.mem_map] at hx
  obtain ⟨i,_,rfl⟩:=hx
  omega
theorem leval_lt {l:List Nat} (h:∀ x ∈ l,x<256):leval l<256^l.length:=by
  induction l with
  | nil=>simp [leval]
  | cons x r ih =>
    have h1:=ih fun y hy=>h y (List.mem_cons_of_mem _ hy)
    have h2:=h x (List.mem_cons_self ..)
    simp only [leval,List.length_cons,Nat.pow_succ]
    omega
theorem leval_append (a b:List Nat):leval (a++b)=leval a+256^a.length*leval b:=by
  induction a with
  | nil=>simp [leval]
  | cons x r ih =>
    simp only [List.cons_append,leval,ih,List.length_cons,Nat.pow_succ]
    grind
theorem leval_range (v k:Nat):leval ((List.range k).map fun i=>v/256^i%256)=v%256^k:=by
  induction k with
  | zero=>simp [leval,Nat.mod_one]
  | succ k ih =>
    rw [List.range_succ,List.map_append,leval_append,ih]
    simp only [List.map_cons,List.map_nil,leval,List.length_map,List.length_range,Nat.mul_zero,Nat.add_zero]
    have h1:v%256^(k+1)=v%256^k+256^k*(v/256^k%256):=by
      rw [Nat.pow_succ,Nat.mod_mul]
    omega
theorem leval_le32 (v:Nat) (h:v<256^32):leval (le32 v)=v:=by
  unfold le32
  rw [leval_range,Nat.mod_eq_of_lt h]
theorem le32_leval {l:List Nat} (h:∀ x ∈ l,x<256) (hl:l.length=32):le32 (leval l)=l:=by
  have key:∀ (k:Nat) (l:List Nat),(∀ x ∈ l,x<256)→l.length=k→(List.range k).map (fun i=>leval l/256^i%256)=l:=by
    intro k
    induction k with
    | zero=>intro l _ hl; rw [List.length_eq_zero_iff.1 hl]; rfl
    | succ k ih =>
      intro l h hl
      cases l with
      | nil=>simp at hl
      | cons x r =>
        have h2:=h x (List.mem_cons_self ..)
        rw [List.range_succ_eq_map,List.map_cons,List.map_map]
        have e0:leval (x::r)/256^0%256=x:=by simp only [leval,Nat.pow_zero,Nat.div_one]; omega
        rw [e0]
        congr 1
        refine Eq.trans ?_ (ih r (fun y hy=>h y (List.mem_cons_of_mem _ hy)) (by simpa using hl))
        apply List.map_congr_left
        intro i _
        show leval (x::r)/256^(i+1)%256=_
        have:leval (x::r)/256^(i+1)=leval r/256^i:=by
          rw [Nat.pow_succ,Nat.mul_comm,← Nat.div_div_eq_div_mul]
          congr 1
          simp only [leval]
          omega
        rw [this]
  exact key 32 l h hl
theorem take_set (l:List Nat) (i y:Nat) (h:i<l.length):(l.set i y).take (i+1)=l.take i++[y]:=by
  rw [List.take_add_one,List.getElem?_set_self h]
  congr 1
  rw [List.take_set_of_le (Nat.le_refl i)]
theorem leval_drop (l:List Nat) (k:Nat) (h:k<l.length):leval (l.drop k)=l.getD k 0+256*leval (l.drop (k+1)):=by
  rw [List.drop_eq_getElem_cons h,leval,List.getD_eq_getElem?_getD,List.getElem?_eq_getElem h]
  rfl
end Go.Sx
namespace Go.Sx
set_option linter.unusedSectionVars false
theorem byteW (w0 w1 w2 w3:Nat) (h0:w0<18446744073709551616) (h1:w1<18446744073709551616) (h2:w2<18446744073709551616) (h3:w3<18446744073709551616) (j:Nat) (hj:j<32) :
    [w0,w1,w2,w3].getD (j/8) 0/2^(8*(j%8))%256=v64 w0 w1 w2 w3/256^j%256:=by
  unfold v64
  have:j=0∨j=1∨j=2∨j=3∨j=4∨j=5∨j=6∨j=7∨j=8∨j=9∨j=10∨j=11∨j=12∨j=13∨j=14∨j=15∨j=16∨j=17∨j=18∨j=19∨j=20∨j=21∨j=22∨j=23∨j=24∨j=25∨j=26∨j=27∨j=28∨j=29∨j=30∨j=31:=by omega
  rcases this with h | h | h | h | h | h | h | h | h | h | h | h | h | h | h | h | h | h | h | h | h | h | h | h | h | h | h | h | h | h | h | h <;> subst h <;> simp only [Nat.reduceDiv,Nat.reduceMod,Nat.reduceMul,Nat.reducePow,List.getD_cons_zero,List.getD_cons_succ] <;> omega
def bl (X n:Nat):List Nat:=(List.range n).map fun i=>X/256^i%256
theorem bl_len (X n:Nat):(bl X n).length=n:=by simp [bl]
theorem bl_succ (X n:Nat):bl X n++[X/256^n%256]=bl X (n+1):=by unfold bl; rw [List.range_succ,List.map_append]; rfl
theorem eqT {a b:Nat} (h:a=b):realA.eq a b=true:=show decide (a=b)=true from decide_eq_true h
theorem leT {a b:Nat} (h:a≤b):realA.le a b=true:=show decide (a≤b)=true from decide_eq_true h
theorem mulIg {a b:Int} (h: -9223372036854775808≤a*b∧a*b<9223372036854775808):realA.ib .mul .i64 a b=a*b:=wrap64 h
theorem bInner (n m i X x:Nat) (w:List Nat) (lg:Nat→List Nat→Int→Nat→List Nat→Option AV) (hi:i<4) (hx:∀ k,k<8→x/2^(8*k)%256=X/256^(8*i+k)%256) :
    ∀ (r k:Nat),k+r=8→g33L7 realA n (fun v _=>some v) lg (m+r+1) (8*i+k) x w i k (8*i+k) (bl X (8*i+k))=lg (8*(i+1)) w ((i+1:Nat):Int) (8*(i+1)) (bl X (8*(i+1))):=by
  intro r
  induction r with
  | zero =>
    intro k hk
    have:k=8:=by omega
    subst this
    have e1:realA.ib .add .i64 (i:Int) 1=((i+1:Nat):Int):=addN 1 (by omega)
    rw [g33L7,lssF (by omega)]
    simp only []
    rw [e1,show 8*i+8=8*(i+1) by omega]
  | succ r ih =>
    intro k hk
    have e1:realA.ib .mul .i64 8 (k:Int)=((8*k:Nat):Int):=by rw [mulIg (by omega)]; omega
    have e2:realA.ib .add .i64 (k:Int) 1=((k+1:Nat):Int):=addN 1 (by omega)
    have e3:realA.n2n .u8 (realA.nsh .shr .u64 x (8*k))=X/256^(8*i+k)%256:=hx k (by omega)
    have e4:∀ y:Nat,[y].take 1=[y]:=fun y=>rfl
    rw [show m+(r+1)+1=(m+r+1)+1 from by omega,g33L7,lssT (show (k:Int)<8 by omega)]
    simp only [g33J8,e1,negN,toNN,e3,e4,bl_succ,eqT (show 8*i+k=8*i+k+0 from rfl),bl_len,leT (show 8*i+k+1≤140737488355328 by omega),e2]
    exact ih (k+1) (by omega)
theorem bOuter (N w0 w1 w2 w3:Nat) (h0:w0<18446744073709551616) (h1:w1<18446744073709551616) (h2:w2<18446744073709551616) (h3:w3<18446744073709551616):∀ (r i m:Nat),i+r=4 →
    g33L4 realA (N+9) (fun v _=>some v) (m+r+1) (8*i) [w0,w1,w2,w3] i (8*i) (bl (v64 w0 w1 w2 w3) (8*i))=some (.v (.cell (.str (bl (v64 w0 w1 w2 w3) 32)))):=by
  intro r
  induction r with
  | zero =>
    intro i m hi
    have:i=4:=by omega
    subst this
    rw [g33L4,lssF (by omega)]
    simp only []
    rw [List.take_of_length_le (by rw [bl_len]; omega)]
  | succ r ih =>
    intro i m hi
    rw [show m+(r+1)+1=(m+r+1)+1 from by omega,g33L4,lssT (show (i:Int)<4 by omega)]
    simp only [g33J5,negN,toNN,ltT (show i<4 by omega)]
    have hx:∀ k,k<8→[w0,w1,w2,w3].getD i 0/2^(8*k)%256=v64 w0 w1 w2 w3/256^(8*i+k)%256:=by
      intro k hk
      have:=byteW w0 w1 w2 w3 h0 h1 h2 h3 (8*i+k) (by omega)
      rw [show (8*i+k)/8=i by omega,show (8*i+k)%8=k by omega] at this
      exact this
    exact (bInner (N+9) N i (v64 w0 w1 w2 w3) ([w0,w1,w2,w3].getD i 0) [w0,w1,w2,w3] (g33L4 realA (N+9) (fun v _=>some v) (m+r+1)) (by omega) hx 8 0 rfl).trans (ih (i+1) m (by omega))
theorem g33Shape (A:Ar) (n:Nat) (a l w:List Nat) (k1:g55ok A a=true) (k2:g55r0 A a=l) (k3:g56ok A l=true) (k4:g56r0 A l=w) (e1:A.le 0 32=true) (e2:A.le 32 140737488355328=true) :
    g33 A n (fun v _=>some v) a=g33L4 A n (fun v _=>some v) n 0 w 0 0 []:=by
  unfold g33
  rw [k1,k2,k3,k4,e1,e2]
  rfl
theorem bytesOk {a:List Nat} (ha:W4 a):g33ok realA a=true∧g33r0 realA a=le32 (num a%PP):=by
  obtain ⟨k1,x1,y1⟩:=load4 ha
  obtain ⟨k4,y4⟩:=store5 x1
  rw [fm_congr y1] at y4
  obtain ⟨w0,w1,w2,w3,ew,h0,h1,h2,h3⟩:=fm_W4 (num a)
  have hv:v64 w0 w1 w2 w3=num a%PP:=by
    have:=num_fm (num a)
    rw [ew] at this
    exact this
  have e:g33v realA a=some (.v (.cell (.str (le32 (num a%PP))))):=by
    refine (g33Shape realA 100000 a _ _ k1 rfl k4 y4 (leT (by decide)) (leT (by decide))).trans ?_
    rw [ew]
    have:=bOuter 99991 w0 w1 w2 w3 h0 h1 h2 h3 4 0 99995 rfl
    rw [hv] at this
    exact this
  exact ⟨by unfold g33ok; rw [e]; rfl,by unfold g33r0; rw [e]; rfl⟩
theorem mInner (n m i:Nat) (s:List Nat) (hs:∀ x ∈ s,x<256) (hl:s.length=32) (d:List Nat) (lg:List Nat→Int→List Nat→List Nat→Option AV) (hi:i<4) :
    ∀ (r k:Nat) (w:List Nat),k+r=8→w.length=4→w.getD i 0=leval ((s.drop (8*i)).take k) →
      g29L8 realA n (fun v _=>some v) lg (m+r+1) s i i k d w=lg s ((i+1:Nat):Int) d (w.set i (leval ((s.drop (8*i)).take 8))):=by
  intro r
  induction r with
  | zero =>
    intro k w hk hw hv
    have:k=8:=by omega
    subst this
    have e1:realA.ib .add .i64 (i:Int) 1=((i+1:Nat):Int):=addN 1 (by omega)
    rw [g29L8,lssF (by omega)]
    simp only []
    rw [e1,← hv]
    congr 1
    rw [List.getD_eq_getElem?_getD,List.getElem?_eq_getElem (by omega)]
    simp
  | succ r ih =>
    intro k w hk hw hv
    have e1:realA.ib .mul .i64 8 (k:Int)=((8*k:Nat):Int):=by rw [mulIg (by omega)]; omega
    have e1':realA.ib .mul .i64 8 (i:Int)=((8*i:Nat):Int):=by rw [mulIg (by omega)]; omega
    have e2:realA.ib .add .i64 (k:Int) 1=((k+1:Nat):Int):=addN 1 (by omega)
    have e3:realA.ib .add .i64 ((8*i:Nat):Int) (k:Int)=((8*i+k:Nat):Int):=addN k (by omega)
    have hb:=getD_lt hs (8*i+k)
    have hlt:leval ((s.drop (8*i)).take k)<256^k:=by
      have h:=leval_lt (l:=(s.drop (8*i)).take k) (fun x hx=>hs x (List.mem_of_mem_drop (List.mem_of_mem_take hx)))
      have hlen:((s.drop (8*i)).take k).length=k:=by rw [List.length_take,List.length_drop]; omega
      rwa [hlen] at h
    have ht:(s.drop (8*i)).take (k+1)=(s.drop (8*i)).take k++[s.getD (8*i+k) 0]:=by
      rw [List.take_add_one,List.getElem?_drop,List.getElem?_eq_getElem (by omega),List.getD_eq_getElem?_getD,List.getElem?_eq_getElem (by omega)]
      rfl
    have hnew:leval ((s.drop (8*i)).take (k+1))=leval ((s.drop (8*i)).take k)+256^k*s.getD (8*i+k) 0:=by
      have hlen:((s.drop (8*i)).take k).length=k:=by rw [List.length_take,List.length_drop]; omega
      rw [ht,leval_append,hlen]
      simp only [leval,Nat.mul_zero,Nat.add_zero]
    have e4:realA.nb .or .u64 (w.getD i 0) (realA.nsh .shl .u64 (s.getD (8*i+k) 0) (8*k))=leval ((s.drop (8*i)).take (k+1)):=by
      show (w.getD i 0)|||(s.getD (8*i+k) 0*2^(8*k)%2^64)=_
      have hk7:2^(8*k)*256≤2^64:=by
        rw [show (256:Nat)=2^8 from rfl,← Nat.pow_add]
        exact Nat.pow_le_pow_right (by omega) (by omega)
      have hsm:s.getD (8*i+k) 0*2^(8*k)<2^64:=by
        refine Nat.lt_of_lt_of_le ?_ hk7
        rw [Nat.mul_comm]
        exact Nat.mul_lt_mul_of_pos_left hb (Nat.two_pow_pos _)
      rw [Nat.mod_eq_of_lt hsm,Nat.mul_comm,Nat.or_comm,hv,hnew,show (256:Nat)^k=2^(8*k) by rw [Nat.pow_mul]]
      rw [orlo (8*k) _ _ (by rw [Nat.pow_mul]; exact hlt),Nat.add_comm]
    rw [show m+(r+1)+1=(m+r+1)+1 from by omega,g29L8,lssT (show (k:Int)<8 by omega)]
    simp only [g29J9,negN,toNN,e1,e1',e2,e3,ltT hi,ltT (show 8*i+k<s.length by omega),e4]
    have:=ih (k+1) (w.set i (leval ((s.drop (8*i)).take (k+1)))) (by omega) (by simp [hw]) (by rw [getD_set_same _ _ _ (by omega)])
    rw [List.set_set] at this
    exact this
theorem chunk_lt (s:List Nat) (hs:∀ x ∈ s,x<256) (i:Nat):leval ((s.drop (8*i)).take 8)<18446744073709551616:=by
  have h:=leval_lt (l:=(s.drop (8*i)).take 8) (fun x hx=>hs x (List.mem_of_mem_drop (List.mem_of_mem_take hx)))
  have h2:256^((s.drop (8*i)).take 8).length≤256^8:=Nat.pow_le_pow_right (by omega) (by rw [List.length_take]; omega)
  exact Nat.lt_of_lt_of_le h h2
theorem leval_split (s:List Nat) (k:Nat) (h:k≤s.length):leval s=leval (s.take k)+256^k*leval (s.drop k):=by
  have e:=leval_append (s.take k) (s.drop k)
  rw [List.take_append_drop,List.length_take,Nat.min_eq_left h] at e
  exact e
theorem chunks (s:List Nat) (hl:s.length=32):leval s=v64 (leval ((s.drop (8*0)).take 8)) (leval ((s.drop (8*1)).take 8)) (leval ((s.drop (8*2)).take 8)) (leval ((s.drop (8*3)).take 8)):=by
  have h0:=leval_split s 8 (by omega)
  have h1:=leval_split (s.drop 8) 8 (by rw [List.length_drop]; omega)
  have h2:=leval_split (s.drop 16) 8 (by rw [List.length_drop]; omega)
  have h3:=leval_split (s.drop 24) 8 (by rw [List.length_drop]; omega)
  rw [List.drop_drop] at h1 h2 h3
  have h4:s.drop (24+8)=[]:=List.drop_of_length_le (by omega)
  rw [h4] at h3
  simp only [Nat.reduceAdd,Nat.reducePow,Nat.reduceMul,List.drop_zero,leval] at *
  unfold v64
  omega
theorem mOuter (N:Nat) (s:List Nat) (hs:∀ x ∈ s,x<256) (hl:s.length=32) (d:List Nat) (lg:List Nat→List Nat→Option AV):∀ (m i:Nat) (w:List Nat),i<4→w.length=4→w.getD i 0=0 →
    g29L5 realA (N+9) (fun v _=>some v) (m+1) s i d w=g29L5 realA (N+9) (fun v _=>some v) m s ((i+1:Nat):Int) d (w.set i (leval ((s.drop (8*i)).take 8))):=by
  intro m i w hi hw hz
  rw [g29L5,lssT (show (i:Int)<4 by omega)]
  simp only [g29J6]
  exact mInner (N+9) N i s hs hl d (g29L5 realA (N+9) (fun v _=>some v) m) hi 8 0 w rfl hw hz
theorem ofNat32 {n:Nat} (h:n=32):realA.ic .neq (realA.ofN n) 32=false:=by rw [h]; rfl
theorem ofNat32' {n:Nat} (h:n≠32):realA.ic .neq (realA.ofN n) 32=true:=by
  show (!(decide ((n:Int)=32)))=true
  rw [decide_eq_false (by omega)]
  rfl
theorem j13 (n:Nat) (d:List Nat) {w:List Nat} (hw:W4 w):g29J13 realA n (fun v _=>some v) d w=(match decide (num w<PP) with
    | true=>some (.tup [.agg [.nums .u64 4 w],.cell (.bool true)])
    | false=>some (.tup [.agg [.nums .u64 4 [0,0,0,0]],.cell (.bool false)])):=by
  obtain ⟨k1,k2⟩:=rightOk hw
  unfold g29J13
  rw [k1,k2]
  cases decide (num w<PP) <;> rfl
theorem makeE {s:List Nat} (hs:∀ x ∈ s,x<256) (hl:s.length=32):g29v realA s=(match decide (leval s<PP) with
    | true=>some (.tup [.agg [.nums .u64 4 (fe (leval s))],.cell (.bool true)])
    | false=>some (.tup [.agg [.nums .u64 4 [0,0,0,0]],.cell (.bool false)])):=by
  have c:=chunks s hl
  have b0:=chunk_lt s hs 0
  have b1:=chunk_lt s hs 1
  have b2:=chunk_lt s hs 2
  have b3:=chunk_lt s hs 3
  have o0:=mOuter 99991 s hs hl [0,0,0,0] (fun _ _=>none) 99999 0 [0,0,0,0] (by decide) rfl rfl
  have o1:=mOuter 99991 s hs hl [0,0,0,0] (fun _ _=>none) 99998 1 [leval ((s.drop (8*0)).take 8),0,0,0] (by decide) rfl rfl
  have o2:=mOuter 99991 s hs hl [0,0,0,0] (fun _ _=>none) 99997 2 [leval ((s.drop (8*0)).take 8),leval ((s.drop (8*1)).take 8),0,0] (by decide) rfl rfl
  have o3:=mOuter 99991 s hs hl [0,0,0,0] (fun _ _=>none) 99996 3 [leval ((s.drop (8*0)).take 8),leval ((s.drop (8*1)).take 8),leval ((s.drop (8*2)).take 8),0] (by decide) rfl rfl
  generalize leval ((s.drop (8*0)).take 8)=w0 at *
  generalize leval ((s.drop (8*1)).take 8)=w1 at *
  generalize leval ((s.drop (8*2)).take 8)=w2 at *
  generalize leval ((s.drop (8*3)).take 8)=w3 at *
  have hw:W4 [w0,w1,w2,w3]:=⟨w0,w1,w2,w3,rfl,b0,b1,b2,b3⟩
  have hn:num [w0,w1,w2,w3]=leval s:=c.symm
  have hf:fe (leval s)=[w0,w1,w2,w3]:=by rw [← hn]; exact fe_num hw
  have fin:=j13 100000 [0,0,0,0] hw
  rw [hn] at fin
  rw [hf,← fin]
  unfold g29v
  have st:g29 realA 100000 (fun v _=>some v) s=g29L5 realA (99991+9) (fun v _=>some v) (99999+1) s ((0:Nat):Int) [0,0,0,0] [0,0,0,0]:=by
    unfold g29
    rw [ofNat32 hl]
    rfl
  refine st.trans (o0.trans (o1.trans (o2.trans (o3.trans ?_))))
  generalize 99991=N
  rw [show (99996:Nat)=99995+1 from rfl]
  generalize 99995=M
  rw [g29L5]
  rfl
theorem makeOk {s:List Nat} (hs:∀ x ∈ s,x<256):g29ok realA s=true∧((s.length=32∧leval s<PP∧g29r0 realA s=fe (leval s)∧g29r1 realA s=true)∨(¬ (s.length=32∧leval s<PP)∧g29r0 realA s=[0,0,0,0]∧g29r1 realA s=false)):=by
  by_cases hl:s.length=32
  · have e:=makeE hs hl
    by_cases hv:leval s<PP
    · rw [decide_eq_true hv] at e
      exact ⟨by unfold g29ok; rw [e]; rfl,.inl ⟨hl,hv,by unfold g29r0; rw [e]; rfl,by unfold g29r1; rw [e]; rfl⟩⟩
    · rw [decide_eq_false hv] at e
      exact ⟨by unfold g29ok; rw [e]; rfl,.inr ⟨fun h=>hv h.2,by unfold g29r0; rw [e]; rfl,by unfold g29r1; rw [e]; rfl⟩⟩
  · have e:g29v realA s=some (.tup [.agg [.nums .u64 4 [0,0,0,0]],.cell (.bool false)]):=by
      unfold g29v
      generalize 100000=n
      unfold g29
      rw [ofNat32' hl]
    exact ⟨by unfold g29ok; rw [e]; rfl,.inr ⟨fun h=>hl h.1,by unfold g29r0; rw [e]; rfl,by unfold g29r1; rw [e]; rfl⟩⟩
end Go.Sx
namespace Go.Sx
set_option linter.unusedSectionVars false
def dv:List Nat→Nat
  | []=>0
  | x::r=>x+4294967296*dv r
end Go.Sx
namespace Go.Sx
set_option linter.unusedSectionVars false
end Go.Sx
namespace Go.Sx
set_option linter.unusedSectionVars false
end Go.Sx
namespace Go.Sx
set_option linter.unusedSectionVars false
end Go.Sx
namespace Go.Sx
set_option linter.unusedSectionVars false
-- right
theorem leval_step (s:List Nat) (i:Nat) (h:i<s.length):leval (s.take (i+1))=leval (s.take i)+256^i*s.getD i 0:=by
  have:s.take (i+1)=s.take i++[s.getD i 0]:=by
    rw [List.take_add_one,List.getD_eq_getElem?_getD,List.getElem?_eq_getElem h]
    rfl
  rw [this,leval_append,List.length_take,Nat.min_eq_left (by omega)]
  simp only [leval,Nat.mul_zero,Nat.add_zero]
end Go.Sx
namespace Go.Sx
set_option linter.unusedSectionVars false
def Pr (n:Nat):Prop:=1<n∧∀ a,¬ n∣a→a^(n - 1)%n=1
theorem mulM {n x x' y y':Nat} (hx:x%n=x'%n) (hy:y%n=y'%n):x*y%n=x'*y'%n:=by rw [Nat.mul_mod,hx,hy,← Nat.mul_mod]
theorem powM {n x x':Nat} (hx:x%n=x'%n) (k:Nat):x^k%n=x'^k%n:=by rw [Nat.pow_mod,hx,← Nat.pow_mod]
theorem pow1M {n g m:Nat} (h1:1<n) (h:g^m%n=1) (k:Nat):g^(m*k)%n=1:=by
  rw [Nat.pow_mul,powM (x':=1) (by rw [h,Nat.mod_eq_of_lt h1]),Nat.one_pow,Nat.mod_eq_of_lt h1]
theorem gcdM {n g:Nat} (h1:1<n) (a b:Nat):g^a%n=1→g^b%n=1→g^(Nat.gcd a b)%n=1:=by
  induction a,b using Nat.gcd.induction with
  | H0 b=>intro _ h; rw [Nat.gcd_zero_left]; exact h
  | H1 a b hp ih =>
    intro h1a h1b
    rw [Nat.gcd_rec]
    refine ih ?_ h1a
    have e:g^b=g^(a*(b/a))*g^(b%a):=by rw [← Nat.pow_add,Nat.div_add_mod]
    rw [e,mulM (x':=1) (y':=g^(b%a)) (by rw [pow1M h1 h1a,Nat.mod_eq_of_lt h1]) rfl,Nat.one_mul] at h1b
    exact h1b
theorem euclid {n:Nat} (h:Pr n) {a b:Nat} (hd:n∣a*b):n∣a∨n∣b:=by
  refine Classical.byContradiction fun hn=> ?_
  have ha:¬ n∣a:=fun x=>hn (Or.inl x)
  have hb:¬ n∣b:=fun x=>hn (Or.inr x)
  have h0:=h.1
  have fa:=h.2 a ha
  apply hb
  have e:a^(n - 1)*b=a^(n - 2)*(a*b):=by
    rw [show n - 1=(n - 2)+1 by omega,Nat.pow_succ,Nat.mul_assoc]
  have e2:a^(n - 1)*b%n=0:=by
    rw [e]
    exact Nat.mod_eq_zero_of_dvd (Nat.dvd_trans hd (Nat.dvd_mul_left _ _))
  rw [mulM (x':=1) (y':=b) (by rw [fa,Nat.mod_eq_of_lt h0]) rfl,Nat.one_mul] at e2
  exact Nat.dvd_of_mod_eq_zero e2
theorem factor:∀ (qs:List Nat),(∀ q ∈ qs,Pr q)→∀ e d:Nat,e*d=qs.foldr (· * ·) 1→1<e→∃ q ∈ qs,q∣e:=by
  intro qs
  induction qs with
  | nil =>
    intro _ e d h h1
    have:e=1:=Nat.eq_one_of_mul_eq_one_right h
    omega
  | cons q r ih =>
    intro hq e d h h1
    have hd:q∣e*d:=by rw [h]; exact Nat.dvd_mul_right _ _
    rcases euclid (hq q (List.mem_cons_self ..)) hd with h2 | h2
    · exact ⟨q,List.mem_cons_self ..,h2⟩
    · obtain ⟨d',rfl⟩:=h2
      have hq0:0<q:=Nat.lt_trans Nat.zero_lt_one (hq q (List.mem_cons_self ..)).1
      have:e*d'=r.foldr (· * ·) 1:=by
        apply Nat.eq_of_mul_eq_mul_left hq0
        rw [← Nat.mul_assoc,Nat.mul_comm q e,Nat.mul_assoc]
        exact h
      obtain ⟨p,h3,h4⟩:=ih (fun x hx=>hq x (List.mem_cons_of_mem _ hx)) e d' this h1
      exact ⟨p,List.mem_cons_of_mem _ h3,h4⟩
theorem pigeon:∀ (l l':List Nat),l.Nodup→(∀ x ∈ l,x ∈ l')→l'.length≤l.length→∀ x ∈ l',x ∈ l:=by
  intro l
  induction l with
  | nil =>
    intro l' _ _ h x hx
    cases l' with
    | nil=>exact hx
    | cons y r=>simp at h
  | cons a t ih =>
    intro l' hn hs hl x hx
    by_cases hxa:x=a
    · rw [hxa]; exact List.mem_cons_self ..
    · have ha:a ∈ l':=hs a (List.mem_cons_self ..)
      have hn':=List.nodup_cons.1 hn
      have hle:=List.length_erase_of_mem ha
      have hpos:0<l'.length:=List.length_pos_of_mem ha
      refine List.mem_cons_of_mem _ (ih (l'.erase a) hn'.2 (fun y hy=> ?_) (by simp only [List.length_cons] at hl; omega) x ((List.mem_erase_of_ne hxa).2 hx))
      have:y≠a:=fun e=>hn'.1 (e ▸ hy)
      exact (List.mem_erase_of_ne this).2 (hs y (List.mem_cons_of_mem _ hy))
theorem nodup_map_inj (f:Nat→Nat):∀ (l:List Nat),l.Nodup→(∀ x ∈ l,∀ y ∈ l,f x=f y→x=y)→(l.map f).Nodup:=by
  intro l
  induction l with
  | nil=>intro _ _; exact List.nodup_nil
  | cons a t ih =>
    intro hn hf
    have hn':=List.nodup_cons.1 hn
    rw [List.map_cons,List.nodup_cons]
    refine ⟨fun h=> ?_,ih hn'.2 fun x hx y hy=>hf x (List.mem_cons_of_mem _ hx) y (List.mem_cons_of_mem _ hy)⟩
    obtain ⟨y,hy,e⟩:=List.mem_map.1 h
    have:=hf y (List.mem_cons_of_mem _ hy) a (List.mem_cons_self ..) e
    exact hn'.1 (this ▸ hy)
theorem pratt (n g:Nat) (qs:List Nat) (hn:1<n) (hq:∀ q ∈ qs,Pr q) (hp:qs.foldr (· * ·) 1=n - 1) (h1:g^(n - 1)%n=1) (h2:∀ q ∈ qs,g^((n - 1)/q)%n≠1):Pr n:=by
  -- no power below n - 1 is 1
  have ord:∀ m,0<m→m<n - 1→g^m%n≠1:=by
    intro m m0 m1 hm
    have hg:=gcdM hn m (n - 1) hm h1
    obtain ⟨e,he⟩:Nat.gcd m (n - 1)∣n - 1:=Nat.gcd_dvd_right ..
    have hle:Nat.gcd m (n - 1)≤m:=Nat.gcd_le_left _ m0
    have e1:1<e:=by
      rcases Nat.lt_or_ge 1 e with h | h
      · exact h
      · have:Nat.gcd m (n - 1)*e≤m*1:=Nat.mul_le_mul hle h
        omega
    obtain ⟨q,hq1,q',hq2⟩:=factor qs hq e (Nat.gcd m (n - 1)) (by rw [hp,Nat.mul_comm]; exact he.symm) e1
    have hq0:0<q:=Nat.lt_trans Nat.zero_lt_one (hq q hq1).1
    apply h2 q hq1
    have:(n - 1)/q=Nat.gcd m (n - 1)*q':=by
      have:n - 1=q*(Nat.gcd m (n - 1)*q'):=by
        rw [Nat.mul_left_comm,← hq2]; exact he
      rw [congrArg (· / q) this]
      exact Nat.mul_div_cancel_left _ hq0
    rw [this]
    exact pow1M hn hg q'
  have inj:∀ i j,i<j→j<n - 1→g^i%n≠g^j%n:=by
    intro i j hij hj he
    obtain ⟨t,ht⟩:∃ t,i+t=(n - 1)*i:=⟨(n - 1)*i - i,by
      have:1*i≤(n - 1)*i:=Nat.mul_le_mul_right _ (by omega)
      omega⟩
    have u:g^i*g^t%n=1:=by rw [← Nat.pow_add,ht]; exact pow1M hn h1 i
    have v:g^j*g^t%n=1:=by rw [← mulM he rfl]; exact u
    have w:g^j*g^t=g^(j - i)*(g^i*g^t):=by
      have:g^j=g^(j - i)*g^i:=by rw [← Nat.pow_add,show j - i+i=j by omega]
      rw [this,Nat.mul_assoc]
    rw [w,mulM (x':=g^(j - i)) (y':=1) rfl (by rw [u,Nat.mod_eq_of_lt hn]),Nat.mul_one] at v
    exact ord (j - i) (by omega) (by omega) v
  have nz:∀ i,0<g^i%n:=by
    intro i
    refine Nat.pos_of_ne_zero fun h=> ?_
    have hd:n∣g^i:=Nat.dvd_of_mod_eq_zero h
    have h3:=pow1M hn h1 i
    have:g^i∣g^((n - 1)*i):=Nat.pow_dvd_pow _ (by
      have:1*i≤(n - 1)*i:=Nat.mul_le_mul_right _ (by omega)
      omega)
    rw [Nat.mod_eq_zero_of_dvd (Nat.dvd_trans hd this)] at h3
    exact absurd h3 (by decide)
  refine ⟨hn,fun a ha=> ?_⟩
  have hm:a%n ∈ (List.range (n - 1)).map (fun i=>g^i%n):=by
    refine pigeon _ (List.range' 1 (n - 1)) (nodup_map_inj _ _ List.nodup_range fun x hx y hy h=> ?_) (fun x hx=> ?_) (by simp) _ ?_
    · rw [List.mem_range] at hx hy
      rcases Nat.lt_trichotomy x y with h3 | h3 | h3
      · exact absurd h (inj x y h3 hy)
      · exact h3
      · exact absurd h.symm (inj y x h3 hx)
    · obtain ⟨i,_,rfl⟩:=List.mem_map.1 hx
      have:=Nat.mod_lt (g^i) (show 0<n by omega)
      have:=nz i
      rw [List.mem_range'_1]
      omega
    · have h4:a%n≠0:=fun h=>ha (Nat.dvd_of_mod_eq_zero h)
      have:=Nat.mod_lt a (show 0<n by omega)
      rw [List.mem_range'_1]
      omega
  obtain ⟨i,_,hi⟩:=List.mem_map.1 hm
  rw [← powM hi,← Nat.pow_mul,Nat.mul_comm]
  exact pow1M hn h1 i
def pwm (n:Nat):Nat→Nat→Nat→Nat→Nat
  | 0,_,_,acc=>acc
  | f+1,b,e,acc=>match Nat.beq e 0 with
    | true=>acc
    | false=>match Nat.beq (e%2) 1 with
      | true=>pwm n f (b*b%n) (e/2) (acc*b%n)
      | false=>pwm n f (b*b%n) (e/2) acc
theorem pwm_spec (n:Nat):∀ (f b e acc:Nat),e<2^f→pwm n f b e acc%n=acc*b^e%n:=by
  intro f
  induction f with
  | zero =>
    intro b e acc h
    have:e=0:=by rw [Nat.pow_zero] at h; omega
    subst this
    rw [pwm,Nat.pow_zero,Nat.mul_one]
  | succ f ih =>
    intro b e acc h
    rw [pwm]
    cases h0:Nat.beq e 0 with
    | true =>
      have:e=0:=Nat.eq_of_beq_eq_true h0
      subst this
      simp
    | false =>
      have hs:b^e=b^(e%2)*(b*b)^(e/2):=by
        rw [← Nat.pow_two,← Nat.pow_mul,← Nat.pow_add,Nat.mod_add_div]
      have he:e/2<2^f:=by rw [Nat.pow_succ] at h; omega
      cases h1:Nat.beq (e%2) 1 with
      | true =>
        have:e%2=1:=Nat.eq_of_beq_eq_true h1
        simp only []
        rw [ih _ _ _ he,hs,this,Nat.pow_one,← Nat.mul_assoc]
        exact mulM (Nat.mod_mod _ _) (powM (Nat.mod_mod _ _) _)
      | false =>
        have:e%2=0:=by
          have:=Nat.ne_of_beq_eq_false h1
          omega
        simp only []
        rw [ih _ _ _ he,hs,this,Nat.pow_zero,Nat.one_mul]
        exact mulM rfl (powM (Nat.mod_mod _ _) _)
def step (n g:Nat) (qs:List Nat):Bool:=Nat.blt 1 n&&Nat.blt (n - 1) (2^256)&&Nat.beq (qs.foldr (· * ·) 1) (n - 1)&&Nat.beq (pwm n 256 g (n - 1) 1%n) 1&&qs.all fun q=>Nat.blt ((n - 1)/q) (2^256) && !(Nat.beq (pwm n 256 g ((n - 1)/q) 1%n) 1)
theorem step_pr (n g:Nat) (qs:List Nat) (hq:∀ q ∈ qs,Pr q) (h:step n g qs=true):Pr n:=by
  unfold step at h
  simp only [Bool.and_eq_true,List.all_eq_true,Nat.blt_eq,Nat.beq_eq,Bool.not_eq_true'] at h
  obtain ⟨⟨⟨⟨a,b⟩,c⟩,d⟩,e⟩:=h
  refine pratt n g qs a hq c ?_ fun q hm=> ?_
  · rw [pwm_spec n 256 _ _ _ b,Nat.one_mul] at d
    exact d
  · obtain ⟨e1,e2⟩:=e q hm
    rw [pwm_spec n 256 _ _ _ e1,Nat.one_mul] at e2
    intro h
    rw [h] at e2
    exact absurd e2 (by decide)
end Go.Sx
namespace Go.Sx
set_option linter.unusedSectionVars false
theorem pr_2:Pr 2:=step_pr 2 1 [] (by intro q hq; cases hq) (by decide +kernel)
theorem pr_3:Pr 3:=step_pr 3 2 [2] (by intro q hq; simp only [List.mem_cons,List.not_mem_nil,or_false] at hq; subst hq; exact pr_2) (by decide +kernel)
theorem pr_17:Pr 17:=step_pr 17 3 [2,2,2,2] (by intro q hq; simp only [List.mem_cons,List.not_mem_nil,or_false] at hq; rcases hq with rfl | rfl | rfl | rfl <;> first | exact pr_2) (by decide +kernel)
theorem pr_7:Pr 7:=step_pr 7 3 [2,3] (by intro q hq; simp only [List.mem_cons,List.not_mem_nil,or_false] at hq; rcases hq with rfl | rfl <;> first | exact pr_2 | exact pr_3) (by decide +kernel)
theorem pr_239:Pr 239:=step_pr 239 7 [2,7,17] (by intro q hq; simp only [List.mem_cons,List.not_mem_nil,or_false] at hq; rcases hq with rfl | rfl | rfl <;> first | exact pr_2 | exact pr_7 | exact pr_17) (by decide +kernel)
theorem pr_479:Pr 479:=step_pr 479 13 [2,239] (by intro q hq; simp only [List.mem_cons,List.not_mem_nil,or_false] at hq; rcases hq with rfl | rfl <;> first | exact pr_2 | exact pr_239) (by decide +kernel)
theorem pr_32573:Pr 32573:=step_pr 32573 2 [2,2,17,479] (by intro q hq; simp only [List.mem_cons,List.not_mem_nil,or_false] at hq; rcases hq with rfl | rfl | rfl | rfl <;> first | exact pr_2 | exact pr_17 | exact pr_479) (by decide +kernel)
theorem pr_65147:Pr 65147:=step_pr 65147 2 [2,32573] (by intro q hq; simp only [List.mem_cons,List.not_mem_nil,or_false] at hq; rcases hq with rfl | rfl <;> first | exact pr_2 | exact pr_32573) (by decide +kernel)
theorem pr_5:Pr 5:=step_pr 5 2 [2,2] (by intro q hq; simp only [List.mem_cons,List.not_mem_nil,or_false] at hq; rcases hq with rfl | rfl <;> first | exact pr_2) (by decide +kernel)
theorem pr_11:Pr 11:=step_pr 11 2 [2,5] (by intro q hq; simp only [List.mem_cons,List.not_mem_nil,or_false] at hq; rcases hq with rfl | rfl <;> first | exact pr_2 | exact pr_5) (by decide +kernel)
theorem pr_353:Pr 353:=step_pr 353 3 [2,2,2,2,2,11] (by intro q hq; simp only [List.mem_cons,List.not_mem_nil,or_false] at hq; rcases hq with rfl | rfl | rfl | rfl | rfl | rfl <;> first | exact pr_2 | exact pr_11) (by decide +kernel)
theorem pr_29:Pr 29:=step_pr 29 2 [2,2,7] (by intro q hq; simp only [List.mem_cons,List.not_mem_nil,or_false] at hq; rcases hq with rfl | rfl | rfl <;> first | exact pr_2 | exact pr_7) (by decide +kernel)
theorem pr_59:Pr 59:=step_pr 59 2 [2,29] (by intro q hq; simp only [List.mem_cons,List.not_mem_nil,or_false] at hq; rcases hq with rfl | rfl <;> first | exact pr_2 | exact pr_29) (by decide +kernel)
theorem pr_487:Pr 487:=step_pr 487 3 [2,3,3,3,3,3] (by intro q hq; simp only [List.mem_cons,List.not_mem_nil,or_false] at hq; rcases hq with rfl | rfl | rfl | rfl | rfl | rfl <;> first | exact pr_2 | exact pr_3) (by decide +kernel)
theorem pr_57467:Pr 57467:=step_pr 57467 2 [2,59,487] (by intro q hq; simp only [List.mem_cons,List.not_mem_nil,or_false] at hq; rcases hq with rfl | rfl | rfl <;> first | exact pr_2 | exact pr_59 | exact pr_487) (by decide +kernel)
theorem pr_13:Pr 13:=step_pr 13 2 [2,2,3] (by intro q hq; simp only [List.mem_cons,List.not_mem_nil,or_false] at hq; rcases hq with rfl | rfl | rfl <;> first | exact pr_2 | exact pr_3) (by decide +kernel)
theorem pr_131:Pr 131:=step_pr 131 2 [2,5,13] (by intro q hq; simp only [List.mem_cons,List.not_mem_nil,or_false] at hq; rcases hq with rfl | rfl | rfl <;> first | exact pr_2 | exact pr_5 | exact pr_13) (by decide +kernel)
theorem pr_132049:Pr 132049:=step_pr 132049 26 [2,2,2,2,3,3,7,131] (by intro q hq; simp only [List.mem_cons,List.not_mem_nil,or_false] at hq; rcases hq with rfl | rfl | rfl | rfl | rfl | rfl | rfl | rfl <;> first | exact pr_2 | exact pr_3 | exact pr_7 | exact pr_131) (by decide +kernel)
theorem pr_43:Pr 43:=step_pr 43 3 [2,3,7] (by intro q hq; simp only [List.mem_cons,List.not_mem_nil,or_false] at hq; rcases hq with rfl | rfl | rfl <;> first | exact pr_2 | exact pr_3 | exact pr_7) (by decide +kernel)
theorem pr_23:Pr 23:=step_pr 23 5 [2,11] (by intro q hq; simp only [List.mem_cons,List.not_mem_nil,or_false] at hq; rcases hq with rfl | rfl <;> first | exact pr_2 | exact pr_11) (by decide +kernel)
theorem pr_3727:Pr 3727:=step_pr 3727 3 [2,3,3,3,3,23] (by intro q hq; simp only [List.mem_cons,List.not_mem_nil,or_false] at hq; rcases hq with rfl | rfl | rfl | rfl | rfl | rfl <;> first | exact pr_2 | exact pr_3 | exact pr_23) (by decide +kernel)
theorem pr_1923133:Pr 1923133:=step_pr 1923133 2 [2,2,3,43,3727] (by intro q hq; simp only [List.mem_cons,List.not_mem_nil,or_false] at hq; rcases hq with rfl | rfl | rfl | rfl | rfl <;> first | exact pr_2 | exact pr_3 | exact pr_43 | exact pr_3727) (by decide +kernel)
theorem pr_31:Pr 31:=step_pr 31 3 [2,3,5] (by intro q hq; simp only [List.mem_cons,List.not_mem_nil,or_false] at hq; rcases hq with rfl | rfl | rfl <;> first | exact pr_2 | exact pr_3 | exact pr_5) (by decide +kernel)
theorem pr_53:Pr 53:=step_pr 53 2 [2,2,13] (by intro q hq; simp only [List.mem_cons,List.not_mem_nil,or_false] at hq; rcases hq with rfl | rfl | rfl <;> first | exact pr_2 | exact pr_13) (by decide +kernel)
theorem pr_107:Pr 107:=step_pr 107 2 [2,53] (by intro q hq; simp only [List.mem_cons,List.not_mem_nil,or_false] at hq; rcases hq with rfl | rfl <;> first | exact pr_2 | exact pr_53) (by decide +kernel)
theorem pr_37:Pr 37:=step_pr 37 2 [2,2,3,3] (by intro q hq; simp only [List.mem_cons,List.not_mem_nil,or_false] at hq; rcases hq with rfl | rfl | rfl | rfl <;> first | exact pr_2 | exact pr_3) (by decide +kernel)
theorem pr_223:Pr 223:=step_pr 223 3 [2,3,37] (by intro q hq; simp only [List.mem_cons,List.not_mem_nil,or_false] at hq; rcases hq with rfl | rfl | rfl <;> first | exact pr_2 | exact pr_3 | exact pr_37) (by decide +kernel)
theorem pr_173:Pr 173:=step_pr 173 2 [2,2,43] (by intro q hq; simp only [List.mem_cons,List.not_mem_nil,or_false] at hq; rcases hq with rfl | rfl | rfl <;> first | exact pr_2 | exact pr_43) (by decide +kernel)
theorem pr_4153:Pr 4153:=step_pr 4153 5 [2,2,2,3,173] (by intro q hq; simp only [List.mem_cons,List.not_mem_nil,or_false] at hq; rcases hq with rfl | rfl | rfl | rfl | rfl <;> first | exact pr_2 | exact pr_3 | exact pr_173) (by decide +kernel)
theorem pr_41:Pr 41:=step_pr 41 6 [2,2,2,5] (by intro q hq; simp only [List.mem_cons,List.not_mem_nil,or_false] at hq; rcases hq with rfl | rfl | rfl | rfl <;> first | exact pr_2 | exact pr_5) (by decide +kernel)
theorem pr_1723:Pr 1723:=step_pr 1723 3 [2,3,7,41] (by intro q hq; simp only [List.mem_cons,List.not_mem_nil,or_false] at hq; rcases hq with rfl | rfl | rfl | rfl <;> first | exact pr_2 | exact pr_3 | exact pr_7 | exact pr_41) (by decide +kernel)
theorem pr_430751:Pr 430751:=step_pr 430751 17 [2,5,5,5,1723] (by intro q hq; simp only [List.mem_cons,List.not_mem_nil,or_false] at hq; rcases hq with rfl | rfl | rfl | rfl | rfl <;> first | exact pr_2 | exact pr_5 | exact pr_1723) (by decide +kernel)
theorem pr_31757755568855353:Pr 31757755568855353:=step_pr 31757755568855353 10 [2,2,2,3,31,107,223,4153,430751] (by intro q hq; simp only [List.mem_cons,List.not_mem_nil,or_false] at hq; rcases hq with rfl | rfl | rfl | rfl | rfl | rfl | rfl | rfl | rfl <;> first | exact pr_2 | exact pr_3 | exact pr_31 | exact pr_107 | exact pr_223 | exact pr_4153 | exact pr_430751) (by decide +kernel)
theorem pr_19:Pr 19:=step_pr 19 2 [2,3,3] (by intro q hq; simp only [List.mem_cons,List.not_mem_nil,or_false] at hq; rcases hq with rfl | rfl | rfl <;> first | exact pr_2 | exact pr_3) (by decide +kernel)
theorem pr_83:Pr 83:=step_pr 83 2 [2,41] (by intro q hq; simp only [List.mem_cons,List.not_mem_nil,or_false] at hq; rcases hq with rfl | rfl <;> first | exact pr_2 | exact pr_41) (by decide +kernel)
theorem pr_9463:Pr 9463:=step_pr 9463 3 [2,3,19,83] (by intro q hq; simp only [List.mem_cons,List.not_mem_nil,or_false] at hq; rcases hq with rfl | rfl | rfl | rfl <;> first | exact pr_2 | exact pr_3 | exact pr_19 | exact pr_83) (by decide +kernel)
theorem pr_37853:Pr 37853:=step_pr 37853 2 [2,2,9463] (by intro q hq; simp only [List.mem_cons,List.not_mem_nil,or_false] at hq; rcases hq with rfl | rfl | rfl <;> first | exact pr_2 | exact pr_9463) (by decide +kernel)
theorem pr_75707:Pr 75707:=step_pr 75707 2 [2,37853] (by intro q hq; simp only [List.mem_cons,List.not_mem_nil,or_false] at hq; rcases hq with rfl | rfl <;> first | exact pr_2 | exact pr_37853) (by decide +kernel)
theorem pr_2437:Pr 2437:=step_pr 2437 2 [2,2,3,7,29] (by intro q hq; simp only [List.mem_cons,List.not_mem_nil,or_false] at hq; rcases hq with rfl | rfl | rfl | rfl | rfl <;> first | exact pr_2 | exact pr_3 | exact pr_7 | exact pr_29) (by decide +kernel)
theorem pr_97:Pr 97:=step_pr 97 5 [2,2,2,2,2,3] (by intro q hq; simp only [List.mem_cons,List.not_mem_nil,or_false] at hq; rcases hq with rfl | rfl | rfl | rfl | rfl | rfl <;> first | exact pr_2 | exact pr_3) (by decide +kernel)
theorem pr_419:Pr 419:=step_pr 419 2 [2,11,19] (by intro q hq; simp only [List.mem_cons,List.not_mem_nil,or_false] at hq; rcases hq with rfl | rfl | rfl <;> first | exact pr_2 | exact pr_11 | exact pr_19) (by decide +kernel)
theorem pr_569003:Pr 569003:=step_pr 569003 2 [2,7,97,419] (by intro q hq; simp only [List.mem_cons,List.not_mem_nil,or_false] at hq; rcases hq with rfl | rfl | rfl | rfl <;> first | exact pr_2 | exact pr_7 | exact pr_97 | exact pr_419) (by decide +kernel)
theorem pr_2773320623:Pr 2773320623:=step_pr 2773320623 5 [2,2437,569003] (by intro q hq; simp only [List.mem_cons,List.not_mem_nil,or_false] at hq; rcases hq with rfl | rfl | rfl <;> first | exact pr_2 | exact pr_2437 | exact pr_569003) (by decide +kernel)
theorem pr_72106336199:Pr 72106336199:=step_pr 72106336199 7 [2,13,2773320623] (by intro q hq; simp only [List.mem_cons,List.not_mem_nil,or_false] at hq; rcases hq with rfl | rfl | rfl <;> first | exact pr_2 | exact pr_13 | exact pr_2773320623) (by decide +kernel)
theorem pr_47:Pr 47:=step_pr 47 5 [2,23] (by intro q hq; simp only [List.mem_cons,List.not_mem_nil,or_false] at hq; rcases hq with rfl | rfl <;> first | exact pr_2 | exact pr_23) (by decide +kernel)
theorem pr_127:Pr 127:=step_pr 127 3 [2,3,3,7] (by intro q hq; simp only [List.mem_cons,List.not_mem_nil,or_false] at hq; rcases hq with rfl | rfl | rfl | rfl <;> first | exact pr_2 | exact pr_3 | exact pr_7) (by decide +kernel)
theorem pr_103:Pr 103:=step_pr 103 5 [2,3,17] (by intro q hq; simp only [List.mem_cons,List.not_mem_nil,or_false] at hq; rcases hq with rfl | rfl | rfl <;> first | exact pr_2 | exact pr_3 | exact pr_17) (by decide +kernel)
theorem pr_991:Pr 991:=step_pr 991 6 [2,3,3,5,11] (by intro q hq; simp only [List.mem_cons,List.not_mem_nil,or_false] at hq; rcases hq with rfl | rfl | rfl | rfl | rfl <;> first | exact pr_2 | exact pr_3 | exact pr_5 | exact pr_11) (by decide +kernel)
theorem pr_8574133:Pr 8574133:=step_pr 8574133 2 [2,2,3,7,103,991] (by intro q hq; simp only [List.mem_cons,List.not_mem_nil,or_false] at hq; rcases hq with rfl | rfl | rfl | rfl | rfl | rfl <;> first | exact pr_2 | exact pr_3 | exact pr_7 | exact pr_103 | exact pr_991) (by decide +kernel)
theorem pr_1919519569386763:Pr 1919519569386763:=step_pr 1919519569386763 2 [2,3,7,19,47,47,127,8574133] (by intro q hq; simp only [List.mem_cons,List.not_mem_nil,or_false] at hq; rcases hq with rfl | rfl | rfl | rfl | rfl | rfl | rfl | rfl <;> first | exact pr_2 | exact pr_3 | exact pr_7 | exact pr_19 | exact pr_47 | exact pr_127 | exact pr_8574133) (by decide +kernel)
theorem pr_75445702479781427272750846543864801:Pr 75445702479781427272750846543864801:=step_pr 75445702479781427272750846543864801 7 [2,2,2,2,2,3,3,5,5,75707,72106336199,1919519569386763] (by intro q hq; simp only [List.mem_cons,List.not_mem_nil,or_false] at hq; rcases hq with rfl | rfl | rfl | rfl | rfl | rfl | rfl | rfl | rfl | rfl | rfl | rfl <;> first | exact pr_2 | exact pr_3 | exact pr_5 | exact pr_75707 | exact pr_72106336199 | exact pr_1919519569386763) (by decide +kernel)
theorem pr_74058212732561358302231226437062788676166966415465897661863160754340907:Pr 74058212732561358302231226437062788676166966415465897661863160754340907:=step_pr 74058212732561358302231226437062788676166966415465897661863160754340907 2 [2,3,353,57467,132049,1923133,31757755568855353,75445702479781427272750846543864801] (by intro q hq; simp only [List.mem_cons,List.not_mem_nil,or_false] at hq; rcases hq with rfl | rfl | rfl | rfl | rfl | rfl | rfl | rfl <;> first | exact pr_2 | exact pr_3 | exact pr_353 | exact pr_57467 | exact pr_132049 | exact pr_1923133 | exact pr_31757755568855353 | exact pr_75445702479781427272750846543864801) (by decide +kernel)
theorem pr_57896044618658097711785492504343953926634992332820282019728792003956564819949:Pr 57896044618658097711785492504343953926634992332820282019728792003956564819949:=step_pr 57896044618658097711785492504343953926634992332820282019728792003956564819949 2 [2,2,3,65147,74058212732561358302231226437062788676166966415465897661863160754340907] (by intro q hq; simp only [List.mem_cons,List.not_mem_nil,or_false] at hq; rcases hq with rfl | rfl | rfl | rfl | rfl <;> first | exact pr_2 | exact pr_3 | exact pr_65147 | exact pr_74058212732561358302231226437062788676166966415465897661863160754340907) (by decide +kernel)
end Go.Sx
namespace Go.Sx
set_option linter.unusedSectionVars false
end Go.Sx
namespace Go.Sx
set_option linter.unusedSectionVars false
theorem prP:Pr PP:=pr_57896044618658097711785492504343953926634992332820282019728792003956564819949
def PM:Nat:=57896044618658097711785492504343953926634992332820282019728792003956564819948
theorem PP1:PP - 1=PM:=by decide
theorem fermat {a:Nat} (h:a%PP≠0):a^PM%PP=1:=by
  rw [← PP1]
  exact prP.2 a fun hd=>h (Nat.mod_eq_zero_of_dvd hd)
theorem sqE {x y:Nat} (hx:x<PP) (hy:y<PP) (h:x*x%PP=y*y%PP):x=y∨(x+y)%PP=0:=by
  have main:∀ {x y:Nat},y≤x→x<PP→y<PP→x*x%PP=y*y%PP→x=y∨(x+y)%PP=0:=by
    intro x y hle hx hy h
    obtain ⟨d,rfl⟩:∃ d,x=y+d:=⟨x - y,by omega⟩
    have e:(y+d)*(y+d)=y*y+d*(y+d+y):=by grind
    rw [e] at h
    have hz:d*(y+d+y)%PP=0:=by
      generalize d*(y+d+y)=z at *
      generalize y*y=w at *
      have:(w+z)%PP=w%PP→z%PP=0:=by unfold PP; omega
      exact this h
    rcases euclid prP (Nat.dvd_of_mod_eq_zero hz) with h1 | h1
    · have:=Nat.mod_eq_zero_of_dvd h1
      rw [Nat.mod_eq_of_lt (by omega)] at this
      exact Or.inl (by omega)
    · exact Or.inr (Nat.mod_eq_zero_of_dvd h1)
  rcases Nat.le_total y x with hle | hle
  · exact main hle hx hy h
  · rcases main hle hy hx h.symm with h1 | h1
    · exact Or.inl h1.symm
    · exact Or.inr (by rw [Nat.add_comm]; exact h1)
-- the inverse
def PT:Nat:=57896044618658097711785492504343953926634992332820282019728792003956564819947
theorem inv_mul {a:Nat} (h:a%PP≠0):a*(a^PT%PP)%PP=1:=by
  rw [Nat.mul_mod_mod,Nat.mul_comm,← Nat.pow_succ]
  exact fermat h
theorem zero_pow_mod {a:Nat} (h:a%PP=0) {k:Nat} (hk:0<k):a^k%PP=0:=by
  rw [powM (x':=0) (by rw [h]; rfl),Nat.zero_pow hk]
  rfl
-- the root
theorem finN_lt {x:Nat} (h:x<PP):finN x<PP∧finN x%2=0∧finN x*finN x%PP=x*x%PP∧(finN x=x∨finN x=PP - x):=by
  unfold finN
  cases hb:Nat.beq (x%2) 1 with
  | true =>
    have h1:=beq_true hb
    refine ⟨show PP - x<PP by unfold PP at *; omega,show (PP - x)%2=0 by unfold PP at *; omega, ?_,Or.inr rfl⟩
    show (PP - x)*(PP - x)%PP=x*x%PP
    obtain ⟨y,hy⟩:∃ y,PP=x+y:=⟨PP - x,by omega⟩
    rw [hy,show x+y - x=y by omega]
    have e:x*x+(x+y)*y=y*y+(x+y)*x:=by grind
    rw [← Nat.add_mul_mod_self_left (y*y) (x+y) x,← e,Nat.add_mul_mod_self_left]
  | false =>
    have h1:=Nat.ne_of_beq_eq_false hb
    exact ⟨h,by show x%2=0; omega,rfl,Or.inl rfl⟩
theorem iSq:pw 2 QQ*pw 2 QQ%PP=PP - 1:=by decide +kernel
theorem negSq (X:Nat):(X*pw 2 QQ%PP)*(X*pw 2 QQ%PP)%PP=X*X*(PP - 1)%PP:=by
  rw [← Nat.mul_mod,show X*pw 2 QQ*(X*pw 2 QQ)=X*X*(pw 2 QQ*pw 2 QQ) by grind]
  exact mmod rfl (by rw [iSq]; rfl)
theorem negMul (c:Nat):(c*(PP - 1)%PP+c%PP)%PP=0:=by
  rw [← Nat.add_mod,← Nat.mul_succ,show (PP - 1).succ=PP from rfl,Nat.mul_mod_left]
theorem vNeg (v X:Nat):(v*((X*pw 2 QQ%PP)*(X*pw 2 QQ%PP)%PP)%PP+v*(X*X%PP)%PP)%PP=0:=by
  rw [negSq,Nat.mul_mod_mod,Nat.mul_mod_mod,← Nat.mul_assoc]
  exact negMul _
theorem rn1 {u v:Nat} (h:Nat.beq (rootC u v) (u%PP)=true):rootN u v=(finN (rootX u v),true):=by unfold rootN; rw [h]
theorem rn2 {u v:Nat} (h:Nat.beq (rootC u v) (u%PP)=false) (h2:Nat.beq ((rootC u v+u%PP)%PP) 0=true):rootN u v=(finN (rootX u v*pw 2 QQ%PP),true):=by unfold rootN; rw [h,h2]
theorem rn3 {u v:Nat} (h:Nat.beq (rootC u v) (u%PP)=false) (h2:Nat.beq ((rootC u v+u%PP)%PP) 0=false):rootN u v=(0,false):=by unfold rootN; rw [h,h2]
theorem rootN_true {u v:Nat} (hu:u<PP) (h:(rootN u v).2=true):v*((rootN u v).1*(rootN u v).1%PP)%PP=u∧(rootN u v).1<PP∧(rootN u v).1%2=0:=by
  have hX:rootX u v<PP:=Nat.mod_lt _ PP_pos
  have hC:rootC u v<PP:=Nat.mod_lt _ PP_pos
  cases h1:Nat.beq (rootC u v) (u%PP) with
  | true =>
    rw [rn1 h1]
    dsimp only
    obtain ⟨f1,f2,f3,_⟩:=finN_lt hX
    refine ⟨?_,f1,f2⟩
    have:=beq_true h1
    rw [Nat.mod_eq_of_lt hu] at this
    rw [f3]
    exact this
  | false =>
    cases h2:Nat.beq ((rootC u v+u%PP)%PP) 0 with
    | false=>rw [rn3 h1 h2] at h; cases h
    | true =>
      rw [rn2 h1 h2]
      dsimp only
      have hY:rootX u v*pw 2 QQ%PP<PP:=Nat.mod_lt _ PP_pos
      obtain ⟨f1,f2,f3,_⟩:=finN_lt hY
      refine ⟨?_,f1,f2⟩
      rw [f3]
      have h3:=vNeg v (rootX u v)
      have h4:=beq_true h2
      rw [Nat.mod_eq_of_lt hu] at h4
      have h5:v*((rootX u v*pw 2 QQ%PP)*(rootX u v*pw 2 QQ%PP)%PP)%PP<PP:=Nat.mod_lt _ PP_pos
      unfold rootC at h4 hC
      generalize v*((rootX u v*pw 2 QQ%PP)*(rootX u v*pw 2 QQ%PP)%PP)%PP=z at *
      generalize v*(rootX u v*rootX u v%PP)%PP=c at *
      clear h1 h2 h hX hY f1 f2 f3
      unfold PP at *
      omega
theorem rootN_false {u v:Nat} (h:(rootN u v).2=false):(rootN u v).1=0:=by
  cases h1:Nat.beq (rootC u v) (u%PP) with
  | true=>rw [rn1 h1] at h; cases h
  | false =>
    cases h2:Nat.beq ((rootC u v+u%PP)%PP) 0 with
    | false=>rw [rn3 h1 h2]
    | true=>rw [rn2 h1 h2] at h; cases h
theorem KKe:4*(KK+1)=2+(PM/2)+0∧PM/2*2=PM:=by decide
theorem halfPow (a:Nat):a^(PM/2)%PP*(a^(PM/2)%PP)%PP*a%PP=a%PP:=by
  rw [← Nat.mul_mod,← Nat.pow_add,← Nat.mul_two,KKe.2]
  by_cases h:a%PP=0
  · rw [Nat.mul_mod,h,Nat.mul_zero]; rfl
  · rw [fermat h,Nat.one_mul]
end Go.Sx
namespace Go.Sx
set_option linter.unusedSectionVars false
end Go.Sx
namespace Go.Sx
set_option linter.unusedSectionVars false
theorem WPT2:W4 [18446744073709551595,18446744073709551615,18446744073709551615,9223372036854775807]:=⟨_,_,_,_,rfl,by decide,by decide,by decide,by decide⟩
@[irreducible] def refX (u v:Nat):Nat:=(u*(v^PT%PP)%PP)^(KK+1)%PP
@[irreducible] def refY (x:Nat):Nat:=x*pw 2 QQ%PP
end Go.Sx
namespace Go.Sx
set_option linter.unusedSectionVars false
-- both roots are the same
end Go.Sx
namespace Go.Sx
set_option linter.unusedSectionVars false
def PI:Int:=57896044618658097711785492504343953926634992332820282019728792003956564819949
theorem PI_PP:(PP:Int)=PI:=by decide
theorem PI_pos:0<PI:=by decide
def fi (x:Int):List Nat:=fe (x%PI).toNat
theorem toN_lt (x:Int):(x%PI).toNat<PP:=by
  have h1:=Int.emod_lt_of_pos x PI_pos
  have h2:=Int.emod_nonneg x (show PI≠0 by decide)
  have:=PI_PP
  omega
theorem fi_congr {x y:Int} (h:x%PI=y%PI):fi x=fi y:=by unfold fi; rw [h]
theorem fi_W4 (x:Int):W4 (fi x):=fe_W4 _
theorem num_fi (x:Int):num (fi x)=(x%PI).toNat:=num_fe (Nat.lt_trans (toN_lt x) (by decide))
theorem fi_inj {x y:Int}:fi x=fi y↔x%PI=y%PI:=by
  constructor
  · intro h
    have h2:num (fi x)=num (fi y):=by rw [h]
    rw [num_fi,num_fi] at h2
    have a:=Int.emod_nonneg x (show PI≠0 by decide)
    have b:=Int.emod_nonneg y (show PI≠0 by decide)
    omega
  · exact fi_congr
theorem castN (x:Int):(((x%PI).toNat:Nat):Int)=x%PI:=Int.toNat_of_nonneg (Int.emod_nonneg x (show PI≠0 by decide))
theorem fm_fi {n:Nat} {x:Int} (h:(n:Int)%PI=x%PI):fm n=fi x:=by
  unfold fm fi
  congr 1
  have e:((n%PP:Nat):Int)=x%PI:=by rw [← h,← PI_PP]; exact Int.natCast_emod n PP
  omega
theorem fe_fi {n:Nat} (h:n<PP):fe n=fi n:=by
  have:fe n=fm n:=by unfold fm; rw [Nat.mod_eq_of_lt h]
  rw [this]; exact fm_fi rfl
theorem raw_fi {a:List Nat} (h:W4 a) (hl:num a<PP):a=fi (num a):=by rw [← fe_fi hl]; exact (fe_num h).symm
theorem fi0:fi 0=[0,0,0,0]:=by decide
theorem fmulI (x y:Int):g41ok realA (fi x) (fi y)=true∧g41r0 realA (fi x) (fi y)=fi (x*y):=by
  obtain ⟨h1,h2⟩:=mulOk (fi_W4 x) (fi_W4 y)
  refine ⟨h1,h2.trans (fm_fi ?_)⟩
  rw [num_fi,num_fi,Int.natCast_mul,castN,castN,← Int.mul_emod]
theorem addI' (x y:Int):g53ok realA (fi x) (fi y)=true∧g53r0 realA (fi x) (fi y)=fi (x+y):=by
  obtain ⟨h1,h2⟩:=addOk (fi_W4 x) (fi_W4 y)
  refine ⟨h1,h2.trans (fm_fi ?_)⟩
  rw [num_fi,num_fi,Int.natCast_add,castN,castN,← Int.add_emod]
theorem natM {a b:Nat} (h:a%PP=b%PP):(a:Int)%PI=(b:Int)%PI:=by
  rw [← PI_PP]
  exact_mod_cast congrArg (Nat.cast (R:=Int)) h
theorem cancelI {a b c:Int} (h:(a+b)%PI=c%PI):a%PI=(c - b)%PI:=by
  have:((a+b) - b)%PI=(c - b)%PI:=by rw [Int.sub_emod,h,← Int.sub_emod]
  rwa [Int.add_sub_cancel] at this
theorem subI' (x y:Int):g52ok realA (fi x) (fi y)=true∧g52r0 realA (fi x) (fi y)=fi (x - y):=by
  obtain ⟨z,h1,h2,h3⟩:=subOk (fi_W4 x) (fi_W4 y)
  refine ⟨h1,h2.trans (fm_fi ?_)⟩
  have:=natM h3
  rw [Int.natCast_add,num_fi,num_fi,castN,castN,Int.emod_emod] at this
  have:=cancelI this
  rw [this,Int.sub_emod,Int.emod_emod,← Int.sub_emod]
theorem negI' (x:Int):g31ok realA (fi x)=true∧g31r0 realA (fi x)=fi (-x):=by
  obtain ⟨z,h1,h2,h3⟩:=negOk (fi_W4 x)
  refine ⟨h1,h2.trans (fm_fi ?_)⟩
  have:=natM (h3.trans (Nat.zero_mod PP).symm)
  rw [Int.natCast_add,num_fi,castN] at this
  have:=cancelI this
  rw [this,Int.sub_emod,Int.emod_emod,← Int.sub_emod,show ((0:Nat):Int) - x= -x by omega]
theorem smallI {n:Nat} (h:n<18446744073709551616):g42ok realA n=true∧g42r0 realA n=fi n:=by
  obtain ⟨h1,h2⟩:=smallOk h
  exact ⟨h1,h2.trans (fe_fi (Nat.lt_trans h (by decide)))⟩
theorem rightI {a:List Nat} (h:W4 a):g50ok realA a=true∧g50r0 realA a=decide (num a<PP):=rightOk h
theorem lqI (x y:Int):realA.lq (fi x) (fi y)=decide (x%PI=y%PI):=by
  rw [lqE]
  exact decide_eq_decide.2 fi_inj
theorem oddI (x:Int):g34ok realA (fi x)=true∧g34r0 realA (fi x)=decide (x%PI%2=1):=by
  obtain ⟨h1,h2⟩:=oddOk (fi_W4 x)
  refine ⟨h1,h2.trans ?_⟩
  rw [num_fi,Nat.mod_eq_of_lt (toN_lt x)]
  have:=castN x
  exact decide_eq_decide.2 (by omega)
def iv (x:Int):Int:=(pw (x%PI).toNat PT:Nat)
theorem PT_lt:PT<2^256:=by decide
theorem iv_spec (x:Int):iv x%PI=(((x%PI).toNat^PT:Nat):Int)%PI:=by
  unfold iv
  rw [pw_spec _ _ PT_lt,← PI_PP]
  rw [Int.natCast_emod,Int.emod_emod]
theorem powI (x:Int) {e:List Nat} (he:W4 e) {k:Nat} (hk:num e=k):g58ok realA (fi x) e=true∧g58r0 realA (fi x) e=fm ((x%PI).toNat^k):=by
  obtain ⟨h1,h2⟩:=powOk (fi_W4 x) he
  exact ⟨h1,by rw [h2,num_fi,hk]⟩
theorem g43Shape (A:Ar) (n:Nat) (a e r:List Nat) (he:(((([0,0,0,0]:List Nat).set 0 18446744073709551595).set 1 18446744073709551615).set 2 18446744073709551615).set 3 9223372036854775807=e) (h1:g58ok A a e=true) (h2:g58r0 A a e=r):g43 A n (fun v _=>some v) a=some (.v (.agg [.nums .u64 4 r])):=by
  unfold g43
  rw [he,h1,h2]
theorem g43of {A:Ar} {a r:List Nat} (e:g43v A a=some (.v (.agg [.nums .u64 4 r]))):g43ok A a=true∧g43r0 A a=r:=⟨by unfold g43ok; rw [e]; rfl,by unfold g43r0; rw [e]; rfl⟩
theorem invI (x:Int):g43ok realA (fi x)=true∧g43r0 realA (fi x)=fi (iv x):=by
  obtain ⟨h1,h2⟩:=powI x WPT2 (k:=PT) (by decide)
  have:=g43of (g43Shape realA 100000 (fi x) _ _ rfl h1 h2)
  refine ⟨this.1,this.2.trans (fm_fi (iv_spec x).symm)⟩
theorem rootI (u v:Int):g51ok realA (fi u) (fi v)=true∧g51r0 realA (fi u) (fi v)=fi (rootN (u%PI).toNat (v%PI).toNat).1∧g51r1 realA (fi u) (fi v)=(rootN (u%PI).toNat (v%PI).toNat).2:=by
  obtain ⟨h1,h2,h3⟩:=rootOk (toN_lt u) (toN_lt v)
  refine ⟨h1,h2.trans (fe_fi ?_),h3⟩
  cases h:(rootN (u%PI).toNat (v%PI).toNat).2 with
  | true=>exact (rootN_true (toN_lt u) h).2.1
  | false=>rw [rootN_false h]; exact PP_pos
theorem ivMul {x:Int} (h:¬ x%PI=0):(x*iv x)%PI=1:=by
  have h1:(x%PI).toNat%PP≠0:=by
    rw [Nat.mod_eq_of_lt (toN_lt x)]
    have:=castN x
    omega
  have h2:=inv_mul h1
  have h3:(((x%PI).toNat*((x%PI).toNat^PT%PP)%PP:Nat):Int)=1:=by rw [h2]; rfl
  rw [Int.natCast_emod,Int.natCast_mul,Int.natCast_emod,PI_PP,castN] at h3
  rw [Int.mul_emod,iv_spec,← h3,Int.mul_emod (x%PI),Int.emod_emod,Int.emod_emod]
structure FOK (A:Ar):Prop where
  mul:∀ x y:Int,g41ok A (fi x) (fi y)=true∧g41r0 A (fi x) (fi y)=fi (x*y)
  add:∀ x y:Int,g53ok A (fi x) (fi y)=true∧g53r0 A (fi x) (fi y)=fi (x+y)
  sub:∀ x y:Int,g52ok A (fi x) (fi y)=true∧g52r0 A (fi x) (fi y)=fi (x - y)
  neg:∀ x:Int,g31ok A (fi x)=true∧g31r0 A (fi x)=fi (-x)
  small:∀ n:Nat,n<18446744073709551616→g42ok A n=true∧g42r0 A n=fi n
  right:∀ a,W4 a→g50ok A a=true∧g50r0 A a=decide (num a<PP)
  odd:∀ x:Int,g34ok A (fi x)=true∧g34r0 A (fi x)=decide (x%PI%2=1)
  inv:∀ x:Int,g43ok A (fi x)=true∧g43r0 A (fi x)=fi (iv x)
  root:∀ u v:Int,g51ok A (fi u) (fi v)=true∧g51r0 A (fi u) (fi v)=fi (rootN (u%PI).toNat (v%PI).toNat).1∧g51r1 A (fi u) (fi v)=(rootN (u%PI).toNat (v%PI).toNat).2
  lq:∀ x y:Int,A.lq (fi x) (fi y)=decide (x%PI=y%PI)
  bytes:∀ a,W4 a→g33ok A a=true∧g33r0 A a=le32 (num a%PP)
theorem fok:FOK realA where
  mul:=fmulI
  add:=addI'
  sub:=subI'
  neg:=negI'
  small:=fun _=>smallI
  right:=fun _=>rightI
  odd:=oddI
  inv:=invI
  root:=rootI
  lq:=lqI
  bytes:=fun _=>bytesOk
end Go.Sx
namespace Go.Sx
set_option linter.unusedSectionVars false
theorem g54of {A:Ar} {x:List Nat} (e:g54v A=some (.v (.agg [.nums .u64 4 x]))):g54ok A=true∧g54r0 A=x:=⟨by unfold g54ok; rw [e]; rfl,by unfold g54r0; rw [e]; rfl⟩
theorem g38of {A:Ar} {x:List Nat} {y:List Nat} (e:g38v A=some (.v (.agg [.nums .u64 4 x,.nums .u64 4 y]))):g38ok A=true∧g38r0 A=x∧g38r1 A=y:=⟨by unfold g38ok; rw [e]; rfl,by unfold g38r0; rw [e]; rfl,by unfold g38r1; rw [e]; rfl⟩
theorem g21of {A:Ar} {x:List Nat} {y:List Nat} (e:g21v A=some (.v (.agg [.nums .u64 4 x,.nums .u64 4 y]))):g21ok A=true∧g21r0 A=x∧g21r1 A=y:=⟨by unfold g21ok; rw [e]; rfl,by unfold g21r0; rw [e]; rfl,by unfold g21r1; rw [e]; rfl⟩
theorem g22of {A:Ar} {a b:List Nat} {x:List Nat} {y:List Nat} (e:g22v A a b=some (.v (.agg [.nums .u64 4 x,.nums .u64 4 y]))):g22ok A a b=true∧g22r0 A a b=x∧g22r1 A a b=y:=⟨by unfold g22ok; rw [e]; rfl,by unfold g22r0; rw [e]; rfl,by unfold g22r1; rw [e]; rfl⟩
theorem g19of {A:Ar} {a b c d:List Nat} {x:List Nat} {y:List Nat} (e:g19v A a b c d=some (.v (.agg [.nums .u64 4 x,.nums .u64 4 y]))):g19ok A a b c d=true∧g19r0 A a b c d=x∧g19r1 A a b c d=y:=⟨by unfold g19ok; rw [e]; rfl,by unfold g19r0; rw [e]; rfl,by unfold g19r1; rw [e]; rfl⟩
theorem g37of {A:Ar} {a b c d z:List Nat} {x:List Nat} {y:List Nat} (e:g37v A a b c d z=some (.v (.agg [.nums .u64 4 x,.nums .u64 4 y]))):g37ok A a b c d z=true∧g37r0 A a b c d z=x∧g37r1 A a b c d z=y:=⟨by unfold g37ok; rw [e]; rfl,by unfold g37r0; rw [e]; rfl,by unfold g37r1; rw [e]; rfl⟩
theorem g35of {A:Ar} {a b:List Nat} {x:List Nat} {y:List Nat} {u:List Nat} {v:List Nat} {w:List Nat} (e:g35v A a b=some (.v (.agg [.nums .u64 4 x,.nums .u64 4 y,.nums .u64 4 u,.nums .u64 4 v,.nums .u64 4 w]))):g35ok A a b=true∧g35r0 A a b=x∧g35r1 A a b=y∧g35r2 A a b=u∧g35r3 A a b=v∧g35r4 A a b=w:=⟨by unfold g35ok; rw [e]; rfl,by unfold g35r0; rw [e]; rfl,by unfold g35r1; rw [e]; rfl,by unfold g35r2; rw [e]; rfl,by unfold g35r3; rw [e]; rfl,by unfold g35r4; rw [e]; rfl⟩
theorem g36of {A:Ar} {a b c d z a2 b2 c2 d2 z2:List Nat} {x:List Nat} {y:List Nat} {u:List Nat} {v:List Nat} {w:List Nat} (e:g36v A a b c d z a2 b2 c2 d2 z2=some (.v (.agg [.nums .u64 4 x,.nums .u64 4 y,.nums .u64 4 u,.nums .u64 4 v,.nums .u64 4 w]))):g36ok A a b c d z a2 b2 c2 d2 z2=true∧g36r0 A a b c d z a2 b2 c2 d2 z2=x∧g36r1 A a b c d z a2 b2 c2 d2 z2=y∧g36r2 A a b c d z a2 b2 c2 d2 z2=u∧g36r3 A a b c d z a2 b2 c2 d2 z2=v∧g36r4 A a b c d z a2 b2 c2 d2 z2=w:=⟨by unfold g36ok; rw [e]; rfl,by unfold g36r0; rw [e]; rfl,by unfold g36r1; rw [e]; rfl,by unfold g36r2; rw [e]; rfl,by unfold g36r3; rw [e]; rfl,by unfold g36r4; rw [e]; rfl⟩
theorem g32of {A:Ar} {a b:List Nat} {t:Bool} (e:g32v A a b=some (.v (.cell (.bool t)))):g32ok A a b=true∧g32r0 A a b=t:=⟨by unfold g32ok; rw [e]; rfl,by unfold g32r0; rw [e]; rfl⟩
theorem g30of {A:Ar} {a:List Nat} {x:List Nat} {t:Bool} (e:g30v A a=some (.tup [.agg [.nums .u64 4 x],.cell (.bool t)])):g30ok A a=true∧g30r0 A a=x∧g30r1 A a=t:=⟨by unfold g30ok; rw [e]; rfl,by unfold g30r0; rw [e]; rfl,by unfold g30r1; rw [e]; rfl⟩
theorem g18of {A:Ar} {a b:List Nat} {x:List Nat} {t:Bool} (e:g18v A a b=some (.tup [.cell (.str x),.cell (.bool t)])):g18ok A a b=true∧g18r0 A a b=x∧g18r1 A a b=t:=⟨by unfold g18ok; rw [e]; rfl,by unfold g18r0; rw [e]; rfl,by unfold g18r1; rw [e]; rfl⟩
def dI:Int:= -(121665:Nat)*iv (121666:Nat)
def onZ (x y:Int):Bool:=decide ((y*y - x*x - dI*(x*x*(y*y)))%PI=1%PI)
def onW (a b:List Nat):Bool:=decide (num a<PP)&&(decide (num b<PP)&&onZ (num a) (num b))
def ptX (a b:List Nat):Int:=if onW a b=true then num a else 0
def ptY (a b:List Nat):Int:=if onW a b=true then num b else 1
def sideN (y:Int):Nat × Bool:=rootN ((y*y - 1)%PI).toNat ((1+y*y*dI)%PI).toNat
section
variable {A:Ar} (h:FOK A)
include h
theorem dP:g54ok A=true∧g54r0 A=fi dI:=by
  refine g54of ?_
  unfold g54v g54
  simp only [h.small 121665 (by decide),h.small 121666 (by decide),h.neg,h.inv,h.mul]
  rfl
theorem zeroP:g38ok A=true∧g38r0 A=fi 0∧g38r1 A=fi 1:=by
  refine g38of ?_
  unfold g38v g38
  simp only [h.small 1 (by decide)]
  rw [fi0]; rfl
theorem onP {a b:List Nat} (ha:W4 a) (hb:W4 b):g32ok A a b=true∧g32r0 A a b=onW a b:=by
  refine g32of ?_
  unfold g32v g32
  obtain ⟨r1,r2⟩:=h.right a ha
  obtain ⟨s1,s2⟩:=h.right b hb
  simp only [r1,r2,s1,s2]
  unfold onW
  by_cases e1:num a<PP
  · by_cases e2:num b<PP
    · simp only [decide_eq_true e1,decide_eq_true e2,Bool.not_true,Bool.true_and]
      unfold g32J3
      rw [raw_fi ha e1,raw_fi hb e2]
      simp only [h.mul,h.sub,h.small 1 (by decide),dP h,h.lq,Bool.and_true]
      rw [← raw_fi ha e1,← raw_fi hb e2]
      rfl
    · simp only [decide_eq_true e1,decide_eq_false e2,Bool.not_true,Bool.not_false,Bool.true_and,Bool.false_and]
  · simp only [decide_eq_false e1,Bool.not_false,Bool.false_and]
theorem pt_fi {a b:List Nat} (ha:W4 a) (hb:W4 b) (ho:onW a b=true):a=fi (ptX a b)∧b=fi (ptY a b):=by
  unfold ptX ptY
  rw [if_pos ho,if_pos ho]
  unfold onW at ho
  simp only [Bool.and_eq_true,decide_eq_true_eq] at ho
  exact ⟨raw_fi ha ho.1,raw_fi hb ho.2.1⟩
theorem pt_not {a b:List Nat} (ho:onW a b=false):ptX a b=0∧ptY a b=1:=by
  unfold ptX ptY
  rw [if_neg (by rw [ho]; simp),if_neg (by rw [ho]; simp)]
  exact ⟨rfl,rfl⟩
theorem openP {a b:List Nat} (ha:W4 a) (hb:W4 b):g35ok A a b=true∧g35r0 A a b=fi (ptX a b)∧g35r1 A a b=fi (ptY a b)∧g35r2 A a b=fi 1∧g35r3 A a b=fi (ptX a b*ptY a b)∧g35r4 A a b=fi (dI+dI):=by
  refine g35of ?_
  unfold g35v g35
  simp only [onP h ha hb]
  cases ho:onW a b with
  | true =>
    obtain ⟨e1,e2⟩:=pt_fi h ha hb ho
    simp only [Bool.not_true]
    unfold g35J3
    rw [show g41ok A a b=true from by rw [e1,e2]; exact (h.mul _ _).1,show g41r0 A a b=fi (ptX a b*ptY a b) from by
      have:=(h.mul (ptX a b) (ptY a b)).2
      rw [← e1,← e2] at this
      exact this]
    simp only [dP h,h.small 1 (by decide),h.add]
    rw [← e1,← e2]
    rfl
  | false =>
    obtain ⟨e1,e2⟩:=pt_not h ho
    rw [e1,e2]
    simp only [Bool.not_false,zeroP h]
    unfold g35J3
    simp only [h.mul,dP h,h.small 1 (by decide),h.add]
    rfl
theorem closeP (x y z t d:Int):g37ok A (fi x) (fi y) (fi z) (fi t) (fi d)=true∧g37r0 A (fi x) (fi y) (fi z) (fi t) (fi d)=fi (x*iv z)∧g37r1 A (fi x) (fi y) (fi z) (fi t) (fi d)=fi (y*iv z):=by
  refine g37of ?_
  unfold g37v g37
  simp only [h.inv,h.mul]
theorem addP (x y z t d x2 y2 z2 t2 d2:Int):g36ok A (fi x) (fi y) (fi z) (fi t) (fi d) (fi x2) (fi y2) (fi z2) (fi t2) (fi d2)=true ∧
    g36r0 A (fi x) (fi y) (fi z) (fi t) (fi d) (fi x2) (fi y2) (fi z2) (fi t2) (fi d2)=fi (((y+x)*(y2+x2) - (y - x)*(y2 - x2))*(z*z2+z*z2 - t*d*t2)) ∧
    g36r1 A (fi x) (fi y) (fi z) (fi t) (fi d) (fi x2) (fi y2) (fi z2) (fi t2) (fi d2)=fi ((z*z2+z*z2+t*d*t2)*((y+x)*(y2+x2)+(y - x)*(y2 - x2))) ∧
    g36r2 A (fi x) (fi y) (fi z) (fi t) (fi d) (fi x2) (fi y2) (fi z2) (fi t2) (fi d2)=fi ((z*z2+z*z2 - t*d*t2)*(z*z2+z*z2+t*d*t2)) ∧
    g36r3 A (fi x) (fi y) (fi z) (fi t) (fi d) (fi x2) (fi y2) (fi z2) (fi t2) (fi d2)=fi (((y+x)*(y2+x2) - (y - x)*(y2 - x2))*((y+x)*(y2+x2)+(y - x)*(y2 - x2))) ∧
    g36r4 A (fi x) (fi y) (fi z) (fi t) (fi d) (fi x2) (fi y2) (fi z2) (fi t2) (fi d2)=fi d:=by
  refine g36of ?_
  unfold g36v g36
  simp only [h.mul,h.add,h.sub,g36t0,g36t1,g36t2,g36t3]
theorem sideP (y:Int):g30ok A (fi y)=true∧g30r0 A (fi y)=fi (sideN y).1∧g30r1 A (fi y)=(sideN y).2:=by
  refine g30of ?_
  unfold g30v g30
  simp only [h.mul,h.sub,h.add,h.small 1 (by decide),dP h,h.root]
  rfl
end
end Go.Sx
namespace Go.Sx
set_option linter.unusedSectionVars false
theorem iv_mul (x y:Int):iv (x*y)%PI=(iv x*iv y)%PI:=by
  have e:iv x*iv y%PI=((((x%PI).toNat*(y%PI).toNat)^PT:Nat):Int)%PI:=by
    rw [Int.mul_emod,iv_spec x,iv_spec y,← Int.mul_emod,← Int.natCast_mul,← Nat.mul_pow]
  rw [e,iv_spec,← PI_PP,← Int.natCast_emod,← Int.natCast_emod]
  have h:(((x*y%(PP:Int)).toNat:Nat):Int)%PP=(((x%(PP:Int)).toNat*(y%(PP:Int)).toNat:Nat):Int)%PP:=by
    rw [PI_PP,castN,Int.natCast_mul,castN,castN,Int.emod_emod,← Int.mul_emod]
  have h':(x*y%(PP:Int)).toNat%PP=(x%(PP:Int)).toNat*(y%(PP:Int)).toNat%PP:=by exact_mod_cast h
  exact congrArg Int.ofNat (pmod h' PT)
theorem iv4:(4*iv 4)%PI=1:=by decide +kernel
theorem fmulM {a b c d:Int} (h1:a%PI=c%PI) (h2:b%PI=d%PI):a*b%PI=c*d%PI:=by rw [Int.mul_emod,h1,h2,← Int.mul_emod]
theorem quot4 (x z:Int):(4*x*iv (4*z))%PI=(x*iv z)%PI:=by
  have e1:(4*x*iv (4*z))%PI=(4*x*(iv 4*iv z))%PI:=fmulM rfl (iv_mul 4 z)
  have e2:((4*iv 4)*(x*iv z))%PI=(1*(x*iv z))%PI:=fmulM (iv4.trans (by decide)) rfl
  rw [e1,show 4*x*(iv 4*iv z)=(4*iv 4)*(x*iv z) by grind,e2,Int.one_mul]
def nX (x y x2 y2:Int):Int:=(x*y2+x2*y)*(1*1 - dI*(x*y*(x2*y2)))
def nY (x y x2 y2:Int):Int:=(y*y2+x*x2)*(1*1+dI*(x*y*(x2*y2)))
def nZ (x y x2 y2:Int):Int:=(1*1 - dI*(x*y*(x2*y2)))*(1*1+dI*(x*y*(x2*y2)))
section
variable {A:Ar} (h:FOK A)
include h
theorem AddP {a b c d:List Nat} (ha:W4 a) (hb:W4 b) (hc:W4 c) (hd:W4 d):g19ok A a b c d=true ∧
    g19r0 A a b c d=fi (nX (ptX a b) (ptY a b) (ptX c d) (ptY c d)*iv (nZ (ptX a b) (ptY a b) (ptX c d) (ptY c d))) ∧
    g19r1 A a b c d=fi (nY (ptX a b) (ptY a b) (ptX c d) (ptY c d)*iv (nZ (ptX a b) (ptY a b) (ptX c d) (ptY c d))):=by
  refine g19of ?_
  unfold g19v g19
  simp only [g19t0,g19t1,g19t2,g19t3,g19t4,g19t5,g19t6,g19t7,g19t8,g19t9,openP h ha hb,openP h hc hd,addP h,closeP h]
  generalize ptX a b=x
  generalize ptY a b=y
  generalize ptX c d=x2
  generalize ptY c d=y2
  have ez:(1*1+1*1 - x*y*(dI+dI)*(x2*y2))*(1*1+1*1+x*y*(dI+dI)*(x2*y2))=4*nZ x y x2 y2:=by unfold nZ; grind
  have ex:((y+x)*(y2+x2) - (y - x)*(y2 - x2))*(1*1+1*1 - x*y*(dI+dI)*(x2*y2))=4*nX x y x2 y2:=by unfold nX; grind
  have ey:(1*1+1*1+x*y*(dI+dI)*(x2*y2))*((y+x)*(y2+x2)+(y - x)*(y2 - x2))=4*nY x y x2 y2:=by unfold nY; grind
  rw [ez,ex,ey,fi_congr (quot4 _ _),fi_congr (quot4 _ _)]
theorem NegP {a b:List Nat} (ha:W4 a) (hb:W4 b):g22ok A a b=true∧g22r0 A a b=fi (-ptX a b)∧g22r1 A a b=fi (ptY a b):=by
  refine g22of ?_
  unfold g22v g22
  simp only [onP h ha hb]
  cases ho:onW a b with
  | true =>
    obtain ⟨e1,e2⟩:=pt_fi h ha hb ho
    simp only [Bool.not_true]
    unfold g22J3
    rw [show g31ok A a=true from by rw [e1]; exact (h.neg _).1,show g31r0 A a=fi (-ptX a b) from by
      have:=(h.neg (ptX a b)).2
      rwa [← e1] at this]
    rw [← e2]
  | false =>
    obtain ⟨e1,e2⟩:=pt_not h ho
    rw [e1,e2]
    simp only [Bool.not_false,zeroP h]
    rfl
end
theorem le32_len (n:Nat):(le32 n).length=32:=by unfold le32; simp
def encB (a b:List Nat):List Nat:=if num a%PP%2=1 then (le32 (num b%PP)).set 31 (realA.nb .or .u8 ((le32 (num b%PP)).getD 31 0) 128) else le32 (num b%PP)
theorem le64 (n:Nat) (h:n=32):realA.le n 9223372036854775807=true:=decide_eq_true (by omega)
theorem EncP {a b:List Nat} (ha:W4 a) (hb:W4 b):g18ok realA a b=true∧g18r0 realA a b=(if onW a b=true then encB a b else [])∧g18r1 realA a b=onW a b:=by
  refine g18of ?_
  unfold g18v g18
  simp only [onP fok ha hb]
  cases ho:onW a b with
  | true =>
    obtain ⟨e1,e2⟩:=pt_fi fok ha hb ho
    simp only [Bool.not_true]
    unfold g18J3
    have hl:=le32_len (num b%PP)
    obtain ⟨o1,o2⟩:=oddOk ha
    simp only [bytesOk hb,o1,o2,le64 _ hl]
    simp only [if_true]
    unfold encB
    by_cases hodd:num a%PP%2=1
    · have hb31:Nat.blt 31 (le32 (num b%PP)).length=true:=by rw [hl]; rfl
      simp only [decide_eq_true hodd,hb31,if_pos hodd]
      rw [List.take_of_length_le (by rw [List.length_set]; exact Nat.le_refl _)]
    · simp only [decide_eq_false hodd,if_neg hodd]
      rw [List.take_of_length_le (Nat.le_refl _)]
  | false =>
    simp only [Bool.not_false]
    rfl
def BX:Nat:=15112221349535400772501151409588531511454012693041857206046113283949847762202
def BY:Nat:=46316835694926478169428394003475163141307993866256225615783033603165251855960
theorem byE:((4:Nat)*iv (5:Nat))%PI=BY:=by decide +kernel
theorem sideB:sideN BY=(BX,true):=by decide +kernel
theorem sideN_congr {x y:Int} (h:x%PI=y%PI):sideN x=sideN y:=by
  unfold sideN
  have e:(x*x)%PI=(y*y)%PI:=fmulM h h
  rw [show (x*x - 1)%PI=(y*y - 1)%PI from by rw [Int.sub_emod,e,← Int.sub_emod]]
  rw [show (1+x*x*dI)%PI=(1+y*y*dI)%PI from by rw [Int.add_emod,fmulM e rfl,← Int.add_emod]]
theorem sideB2:sideN ((4:Nat)*iv (5:Nat))=(BX,true):=(sideN_congr (byE.trans (show (BY:Int)=(BY:Int)%PI by decide))).trans sideB
theorem fiBY:fi ((4:Nat)*iv (5:Nat))=fi BY:=fi_congr (byE.trans (show (BY:Int)=(BY:Int)%PI by decide))
section
variable {A:Ar} (h:FOK A)
include h
theorem baseP:g21ok A=true∧g21r0 A=fi BX∧g21r1 A=fi BY:=by
  refine g21of ?_
  unfold g21v g21
  simp only [h.small 4 (by decide),h.small 5 (by decide),h.inv,h.mul,sideP h,sideB2,fiBY,sideB]
end
theorem onB:onW (fi BX) (fi BY)=true:=by decide +kernel
theorem onZero:onW (fi 0) (fi 1)=true:=by decide +kernel
theorem ptB:ptX (fi BX) (fi BY)=BX∧ptY (fi BX) (fi BY)=BY:=by
  unfold ptX ptY
  rw [if_pos onB,if_pos onB]
  exact ⟨by decide +kernel,by decide +kernel⟩
theorem ptO:ptX (fi 0) (fi 1)=0∧ptY (fi 0) (fi 1)=1:=by
  unfold ptX ptY
  rw [if_pos onZero,if_pos onZero]
  exact ⟨by decide +kernel,by decide +kernel⟩
end Go.Sx
