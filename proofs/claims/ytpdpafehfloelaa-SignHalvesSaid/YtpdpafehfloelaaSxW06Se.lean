import Derived.Test.YtpdpafehfloelaaSxY06c
import Derived.Test.YtpdpafehfloelaaSxPl
namespace Go.Sx.S4
theorem and32 (a:Nat):a&&&4294967295=a%4294967296:=Nat.and_two_pow_sub_one_eq_mod a 32
theorem mulhi (a b:Nat) (ha:a<18446744073709551616) (hb:b<18446744073709551616) :
    (((a/4294967296*(b/4294967296))%18446744073709551616+(a/4294967296*(b%4294967296)%18446744073709551616+(a%4294967296*(b%4294967296)%18446744073709551616)/4294967296)%18446744073709551616/4294967296)%18446744073709551616 +
      ((a/4294967296*(b%4294967296)%18446744073709551616+(a%4294967296*(b%4294967296)%18446744073709551616)/4294967296)%18446744073709551616%4294967296+a%4294967296*(b/4294967296)%18446744073709551616)%18446744073709551616/4294967296)%18446744073709551616=a*b/18446744073709551616:=by
  have ea:a=a/4294967296*4294967296+a%4294967296:=by omega
  have eb:b=b/4294967296*4294967296+b%4294967296:=by omega
  have ea1:a/4294967296≤4294967295:=by omega
  have eb1:b/4294967296≤4294967295:=by omega
  have ea0:a%4294967296≤4294967295:=by omega
  have eb0:b%4294967296≤4294967295:=by omega
  generalize a/4294967296=a1 at *
  generalize b/4294967296=b1 at *
  generalize a%4294967296=a0 at *
  generalize b%4294967296=b0 at *
  have e:a*b=a1*b1*18446744073709551616+(a1*b0+a0*b1)*4294967296+a0*b0:=by subst ea; subst eb; grind
  rw [e]
  have h11:a1*b1≤4294967295*4294967295:=Nat.mul_le_mul ea1 eb1
  have h10:a1*b0≤4294967295*4294967295:=Nat.mul_le_mul ea1 eb0
  have h01:a0*b1≤4294967295*4294967295:=Nat.mul_le_mul ea0 eb1
  have h00:a0*b0≤4294967295*4294967295:=Nat.mul_le_mul ea0 eb0
  generalize a1*b1=p11 at *
  generalize a1*b0=p10 at *
  generalize a0*b1=p01 at *
  generalize a0*b0=p00 at *
  clear e ha hb ea eb ea1 eb1 ea0 eb0
  omega
theorem mul64E (a b:Nat) (ha:a<18446744073709551616) (hb:b<18446744073709551616) :
    g49v realA a b=some (.tup [.cell (.nat .u64 (a*b/18446744073709551616)),.cell (.nat .u64 (a*b%18446744073709551616))]):=by
  have h:=mulhi a b ha hb
  simp only [← and32] at h
  rw [← h]
  rfl
theorem mul64ok {a b:Nat} (ha:a<18446744073709551616) (hb:b<18446744073709551616):g49ok realA a b=true:=by unfold g49ok; rw [mul64E a b ha hb]; rfl
theorem mul64r0 {a b:Nat} (ha:a<18446744073709551616) (hb:b<18446744073709551616):g49r0 realA a b=a*b/18446744073709551616:=by unfold g49r0; rw [mul64E a b ha hb]; rfl
theorem mul64r1 {a b:Nat} (ha:a<18446744073709551616) (hb:b<18446744073709551616):g49r1 realA a b=a*b%18446744073709551616:=by unfold g49r1; rw [mul64E a b ha hb]; rfl
theorem carryT {x y c:Nat} (hc:c≤1) (hx:x<18446744073709551616) (hy:y<18446744073709551616):carryok x y c=true:=by
  simp [carryok,hc,hx,hy]
theorem negN (i:Nat):realA.neg (i:Int)=false:=show decide ((i:Int)<0)=false from decide_eq_false (by omega)
theorem toNN (i:Nat):realA.toN (i:Int)=i:=rfl
theorem ltT {a b:Nat} (h:a<b):realA.lt a b=true:=show decide (a<b)=true from decide_eq_true h
theorem leT {a b:Nat} (h:a≤b):realA.le a b=true:=show decide (a≤b)=true from decide_eq_true h
theorem lssT {a b:Int} (h:a<b):realA.ic .lss a b=true:=show decide (a<b)=true from decide_eq_true h
theorem lssF {a b:Int} (h:¬ a<b):realA.ic .lss a b=false:=show decide (a<b)=false from decide_eq_false h
theorem geqT {a b:Int} (h:b≤a):realA.ic .geq a b=true:=show decide (b≤a)=true from decide_eq_true h
theorem geqF {a b:Int} (h:¬ b≤a):realA.ic .geq a b=false:=show decide (b≤a)=false from decide_eq_false h
theorem gtrT {a b:Int} (h:b<a):realA.ic .gtr a b=true:=show decide (b<a)=true from decide_eq_true h
theorem gtrF {a b:Int} (h:¬ b<a):realA.ic .gtr a b=false:=show decide (b<a)=false from decide_eq_false h
theorem addI {a b:Int} (h: -9223372036854775808≤a+b∧a+b<9223372036854775808):realA.ib .add .i64 a b=a+b:=wrap64 h
theorem subI {a b:Int} (h: -9223372036854775808≤a - b∧a - b<9223372036854775808):realA.ib .sub .i64 a b=a - b:=wrap64 h
theorem mulI {a b:Int} (h: -9223372036854775808≤a*b∧a*b<9223372036854775808):realA.ib .mul .i64 a b=a*b:=wrap64 h
theorem addN {i:Nat} (j:Nat) (h:i+j<9223372036854775808):realA.ib .add .i64 (i:Int) (j:Int)=((i+j:Nat):Int):=by
  rw [addI (by omega)]; omega

theorem minusStep {R:Type} (n m c i car bor:Nat) (kk:AV→Heap→Option R) (a b x6:List Nat) (hi:i<5) (ha:a.getD i 0<18446744073709551616) (hb:b.getD i 0<18446744073709551616) (hc:c<18446744073709551616) (hcar:car<18446744073709551616) (hbor:bor≤1) :
    ∃ car' bor' y,car'<18446744073709551616∧bor'≤1∧y<18446744073709551616∧y+b.getD i 0*c+car+bor=a.getD i 0+18446744073709551616*(car'+bor') ∧
      g63L3 realA n kk (m+1) c car bor i a b x6=g63L3 realA n kk m c car' bor' ((i+1:Nat):Int) (a.set i y) b x6:=by
  have hp:b.getD i 0*c≤18446744073709551615*18446744073709551615:=Nat.mul_le_mul (by omega) (by omega)
  have h1:=mul64ok hb hc
  have h2:=mul64r0 hb hc
  have h3:=mul64r1 hb hc
  have e5:=lssT (show (i:Int)<5 by omega)
  have e6:=addN (i:=i) 1 (by omega)
  have e7:∀ x y,add64a x y 0=(x+y)%18446744073709551616:=fun x y=>rfl
  have e8:∀ x y,add64b x y 0=(x+y)/18446744073709551616:=fun x y=>rfl
  generalize hpp:b.getD i 0*c=p at *
  refine ⟨(p/18446744073709551616+(p%18446744073709551616+car)/18446744073709551616)%18446744073709551616,sub64b (a.getD i 0) ((p%18446744073709551616+car)%18446744073709551616) bor,sub64a (a.getD i 0) ((p%18446744073709551616+car)%18446744073709551616) bor,by omega,by unfold sub64b; split <;> omega,by unfold sub64a; omega, ?_, ?_⟩
  · unfold sub64a sub64b
    split <;> omega
  · rw [g63L3,e5]
    simp only [g63J4,negN,toNN,ltT hi,h1,h3,h2,carryT (Nat.zero_le 1) (show p%18446744073709551616<18446744073709551616 by omega) hcar,e7,e8,
      carryT hbor ha (show (p%18446744073709551616+car)%18446744073709551616<18446744073709551616 by omega)]
    rw [show realA.ib .add .i64 (i:Int) 1=((i+1:Nat):Int) from e6]
    rfl
def v5 (a0 a1 a2 a3 a4:Nat):Nat:=a0+18446744073709551616*a1+340282366920938463463374607431768211456*a2+6277101735386680763835789423207666416102355444464034512896*a3+115792089237316195423570985008687907853269984665640564039457584007913129639936*a4
theorem minusE (m c:Nat) (a0 a1 a2 a3 a4 b0 b1 b2 b3 b4:Nat) (hc:c<18446744073709551616) (A0:a0<18446744073709551616) (A1:a1<18446744073709551616) (A2:a2<18446744073709551616) (A3:a3<18446744073709551616) (A4:a4<18446744073709551616)
    (B0:b0<18446744073709551616) (B1:b1<18446744073709551616) (B2:b2<18446744073709551616) (B3:b3<18446744073709551616) (B4:b4<18446744073709551616) (hle:v5 b0 b1 b2 b3 b4*c≤v5 a0 a1 a2 a3 a4) :
    ∃ y0 y1 y2 y3 y4,y0<18446744073709551616∧y1<18446744073709551616∧y2<18446744073709551616∧y3<18446744073709551616∧y4<18446744073709551616∧v5 y0 y1 y2 y3 y4+v5 b0 b1 b2 b3 b4*c=v5 a0 a1 a2 a3 a4 ∧
      g63 realA (m+6) (fun v _=>some v) [a0,a1,a2,a3,a4] [b0,b1,b2,b3,b4] c=some (.v (.agg [.nums .u64 5 [y0,y1,y2,y3,y4]])):=by
  obtain ⟨c1,d1,y0,hc1,hd1,hy0,e0,s0⟩:=minusStep (m+6) (m+5) c 0 0 0 (fun v _=>some v) [a0,a1,a2,a3,a4] [b0,b1,b2,b3,b4] [0,0,0,0,0] (by omega) A0 B0 hc (by omega) (by omega)
  obtain ⟨c2,d2,y1,hc2,hd2,hy1,e1,s1⟩:=minusStep (m+6) (m+4) c 1 c1 d1 (fun v _=>some v) [y0,a1,a2,a3,a4] [b0,b1,b2,b3,b4] [0,0,0,0,0] (by omega) A1 B1 hc hc1 hd1
  obtain ⟨c3,d3,y2,hc3,hd3,hy2,e2,s2⟩:=minusStep (m+6) (m+3) c 2 c2 d2 (fun v _=>some v) [y0,y1,a2,a3,a4] [b0,b1,b2,b3,b4] [0,0,0,0,0] (by omega) A2 B2 hc hc2 hd2
  obtain ⟨c4,d4,y3,hc4,hd4,hy3,e3,s3⟩:=minusStep (m+6) (m+2) c 3 c3 d3 (fun v _=>some v) [y0,y1,y2,a3,a4] [b0,b1,b2,b3,b4] [0,0,0,0,0] (by omega) A3 B3 hc hc3 hd3
  obtain ⟨c5,d5,y4,hc5,hd5,hy4,e4,s4⟩:=minusStep (m+6) (m+1) c 4 c4 d4 (fun v _=>some v) [y0,y1,y2,y3,a4] [b0,b1,b2,b3,b4] [0,0,0,0,0] (by omega) A4 B4 hc hc4 hd4
  simp only [List.getD_cons_zero,List.getD_cons_succ] at e0 e1 e2 e3 e4
  refine ⟨y0,y1,y2,y3,y4,hy0,hy1,hy2,hy3,hy4, ?_, ?_⟩
  · have ex:v5 b0 b1 b2 b3 b4*c=v5 (b0*c) (b1*c) (b2*c) (b3*c) (b4*c):=by unfold v5; grind
    rw [ex] at hle ⊢
    generalize b0*c=p0 at *
    generalize b1*c=p1 at *
    generalize b2*c=p2 at *
    generalize b3*c=p3 at *
    generalize b4*c=p4 at *
    unfold v5 at *
    clear s0 s1 s2 s3 s4 ex
    omega
  · exact s0.trans (s1.trans (s2.trans (s3.trans s4)))
end Go.Sx.S4
namespace Go.Sx.S4
theorem neqF {a b:Nat} (h:a=b):realA.nc .neq a b=false:=show (!(decide (a=b)))=false by rw [decide_eq_true h]; rfl
theorem neqT {a b:Nat} (h:a≠b):realA.nc .neq a b=true:=show (!(decide (a=b)))=true by rw [decide_eq_false h]; rfl
theorem lessStep (n m i:Nat) (a b:List Nat) (hi:i<5) :
    g64L2 realA n (fun v _=>some v) (m+1) i a b=(match decide (a.getD i 0=b.getD i 0) with
      | true=>g64L2 realA n (fun v _=>some v) m ((i:Int) - 1) a b
      | false=>some (.v (.cell (.bool (decide (a.getD i 0<b.getD i 0)))))):=by
  rw [g64L2,geqT (show (0:Int)≤i by omega)]
  by_cases h:a.getD i 0=b.getD i 0
  · simp only [g64J4,negN,toNN,ltT hi,neqF h,decide_eq_true h]
    rw [subI (by omega)]
  · simp only [g64J4,negN,toNN,ltT hi,neqT h,decide_eq_false h]
    rfl
theorem lessE (m:Nat) (a0 a1 a2 a3 a4 b0 b1 b2 b3 b4:Nat) (A0:a0<18446744073709551616) (A1:a1<18446744073709551616) (A2:a2<18446744073709551616) (A3:a3<18446744073709551616)
    (B0:b0<18446744073709551616) (B1:b1<18446744073709551616) (B2:b2<18446744073709551616) (B3:b3<18446744073709551616) :
    g64 realA (m+6) (fun v _=>some v) [a0,a1,a2,a3,a4] [b0,b1,b2,b3,b4]=some (.v (.cell (.bool (decide (v5 a0 a1 a2 a3 a4<v5 b0 b1 b2 b3 b4))))):=by
  have s4:=lessStep (m+6) (m+5) 4 [a0,a1,a2,a3,a4] [b0,b1,b2,b3,b4] (by omega)
  have s3:=lessStep (m+6) (m+4) 3 [a0,a1,a2,a3,a4] [b0,b1,b2,b3,b4] (by omega)
  have s2:=lessStep (m+6) (m+3) 2 [a0,a1,a2,a3,a4] [b0,b1,b2,b3,b4] (by omega)
  have s1:=lessStep (m+6) (m+2) 1 [a0,a1,a2,a3,a4] [b0,b1,b2,b3,b4] (by omega)
  have s0:=lessStep (m+6) (m+1) 0 [a0,a1,a2,a3,a4] [b0,b1,b2,b3,b4] (by omega)
  have se:g64L2 realA (m+6) (fun v _=>some v) (m+1) (-1) [a0,a1,a2,a3,a4] [b0,b1,b2,b3,b4]=some (.v (.cell (.bool false))):=rfl
  simp only [List.getD_cons_zero,List.getD_cons_succ] at s0 s1 s2 s3 s4
  have e:g64 realA (m+6) (fun v _=>some v) [a0,a1,a2,a3,a4] [b0,b1,b2,b3,b4]=g64L2 realA (m+6) (fun v _=>some v) (m+5+1) ((4:Nat):Int) [a0,a1,a2,a3,a4] [b0,b1,b2,b3,b4]:=rfl
  rw [e,s4]
  by_cases h4:a4=b4
  · rw [decide_eq_true h4]
    refine (s3.trans ?_)
    by_cases h3:a3=b3
    · rw [decide_eq_true h3]
      refine (s2.trans ?_)
      by_cases h2:a2=b2
      · rw [decide_eq_true h2]
        refine (s1.trans ?_)
        by_cases h1:a1=b1
        · rw [decide_eq_true h1]
          refine (s0.trans ?_)
          by_cases h0:a0=b0
          · rw [decide_eq_true h0]
            refine Eq.trans (b:=some (.v (.cell (.bool false)))) rfl ?_
            rw [decide_eq_false (by unfold v5; omega)]
          · rw [decide_eq_false h0]
            have:(a0<b0)↔(v5 a0 a1 a2 a3 a4<v5 b0 b1 b2 b3 b4):=by unfold v5; omega
            rw [decide_eq_decide.2 this]
        · rw [decide_eq_false h1]
          have:(a1<b1)↔(v5 a0 a1 a2 a3 a4<v5 b0 b1 b2 b3 b4):=by unfold v5; omega
          rw [decide_eq_decide.2 this]
      · rw [decide_eq_false h2]
        have:(a2<b2)↔(v5 a0 a1 a2 a3 a4<v5 b0 b1 b2 b3 b4):=by unfold v5; omega
        rw [decide_eq_decide.2 this]
    · rw [decide_eq_false h3]
      have:(a3<b3)↔(v5 a0 a1 a2 a3 a4<v5 b0 b1 b2 b3 b4):=by unfold v5; omega
      rw [decide_eq_decide.2 this]
  · rw [decide_eq_false h4]
    have:(a4<b4)↔(v5 a0 a1 a2 a3 a4<v5 b0 b1 b2 b3 b4):=by unfold v5; omega
    rw [decide_eq_decide.2 this]
def LL:Nat:=7237005577332262213973186563042994240857116359379907606001950938285454250989
theorem minusOk (c:Nat) (a0 a1 a2 a3 a4:Nat) (hc:c<18446744073709551616) (A0:a0<18446744073709551616) (A1:a1<18446744073709551616) (A2:a2<18446744073709551616) (A3:a3<18446744073709551616) (A4:a4<18446744073709551616) (hle:LL*c≤v5 a0 a1 a2 a3 a4) :
    g63ok realA [a0,a1,a2,a3,a4] [6346243789798364141,1503914060200516822,0,1152921504606846976,0] c=true∧∃ y0 y1 y2 y3 y4,y0<18446744073709551616∧y1<18446744073709551616∧y2<18446744073709551616∧y3<18446744073709551616∧y4<18446744073709551616∧v5 y0 y1 y2 y3 y4+LL*c=v5 a0 a1 a2 a3 a4 ∧
      g63r0 realA [a0,a1,a2,a3,a4] [6346243789798364141,1503914060200516822,0,1152921504606846976,0] c=[y0,y1,y2,y3,y4]:=by
  obtain ⟨y0,y1,y2,y3,y4,h0,h1,h2,h3,h4,hv,he⟩:=minusE 99994 c a0 a1 a2 a3 a4 6346243789798364141 1503914060200516822 0 1152921504606846976 0 hc A0 A1 A2 A3 A4 (by omega) (by omega) (by omega) (by omega) (by omega) hle
  have e:g63v realA [a0,a1,a2,a3,a4] [6346243789798364141,1503914060200516822,0,1152921504606846976,0] c=some (.v (.agg [.nums .u64 5 [y0,y1,y2,y3,y4]])):=he
  refine ⟨by unfold g63ok; rw [e]; rfl,y0,y1,y2,y3,y4,h0,h1,h2,h3,h4,hv,by unfold g63r0; rw [e]; rfl⟩
theorem lessOk (a0 a1 a2 a3 a4:Nat) (A0:a0<18446744073709551616) (A1:a1<18446744073709551616) (A2:a2<18446744073709551616) (A3:a3<18446744073709551616) :
    g64ok realA [a0,a1,a2,a3,a4] [6346243789798364141,1503914060200516822,0,1152921504606846976,0]=true∧g64r0 realA [a0,a1,a2,a3,a4] [6346243789798364141,1503914060200516822,0,1152921504606846976,0]=decide (v5 a0 a1 a2 a3 a4<LL):=by
  have e:g64v realA [a0,a1,a2,a3,a4] [6346243789798364141,1503914060200516822,0,1152921504606846976,0]=some (.v (.cell (.bool (decide (v5 a0 a1 a2 a3 a4<v5 6346243789798364141 1503914060200516822 0 1152921504606846976 0))))) :=
    lessE 99994 a0 a1 a2 a3 a4 6346243789798364141 1503914060200516822 0 1152921504606846976 0 A0 A1 A2 A3 (by omega) (by omega) (by omega) (by omega)
  exact ⟨by unfold g64ok; rw [e]; rfl,by unfold g64r0; rw [e]; rfl⟩
theorem loopL (n m:Nat) (x1:List Nat) (a0 a1 a2 a3 a4:Nat) (A0:a0<18446744073709551616) (A1:a1<18446744073709551616) (A2:a2<18446744073709551616) (A3:a3<18446744073709551616) (A4:a4<18446744073709551616) (h2:v5 a0 a1 a2 a3 a4<2*LL) :
    ∃ z0 z1 z2 z3 z4,z0<18446744073709551616∧z1<18446744073709551616∧z2<18446744073709551616∧z3<18446744073709551616∧z4<18446744073709551616∧v5 z0 z1 z2 z3 z4=v5 a0 a1 a2 a3 a4%LL ∧
      g47L11 realA n (fun v _=>some v) (m+2) [a0,a1,a2,a3,a4] x1 [6346243789798364141,1503914060200516822,0,1152921504606846976,0]=some (.v (.agg [.nums .u64 5 [z0,z1,z2,z3,z4]])):=by
  obtain ⟨k,r⟩:=lessOk a0 a1 a2 a3 a4 A0 A1 A2 A3
  by_cases h:v5 a0 a1 a2 a3 a4<LL
  · refine ⟨a0,a1,a2,a3,a4,A0,A1,A2,A3,A4,(Nat.mod_eq_of_lt h).symm, ?_⟩
    rw [g47L11,k,r,decide_eq_true h]
    rfl
  · obtain ⟨k1,y0,y1,y2,y3,y4,Y0,Y1,Y2,Y3,Y4,hv,r1⟩:=minusOk 1 a0 a1 a2 a3 a4 (by omega) A0 A1 A2 A3 A4 (by omega)
    obtain ⟨k2,r2⟩:=lessOk y0 y1 y2 y3 y4 Y0 Y1 Y2 Y3
    have hy:v5 y0 y1 y2 y3 y4<LL:=by omega
    refine ⟨y0,y1,y2,y3,y4,Y0,Y1,Y2,Y3,Y4, ?_, ?_⟩
    · rw [Nat.mod_eq_sub_mod (by omega),Nat.mod_eq_of_lt (by omega)]
      omega
    · rw [g47L11,k,r,decide_eq_false h]
      simp only [Bool.not_false,k1,r1]
      rw [g47L11,k2,r2,decide_eq_true hy]
      rfl
theorem or8 (x y:Nat) (hy:y<18446744073709551616):realA.nb .or .u64 (realA.nsh .shl .u64 x 8) (realA.nsh .shr .u64 y 56)=256*(x%72057594037927936)+y/72057594037927936:=by
  show (x*2^8%2^64)|||(y/2^56)=_
  have e:x*2^8%2^64=2^8*(x%72057594037927936):=by omega
  rw [e,← Nat.two_pow_add_eq_or_of_lt (by omega)]
theorem orb (x b:Nat) (hb:b<256):realA.nb .or .u64 (realA.nsh .shl .u64 x 8) b=256*(x%72057594037927936)+b:=by
  show (x*2^8%2^64)|||b=_
  have e:x*2^8%2^64=2^8*(x%72057594037927936):=by omega
  rw [e,← Nat.two_pow_add_eq_or_of_lt (by omega)]
theorem orq (x y:Nat) (hx:x<18446744073709551616) (hy:y<1152921504606846976):realA.nb .or .u64 (realA.nsh .shr .u64 x 60) (realA.nsh .shl .u64 y 4)=16*y+x/1152921504606846976:=by
  show (x/2^60)|||(y*2^4%2^64)=_
  have e:y*2^4%2^64=2^4*y:=by omega
  rw [e,Nat.or_comm,← Nat.two_pow_add_eq_or_of_lt (by omega)]
theorem pushStep (n m b i:Nat) (a x3:List Nat) (hi:i+1<5) (ha:a.getD i 0<18446744073709551616) :
    g47L2 realA n (fun v _=>some v) (m+1) b ((i+1:Nat):Int) a x3=g47L2 realA n (fun v _=>some v) m b i (a.set (i+1) (256*(a.getD (i+1) 0%72057594037927936)+a.getD i 0/72057594037927936)) x3:=by
  rw [g47L2,gtrT (by omega)]
  have e:realA.ib .sub .i64 ((i+1:Nat):Int) 1=(i:Int):=by rw [subI (by omega)]; omega
  simp only [g47J4,negN,toNN,e,ltT hi,ltT (show i<5 by omega),or8 _ _ ha]
theorem ok27:g62ok realA=true:=by kernel_rfl
theorem r27:g62r0 realA=[6346243789798364141,1503914060200516822,0,1152921504606846976,0]:=by kernel_rfl
theorem pushE (m b a0 a1 a2 a3 a4:Nat) (hb:b<256) (A0:a0<18446744073709551616) (A1:a1<18446744073709551616) (A2:a2<18446744073709551616) (A3:a3<18446744073709551616) (A4:a4<18446744073709551616) (hL:v5 a0 a1 a2 a3 a4<LL) :
    ∃ z0 z1 z2 z3 z4,z0<18446744073709551616∧z1<18446744073709551616∧z2<18446744073709551616∧z3<18446744073709551616∧z4<18446744073709551616∧v5 z0 z1 z2 z3 z4=(256*v5 a0 a1 a2 a3 a4+b)%LL ∧
      g47 realA (m+6) (fun v _=>some v) [a0,a1,a2,a3,a4] b=some (.v (.agg [.nums .u64 5 [z0,z1,z2,z3,z4]])):=by
  have s4:=pushStep (m+6) (m+5) b 3 [a0,a1,a2,a3,a4] [0,0,0,0,0] (by omega) A3
  have s3:=pushStep (m+6) (m+4) b 2 [a0,a1,a2,a3,256*(a4%72057594037927936)+a3/72057594037927936] [0,0,0,0,0] (by omega) A2
  have s2:=pushStep (m+6) (m+3) b 1 [a0,a1,a2,256*(a3%72057594037927936)+a2/72057594037927936,256*(a4%72057594037927936)+a3/72057594037927936] [0,0,0,0,0] (by omega) A1
  have s1:=pushStep (m+6) (m+2) b 0 [a0,a1,256*(a2%72057594037927936)+a1/72057594037927936,256*(a3%72057594037927936)+a2/72057594037927936,256*(a4%72057594037927936)+a3/72057594037927936] [0,0,0,0,0] (by omega) A0
  simp only [List.getD_cons_zero,List.getD_cons_succ,List.set_cons_succ,List.set_cons_zero] at s1 s2 s3 s4
  have h4:a4=0:=by unfold v5 LL at hL; omega
  have hx:v5 (256*(a0%72057594037927936)+b) (256*(a1%72057594037927936)+a0/72057594037927936) (256*(a2%72057594037927936)+a1/72057594037927936) (256*(a3%72057594037927936)+a2/72057594037927936) (256*(a4%72057594037927936)+a3/72057594037927936)=256*v5 a0 a1 a2 a3 a4+b:=by
    unfold v5; omega
  have X0:256*(a0%72057594037927936)+b<18446744073709551616:=by omega
  have X1:256*(a1%72057594037927936)+a0/72057594037927936<18446744073709551616:=by omega
  have X2:256*(a2%72057594037927936)+a1/72057594037927936<18446744073709551616:=by omega
  have X3:256*(a3%72057594037927936)+a2/72057594037927936<18446744073709551616:=by omega
  have X4:256*(a4%72057594037927936)+a3/72057594037927936<256:=by omega
  have e0:g47 realA (m+6) (fun v _=>some v) [a0,a1,a2,a3,a4] b=g47L2 realA (m+6) (fun v _=>some v) (m+5+1) b ((3+1:Nat):Int) [a0,a1,a2,a3,a4] [0,0,0,0,0]:=rfl
  rw [e0,s4,show ((3:Nat):Int)=((2+1:Nat):Int) from rfl,s3,show ((2:Nat):Int)=((1+1:Nat):Int) from rfl,s2,show ((1:Nat):Int)=((0+1:Nat):Int) from rfl,s1,← hx]
  clear s1 s2 s3 s4 e0
  have hxL:v5 (256*(a0%72057594037927936)+b) (256*(a1%72057594037927936)+a0/72057594037927936) (256*(a2%72057594037927936)+a1/72057594037927936) (256*(a3%72057594037927936)+a2/72057594037927936) (256*(a4%72057594037927936)+a3/72057594037927936)<256*LL:=by rw [hx]; omega
  rw [g47L2,gtrF (by omega)]
  simp only [g47J5,ok27,r27,List.set_cons_zero,List.getD_cons_zero,List.getD_cons_succ,orb _ _ hb,orq _ _ X3 (show 256*(a4%72057594037927936)+a3/72057594037927936<1152921504606846976 by omega)]
  generalize 256*(a0%72057594037927936)+b=x0 at *
  generalize 256*(a1%72057594037927936)+a0/72057594037927936=x1 at *
  generalize 256*(a2%72057594037927936)+a1/72057594037927936=x2 at *
  generalize 256*(a3%72057594037927936)+a2/72057594037927936=x3 at *
  generalize 256*(a4%72057594037927936)+a3/72057594037927936=x4 at *
  clear A0 A1 A2 A3 A4 hL hx
  have go:∀ q,q<18446744073709551616→LL*q≤v5 x0 x1 x2 x3 x4→v5 x0 x1 x2 x3 x4<LL*q+2*LL→∃ z0 z1 z2 z3 z4,z0<18446744073709551616∧z1<18446744073709551616∧z2<18446744073709551616∧z3<18446744073709551616∧z4<18446744073709551616∧v5 z0 z1 z2 z3 z4=v5 x0 x1 x2 x3 x4%LL ∧
      g47J10 realA (m+6) (fun v _=>some v) q [x0,x1,x2,x3,x4] [0,0,0,0,0] [6346243789798364141,1503914060200516822,0,1152921504606846976,0]=some (.v (.agg [.nums .u64 5 [z0,z1,z2,z3,z4]])):=by
    intro q hq h1 h2
    obtain ⟨k1,y0,y1,y2,y3,y4,Y0,Y1,Y2,Y3,Y4,hv,r1⟩:=minusOk q x0 x1 x2 x3 x4 hq X0 X1 X2 X3 (by omega) h1
    obtain ⟨z0,z1,z2,z3,z4,Z0,Z1,Z2,Z3,Z4,hz,r2⟩:=loopL (m+6) (m+4) [0,0,0,0,0] y0 y1 y2 y3 y4 Y0 Y1 Y2 Y3 Y4 (by omega)
    refine ⟨z0,z1,z2,z3,z4,Z0,Z1,Z2,Z3,Z4, ?_, ?_⟩
    · rw [hz,← hv,Nat.add_mul_mod_self_left]
    · unfold g47J10
      rw [k1,r1]
      exact r2
  by_cases hq:0<16*x4+x3/1152921504606846976
  · have e1:realA.nc .gtr (16*x4+x3/1152921504606846976) 0=true:=show decide (0<16*x4+x3/1152921504606846976)=true from decide_eq_true hq
    have e2:realA.nb .sub .u64 (16*x4+x3/1152921504606846976) 1=16*x4+x3/1152921504606846976 - 1:=by
      show (16*x4+x3/1152921504606846976+2^64 - 1)%2^64=_
      omega
    rw [e1]
    simp only [e2]
    exact go _ (by omega) (by unfold v5 LL; omega) (by unfold v5 LL; omega)
  · have e1:realA.nc .gtr (16*x4+x3/1152921504606846976) 0=false:=show decide (0<16*x4+x3/1152921504606846976)=false from decide_eq_false hq
    rw [e1]
    exact go _ (by omega) (by unfold v5 LL; omega) (by unfold v5 LL; omega)
end Go.Sx.S4
namespace Go.Sx.S4
def leval:List Nat→Nat
  | []=>0
  | x::r=>x+256*leval r
def le32 (v:Nat):List Nat:=(List.range 32).map fun i=>v/256^i%256
theorem le32_length (v:Nat):(le32 v).length=32:=by simp [le32]
theorem le32_lt (v:Nat):∀ x ∈ le32 v,x<256:=by
  intro x hx
  simp only [le32,List.mem_map] at hx
  obtain ⟨i,_,rfl⟩:=hx
  omega
theorem leval_lt {l:List Nat} (h:∀ x ∈ l,x<256):leval l<256^l.length:=by
  induction l with
  | nil=>simp [leval]
  | cons x r ih =>
    have h1:=ih fun y hy=>h y (List.mem_cons_of_mem _ hy)
    have h2:=h x (List.mem_cons_self ..)
    simp only [leval,List.length_cons,Nat.pow_succ]
    omega
theorem leval_append (a b:List Nat):leval (a++b)=leval a+256^a.length*leval b:=by
  induction a with
  | nil=>simp [leval]
  | cons x r ih =>
    simp only [List.cons_append,leval,ih,List.length_cons,Nat.pow_succ]
    grind
theorem leval_range (v k:Nat):leval ((List.range k).map fun i=>v/256^i%256)=v%256^k:=by
  induction k with
  | zero=>simp [leval,Nat.mod_one]
  | succ k ih =>
    rw [List.range_succ,List.map_append,leval_append,ih]
    simp only [List.map_cons,List.map_nil,leval,List.length_map,List.length_range,Nat.mul_zero,Nat.add_zero]
    have h1:v%256^(k+1)=v%256^k+256^k*(v/256^k%256):=by
      rw [Nat.pow_succ,Nat.mod_mul]
    omega
theorem leval_le32 (v:Nat) (h:v<256^32):leval (le32 v)=v:=by
  unfold le32
  rw [leval_range,Nat.mod_eq_of_lt h]
theorem le32_leval {l:List Nat} (h:∀ x ∈ l,x<256) (hl:l.length=32):le32 (leval l)=l:=by
  have key:∀ (k:Nat) (l:List Nat),(∀ x ∈ l,x<256)→l.length=k→(List.range k).map (fun i=>leval l/256^i%256)=l:=by
    intro k
    induction k with
    | zero=>intro l _ hl; rw [List.length_eq_zero_iff.1 hl]; rfl
    | succ k ih =>
      intro l h hl
      cases l with
      | nil=>simp at hl
      | cons x r =>
        have h2:=h x (List.mem_cons_self ..)
        rw [List.range_succ_eq_map,List.map_cons,List.map_map]
        have e0:leval (x::r)/256^0%256=x:=by simp only [leval,Nat.pow_zero,Nat.div_one]; omega
        rw [e0]
        congr 1
        refine Eq.trans ?_ (ih r (fun y hy=>h y (List.mem_cons_of_mem _ hy)) (by simpa using hl))
        apply List.map_congr_left
        intro i _
        show leval (x::r)/256^(i+1)%256=_
        have:leval (x::r)/256^(i+1)=leval r/256^i:=by
          rw [Nat.pow_succ,Nat.mul_comm,← Nat.div_div_eq_div_mul]
          congr 1
          simp only [leval]
          omega
        rw [this]
  exact key 32 l h hl
def byteAt (a:List Nat) (i:Nat):Nat:=a.getD (i/8) 0/2^(8*(i%8))%256
theorem take_set (l:List Nat) (i y:Nat) (h:i<l.length):(l.set i y).take (i+1)=l.take i++[y]:=by
  rw [List.take_add_one,List.getElem?_set_self h]
  congr 1
  rw [List.take_set_of_le (Nat.le_refl i)]
theorem bytesLoop (n:Nat) (a:List Nat):∀ (k i m:Nat) (l:List Nat),i+k=32→l.length=32→l.take i=(List.range i).map (byteAt a) →
    g48L3 realA n (fun v _=>some v) (m+k+1) 32 (realA.ofN 32) i a 32 l=some (.v (.cell (.str ((List.range 32).map (byteAt a))))):=by
  intro k
  induction k with
  | zero =>
    intro i m l hi hl ht
    have e:i=32:=by omega
    subst e
    rw [g48L3,lssF (show ¬ ((32:Nat):Int)<realA.ofN 32 from by show ¬ ((32:Nat):Int)<((32:Nat):Int); omega),← ht]
  | succ k ih =>
    intro i m l hi hl ht
    have e1:realA.ib .quo .i64 (i:Int) 8=((i/8:Nat):Int):=by
      show IntKind.wrap .i64 ((i:Int).tdiv 8)=_
      rw [Int.tdiv_eq_ediv_of_nonneg (by omega),wrap64 (by omega)]
      omega
    have e2:realA.ib .rem .i64 (i:Int) 8=((i%8:Nat):Int):=by
      show (i:Int).tmod 8=_
      rw [Int.tmod_eq_emod_of_nonneg (by omega)]
      omega
    have e3:realA.ib .mul .i64 8 ((i%8:Nat):Int)=((8*(i%8):Nat):Int):=by rw [mulI (by omega)]; omega
    have e4:realA.ib .add .i64 (i:Int) 1=((i+1:Nat):Int):=addN 1 (by omega)
    have e5:∀ x y,realA.n2n .u8 (realA.nsh .shr .u64 x y)=x/2^y%256:=fun x y=>rfl
    rw [show m+(k+1)+1=(m+k+1)+1 from by omega,g48L3,lssT (show (i:Int)<realA.ofN 32 from by show (i:Int)<((32:Nat):Int); omega)]
    simp only [g48J4,e1,e2,e3,e4,e5,negN,toNN,ltT (show i/8<5 by omega),ltT (show i<32 by omega)]
    refine ih (i+1) m _ (by omega) (by simp [hl]) ?_
    rw [take_set _ _ _ (by omega),ht,List.range_succ,List.map_append]
    rfl
theorem byteAt_v5 (a0 a1 a2 a3 a4:Nat) (A0:a0<18446744073709551616) (A1:a1<18446744073709551616) (A2:a2<18446744073709551616) (A3:a3<18446744073709551616) (i:Nat) (hi:i<32) :
    byteAt [a0,a1,a2,a3,a4] i=v5 a0 a1 a2 a3 a4/256^i%256:=by
  unfold byteAt v5
  have:i=0∨i=1∨i=2∨i=3∨i=4∨i=5∨i=6∨i=7∨i=8∨i=9∨i=10∨i=11∨i=12∨i=13∨i=14∨i=15∨i=16∨i=17∨i=18∨i=19∨i=20∨i=21∨i=22∨i=23∨i=24∨i=25∨i=26∨i=27∨i=28∨i=29∨i=30∨i=31:=by omega
  rcases this with h | h | h | h | h | h | h | h | h | h | h | h | h | h | h | h | h | h | h | h | h | h | h | h | h | h | h | h | h | h | h | h <;> subst h <;> simp only [Nat.reduceDiv,Nat.reduceMod,Nat.reduceMul,Nat.reducePow,List.getD_cons_zero,List.getD_cons_succ] <;> omega
theorem bytesE (m a0 a1 a2 a3 a4:Nat) (A0:a0<18446744073709551616) (A1:a1<18446744073709551616) (A2:a2<18446744073709551616) (A3:a3<18446744073709551616) :
    g48 realA (m+33) (fun v _=>some v) [a0,a1,a2,a3,a4]=some (.v (.cell (.str (le32 (v5 a0 a1 a2 a3 a4))))):=by
  have e:g48 realA (m+33) (fun v _=>some v) [a0,a1,a2,a3,a4]=g48L3 realA (m+33) (fun v _=>some v) (m+32+1) 32 (realA.ofN 32) ((0:Nat):Int) [a0,a1,a2,a3,a4] 32 (List.replicate 32 0):=rfl
  rw [e,bytesLoop (m+33) [a0,a1,a2,a3,a4] 32 0 m (List.replicate 32 0) rfl rfl rfl]
  congr 4
  apply List.map_congr_left
  intro i hi
  exact byteAt_v5 a0 a1 a2 a3 a4 A0 A1 A2 A3 i (by simpa using hi)
theorem bytesOk (a0 a1 a2 a3 a4:Nat) (A0:a0<18446744073709551616) (A1:a1<18446744073709551616) (A2:a2<18446744073709551616) (A3:a3<18446744073709551616) :
    g48ok realA [a0,a1,a2,a3,a4]=true∧g48r0 realA [a0,a1,a2,a3,a4]=le32 (v5 a0 a1 a2 a3 a4):=by
  have e:g48v realA [a0,a1,a2,a3,a4]=some (.v (.cell (.str (le32 (v5 a0 a1 a2 a3 a4))))):=bytesE 99967 a0 a1 a2 a3 a4 A0 A1 A2 A3
  exact ⟨by unfold g48ok; rw [e]; rfl,by unfold g48r0; rw [e]; rfl⟩
theorem pushOk (b a0 a1 a2 a3 a4:Nat) (hb:b<256) (A0:a0<18446744073709551616) (A1:a1<18446744073709551616) (A2:a2<18446744073709551616) (A3:a3<18446744073709551616) (A4:a4<18446744073709551616) (hL:v5 a0 a1 a2 a3 a4<LL) :
    g47ok realA [a0,a1,a2,a3,a4] b=true∧∃ z0 z1 z2 z3 z4,z0<18446744073709551616∧z1<18446744073709551616∧z2<18446744073709551616∧z3<18446744073709551616∧z4<18446744073709551616∧v5 z0 z1 z2 z3 z4=(256*v5 a0 a1 a2 a3 a4+b)%LL ∧
      g47r0 realA [a0,a1,a2,a3,a4] b=[z0,z1,z2,z3,z4]:=by
  obtain ⟨z0,z1,z2,z3,z4,Z0,Z1,Z2,Z3,Z4,hz,he⟩:=pushE 99994 b a0 a1 a2 a3 a4 hb A0 A1 A2 A3 A4 hL
  have e:g47v realA [a0,a1,a2,a3,a4] b=some (.v (.agg [.nums .u64 5 [z0,z1,z2,z3,z4]])):=he
  exact ⟨by unfold g47ok; rw [e]; rfl,z0,z1,z2,z3,z4,Z0,Z1,Z2,Z3,Z4,hz,by unfold g47r0; rw [e]; rfl⟩
theorem LL_pos:0<LL:=by decide
theorem reduceLoop (n:Nat) (s:List Nat) (hs:∀ x ∈ s,x<256):∀ (k m a0 a1 a2 a3 a4:Nat),k≤s.length→k<1000→a0<18446744073709551616→a1<18446744073709551616→a2<18446744073709551616→a3<18446744073709551616→a4<18446744073709551616→v5 a0 a1 a2 a3 a4<LL →
    g27L3 realA n (fun v _=>some v) (m+k+1) s ((k:Int) - 1) [a0,a1,a2,a3,a4]=some (.v (.cell (.str (le32 ((leval (s.take k)+256^k*v5 a0 a1 a2 a3 a4)%LL))))):=by
  intro k
  induction k with
  | zero =>
    intro m a0 a1 a2 a3 a4 _ _ A0 A1 A2 A3 A4 hv
    obtain ⟨k1,r1⟩:=bytesOk a0 a1 a2 a3 a4 A0 A1 A2 A3
    rw [g27L3,geqF (show ¬ (0:Int)≤((0:Nat):Int) - 1 by omega)]
    simp only [k1,r1,List.take_zero,leval,Nat.pow_zero,Nat.one_mul,Nat.zero_add,Nat.mod_eq_of_lt hv]
  | succ k ih =>
    intro m a0 a1 a2 a3 a4 hk hk2 A0 A1 A2 A3 A4 hv
    have e1:((k+1:Nat):Int) - 1=(k:Int):=by omega
    have hb:s.getD k 0<256:=getD_lt hs k
    obtain ⟨k1,z0,z1,z2,z3,z4,Z0,Z1,Z2,Z3,Z4,hz,r1⟩:=pushOk (s.getD k 0) a0 a1 a2 a3 a4 hb A0 A1 A2 A3 A4 hv
    rw [e1,show m+(k+1)+1=(m+k+1)+1 from by omega,g27L3,geqT (show (0:Int)≤(k:Int) by omega)]
    simp only [g27J5,negN,toNN,ltT (show k<s.length by omega),k1,r1]
    rw [subI (by omega),ih m z0 z1 z2 z3 z4 (by omega) (by omega) Z0 Z1 Z2 Z3 Z4 (by rw [hz]; exact Nat.mod_lt _ LL_pos),hz]
    have et:s.take (k+1)=s.take k++[s.getD k 0]:=by
      rw [List.take_add_one,List.getD_eq_getElem?_getD,List.getElem?_eq_getElem (by omega)]
      rfl
    have el:(s.take k).length=k:=by rw [List.length_take]; omega
    rw [et,leval_append,el]
    congr 5
    rw [Nat.add_mod,Nat.mul_mod,Nat.mod_mod,← Nat.mul_mod,← Nat.add_mod]
    congr 1
    simp only [leval,Nat.pow_succ]
    grind
theorem reduceE (m:Nat) (s:List Nat) (hs:∀ x ∈ s,x<256) (hl:s.length<9223372036854775808):g27 realA (m+65) (fun v _=>some v) s=some (.v (.cell (.str (le32 (leval (s.take 64)%LL))))):=by
  have e0:realA.ib .sub .i64 (realA.mn (realA.ofN s.length) 64) 1=((min s.length 64:Nat):Int) - 1:=by
    have:realA.mn (realA.ofN s.length) 64=((min s.length 64:Nat):Int):=by
      show (if (64:Int)<(s.length:Int) then (64:Int) else (s.length:Int))=_
      split <;> omega
    rw [this,subI (by omega)]
  unfold g27
  rw [e0,show m+65=(m+64 - min s.length 64)+min s.length 64+1 from by omega]
  rw [reduceLoop _ s hs (min s.length 64) (m+64 - min s.length 64) 0 0 0 0 0 (by omega) (by omega) (by omega) (by omega) (by omega) (by omega) (by omega) (by decide)]
  have e1:s.take (min s.length 64)=s.take 64:=by rw [Nat.min_comm,← List.take_take,List.take_length]
  rw [e1]
  rfl
theorem reduceOk {s:List Nat} (hs:∀ x ∈ s,x<256) (hl:s.length<9223372036854775808):g27ok realA s=true∧g27r0 realA s=le32 (leval (s.take 64)%LL):=by
  have e:g27v realA s=some (.v (.cell (.str (le32 (leval (s.take 64)%LL))))):=reduceE 99935 s hs hl
  exact ⟨by unfold g27ok; rw [e]; rfl,by unfold g27r0; rw [e]; rfl⟩
end Go.Sx.S4
namespace Go.Sx.S4
theorem getD_setN (l:List Nat) (j y i:Nat) (h:j<l.length):(l.set j y).getD i 0=(match decide (i=j) with | true=>y | false=>l.getD i 0):=by
  by_cases e:i=j
  · subst e
    rw [decide_eq_true rfl,List.getD_eq_getElem?_getD,List.getElem?_set_self h]
    rfl
  · rw [decide_eq_false e,List.getD_eq_getElem?_getD,List.getElem?_set_ne (by omega),← List.getD_eq_getElem?_getD]
theorem leval_set:∀ (l:List Nat) (j y:Nat),j<l.length→leval (l.set j y)+256^j*l.getD j 0=leval l+256^j*y:=by
  intro l
  induction l with
  | nil=>intro j y h; simp at h
  | cons x r ih =>
    intro j y h
    cases j with
    | zero=>simp [leval]; omega
    | succ j =>
      have:=ih j y (by simpa using h)
      simp only [List.set_cons_succ,leval,List.getD_cons_succ,Nat.pow_succ]
      grind
theorem leval_drop (l:List Nat) (k:Nat) (h:k<l.length):leval (l.drop k)=l.getD k 0+256*leval (l.drop (k+1)):=by
  rw [List.drop_eq_getElem_cons h,leval,List.getD_eq_getElem?_getD,List.getElem?_eq_getElem h]
  rfl
theorem getD_take (l:List Nat) (k n:Nat) (h:k<n):(l.take n).getD k 0=l.getD k 0:=by
  rw [List.getD_eq_getElem?_getD,List.getElem?_take_of_lt h,← List.getD_eq_getElem?_getD]
def Bd (l:List Nat) (t:Nat):Prop:=∀ j,l.getD j 0≤t
theorem bd_set {l:List Nat} {j y t u:Nat} (h:Bd l t) (htu:t≤u) (hy:y≤u) (hj:j<l.length):Bd (l.set j y) u:=by
  intro i
  rw [getD_setN _ _ _ _ hj]
  split
  · exact hy
  · exact Nat.le_trans (h i) htu
theorem inner (n:Nat) (kk:AV→Heap→Option AV) (lg:List Nat→List Nat→List Nat→Int→Int→List Nat→Option AV) (a b c:List Nat) (x4:Int) (i B:Nat) (ha:∀ x ∈ a,x<256) (hb:∀ x ∈ b,x<256) (hi:i<a.length) (hi2:i<32) (hB:B≤b.length) (hB2:B≤32) :
    ∀ (r k m t:Nat) (x8:List Nat),k+r=B→x8.length=65→Bd x8 t→t+65025*r<4294967296 →
      ∃ y,y.length=65∧Bd y (t+65025*r)∧leval y=leval x8+256^i*(a.getD i 0*(256^k*leval ((b.take B).drop k))) ∧
        g15L6 realA n kk lg (m+r+1) a b c i x4 i (B:Int) k x8=lg a b c x4 ((i+1:Nat):Int) y:=by
  intro r
  induction r with
  | zero =>
    intro k m t x8 hk hl hbd ht
    refine ⟨x8,hl,hbd, ?_, ?_⟩
    · rw [List.drop_of_length_le (by rw [List.length_take]; omega)]
      simp [leval]
    · rw [g15L6,lssF (by omega)]
      simp only []
      rw [show realA.ib .add .i64 (i:Int) 1=((i+1:Nat):Int) from addN 1 (by omega)]
  | succ r ih =>
    intro k m t x8 hk hl hbd ht
    have h1:=getD_lt ha i
    have h2:=getD_lt hb k
    have hp:a.getD i 0*b.getD k 0≤255*255:=Nat.mul_le_mul (by omega) (by omega)
    have h3:=hbd (i+k)
    have e1:realA.ib .add .i64 (i:Int) (k:Int)=((i+k:Nat):Int):=addN k (by omega)
    have e2:realA.ib .add .i64 (k:Int) 1=((k+1:Nat):Int):=addN 1 (by omega)
    have e3:∀ x y,realA.nb .add .u32 x y=(x+y)%4294967296:=fun x y=>rfl
    have e4:∀ x y,realA.nb .mul .u32 x y=(x*y)%4294967296:=fun x y=>rfl
    have e5:(x8.getD (i+k) 0+a.getD i 0*b.getD k 0%4294967296)%4294967296=x8.getD (i+k) 0+a.getD i 0*b.getD k 0:=by omega
    obtain ⟨y,hy1,hy2,hy3,hy4⟩:=ih (k+1) m (t+65025) (x8.set (i+k) (x8.getD (i+k) 0+a.getD i 0*b.getD k 0)) (by omega) (by simp [hl]) (bd_set hbd (by omega) (by omega) (by omega)) (by omega)
    refine ⟨y,hy1, ?_, ?_, ?_⟩
    · rw [show t+65025*(r+1)=t+65025+65025*r from by omega]
      exact hy2
    · have:=leval_set x8 (i+k) (x8.getD (i+k) 0+a.getD i 0*b.getD k 0) (by omega)
      rw [hy3,leval_drop (b.take B) k (by rw [List.length_take]; omega),getD_take _ _ _ (by omega)]
      simp only [Nat.pow_add,Nat.pow_succ] at this ⊢
      grind
    · rw [show m+(r+1)+1=(m+r+1)+1 from by omega,g15L6,lssT (by omega)]
      simp only [g15J7,e1,e2,negN,toNN,ltT (show i+k<65 by omega),ltT hi,ltT (show k<b.length by omega),e3,e4,e5]
      exact hy4
theorem outer (n0:Nat) (kk:AV→Heap→Option AV) (a b c:List Nat) (N B:Nat) (ha:∀ x ∈ a,x<256) (hb:∀ x ∈ b,x<256) (hN:N≤a.length) (hN2:N≤32) (hB:B=min b.length 32) :
    ∀ (r i m t:Nat) (x5:List Nat),i+r=N→x5.length=65→Bd x5 t→t+2080800*r<4294967296 →
      ∃ y,y.length=65∧Bd y (t+2080800*r)∧leval y=leval x5+256^i*(leval ((a.take N).drop i)*leval (b.take B)) ∧
        g15L3 realA (n0+33) kk (m+r+1) a b c (N:Int) i x5=g15J11 realA (n0+33) kk c y:=by
  intro r
  induction r with
  | zero =>
    intro i m t x5 hi hl hbd ht
    refine ⟨x5,hl,hbd, ?_, ?_⟩
    · rw [List.drop_of_length_le (by rw [List.length_take]; omega)]
      simp [leval]
    · rw [g15L3,lssF (by omega)]
  | succ r ih =>
    intro i m t x5 hi hl hbd ht
    have hmn:realA.mn (realA.ofN b.length) 32=(B:Int):=by
      show (if (32:Int)<(b.length:Int) then (32:Int) else (b.length:Int))=_
      split <;> omega
    obtain ⟨z,hz1,hz2,hz3,hz4⟩:=inner (n0+33) kk (g15L3 realA (n0+33) kk (m+r+1)) a b c (N:Int) i B ha hb (by omega) (by omega) (by omega) (by omega) B 0 (n0+32 - B) t x5 (by omega) hl hbd (by omega)
    obtain ⟨y,hy1,hy2,hy3,hy4⟩:=ih (i+1) m (t+2080800) z (by omega) hz1 (fun j=>Nat.le_trans (hz2 j) (by omega)) (by omega)
    refine ⟨y,hy1, ?_, ?_, ?_⟩
    · rw [show t+2080800*(r+1)=t+2080800+2080800*r from by omega]
      exact hy2
    · rw [hy3,hz3,leval_drop (a.take N) i (by rw [List.length_take]; omega),getD_take _ _ _ (by omega)]
      simp only [Nat.pow_succ,List.drop_zero,Nat.pow_zero]
      grind
    · rw [show m+(r+1)+1=(m+r+1)+1 from by omega,g15L3,lssT (by omega)]
      simp only [g15J4]
      rw [hmn]
      rw [show n0+32 - B+B+1=n0+33 from by omega] at hz4
      exact hz4.trans hy4
theorem third (n:Nat) (kk:AV→Heap→Option AV) (c:List Nat) (C:Nat) (hc:∀ x ∈ c,x<256) (hC:C≤c.length) (hC2:C≤32) :
    ∀ (r i m t:Nat) (x3:List Nat),i+r=C→x3.length=65→Bd x3 t→t+255*r<4294967296 →
      ∃ y,y.length=65∧Bd y (t+255*r)∧leval y=leval x3+256^i*leval ((c.take C).drop i) ∧
        g15L12 realA n kk (m+r+1) c (C:Int) i x3=g15J16 realA n kk y:=by
  intro r
  induction r with
  | zero =>
    intro i m t x3 hi hl hbd ht
    refine ⟨x3,hl,hbd, ?_, ?_⟩
    · rw [List.drop_of_length_le (by rw [List.length_take]; omega)]
      simp [leval]
    · rw [g15L12,lssF (by omega)]
  | succ r ih =>
    intro i m t x3 hi hl hbd ht
    have h1:=getD_lt hc i
    have h3:=hbd i
    have e2:realA.ib .add .i64 (i:Int) 1=((i+1:Nat):Int):=addN 1 (by omega)
    have e3:realA.nb .add .u32 (x3.getD i 0) (c.getD i 0)=x3.getD i 0+c.getD i 0:=by
      show (x3.getD i 0+c.getD i 0)%4294967296=_
      omega
    obtain ⟨y,hy1,hy2,hy3,hy4⟩:=ih (i+1) m (t+255) (x3.set i (x3.getD i 0+c.getD i 0)) (by omega) (by simp [hl]) (bd_set hbd (by omega) (by omega) (by omega)) (by omega)
    refine ⟨y,hy1, ?_, ?_, ?_⟩
    · rw [show t+255*(r+1)=t+255+255*r from by omega]
      exact hy2
    · have:=leval_set x3 i (x3.getD i 0+c.getD i 0) (by omega)
      rw [hy3,leval_drop (c.take C) i (by rw [List.length_take]; omega),getD_take _ _ _ (by omega)]
      simp only [Nat.pow_succ] at this ⊢
      grind
    · rw [show m+(r+1)+1=(m+r+1)+1 from by omega,g15L12,lssT (by omega)]
      simp only [g15J13,e2,negN,toNN,ltT (show i<65 by omega),ltT (show i<c.length by omega),e3]
      exact hy4
theorem drop_set_next (l:List Nat) (i y:Nat) (h:i<l.length):(l.set i y).drop i=y::l.drop (i+1):=by
  rw [List.drop_eq_getElem_cons (by simpa using h),List.getElem_set_self,List.drop_set_of_lt (by omega)]
theorem carryLoop (n:Nat):∀ (r i m t:Nat) (x3 x5:List Nat),i+r=64→x3.length=65→x5.length=64→(∀ x ∈ x5,x<256)→Bd x3 (2*t)→(∀ j,i<j→x3.getD j 0≤t)→1≤t→2*t<4294967296 →
    ∃ out sum,out.length=64∧(∀ x ∈ out,x<256)∧leval out+256^64*sum=leval (x5.take i)+256^i*leval (x3.drop i) ∧
      g15L18 realA n (fun v _=>some v) (m+r+1) 64 (realA.ofN 64) i x3 64 x5=some (.v (.cell (.str (le32 (leval out%LL))))):=by
  intro r
  induction r with
  | zero =>
    intro i m t x3 x5 hi h3 h5 hx hb hj ht1 ht
    have e:i=64:=by omega
    subst e
    have e5:x5.take 64=x5:=List.take_of_length_le (by omega)
    obtain ⟨k1,r1⟩:=reduceOk hx (by omega)
    rw [e5] at r1
    refine ⟨x5,leval (x3.drop 64),h5,hx,by rw [e5], ?_⟩
    rw [g15L18,lssF (show ¬ ((64:Nat):Int)<realA.ofN 64 from by show ¬ ((64:Nat):Int)<((64:Nat):Int); omega)]
    simp only [e5,k1,r1]
  | succ r ih =>
    intro i m t x3 x5 hi h3 h5 hx hb hj ht1 ht
    have e1:realA.ib .add .i64 (i:Int) 1=((i+1:Nat):Int):=addN 1 (by omega)
    have hs:=hb i
    have hs1:=hj (i+1) (by omega)
    have e3:realA.nb .add .u32 (x3.getD (i+1) 0) (realA.nsh .shr .u32 (x3.getD i 0) 8)=x3.getD (i+1) 0+x3.getD i 0/256:=by
      show (x3.getD (i+1) 0+x3.getD i 0/256)%4294967296=_
      omega
    have e4:realA.n2n .u8 (x3.getD i 0)=x3.getD i 0%256:=rfl
    obtain ⟨out,sum,ho,hlt,hv,he⟩:=ih (i+1) m t (x3.set (i+1) (x3.getD (i+1) 0+x3.getD i 0/256)) (x5.set i (x3.getD i 0%256)) (by omega) (by simp [h3]) (by simp [h5])
      (fun x hxx=>(List.mem_or_eq_of_mem_set hxx).elim (hx x) (fun e=>by omega)) (bd_set hb (Nat.le_refl _) (by omega) (by omega))
      (fun j hjj=>by rw [getD_setN _ _ _ _ (by omega),decide_eq_false (by omega)]; exact hj j (by omega)) ht1 ht
    refine ⟨out,sum,ho,hlt, ?_, ?_⟩
    · rw [hv,take_set _ _ _ (by omega),leval_append,drop_set_next _ _ _ (by omega),leval_drop x3 i (by omega),leval_drop x3 (i+1) (by omega)]
      have:(x5.take i).length=i:=by rw [List.length_take]; omega
      rw [this]
      have hq:x3.getD i 0=x3.getD i 0%256+256*(x3.getD i 0/256):=by omega
      simp only [leval,Nat.pow_succ]
      grind
    · rw [show m+(r+1)+1=(m+r+1)+1 from by omega,g15L18,lssT (show (i:Int)<realA.ofN 64 from by show (i:Int)<((64:Nat):Int); omega)]
      simp only [g15J19,e1,negN,toNN,ltT (show i<65 by omega),ltT (show i<64 by omega),ltT (show i+1<65 by omega),e3,e4]
      exact he
theorem mulAddE (m:Nat) (a b c:List Nat) (ha:∀ x ∈ a,x<256) (hb:∀ x ∈ b,x<256) (hc:∀ x ∈ c,x<256) :
    g15 realA (m+100) (fun v _=>some v) a b c=some (.v (.cell (.str (le32 ((leval (a.take 32)*leval (b.take 32)+leval (c.take 32))%LL))))):=by
  have hmn:∀ l:List Nat,realA.mn (realA.ofN l.length) 32=((min l.length 32:Nat):Int):=by
    intro l
    show (if (32:Int)<(l.length:Int) then (32:Int) else (l.length:Int))=_
    split <;> omega
  have tk:∀ l:List Nat,l.take (min l.length 32)=l.take 32:=by
    intro l
    rw [Nat.min_comm,← List.take_take,List.take_length]
  obtain ⟨y,hy1,hy2,hy3,hy4⟩:=outer (m+67) (fun v _=>some v) a b c (min a.length 32) (min b.length 32) ha hb (by omega) (by omega) rfl (min a.length 32) 0 (m+99 - min a.length 32) 0 [0,0,0,0,0,0,0,0,0,0,0,0,0,0,0,0,0,0,0,0,0,0,0,0,0,0,0,0,0,0,0,0,0,0,0,0,0,0,0,0,0,0,0,0,0,0,0,0,0,0,0,0,0,0,0,0,0,0,0,0,0,0,0,0,0] (by omega) rfl
    (fun j=>by
      have:∀ x ∈ [0,0,0,0,0,0,0,0,0,0,0,0,0,0,0,0,0,0,0,0,0,0,0,0,0,0,0,0,0,0,0,0,0,0,0,0,0,0,0,0,0,0,0,0,0,0,0,0,0,0,0,0,0,0,0,0,0,0,0,0,0,0,0,0,0],x=0:=by decide
      rw [List.getD_eq_getElem?_getD]
      cases h:[0,0,0,0,0,0,0,0,0,0,0,0,0,0,0,0,0,0,0,0,0,0,0,0,0,0,0,0,0,0,0,0,0,0,0,0,0,0,0,0,0,0,0,0,0,0,0,0,0,0,0,0,0,0,0,0,0,0,0,0,0,0,0,0,0][j]? with
      | none=>exact Nat.le_refl _
      | some x=>have:=this x (List.mem_of_getElem? h); simp [this]) (by omega)
  obtain ⟨z,hz1,hz2,hz3,hz4⟩:=third (m+100) (fun v _=>some v) c (min c.length 32) hc (by omega) (by omega) (min c.length 32) 0 (m+99 - min c.length 32) (0+2080800*min a.length 32) y (by omega) hy1 hy2 (by omega)
  obtain ⟨out,sum,ho,hlt,hv,he⟩:=carryLoop (m+100) 64 0 (m+35) 66593760 z (List.replicate 64 0) rfl hz1 rfl (fun x hx=>by rw [List.eq_of_mem_replicate hx]; omega) (fun j=>Nat.le_trans (hz2 j) (by omega)) (fun j _=>Nat.le_trans (hz2 j) (by omega)) (by omega) (by omega)
  have l0:leval [0,0,0,0,0,0,0,0,0,0,0,0,0,0,0,0,0,0,0,0,0,0,0,0,0,0,0,0,0,0,0,0,0,0,0,0,0,0,0,0,0,0,0,0,0,0,0,0,0,0,0,0,0,0,0,0,0,0,0,0,0,0,0,0,0]=0:=rfl
  have tot:leval out+256^64*sum=leval (a.take 32)*leval (b.take 32)+leval (c.take 32):=by
    rw [hv,List.drop_zero,hz3,hy3,l0,tk,tk,tk]
    simp [leval]
  have bnd:∀ l:List Nat,(∀ x ∈ l,x<256)→leval (l.take 32)<256^32:=fun l hl =>
    Nat.lt_of_lt_of_le (leval_lt fun x hx=>hl x (List.mem_of_mem_take hx)) (Nat.pow_le_pow_right (by omega) (by rw [List.length_take]; omega))
  have hab:leval (a.take 32)*leval (b.take 32)≤(256^32 - 1)*(256^32 - 1):=Nat.mul_le_mul (by have:=bnd a ha; omega) (by have:=bnd b hb; omega)
  have hcb:=bnd c hc
  have hs:leval out=leval (a.take 32)*leval (b.take 32)+leval (c.take 32):=by
    have:sum=0:=by
      cases sum with
      | zero=>rfl
      | succ s=>exfalso; generalize leval (a.take 32)*leval (b.take 32)=p at *; omega
    rw [this] at tot
    omega
  rw [← hs,← he]
  unfold g15
  rw [hmn]
  rw [show m+99 - min a.length 32+min a.length 32+1=m+100 from by omega] at hy4
  rw [show m+99 - min c.length 32+min c.length 32+1=m+100 from by omega] at hz4
  refine Eq.trans hy4 ?_
  unfold g15J11
  rw [hmn]
  refine Eq.trans hz4 ?_
  rfl
theorem mulAddOk {a b c:List Nat} (ha:∀ x ∈ a,x<256) (hb:∀ x ∈ b,x<256) (hc:∀ x ∈ c,x<256) :
    g15ok realA a b c=true∧g15r0 realA a b c=le32 ((leval (a.take 32)*leval (b.take 32)+leval (c.take 32))%LL):=by
  have e:g15v realA a b c=some (.v (.cell (.str (le32 ((leval (a.take 32)*leval (b.take 32)+leval (c.take 32))%LL))))):=mulAddE 99900 a b c ha hb hc
  exact ⟨by unfold g15ok; rw [e]; rfl,by unfold g15r0; rw [e]; rfl⟩
end Go.Sx.S4
namespace Go.Sx.S4
def MM (x:Nat):List Nat:=le32 (x%LL)
theorem LL_lt:LL<256^32:=by decide
theorem leval_MM (x:Nat):leval (MM x)=x%LL:=leval_le32 _ (Nat.lt_trans (Nat.mod_lt _ LL_pos) LL_lt)
theorem rd {s:List Nat} (hs:∀ x ∈ s,x<256) (hl:s.length≤64):g27ok realA s=true∧g27r0 realA s=MM (leval s):=by
  obtain ⟨h1,h2⟩:=reduceOk hs (by omega)
  rw [List.take_of_length_le hl] at h2
  exact ⟨h1,h2⟩
theorem ma {a b c:List Nat} (ha:∀ x ∈ a,x<256) (hb:∀ x ∈ b,x<256) (hc:∀ x ∈ c,x<256) (la:a.length≤32) (lb:b.length≤32) (lc:c.length≤32):g15ok realA a b c=true∧g15r0 realA a b c=MM (leval a*leval b+leval c):=by
  obtain ⟨h1,h2⟩:=mulAddOk ha hb hc
  rw [List.take_of_length_le la,List.take_of_length_le lb,List.take_of_length_le lc] at h2
  exact ⟨h1,h2⟩
theorem scT {a b:List Nat} (h:a=b):realA.sc .eql a b=true:=show decide (a=b)=true from decide_eq_true h
theorem eqlT {a b:Int} (h:a=b):realA.ic .eql a b=true:=show decide (a=b)=true from decide_eq_true h
theorem lt1:∀ x ∈ [1],x<256:=by decide
theorem right {s:List Nat} (hs:∀ x ∈ s,x<256) (hl:s.length=32) (hv:leval s<LL):g16ok realA s=true∧g16r0 realA s=true:=by
  obtain ⟨h1,h2⟩:=rd hs (by omega)
  have e2:g27r0 realA s=s:=by
    rw [h2]
    unfold MM
    rw [Nat.mod_eq_of_lt hv]
    exact le32_leval hs hl
  have e:g16v realA s=some (.v (.cell (.bool true))):=by
    unfold g16v
    generalize 100000=n
    unfold g16
    rw [eqlT (show realA.ofN s.length=32 by rw [hl]; rfl),h1,scT e2]
  exact ⟨by unfold g16ok; rw [e]; rfl,by unfold g16r0; rw [e]; rfl⟩
end Go.Sx.S4
