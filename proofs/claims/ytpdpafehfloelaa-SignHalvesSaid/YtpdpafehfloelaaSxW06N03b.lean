import Derived.Test.YtpdpafehfloelaaSxY06p
import Derived.Test.YtpdpafehfloelaaSxPl
namespace Go.Sx
theorem and51 (a:Nat):a&&&2251799813685247=a%2251799813685248:=Nat.and_two_pow_sub_one_eq_mod a 51
theorem negN (i:Nat):realA.neg (i:Int)=false:=show decide ((i:Int)<0)=false from decide_eq_false (by omega)
theorem toNN (i:Nat):realA.toN (i:Int)=i:=rfl
theorem ltT {a b:Nat} (h:a<b):realA.lt a b=true:=show decide (a<b)=true from decide_eq_true h
theorem lssT {a b:Int} (h:a<b):realA.ic .lss a b=true:=show decide (a<b)=true from decide_eq_true h
theorem lssF {a b:Int} (h:¬ a<b):realA.ic .lss a b=false:=show decide (a<b)=false from decide_eq_false h
theorem geqT {a b:Int} (h:b≤a):realA.ic .geq a b=true:=show decide (b≤a)=true from decide_eq_true h
theorem geqF {a b:Int} (h:¬ b≤a):realA.ic .geq a b=false:=show decide (b≤a)=false from decide_eq_false h
theorem addI {a b:Int} (h: -9223372036854775808≤a+b∧a+b<9223372036854775808):realA.ib .add .i64 a b=a+b:=wrap64 h
theorem subI {a b:Int} (h: -9223372036854775808≤a - b∧a - b<9223372036854775808):realA.ib .sub .i64 a b=a - b:=wrap64 h
theorem addN {i:Nat} (j:Nat) (h:i+j<9223372036854775808):realA.ib .add .i64 (i:Int) (j:Int)=((i+j:Nat):Int):=by
  rw [addI (by omega)]; omega
theorem nadd {x y:Nat} (h:x+y<18446744073709551616):realA.nb .add .u64 x y=x+y:=Nat.mod_eq_of_lt h
theorem nmul {x y:Nat} (h:x*y<18446744073709551616):realA.nb .mul .u64 x y=x*y:=Nat.mod_eq_of_lt h
theorem nand51 (x:Nat):realA.nb .and .u64 x 2251799813685247=x%2251799813685248:=and51 x
theorem nshr51 (x:Nat):realA.nsh .shr .u64 x 51=x/2251799813685248:=rfl
theorem getD_set_same (l:List Nat) (i v:Nat) (h:i<l.length):(l.set i v).getD i 0=v:=by
  rw [List.getD_eq_getElem?_getD,List.getElem?_set_self h]; rfl
theorem carryStep {R:Type} (n m i c:Nat) (kk:AV→Heap→Option R) (l x3:List Nat) (hi:i<5) (hl:l.length=5) (hc:l.getD i 0+c<18446744073709551616) :
    g65L3 realA n kk (m+1) c i l x3=g65L3 realA n kk m ((l.getD i 0+c)/2251799813685248) ((i+1:Nat):Int) (l.set i ((l.getD i 0+c)%2251799813685248)) x3:=by
  have e1:realA.ib .add .i64 (i:Int) 1=((i+1:Nat):Int):=addN 1 (by omega)
  rw [g65L3,lssT (show (i:Int)<5 by omega)]
  simp only [g65J4,negN,toNN,ltT hi,nadd hc,getD_set_same l i _ (by omega),nand51,nshr51,List.set_set]
  rw [e1]
def v51 (l0 l1 l2 l3 l4:Nat):Nat:=l0+2251799813685248*l1+5070602400912917605986812821504*l2+11417981541647679048466287755595961091061972992*l3+25711008708143844408671393477458601640355247900524685364822016*l4
def PP:Nat:=57896044618658097711785492504343953926634992332820282019728792003956564819949
theorem carryE (m l0 l1 l2 l3 l4:Nat) (h0:l0<9223372036854775808) (h1:l1<9223372036854775808) (h2:l2<9223372036854775808) (h3:l3<9223372036854775808) (h4:l4<9223372036854775808) :
    ∃ r0 r1 r2 r3 r4 c,r1<2251799813685248∧r2<2251799813685248∧r3<2251799813685248∧r4<2251799813685248∧r0<2251799813685248+19*c∧2251799813685248*c≤l4+8192∧v51 r0 r1 r2 r3 r4+PP*c=v51 l0 l1 l2 l3 l4 ∧
      g65 realA (m+6) (fun v _=>some v) [l0,l1,l2,l3,l4]=some (.v (.agg [.nums .u64 5 [r0,r1,r2,r3,r4]])):=by
  have s0:=carryStep (m+6) (m+5) 0 0 (fun v _=>some v) [l0,l1,l2,l3,l4] [0,0,0,0,0] (by omega) rfl (show l0+0<_ by omega)
  have s1:=carryStep (m+6) (m+4) 1 ((l0+0)/2251799813685248) (fun v _=>some v) [(l0+0)%2251799813685248,l1,l2,l3,l4] [0,0,0,0,0] (by omega) rfl (show l1+_<_ by omega)
  have s2:=carryStep (m+6) (m+3) 2 ((l1+(l0+0)/2251799813685248)/2251799813685248) (fun v _=>some v) [(l0+0)%2251799813685248,(l1+(l0+0)/2251799813685248)%2251799813685248,l2,l3,l4] [0,0,0,0,0] (by omega) rfl (show l2+_<_ by omega)
  simp only [List.getD_cons_zero,List.getD_cons_succ,List.set_cons_succ,List.set_cons_zero] at s0 s1 s2
  have ec1:(l0+0)/2251799813685248<8192:=by omega
  have e0:v51 ((l0+0)%2251799813685248) 0 0 0 0+2251799813685248*((l0+0)/2251799813685248)=l0:=by unfold v51; omega
  generalize hc1:(l0+0)/2251799813685248=c1 at *
  generalize hr0:(l0+0)%2251799813685248=r0 at *
  have b0:r0<2251799813685248:=by omega
  have ec2:(l1+c1)/2251799813685248<8192:=by omega
  have b1:(l1+c1)%2251799813685248<2251799813685248:=by omega
  have e1:(l1+c1)%2251799813685248+2251799813685248*((l1+c1)/2251799813685248)=l1+c1:=by omega
  generalize (l1+c1)/2251799813685248=c2 at *
  generalize (l1+c1)%2251799813685248=r1 at *
  have ec3:(l2+c2)/2251799813685248<8192:=by omega
  have b2:(l2+c2)%2251799813685248<2251799813685248:=by omega
  have e2:(l2+c2)%2251799813685248+2251799813685248*((l2+c2)/2251799813685248)=l2+c2:=by omega
  generalize (l2+c2)/2251799813685248=c3 at *
  generalize (l2+c2)%2251799813685248=r2 at *
  have s3:=carryStep (m+6) (m+2) 3 c3 (fun v _=>some v) [r0,r1,r2,l3,l4] [0,0,0,0,0] (by omega) rfl (show l3+c3<_ by omega)
  simp only [List.getD_cons_zero,List.getD_cons_succ,List.set_cons_succ,List.set_cons_zero] at s3
  have ec4:(l3+c3)/2251799813685248<8192:=by omega
  have b3:(l3+c3)%2251799813685248<2251799813685248:=by omega
  have e3:(l3+c3)%2251799813685248+2251799813685248*((l3+c3)/2251799813685248)=l3+c3:=by omega
  generalize (l3+c3)/2251799813685248=c4 at *
  generalize (l3+c3)%2251799813685248=r3 at *
  have s4:=carryStep (m+6) (m+1) 4 c4 (fun v _=>some v) [r0,r1,r2,r3,l4] [0,0,0,0,0] (by omega) rfl (show l4+c4<_ by omega)
  simp only [List.getD_cons_zero,List.getD_cons_succ,List.set_cons_succ,List.set_cons_zero] at s4
  have ec5:(l4+c4)/2251799813685248<8192:=by omega
  have b4:(l4+c4)%2251799813685248<2251799813685248:=by omega
  have e4:(l4+c4)%2251799813685248+2251799813685248*((l4+c4)/2251799813685248)=l4+c4:=by omega
  generalize (l4+c4)/2251799813685248=c5 at *
  generalize (l4+c4)%2251799813685248=r4 at *
  refine ⟨r0+c5*19,r1,r2,r3,r4,c5,b1,b2,b3,b4,by omega,by omega, ?_, ?_⟩
  · clear s0 s1 s2 s3 s4
    unfold v51 PP at *
    omega
  · refine Eq.trans (b:=g65L3 realA (m+6) (fun v _=>some v) (m+5+1) 0 ((0:Nat):Int) [l0,l1,l2,l3,l4] [0,0,0,0,0]) rfl ?_
    refine s0.trans (s1.trans (s2.trans (s3.trans (s4.trans ?_))))
    rw [g65L3,lssF (by omega)]
    simp only [g65J9,List.getD_cons_zero,List.set_cons_zero,nmul (show c5*19<18446744073709551616 by omega),nadd (show r0+c5*19<18446744073709551616 by omega)]
theorem carryOk {l0 l1 l2 l3 l4:Nat} (h0:l0<9223372036854775808) (h1:l1<9223372036854775808) (h2:l2<9223372036854775808) (h3:l3<9223372036854775808) (h4:l4<9223372036854775808) :
    g65ok realA [l0,l1,l2,l3,l4]=true∧∃ r0 r1 r2 r3 r4 c,r1<2251799813685248∧r2<2251799813685248∧r3<2251799813685248∧r4<2251799813685248∧r0<2251799813685248+19*c∧2251799813685248*c≤l4+8192∧v51 r0 r1 r2 r3 r4+PP*c=v51 l0 l1 l2 l3 l4 ∧
      g65r0 realA [l0,l1,l2,l3,l4]=[r0,r1,r2,r3,r4]:=by
  obtain ⟨r0,r1,r2,r3,r4,c,q1,q2,q3,q4,q5,q6,q7,he⟩:=carryE 99994 l0 l1 l2 l3 l4 h0 h1 h2 h3 h4
  have e:g65v realA [l0,l1,l2,l3,l4]=some (.v (.agg [.nums .u64 5 [r0,r1,r2,r3,r4]])):=he
  exact ⟨by unfold g65ok; rw [e]; rfl,r0,r1,r2,r3,r4,c,q1,q2,q3,q4,q5,q6,q7,by unfold g65r0; rw [e]; rfl⟩
theorem orlo (k x y:Nat) (hy:y<2^k):(2^k*x)|||y=2^k*x+y:=(Nat.two_pow_add_eq_or_of_lt hy x).symm
theorem mask1 (x y a b:Nat) (ha:a≤51) (hx:x/2^b<2^a) (hy:y<18446744073709551616):realA.nb .and .u64 (realA.nb .or .u64 (realA.nsh .shr .u64 x b) (realA.nsh .shl .u64 y a)) 2251799813685247=x/2^b+2^a*(y%2^(51 - a)):=by
  show ((x/2^b)|||(y*2^a%2^64))&&&2251799813685247=_
  have e:y*2^a%2^64=2^a*(y%2^(64 - a)):=by
    rw [Nat.mul_comm,← Nat.mul_mod_mul_left,← Nat.pow_add,show a+(64 - a)=64 by omega]
  rw [e,Nat.or_comm,orlo a _ _ hx,and51]
  have e2:2251799813685248=2^a*2^(51 - a):=by rw [← Nat.pow_add,show a+(51 - a)=51 by omega]
  have e3:y%2^(64 - a)%2^(51 - a)=y%2^(51 - a):=Nat.mod_mod_of_dvd _ (Nat.pow_dvd_pow 2 (by omega))
  rw [e2,Nat.mod_mul,← e3,Nat.add_comm (2^a*_) (x/2^b)]
  have h1:(x/2^b+2^a*(y%2^(64 - a)))%2^a=x/2^b:=by rw [Nat.add_mul_mod_self_left,Nat.mod_eq_of_lt hx]
  have h2:(x/2^b+2^a*(y%2^(64 - a)))/2^a=y%2^(64 - a):=by rw [Nat.add_mul_div_left _ _ (Nat.two_pow_pos a),Nat.div_eq_of_lt hx,Nat.zero_add]
  rw [h1,h2]
def v64 (a0 a1 a2 a3:Nat):Nat:=a0+18446744073709551616*a1+340282366920938463463374607431768211456*a2+6277101735386680763835789423207666416102355444464034512896*a3
theorem loadOk {a0 a1 a2 a3:Nat} (h0:a0<18446744073709551616) (h1:a1<18446744073709551616) (h2:a2<18446744073709551616) (h3:a3<18446744073709551616) :
    g55ok realA [a0,a1,a2,a3]=true∧∃ r0 r1 r2 r3 r4 c,r1<2251799813685248∧r2<2251799813685248∧r3<2251799813685248∧r4<2251799813685248∧r0<2251799813685248+57∧v51 r0 r1 r2 r3 r4+PP*c=v64 a0 a1 a2 a3 ∧
      g55r0 realA [a0,a1,a2,a3]=[r0,r1,r2,r3,r4]:=by
  have m1:=mask1 a0 a1 13 51 (by omega) (by omega) h1
  have m2:=mask1 a1 a2 26 38 (by omega) (by omega) h2
  have m3:=mask1 a2 a3 39 25 (by omega) (by omega) h3
  have m4:realA.nsh .shr .u64 a3 12=a3/4096:=rfl
  have m0:=nand51 a0
  simp only [Nat.reducePow,Nat.reduceSub] at m1 m2 m3
  obtain ⟨k,r0,r1,r2,r3,r4,c,q1,q2,q3,q4,q5,q6,q7,q8⟩:=carryOk (l0:=a0%2251799813685248) (l1:=a0/2251799813685248+8192*(a1%274877906944)) (l2:=a1/274877906944+67108864*(a2%33554432)) (l3:=a2/33554432+549755813888*(a3%4096)) (l4:=a3/4096) (by omega) (by omega) (by omega) (by omega) (by omega)
  have e:g55v realA [a0,a1,a2,a3]=some (.v (.agg [.nums .u64 5 [r0,r1,r2,r3,r4]])):=by
    unfold g55v
    generalize 100000=n
    unfold g55
    simp only [List.getD_cons_zero,List.getD_cons_succ,List.set_cons_succ,List.set_cons_zero,m0,m1,m2,m3,m4,k,q8]
  refine ⟨by unfold g55ok; rw [e]; rfl,r0,r1,r2,r3,r4,c,q1,q2,q3,q4,by omega, ?_,by unfold g55r0; rw [e]; rfl⟩
  rw [q7]
  unfold v51 v64
  omega
end Go.Sx
namespace Go.Sx
theorem qStep (n m i q:Nat) (kk:AV→Heap→Option AV) (l x3:List Nat) (hi:i<5) (hc:l.getD i 0+q<18446744073709551616) :
    g56L4 realA n kk (m+1) q i l x3=g56L4 realA n kk m ((l.getD i 0+q)/2251799813685248) ((i+1:Nat):Int) l x3:=by
  have e1:realA.ib .add .i64 (i:Int) 1=((i+1:Nat):Int):=addN 1 (by omega)
  rw [g56L4,lssT (show (i:Int)<5 by omega)]
  simp only [g56J6,negN,toNN,ltT hi,nadd hc,nshr51]
  rw [e1]
theorem lastStep (n m i c:Nat) (kk:AV→Heap→Option AV) (l x3:List Nat) (hi:i<5) (hl:l.length=5) (hc:l.getD i 0+c<18446744073709551616) :
    g56L10 realA n kk (m+1) c i l x3=g56L10 realA n kk m ((l.getD i 0+c)/2251799813685248) ((i+1:Nat):Int) (l.set i ((l.getD i 0+c)%2251799813685248)) x3:=by
  have e1:realA.ib .add .i64 (i:Int) 1=((i+1:Nat):Int):=addN 1 (by omega)
  rw [g56L10,lssT (show (i:Int)<5 by omega)]
  simp only [g56J11,negN,toNN,ltT hi,nadd hc,getD_set_same l i _ (by omega),nand51,nshr51,List.set_set]
  rw [e1]
theorem word (x y a b:Nat) (ha:a≤64) (hx:x/2^b<2^a):realA.nb .or .u64 (realA.nsh .shr .u64 x b) (realA.nsh .shl .u64 y a)=x/2^b+2^a*(y%2^(64 - a)):=by
  show ((x/2^b)|||(y*2^a%2^64))=_
  have e:y*2^a%2^64=2^a*(y%2^(64 - a)):=by
    rw [Nat.mul_comm,← Nat.mul_mod_mul_left,← Nat.pow_add,show a+(64 - a)=64 by omega]
  rw [e,Nat.or_comm,orlo a _ _ hx,Nat.add_comm]
theorem word0 (x y:Nat) (hx:x<2251799813685248):realA.nb .or .u64 x (realA.nsh .shl .u64 y 51)=x+2251799813685248*(y%8192):=by
  have:=word x y 51 0 (by omega) (by omega)
  simpa [show realA.nsh .shr .u64 x 0=x from Nat.div_one x] using this
def fe (v:Nat):List Nat:=[v%18446744073709551616,v/18446744073709551616%18446744073709551616,v/340282366920938463463374607431768211456%18446744073709551616,v/6277101735386680763835789423207666416102355444464034512896%18446744073709551616]
theorem chain (u0 u1 u2 u3 u4 a0 a1 a2 a3 a4 d1 d2 d3 d4 d5:Nat) (h0:u0+2251799813685248*d1=a0) (h1:u1+2251799813685248*d2=a1+d1) (h2:u2+2251799813685248*d3=a2+d2) (h3:u3+2251799813685248*d4=a3+d3) (h4:u4+2251799813685248*d5=a4+d4) :
    v51 u0 u1 u2 u3 u4+57896044618658097711785492504343953926634992332820282019728792003956564819968*d5=v51 a0 a1 a2 a3 a4:=by unfold v51; omega
theorem v51_lt {u0 u1 u2 u3 u4:Nat} (h0:u0<2251799813685248) (h1:u1<2251799813685248) (h2:u2<2251799813685248) (h3:u3<2251799813685248) (h4:u4<2251799813685248):v51 u0 u1 u2 u3 u4<57896044618658097711785492504343953926634992332820282019728792003956564819968:=by unfold v51; omega
theorem finmod {U V q d:Nat} (h:U+57896044618658097711785492504343953926634992332820282019728792003956564819968*d=V+19*q) (hU:U<57896044618658097711785492504343953926634992332820282019728792003956564819968) (hV:V<PP+38)
    (hq:q=(V+19)/57896044618658097711785492504343953926634992332820282019728792003956564819968):U=V%PP:=by
  by_cases hc:V<PP
  · rw [Nat.mod_eq_of_lt hc]
    have h0:q=0:=by unfold PP at *; omega
    subst h0
    have h1:d=0:=by unfold PP at *; omega
    subst h1
    omega
  · rw [Nat.mod_eq_sub_mod (by omega),Nat.mod_eq_of_lt (by unfold PP at *; omega)]
    have h0:q=1:=by unfold PP at *; omega
    rw [h0] at h
    have h1:d=1:=by unfold PP at *; omega
    rw [h1] at h
    unfold PP at *
    omega
theorem divq {W V q:Nat} (h:W+57896044618658097711785492504343953926634992332820282019728792003956564819968*q=V) (hW:W<57896044618658097711785492504343953926634992332820282019728792003956564819968):q=V/57896044618658097711785492504343953926634992332820282019728792003956564819968:=by omega
theorem dm (x q r:Nat) (hq:x/2251799813685248=q) (hr:x%2251799813685248=r):r+2251799813685248*q=x:=by omega
theorem v51_add0 (a0 a1 a2 a3 a4 k:Nat):v51 (a0+k) a1 a2 a3 a4=v51 a0 a1 a2 a3 a4+k:=by unfold v51; omega
theorem fe_words {u0 u1 u2 u3 u4:Nat} (b0:u0<2251799813685248) (b1:u1<2251799813685248) (b2:u2<2251799813685248) (b3:u3<2251799813685248) (b4:u4<2251799813685248) :
    fe (v51 u0 u1 u2 u3 u4)=[u0+2251799813685248*(u1%8192),u1/8192+274877906944*(u2%67108864),u2/67108864+33554432*(u3%549755813888),u3/549755813888+4096*(u4%4503599627370496)]:=by
  have v0:v51 u0 u1 u2 u3 u4=v64 (u0+2251799813685248*(u1%8192)) (u1/8192+274877906944*(u2%67108864)) (u2/67108864+33554432*(u3%549755813888)) (u3/549755813888+4096*(u4%4503599627370496)):=by
    unfold v51 v64; omega
  rw [v0]
  have x0:u0+2251799813685248*(u1%8192)<18446744073709551616:=by omega
  have x1:u1/8192+274877906944*(u2%67108864)<18446744073709551616:=by omega
  have x2:u2/67108864+33554432*(u3%549755813888)<18446744073709551616:=by omega
  have x3:u3/549755813888+4096*(u4%4503599627370496)<18446744073709551616:=by omega
  clear v0
  generalize u0+2251799813685248*(u1%8192)=y0 at *
  generalize u1/8192+274877906944*(u2%67108864)=y1 at *
  generalize u2/67108864+33554432*(u3%549755813888)=y2 at *
  generalize u3/549755813888+4096*(u4%4503599627370496)=y3 at *
  clear b0 b1 b2 b3 b4
  have z0:v64 y0 y1 y2 y3%18446744073709551616=y0:=by unfold v64; omega
  have z1:v64 y0 y1 y2 y3/18446744073709551616%18446744073709551616=y1:=by unfold v64; omega
  have z2:v64 y0 y1 y2 y3/340282366920938463463374607431768211456%18446744073709551616=y2:=by unfold v64; omega
  have z3:v64 y0 y1 y2 y3/6277101735386680763835789423207666416102355444464034512896%18446744073709551616=y3:=by unfold v64; omega
  unfold fe
  rw [z0,z1,z2,z3]
theorem storeOk {l0 l1 l2 l3 l4:Nat} (h0:l0<9223372036854775808) (h1:l1<9223372036854775808) (h2:l2<9223372036854775808) (h3:l3<9223372036854775808) (h4:l4<9223372036854775808) :
    g56ok realA [l0,l1,l2,l3,l4]=true∧g56r0 realA [l0,l1,l2,l3,l4]=fe (v51 l0 l1 l2 l3 l4%PP):=by
  obtain ⟨k,r0,r1,r2,r3,r4,c,q1,q2,q3,q4,q5,q6,q7,q8⟩:=carryOk h0 h1 h2 h3 h4
  have hc:c<8192:=by omega
  obtain ⟨k',t0,t1,t2,t3,t4,c',p1,p2,p3,p4,p5,p6,p7,p8⟩:=carryOk (l0:=r0) (l1:=r1) (l2:=r2) (l3:=r3) (l4:=r4) (by omega) (by omega) (by omega) (by omega) (by omega)
  have hc':c'≤1:=by omega
  have hV:v51 t0 t1 t2 t3 t4<PP+38:=by unfold v51 PP; omega
  have hM:v51 l0 l1 l2 l3 l4%PP=v51 t0 t1 t2 t3 t4%PP:=by rw [← q7,← p7,Nat.add_mul_mod_self_left,Nat.add_mul_mod_self_left]
  have fin:∃ u0 u1 u2 u3 u4,u0<2251799813685248∧u1<2251799813685248∧u2<2251799813685248∧u3<2251799813685248∧u4<2251799813685248∧v51 u0 u1 u2 u3 u4=v51 t0 t1 t2 t3 t4%PP ∧
      ∀ m,g56L4 realA (m+6) (fun v _=>some v) (m+6) ((t0+19)/2251799813685248) 1 [t0,t1,t2,t3,t4] [0,0,0,0]=g56J16 realA (m+6) (fun v _=>some v) [u0,u1,u2,u3,u4] [0,0,0,0]:=by
    generalize hQ0:(t0+19)/2251799813685248=q0
    generalize hP0:(t0+19)%2251799813685248=p0
    generalize hQ1:(t1+q0)/2251799813685248=q1
    generalize hP1:(t1+q0)%2251799813685248=p1'
    generalize hQ2:(t2+q1)/2251799813685248=q2
    generalize hP2:(t2+q1)%2251799813685248=p2'
    generalize hQ3:(t3+q2)/2251799813685248=q3
    generalize hP3:(t3+q2)%2251799813685248=p3'
    generalize hQ4:(t4+q3)/2251799813685248=q4
    generalize hP4:(t4+q3)%2251799813685248=p4'
    have bq0:q0≤1:=by omega
    have bq1:q1≤1:=by omega
    have bq2:q2≤1:=by omega
    have bq3:q3≤1:=by omega
    have bq4:q4≤1:=by omega
    have ch:=chain p0 p1' p2' p3' p4' (t0+19) t1 t2 t3 t4 q0 q1 q2 q3 q4 (dm _ _ _ hQ0 hP0) (dm _ _ _ hQ1 hP1) (dm _ _ _ hQ2 hP2) (dm _ _ _ hQ3 hP3) (dm _ _ _ hQ4 hP4)
    rw [v51_add0] at ch
    have hq4:=divq ch (v51_lt (hP0 ▸ Nat.mod_lt _ (by decide)) (hP1 ▸ Nat.mod_lt _ (by decide)) (hP2 ▸ Nat.mod_lt _ (by decide)) (hP3 ▸ Nat.mod_lt _ (by decide)) (hP4 ▸ Nat.mod_lt _ (by decide)))
    clear ch
    generalize hd1:(t0+19*q4+0)/2251799813685248=d1
    generalize hu0:(t0+19*q4+0)%2251799813685248=u0
    generalize hd2:(t1+d1)/2251799813685248=d2
    generalize hu1:(t1+d1)%2251799813685248=u1
    generalize hd3:(t2+d2)/2251799813685248=d3
    generalize hu2:(t2+d2)%2251799813685248=u2
    generalize hd4:(t3+d3)/2251799813685248=d4
    generalize hu3:(t3+d3)%2251799813685248=u3
    generalize hd5:(t4+d4)/2251799813685248=d5
    generalize hu4:(t4+d4)%2251799813685248=u4
    have bd1:d1≤1:=by omega
    have bd2:d2≤1:=by omega
    have bd3:d3≤1:=by omega
    have bd4:d4≤1:=by omega
    have bu0:u0<2251799813685248:=hu0 ▸ Nat.mod_lt _ (by decide)
    have bu1:u1<2251799813685248:=hu1 ▸ Nat.mod_lt _ (by decide)
    have bu2:u2<2251799813685248:=hu2 ▸ Nat.mod_lt _ (by decide)
    have bu3:u3<2251799813685248:=hu3 ▸ Nat.mod_lt _ (by decide)
    have bu4:u4<2251799813685248:=hu4 ▸ Nat.mod_lt _ (by decide)
    refine ⟨u0,u1,u2,u3,u4,bu0,bu1,bu2,bu3,bu4, ?_, ?_⟩
    · have ch:=chain u0 u1 u2 u3 u4 (t0+19*q4+0) t1 t2 t3 t4 d1 d2 d3 d4 d5 (dm _ _ _ hd1 hu0) (dm _ _ _ hd2 hu1) (dm _ _ _ hd3 hu2) (dm _ _ _ hd4 hu3) (dm _ _ _ hd5 hu4)
      rw [Nat.add_zero,v51_add0] at ch
      exact finmod ch (v51_lt bu0 bu1 bu2 bu3 bu4) hV hq4
    · intro m
      have s1:=qStep (m+6) (m+5) 1 q0 (fun v _=>some v) [t0,t1,t2,t3,t4] [0,0,0,0] (by omega) (show t1+q0<_ by omega)
      have s2:=qStep (m+6) (m+4) 2 q1 (fun v _=>some v) [t0,t1,t2,t3,t4] [0,0,0,0] (by omega) (show t2+q1<_ by omega)
      have s3:=qStep (m+6) (m+3) 3 q2 (fun v _=>some v) [t0,t1,t2,t3,t4] [0,0,0,0] (by omega) (show t3+q2<_ by omega)
      have s4:=qStep (m+6) (m+2) 4 q3 (fun v _=>some v) [t0,t1,t2,t3,t4] [0,0,0,0] (by omega) (show t4+q3<_ by omega)
      have w0:=lastStep (m+6) (m+5) 0 0 (fun v _=>some v) [t0+19*q4,t1,t2,t3,t4] [0,0,0,0] (by omega) rfl (show t0+19*q4+0<_ by omega)
      have w1:=lastStep (m+6) (m+4) 1 d1 (fun v _=>some v) [u0,t1,t2,t3,t4] [0,0,0,0] (by omega) rfl (show t1+d1<_ by omega)
      have w2:=lastStep (m+6) (m+3) 2 d2 (fun v _=>some v) [u0,u1,t2,t3,t4] [0,0,0,0] (by omega) rfl (show t2+d2<_ by omega)
      have w3:=lastStep (m+6) (m+2) 3 d3 (fun v _=>some v) [u0,u1,u2,t3,t4] [0,0,0,0] (by omega) rfl (show t3+d3<_ by omega)
      have w4:=lastStep (m+6) (m+1) 4 d4 (fun v _=>some v) [u0,u1,u2,u3,t4] [0,0,0,0] (by omega) rfl (show t4+d4<_ by omega)
      simp only [List.getD_cons_zero,List.getD_cons_succ,List.set_cons_succ,List.set_cons_zero,hQ1,hQ2,hQ3,hQ4] at s1 s2 s3 s4
      simp only [List.getD_cons_zero,List.getD_cons_succ,List.set_cons_succ,List.set_cons_zero,hd1,hu0,hd2,hu1,hd3,hu2,hd4,hu3,hd5,hu4] at w0 w1 w2 w3 w4
      refine Eq.trans s1 (s2.trans (s3.trans (s4.trans ?_)))
      rw [g56L4,lssF (by omega)]
      simp only [g56J7,List.getD_cons_zero,List.set_cons_zero,nmul (show 19*q4<18446744073709551616 by omega),nadd (show t0+19*q4<18446744073709551616 by omega)]
      refine Eq.trans w0 (w1.trans (w2.trans (w3.trans (w4.trans ?_))))
      rw [g56L10,lssF (by omega)]
  obtain ⟨u0,u1,u2,u3,u4,b0,b1,b2,b3,b4,hu,hs⟩:=fin
  have g0:=word0 u0 u1 b0
  have g1:=word u1 u2 38 13 (by omega) (by omega)
  have g2:=word u2 u3 25 26 (by omega) (by omega)
  have g3:=word u3 u4 12 39 (by omega) (by omega)
  simp only [Nat.reducePow,Nat.reduceSub] at g1 g2 g3
  have ew:=fe_words b0 b1 b2 b3 b4
  have e:g56v realA [l0,l1,l2,l3,l4]=some (.v (.agg [.nums .u64 4 (fe (v51 l0 l1 l2 l3 l4%PP))])):=by
    rw [hM,← hu,ew]
    unfold g56v
    rw [show (100000:Nat)=99994+6 from rfl]
    generalize 99994=m
    unfold g56
    rw [k,q8,k',p8]
    simp only [List.getD_cons_zero,nadd (show t0+19<18446744073709551616 by omega),nshr51]
    refine Eq.trans (hs m) ?_
    simp only [g56J16,List.getD_cons_zero,List.getD_cons_succ,List.set_cons_succ,List.set_cons_zero,g0,g1,g2,g3]
  exact ⟨by unfold g56ok; rw [e]; rfl,by unfold g56r0; rw [e]; rfl⟩
end Go.Sx
