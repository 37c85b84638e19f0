import Derived.Test.YtpdpafehfloelaaSxW06N03b
namespace Go.Sx
theorem and32 (a:Nat):a&&&4294967295=a%4294967296:=Nat.and_two_pow_sub_one_eq_mod a 32
theorem mulhi (a b:Nat) (ha:a<18446744073709551616) (hb:b<18446744073709551616) :
    (((a/4294967296*(b/4294967296))%18446744073709551616+(a/4294967296*(b%4294967296)%18446744073709551616+(a%4294967296*(b%4294967296)%18446744073709551616)/4294967296)%18446744073709551616/4294967296)%18446744073709551616 +
      ((a/4294967296*(b%4294967296)%18446744073709551616+(a%4294967296*(b%4294967296)%18446744073709551616)/4294967296)%18446744073709551616%4294967296+a%4294967296*(b/4294967296)%18446744073709551616)%18446744073709551616/4294967296)%18446744073709551616=a*b/18446744073709551616:=by
  have ea:a=a/4294967296*4294967296+a%4294967296:=by omega
  have eb:b=b/4294967296*4294967296+b%4294967296:=by omega
  have ea1:a/4294967296≤4294967295:=by omega
  have eb1:b/4294967296≤4294967295:=by omega
  have ea0:a%4294967296≤4294967295:=by omega
  have eb0:b%4294967296≤4294967295:=by omega
  generalize a/4294967296=a1 at *
  generalize b/4294967296=b1 at *
  generalize a%4294967296=a0 at *
  generalize b%4294967296=b0 at *
  have e:a*b=a1*b1*18446744073709551616+(a1*b0+a0*b1)*4294967296+a0*b0:=by subst ea; subst eb; grind
  rw [e]
  have h11:a1*b1≤4294967295*4294967295:=Nat.mul_le_mul ea1 eb1
  have h10:a1*b0≤4294967295*4294967295:=Nat.mul_le_mul ea1 eb0
  have h01:a0*b1≤4294967295*4294967295:=Nat.mul_le_mul ea0 eb1
  have h00:a0*b0≤4294967295*4294967295:=Nat.mul_le_mul ea0 eb0
  generalize a1*b1=p11 at *
  generalize a1*b0=p10 at *
  generalize a0*b1=p01 at *
  generalize a0*b0=p00 at *
  clear e ha hb ea eb ea1 eb1 ea0 eb0
  omega
theorem mul64E (a b:Nat) (ha:a<18446744073709551616) (hb:b<18446744073709551616) :
    g49v realA a b=some (.tup [.cell (.nat .u64 (a*b/18446744073709551616)),.cell (.nat .u64 (a*b%18446744073709551616))]):=by
  have h:=mulhi a b ha hb
  simp only [← and32] at h
  rw [← h]
  rfl
theorem mul64ok {a b:Nat} (ha:a<18446744073709551616) (hb:b<18446744073709551616):g49ok realA a b=true:=by unfold g49ok; rw [mul64E a b ha hb]; rfl
theorem mul64r0 {a b:Nat} (ha:a<18446744073709551616) (hb:b<18446744073709551616):g49r0 realA a b=a*b/18446744073709551616:=by unfold g49r0; rw [mul64E a b ha hb]; rfl
theorem mul64r1 {a b:Nat} (ha:a<18446744073709551616) (hb:b<18446744073709551616):g49r1 realA a b=a*b%18446744073709551616:=by unfold g49r1; rw [mul64E a b ha hb]; rfl
theorem carryT {x y c:Nat} (hc:c≤1) (hx:x<18446744073709551616) (hy:y<18446744073709551616):carryok x y c=true:=by
  simp [carryok,hc,hx,hy]
theorem mulB {x y a b:Nat} (hx:x≤a) (hy:y≤b):x*y≤a*b:=Nat.mul_le_mul hx hy
theorem getD_set_other (l:List Nat) (i j v:Nat) (h:i≠j):(l.set i v).getD j 0=l.getD j 0:=by
  rw [List.getD_eq_getElem?_getD,List.getElem?_set_ne h,← List.getD_eq_getElem?_getD]
theorem addW (b x y:Nat) (l:List Nat) (hx:x<18446744073709551616) (hy:y<18446744073709551616) (h0:l.getD (b+0) 0<18446744073709551616) (h1:l.getD (b+1) 0<18446744073709551616)
    (hs:l.getD (b+0) 0*18446744073709551616+l.getD (b+1) 0+x*y<340282366920938463463374607431768211456) :
    ∃ h o,h<18446744073709551616∧o<18446744073709551616∧h*18446744073709551616+o=l.getD (b+0) 0*18446744073709551616+l.getD (b+1) 0+x*y∧g66ok realA b x y l=true∧g66r0 realA b x y l=(l.set (b+1) o).set (b+0) h:=by
  have k:=mul64ok hx hy
  have r0:=mul64r0 hx hy
  have r1:=mul64r1 hx hy
  have e7:∀ x y,add64a x y 0=(x+y)%18446744073709551616:=fun x y=>rfl
  have e8:∀ x y,add64b x y 0=(x+y)/18446744073709551616:=fun x y=>rfl
  have e9:∀ x y c,add64a x y c=(x+y+c)%18446744073709551616:=fun x y c=>rfl
  have g:=getD_set_other l (b+1) (b+0) ((l.getD (b+1) 0+x*y%18446744073709551616)%18446744073709551616) (by omega)
  generalize hp:x*y=p at *
  refine ⟨(l.getD (b+0) 0+p/18446744073709551616+(l.getD (b+1) 0+p%18446744073709551616)/18446744073709551616)%18446744073709551616,(l.getD (b+1) 0+p%18446744073709551616)%18446744073709551616,by omega,by omega,by omega, ?_⟩
  have e:g66v realA b x y l=some (.tup [],[(0,⟨[.nums .u64 10 ((l.set (b+1) ((l.getD (b+1) 0+p%18446744073709551616)%18446744073709551616)).set (b+0) ((l.getD (b+0) 0+p/18446744073709551616+(l.getD (b+1) 0+p%18446744073709551616)/18446744073709551616)%18446744073709551616))],103,1⟩)]):=by
    unfold g66v
    generalize 100000=n
    unfold g66
    rw [k,r1]
    simp only [carryT (Nat.zero_le 1) h1 (show p%18446744073709551616<18446744073709551616 by omega),e7,e8,r0,g]
    rw [carryT (show (l.getD (b+1) 0+p%18446744073709551616)/18446744073709551616≤1 by omega) h0 (show p/18446744073709551616<18446744073709551616 by omega)]
    rfl
  exact ⟨by unfold g66ok; rw [e]; rfl,by unfold g66r0; rw [e]; rfl⟩
theorem tstep (n m i k at_ x y:Nat) (kk:AV→Heap→Option AV) (lg:List Nat→Int→List Nat→List Nat→List Nat→Option AV) (a b c d l:List Nat) (hi:i<5) (hk:k<5) (hx:x<18446744073709551616)
    (hat:(i+k<5∧at_=i+k∧y=b.getD k 0)∨(5≤i+k∧at_+5=i+k∧y=b.getD k 0*19)) (hy:y<18446744073709551616) (h0:l.getD (at_*2+0) 0<18446744073709551616) (h1:l.getD (at_*2+1) 0<18446744073709551616)
    (hs:l.getD (at_*2+0) 0*18446744073709551616+l.getD (at_*2+1) 0+x*y<340282366920938463463374607431768211456) :
    ∃ h o,h<18446744073709551616∧o<18446744073709551616∧h*18446744073709551616+o=l.getD (at_*2+0) 0*18446744073709551616+l.getD (at_*2+1) 0+x*y ∧
      g57L6 realA n kk lg (m+1) i x a i b k c d l=g57L6 realA n kk lg m i x a i b ((k+1:Nat):Int) c d ((l.set (at_*2+1) o).set (at_*2+0) h):=by
  obtain ⟨h,o,q1,q2,q3,q4,q5⟩:=addW (at_*2) x y l hx hy h0 h1 hs
  refine ⟨h,o,q1,q2,q3, ?_⟩
  have e1:realA.ib .add .i64 (k:Int) 1=((k+1:Nat):Int):=addN 1 (by omega)
  have e2:realA.ib .add .i64 (i:Int) (k:Int)=((i+k:Nat):Int):=addN k (by omega)
  rw [g57L6,lssT (show (k:Int)<5 by omega)]
  rcases hat with ⟨c1,c2,c3⟩ | ⟨c1,c2,c3⟩
  · subst c2
    subst c3
    simp only [g57J7,negN,toNN,ltT hk,e2,geqF (show ¬ (5:Int)≤((i+k:Nat):Int) by omega),g57J11,ltT (show i+k<5 by omega),q4,q5]
    rw [e1]
  · have e3:realA.ib .sub .i64 ((i+k:Nat):Int) 5=(at_:Int):=by rw [subI (by omega)]; omega
    have e4:realA.nb .mul .u64 (b.getD k 0) 19=y:=by rw [nmul (by omega)]; exact c3.symm
    simp only [g57J7,negN,toNN,ltT hk,e2,geqT (show (5:Int)≤((i+k:Nat):Int) by omega),g57J11,e3,e4,ltT (show at_<5 by omega),q4,q5]
    rw [e1]
theorem row0 (n m l0 l1 l2 l3 l4 m0 m1 m2 m3 m4 h0 o0 h1 o1 h2 o2 h3 o3 h4 o4:Nat) (kk:AV→Heap→Option AV) (d:List Nat) (L0:l0<4503599627370496) (M0:m0<4503599627370496) (L1:l1<4503599627370496) (M1:m1<4503599627370496) (L2:l2<4503599627370496) (M2:m2<4503599627370496) (L3:l3<4503599627370496) (M3:m3<4503599627370496) (L4:l4<4503599627370496) (M4:m4<4503599627370496) (H0:h0<18446744073709551616) (O0:o0<18446744073709551616) (T0:h0*18446744073709551616+o0≤0) (H1:h1<18446744073709551616) (O1:o1<18446744073709551616) (T1:h1*18446744073709551616+o1≤0) (H2:h2<18446744073709551616) (O2:o2<18446744073709551616) (T2:h2*18446744073709551616+o2≤0) (H3:h3<18446744073709551616) (O3:o3<18446744073709551616) (T3:h3*18446744073709551616+o3≤0) (H4:h4<18446744073709551616) (O4:o4<18446744073709551616) (T4:h4*18446744073709551616+o4≤0) :
    ∃ h0' o0' h1' o1' h2' o2' h3' o3' h4' o4',h0'<18446744073709551616∧o0'<18446744073709551616∧h0'*18446744073709551616+o0'=h0*18446744073709551616+o0+l0*m0∧h1'<18446744073709551616∧o1'<18446744073709551616∧h1'*18446744073709551616+o1'=h1*18446744073709551616+o1+l0*m1∧h2'<18446744073709551616∧o2'<18446744073709551616∧h2'*18446744073709551616+o2'=h2*18446744073709551616+o2+l0*m2∧h3'<18446744073709551616∧o3'<18446744073709551616∧h3'*18446744073709551616+o3'=h3*18446744073709551616+o3+l0*m3∧h4'<18446744073709551616∧o4'<18446744073709551616∧h4'*18446744073709551616+o4'=h4*18446744073709551616+o4+l0*m4∧g57L3 realA (n+6) kk (m+1) [l0,l1,l2,l3,l4] 0 [m0,m1,m2,m3,m4] d [h0,o0,h1,o1,h2,o2,h3,o3,h4,o4]=g57L3 realA (n+6) kk m [l0,l1,l2,l3,l4] ((1:Nat):Int) [m0,m1,m2,m3,m4] d [h0',o0',h1',o1',h2',o2',h3',o3',h4',o4']:=by
  have P0:l0*m0≤385365782469381566918211934355475:=mulB (a:=4503599627370495) (b:=85568392920039405) (by omega) (by omega)
  have P1:l0*m1≤385365782469381566918211934355475:=mulB (a:=4503599627370495) (b:=85568392920039405) (by omega) (by omega)
  have P2:l0*m2≤385365782469381566918211934355475:=mulB (a:=4503599627370495) (b:=85568392920039405) (by omega) (by omega)
  have P3:l0*m3≤385365782469381566918211934355475:=mulB (a:=4503599627370495) (b:=85568392920039405) (by omega) (by omega)
  have P4:l0*m4≤385365782469381566918211934355475:=mulB (a:=4503599627370495) (b:=85568392920039405) (by omega) (by omega)
  obtain ⟨p0,q0,X0,Y0,Z0,s0⟩:=tstep (n+6) (n+5) 0 0 0 l0 m0 kk (g57L3 realA (n+6) kk m) [l0,l1,l2,l3,l4] [m0,m1,m2,m3,m4] [m0,m1,m2,m3,m4] d [h0,o0,h1,o1,h2,o2,h3,o3,h4,o4] (by omega) (by omega) (by omega) (.inl ⟨by omega,by omega,rfl⟩) (by omega) (show h0<18446744073709551616 by omega) (show o0<18446744073709551616 by omega) (show h0*18446744073709551616+o0+l0*m0<340282366920938463463374607431768211456 by omega)
  obtain ⟨p1,q1,X1,Y1,Z1,s1⟩:=tstep (n+6) (n+4) 0 1 1 l0 m1 kk (g57L3 realA (n+6) kk m) [l0,l1,l2,l3,l4] [m0,m1,m2,m3,m4] [m0,m1,m2,m3,m4] d [p0,q0,h1,o1,h2,o2,h3,o3,h4,o4] (by omega) (by omega) (by omega) (.inl ⟨by omega,by omega,rfl⟩) (by omega) (show h1<18446744073709551616 by omega) (show o1<18446744073709551616 by omega) (show h1*18446744073709551616+o1+l0*m1<340282366920938463463374607431768211456 by omega)
  obtain ⟨p2,q2,X2,Y2,Z2,s2⟩:=tstep (n+6) (n+3) 0 2 2 l0 m2 kk (g57L3 realA (n+6) kk m) [l0,l1,l2,l3,l4] [m0,m1,m2,m3,m4] [m0,m1,m2,m3,m4] d [p0,q0,p1,q1,h2,o2,h3,o3,h4,o4] (by omega) (by omega) (by omega) (.inl ⟨by omega,by omega,rfl⟩) (by omega) (show h2<18446744073709551616 by omega) (show o2<18446744073709551616 by omega) (show h2*18446744073709551616+o2+l0*m2<340282366920938463463374607431768211456 by omega)
  obtain ⟨p3,q3,X3,Y3,Z3,s3⟩:=tstep (n+6) (n+2) 0 3 3 l0 m3 kk (g57L3 realA (n+6) kk m) [l0,l1,l2,l3,l4] [m0,m1,m2,m3,m4] [m0,m1,m2,m3,m4] d [p0,q0,p1,q1,p2,q2,h3,o3,h4,o4] (by omega) (by omega) (by omega) (.inl ⟨by omega,by omega,rfl⟩) (by omega) (show h3<18446744073709551616 by omega) (show o3<18446744073709551616 by omega) (show h3*18446744073709551616+o3+l0*m3<340282366920938463463374607431768211456 by omega)
  obtain ⟨p4,q4,X4,Y4,Z4,s4⟩:=tstep (n+6) (n+1) 0 4 4 l0 m4 kk (g57L3 realA (n+6) kk m) [l0,l1,l2,l3,l4] [m0,m1,m2,m3,m4] [m0,m1,m2,m3,m4] d [p0,q0,p1,q1,p2,q2,p3,q3,h4,o4] (by omega) (by omega) (by omega) (.inl ⟨by omega,by omega,rfl⟩) (by omega) (show h4<18446744073709551616 by omega) (show o4<18446744073709551616 by omega) (show h4*18446744073709551616+o4+l0*m4<340282366920938463463374607431768211456 by omega)
  refine ⟨p0,q0,p1,q1,p2,q2,p3,q3,p4,q4,X0,Y0,Z0,X1,Y1,Z1,X2,Y2,Z2,X3,Y3,Z3,X4,Y4,Z4, ?_⟩
  have st:g57L3 realA (n+6) kk (m+1) [l0,l1,l2,l3,l4] 0 [m0,m1,m2,m3,m4] d [h0,o0,h1,o1,h2,o2,h3,o3,h4,o4]=g57L6 realA (n+6) kk (g57L3 realA (n+6) kk m) (n+5+1) ((0:Nat):Int) l0 [l0,l1,l2,l3,l4] ((0:Nat):Int) [m0,m1,m2,m3,m4] ((0:Nat):Int) [m0,m1,m2,m3,m4] d [h0,o0,h1,o1,h2,o2,h3,o3,h4,o4]:=rfl
  refine st.trans (s0.trans (s1.trans (s2.trans (s3.trans (s4.trans ?_)))))
  rfl
theorem row1 (n m l0 l1 l2 l3 l4 m0 m1 m2 m3 m4 h0 o0 h1 o1 h2 o2 h3 o3 h4 o4:Nat) (kk:AV→Heap→Option AV) (d:List Nat) (L0:l0<4503599627370496) (M0:m0<4503599627370496) (L1:l1<4503599627370496) (M1:m1<4503599627370496) (L2:l2<4503599627370496) (M2:m2<4503599627370496) (L3:l3<4503599627370496) (M3:m3<4503599627370496) (L4:l4<4503599627370496) (M4:m4<4503599627370496) (H0:h0<18446744073709551616) (O0:o0<18446744073709551616) (T0:h0*18446744073709551616+o0≤1298074214633706907132624082305024) (H1:h1<18446744073709551616) (O1:o1<18446744073709551616) (T1:h1*18446744073709551616+o1≤1298074214633706907132624082305024) (H2:h2<18446744073709551616) (O2:o2<18446744073709551616) (T2:h2*18446744073709551616+o2≤1298074214633706907132624082305024) (H3:h3<18446744073709551616) (O3:o3<18446744073709551616) (T3:h3*18446744073709551616+o3≤1298074214633706907132624082305024) (H4:h4<18446744073709551616) (O4:o4<18446744073709551616) (T4:h4*18446744073709551616+o4≤1298074214633706907132624082305024) :
    ∃ h0' o0' h1' o1' h2' o2' h3' o3' h4' o4',h0'<18446744073709551616∧o0'<18446744073709551616∧h0'*18446744073709551616+o0'=h0*18446744073709551616+o0+l1*(m4*19)∧h1'<18446744073709551616∧o1'<18446744073709551616∧h1'*18446744073709551616+o1'=h1*18446744073709551616+o1+l1*m0∧h2'<18446744073709551616∧o2'<18446744073709551616∧h2'*18446744073709551616+o2'=h2*18446744073709551616+o2+l1*m1∧h3'<18446744073709551616∧o3'<18446744073709551616∧h3'*18446744073709551616+o3'=h3*18446744073709551616+o3+l1*m2∧h4'<18446744073709551616∧o4'<18446744073709551616∧h4'*18446744073709551616+o4'=h4*18446744073709551616+o4+l1*m3∧g57L3 realA (n+6) kk (m+1) [l0,l1,l2,l3,l4] 1 [m0,m1,m2,m3,m4] d [h0,o0,h1,o1,h2,o2,h3,o3,h4,o4]=g57L3 realA (n+6) kk m [l0,l1,l2,l3,l4] ((2:Nat):Int) [m0,m1,m2,m3,m4] d [h0',o0',h1',o1',h2',o2',h3',o3',h4',o4']:=by
  have P0:l1*m0≤385365782469381566918211934355475:=mulB (a:=4503599627370495) (b:=85568392920039405) (by omega) (by omega)
  have P1:l1*m1≤385365782469381566918211934355475:=mulB (a:=4503599627370495) (b:=85568392920039405) (by omega) (by omega)
  have P2:l1*m2≤385365782469381566918211934355475:=mulB (a:=4503599627370495) (b:=85568392920039405) (by omega) (by omega)
  have P3:l1*m3≤385365782469381566918211934355475:=mulB (a:=4503599627370495) (b:=85568392920039405) (by omega) (by omega)
  have P4:l1*(m4*19)≤385365782469381566918211934355475:=mulB (a:=4503599627370495) (b:=85568392920039405) (by omega) (by omega)
  obtain ⟨p0,q0,X0,Y0,Z0,s0⟩:=tstep (n+6) (n+5) 1 0 1 l1 m0 kk (g57L3 realA (n+6) kk m) [l0,l1,l2,l3,l4] [m0,m1,m2,m3,m4] [m0,m1,m2,m3,m4] d [h0,o0,h1,o1,h2,o2,h3,o3,h4,o4] (by omega) (by omega) (by omega) (.inl ⟨by omega,by omega,rfl⟩) (by omega) (show h1<18446744073709551616 by omega) (show o1<18446744073709551616 by omega) (show h1*18446744073709551616+o1+l1*m0<340282366920938463463374607431768211456 by omega)
  obtain ⟨p1,q1,X1,Y1,Z1,s1⟩:=tstep (n+6) (n+4) 1 1 2 l1 m1 kk (g57L3 realA (n+6) kk m) [l0,l1,l2,l3,l4] [m0,m1,m2,m3,m4] [m0,m1,m2,m3,m4] d [h0,o0,p0,q0,h2,o2,h3,o3,h4,o4] (by omega) (by omega) (by omega) (.inl ⟨by omega,by omega,rfl⟩) (by omega) (show h2<18446744073709551616 by omega) (show o2<18446744073709551616 by omega) (show h2*18446744073709551616+o2+l1*m1<340282366920938463463374607431768211456 by omega)
  obtain ⟨p2,q2,X2,Y2,Z2,s2⟩:=tstep (n+6) (n+3) 1 2 3 l1 m2 kk (g57L3 realA (n+6) kk m) [l0,l1,l2,l3,l4] [m0,m1,m2,m3,m4] [m0,m1,m2,m3,m4] d [h0,o0,p0,q0,p1,q1,h3,o3,h4,o4] (by omega) (by omega) (by omega) (.inl ⟨by omega,by omega,rfl⟩) (by omega) (show h3<18446744073709551616 by omega) (show o3<18446744073709551616 by omega) (show h3*18446744073709551616+o3+l1*m2<340282366920938463463374607431768211456 by omega)
  obtain ⟨p3,q3,X3,Y3,Z3,s3⟩:=tstep (n+6) (n+2) 1 3 4 l1 m3 kk (g57L3 realA (n+6) kk m) [l0,l1,l2,l3,l4] [m0,m1,m2,m3,m4] [m0,m1,m2,m3,m4] d [h0,o0,p0,q0,p1,q1,p2,q2,h4,o4] (by omega) (by omega) (by omega) (.inl ⟨by omega,by omega,rfl⟩) (by omega) (show h4<18446744073709551616 by omega) (show o4<18446744073709551616 by omega) (show h4*18446744073709551616+o4+l1*m3<340282366920938463463374607431768211456 by omega)
  obtain ⟨p4,q4,X4,Y4,Z4,s4⟩:=tstep (n+6) (n+1) 1 4 0 l1 (m4*19) kk (g57L3 realA (n+6) kk m) [l0,l1,l2,l3,l4] [m0,m1,m2,m3,m4] [m0,m1,m2,m3,m4] d [h0,o0,p0,q0,p1,q1,p2,q2,p3,q3] (by omega) (by omega) (by omega) (.inr ⟨by omega,by omega,rfl⟩) (by omega) (show h0<18446744073709551616 by omega) (show o0<18446744073709551616 by omega) (show h0*18446744073709551616+o0+l1*(m4*19)<340282366920938463463374607431768211456 by omega)
  refine ⟨p4,q4,p0,q0,p1,q1,p2,q2,p3,q3,X4,Y4,Z4,X0,Y0,Z0,X1,Y1,Z1,X2,Y2,Z2,X3,Y3,Z3, ?_⟩
  have st:g57L3 realA (n+6) kk (m+1) [l0,l1,l2,l3,l4] 1 [m0,m1,m2,m3,m4] d [h0,o0,h1,o1,h2,o2,h3,o3,h4,o4]=g57L6 realA (n+6) kk (g57L3 realA (n+6) kk m) (n+5+1) ((1:Nat):Int) l1 [l0,l1,l2,l3,l4] ((1:Nat):Int) [m0,m1,m2,m3,m4] ((0:Nat):Int) [m0,m1,m2,m3,m4] d [h0,o0,h1,o1,h2,o2,h3,o3,h4,o4]:=rfl
  refine st.trans (s0.trans (s1.trans (s2.trans (s3.trans (s4.trans ?_)))))
  rfl
theorem row2 (n m l0 l1 l2 l3 l4 m0 m1 m2 m3 m4 h0 o0 h1 o1 h2 o2 h3 o3 h4 o4:Nat) (kk:AV→Heap→Option AV) (d:List Nat) (L0:l0<4503599627370496) (M0:m0<4503599627370496) (L1:l1<4503599627370496) (M1:m1<4503599627370496) (L2:l2<4503599627370496) (M2:m2<4503599627370496) (L3:l3<4503599627370496) (M3:m3<4503599627370496) (L4:l4<4503599627370496) (M4:m4<4503599627370496) (H0:h0<18446744073709551616) (O0:o0<18446744073709551616) (T0:h0*18446744073709551616+o0≤2596148429267413814265248164610048) (H1:h1<18446744073709551616) (O1:o1<18446744073709551616) (T1:h1*18446744073709551616+o1≤2596148429267413814265248164610048) (H2:h2<18446744073709551616) (O2:o2<18446744073709551616) (T2:h2*18446744073709551616+o2≤2596148429267413814265248164610048) (H3:h3<18446744073709551616) (O3:o3<18446744073709551616) (T3:h3*18446744073709551616+o3≤2596148429267413814265248164610048) (H4:h4<18446744073709551616) (O4:o4<18446744073709551616) (T4:h4*18446744073709551616+o4≤2596148429267413814265248164610048) :
    ∃ h0' o0' h1' o1' h2' o2' h3' o3' h4' o4',h0'<18446744073709551616∧o0'<18446744073709551616∧h0'*18446744073709551616+o0'=h0*18446744073709551616+o0+l2*(m3*19)∧h1'<18446744073709551616∧o1'<18446744073709551616∧h1'*18446744073709551616+o1'=h1*18446744073709551616+o1+l2*(m4*19)∧h2'<18446744073709551616∧o2'<18446744073709551616∧h2'*18446744073709551616+o2'=h2*18446744073709551616+o2+l2*m0∧h3'<18446744073709551616∧o3'<18446744073709551616∧h3'*18446744073709551616+o3'=h3*18446744073709551616+o3+l2*m1∧h4'<18446744073709551616∧o4'<18446744073709551616∧h4'*18446744073709551616+o4'=h4*18446744073709551616+o4+l2*m2∧g57L3 realA (n+6) kk (m+1) [l0,l1,l2,l3,l4] 2 [m0,m1,m2,m3,m4] d [h0,o0,h1,o1,h2,o2,h3,o3,h4,o4]=g57L3 realA (n+6) kk m [l0,l1,l2,l3,l4] ((3:Nat):Int) [m0,m1,m2,m3,m4] d [h0',o0',h1',o1',h2',o2',h3',o3',h4',o4']:=by
  have P0:l2*m0≤385365782469381566918211934355475:=mulB (a:=4503599627370495) (b:=85568392920039405) (by omega) (by omega)
  have P1:l2*m1≤385365782469381566918211934355475:=mulB (a:=4503599627370495) (b:=85568392920039405) (by omega) (by omega)
  have P2:l2*m2≤385365782469381566918211934355475:=mulB (a:=4503599627370495) (b:=85568392920039405) (by omega) (by omega)
  have P3:l2*(m3*19)≤385365782469381566918211934355475:=mulB (a:=4503599627370495) (b:=85568392920039405) (by omega) (by omega)
  have P4:l2*(m4*19)≤385365782469381566918211934355475:=mulB (a:=4503599627370495) (b:=85568392920039405) (by omega) (by omega)
  obtain ⟨p0,q0,X0,Y0,Z0,s0⟩:=tstep (n+6) (n+5) 2 0 2 l2 m0 kk (g57L3 realA (n+6) kk m) [l0,l1,l2,l3,l4] [m0,m1,m2,m3,m4] [m0,m1,m2,m3,m4] d [h0,o0,h1,o1,h2,o2,h3,o3,h4,o4] (by omega) (by omega) (by omega) (.inl ⟨by omega,by omega,rfl⟩) (by omega) (show h2<18446744073709551616 by omega) (show o2<18446744073709551616 by omega) (show h2*18446744073709551616+o2+l2*m0<340282366920938463463374607431768211456 by omega)
  obtain ⟨p1,q1,X1,Y1,Z1,s1⟩:=tstep (n+6) (n+4) 2 1 3 l2 m1 kk (g57L3 realA (n+6) kk m) [l0,l1,l2,l3,l4] [m0,m1,m2,m3,m4] [m0,m1,m2,m3,m4] d [h0,o0,h1,o1,p0,q0,h3,o3,h4,o4] (by omega) (by omega) (by omega) (.inl ⟨by omega,by omega,rfl⟩) (by omega) (show h3<18446744073709551616 by omega) (show o3<18446744073709551616 by omega) (show h3*18446744073709551616+o3+l2*m1<340282366920938463463374607431768211456 by omega)
  obtain ⟨p2,q2,X2,Y2,Z2,s2⟩:=tstep (n+6) (n+3) 2 2 4 l2 m2 kk (g57L3 realA (n+6) kk m) [l0,l1,l2,l3,l4] [m0,m1,m2,m3,m4] [m0,m1,m2,m3,m4] d [h0,o0,h1,o1,p0,q0,p1,q1,h4,o4] (by omega) (by omega) (by omega) (.inl ⟨by omega,by omega,rfl⟩) (by omega) (show h4<18446744073709551616 by omega) (show o4<18446744073709551616 by omega) (show h4*18446744073709551616+o4+l2*m2<340282366920938463463374607431768211456 by omega)
  obtain ⟨p3,q3,X3,Y3,Z3,s3⟩:=tstep (n+6) (n+2) 2 3 0 l2 (m3*19) kk (g57L3 realA (n+6) kk m) [l0,l1,l2,l3,l4] [m0,m1,m2,m3,m4] [m0,m1,m2,m3,m4] d [h0,o0,h1,o1,p0,q0,p1,q1,p2,q2] (by omega) (by omega) (by omega) (.inr ⟨by omega,by omega,rfl⟩) (by omega) (show h0<18446744073709551616 by omega) (show o0<18446744073709551616 by omega) (show h0*18446744073709551616+o0+l2*(m3*19)<340282366920938463463374607431768211456 by omega)
  obtain ⟨p4,q4,X4,Y4,Z4,s4⟩:=tstep (n+6) (n+1) 2 4 1 l2 (m4*19) kk (g57L3 realA (n+6) kk m) [l0,l1,l2,l3,l4] [m0,m1,m2,m3,m4] [m0,m1,m2,m3,m4] d [p3,q3,h1,o1,p0,q0,p1,q1,p2,q2] (by omega) (by omega) (by omega) (.inr ⟨by omega,by omega,rfl⟩) (by omega) (show h1<18446744073709551616 by omega) (show o1<18446744073709551616 by omega) (show h1*18446744073709551616+o1+l2*(m4*19)<340282366920938463463374607431768211456 by omega)
  refine ⟨p3,q3,p4,q4,p0,q0,p1,q1,p2,q2,X3,Y3,Z3,X4,Y4,Z4,X0,Y0,Z0,X1,Y1,Z1,X2,Y2,Z2, ?_⟩
  have st:g57L3 realA (n+6) kk (m+1) [l0,l1,l2,l3,l4] 2 [m0,m1,m2,m3,m4] d [h0,o0,h1,o1,h2,o2,h3,o3,h4,o4]=g57L6 realA (n+6) kk (g57L3 realA (n+6) kk m) (n+5+1) ((2:Nat):Int) l2 [l0,l1,l2,l3,l4] ((2:Nat):Int) [m0,m1,m2,m3,m4] ((0:Nat):Int) [m0,m1,m2,m3,m4] d [h0,o0,h1,o1,h2,o2,h3,o3,h4,o4]:=rfl
  refine st.trans (s0.trans (s1.trans (s2.trans (s3.trans (s4.trans ?_)))))
  rfl
theorem row3 (n m l0 l1 l2 l3 l4 m0 m1 m2 m3 m4 h0 o0 h1 o1 h2 o2 h3 o3 h4 o4:Nat) (kk:AV→Heap→Option AV) (d:List Nat) (L0:l0<4503599627370496) (M0:m0<4503599627370496) (L1:l1<4503599627370496) (M1:m1<4503599627370496) (L2:l2<4503599627370496) (M2:m2<4503599627370496) (L3:l3<4503599627370496) (M3:m3<4503599627370496) (L4:l4<4503599627370496) (M4:m4<4503599627370496) (H0:h0<18446744073709551616) (O0:o0<18446744073709551616) (T0:h0*18446744073709551616+o0≤3894222643901120721397872246915072) (H1:h1<18446744073709551616) (O1:o1<18446744073709551616) (T1:h1*18446744073709551616+o1≤3894222643901120721397872246915072) (H2:h2<18446744073709551616) (O2:o2<18446744073709551616) (T2:h2*18446744073709551616+o2≤3894222643901120721397872246915072) (H3:h3<18446744073709551616) (O3:o3<18446744073709551616) (T3:h3*18446744073709551616+o3≤3894222643901120721397872246915072) (H4:h4<18446744073709551616) (O4:o4<18446744073709551616) (T4:h4*18446744073709551616+o4≤3894222643901120721397872246915072) :
    ∃ h0' o0' h1' o1' h2' o2' h3' o3' h4' o4',h0'<18446744073709551616∧o0'<18446744073709551616∧h0'*18446744073709551616+o0'=h0*18446744073709551616+o0+l3*(m2*19)∧h1'<18446744073709551616∧o1'<18446744073709551616∧h1'*18446744073709551616+o1'=h1*18446744073709551616+o1+l3*(m3*19)∧h2'<18446744073709551616∧o2'<18446744073709551616∧h2'*18446744073709551616+o2'=h2*18446744073709551616+o2+l3*(m4*19)∧h3'<18446744073709551616∧o3'<18446744073709551616∧h3'*18446744073709551616+o3'=h3*18446744073709551616+o3+l3*m0∧h4'<18446744073709551616∧o4'<18446744073709551616∧h4'*18446744073709551616+o4'=h4*18446744073709551616+o4+l3*m1∧g57L3 realA (n+6) kk (m+1) [l0,l1,l2,l3,l4] 3 [m0,m1,m2,m3,m4] d [h0,o0,h1,o1,h2,o2,h3,o3,h4,o4]=g57L3 realA (n+6) kk m [l0,l1,l2,l3,l4] ((4:Nat):Int) [m0,m1,m2,m3,m4] d [h0',o0',h1',o1',h2',o2',h3',o3',h4',o4']:=by
  have P0:l3*m0≤385365782469381566918211934355475:=mulB (a:=4503599627370495) (b:=85568392920039405) (by omega) (by omega)
  have P1:l3*m1≤385365782469381566918211934355475:=mulB (a:=4503599627370495) (b:=85568392920039405) (by omega) (by omega)
  have P2:l3*(m2*19)≤385365782469381566918211934355475:=mulB (a:=4503599627370495) (b:=85568392920039405) (by omega) (by omega)
  have P3:l3*(m3*19)≤385365782469381566918211934355475:=mulB (a:=4503599627370495) (b:=85568392920039405) (by omega) (by omega)
  have P4:l3*(m4*19)≤385365782469381566918211934355475:=mulB (a:=4503599627370495) (b:=85568392920039405) (by omega) (by omega)
  obtain ⟨p0,q0,X0,Y0,Z0,s0⟩:=tstep (n+6) (n+5) 3 0 3 l3 m0 kk (g57L3 realA (n+6) kk m) [l0,l1,l2,l3,l4] [m0,m1,m2,m3,m4] [m0,m1,m2,m3,m4] d [h0,o0,h1,o1,h2,o2,h3,o3,h4,o4] (by omega) (by omega) (by omega) (.inl ⟨by omega,by omega,rfl⟩) (by omega) (show h3<18446744073709551616 by omega) (show o3<18446744073709551616 by omega) (show h3*18446744073709551616+o3+l3*m0<340282366920938463463374607431768211456 by omega)
  obtain ⟨p1,q1,X1,Y1,Z1,s1⟩:=tstep (n+6) (n+4) 3 1 4 l3 m1 kk (g57L3 realA (n+6) kk m) [l0,l1,l2,l3,l4] [m0,m1,m2,m3,m4] [m0,m1,m2,m3,m4] d [h0,o0,h1,o1,h2,o2,p0,q0,h4,o4] (by omega) (by omega) (by omega) (.inl ⟨by omega,by omega,rfl⟩) (by omega) (show h4<18446744073709551616 by omega) (show o4<18446744073709551616 by omega) (show h4*18446744073709551616+o4+l3*m1<340282366920938463463374607431768211456 by omega)
  obtain ⟨p2,q2,X2,Y2,Z2,s2⟩:=tstep (n+6) (n+3) 3 2 0 l3 (m2*19) kk (g57L3 realA (n+6) kk m) [l0,l1,l2,l3,l4] [m0,m1,m2,m3,m4] [m0,m1,m2,m3,m4] d [h0,o0,h1,o1,h2,o2,p0,q0,p1,q1] (by omega) (by omega) (by omega) (.inr ⟨by omega,by omega,rfl⟩) (by omega) (show h0<18446744073709551616 by omega) (show o0<18446744073709551616 by omega) (show h0*18446744073709551616+o0+l3*(m2*19)<340282366920938463463374607431768211456 by omega)
  obtain ⟨p3,q3,X3,Y3,Z3,s3⟩:=tstep (n+6) (n+2) 3 3 1 l3 (m3*19) kk (g57L3 realA (n+6) kk m) [l0,l1,l2,l3,l4] [m0,m1,m2,m3,m4] [m0,m1,m2,m3,m4] d [p2,q2,h1,o1,h2,o2,p0,q0,p1,q1] (by omega) (by omega) (by omega) (.inr ⟨by omega,by omega,rfl⟩) (by omega) (show h1<18446744073709551616 by omega) (show o1<18446744073709551616 by omega) (show h1*18446744073709551616+o1+l3*(m3*19)<340282366920938463463374607431768211456 by omega)
  obtain ⟨p4,q4,X4,Y4,Z4,s4⟩:=tstep (n+6) (n+1) 3 4 2 l3 (m4*19) kk (g57L3 realA (n+6) kk m) [l0,l1,l2,l3,l4] [m0,m1,m2,m3,m4] [m0,m1,m2,m3,m4] d [p2,q2,p3,q3,h2,o2,p0,q0,p1,q1] (by omega) (by omega) (by omega) (.inr ⟨by omega,by omega,rfl⟩) (by omega) (show h2<18446744073709551616 by omega) (show o2<18446744073709551616 by omega) (show h2*18446744073709551616+o2+l3*(m4*19)<340282366920938463463374607431768211456 by omega)
  refine ⟨p2,q2,p3,q3,p4,q4,p0,q0,p1,q1,X2,Y2,Z2,X3,Y3,Z3,X4,Y4,Z4,X0,Y0,Z0,X1,Y1,Z1, ?_⟩
  have st:g57L3 realA (n+6) kk (m+1) [l0,l1,l2,l3,l4] 3 [m0,m1,m2,m3,m4] d [h0,o0,h1,o1,h2,o2,h3,o3,h4,o4]=g57L6 realA (n+6) kk (g57L3 realA (n+6) kk m) (n+5+1) ((3:Nat):Int) l3 [l0,l1,l2,l3,l4] ((3:Nat):Int) [m0,m1,m2,m3,m4] ((0:Nat):Int) [m0,m1,m2,m3,m4] d [h0,o0,h1,o1,h2,o2,h3,o3,h4,o4]:=rfl
  refine st.trans (s0.trans (s1.trans (s2.trans (s3.trans (s4.trans ?_)))))
  rfl
theorem row4 (n m l0 l1 l2 l3 l4 m0 m1 m2 m3 m4 h0 o0 h1 o1 h2 o2 h3 o3 h4 o4:Nat) (kk:AV→Heap→Option AV) (d:List Nat) (L0:l0<4503599627370496) (M0:m0<4503599627370496) (L1:l1<4503599627370496) (M1:m1<4503599627370496) (L2:l2<4503599627370496) (M2:m2<4503599627370496) (L3:l3<4503599627370496) (M3:m3<4503599627370496) (L4:l4<4503599627370496) (M4:m4<4503599627370496) (H0:h0<18446744073709551616) (O0:o0<18446744073709551616) (T0:h0*18446744073709551616+o0≤5192296858534827628530496329220096) (H1:h1<18446744073709551616) (O1:o1<18446744073709551616) (T1:h1*18446744073709551616+o1≤5192296858534827628530496329220096) (H2:h2<18446744073709551616) (O2:o2<18446744073709551616) (T2:h2*18446744073709551616+o2≤5192296858534827628530496329220096) (H3:h3<18446744073709551616) (O3:o3<18446744073709551616) (T3:h3*18446744073709551616+o3≤5192296858534827628530496329220096) (H4:h4<18446744073709551616) (O4:o4<18446744073709551616) (T4:h4*18446744073709551616+o4≤5192296858534827628530496329220096) :
    ∃ h0' o0' h1' o1' h2' o2' h3' o3' h4' o4',h0'<18446744073709551616∧o0'<18446744073709551616∧h0'*18446744073709551616+o0'=h0*18446744073709551616+o0+l4*(m1*19)∧h1'<18446744073709551616∧o1'<18446744073709551616∧h1'*18446744073709551616+o1'=h1*18446744073709551616+o1+l4*(m2*19)∧h2'<18446744073709551616∧o2'<18446744073709551616∧h2'*18446744073709551616+o2'=h2*18446744073709551616+o2+l4*(m3*19)∧h3'<18446744073709551616∧o3'<18446744073709551616∧h3'*18446744073709551616+o3'=h3*18446744073709551616+o3+l4*(m4*19)∧h4'<18446744073709551616∧o4'<18446744073709551616∧h4'*18446744073709551616+o4'=h4*18446744073709551616+o4+l4*m0∧g57L3 realA (n+6) kk (m+1) [l0,l1,l2,l3,l4] 4 [m0,m1,m2,m3,m4] d [h0,o0,h1,o1,h2,o2,h3,o3,h4,o4]=g57L3 realA (n+6) kk m [l0,l1,l2,l3,l4] ((5:Nat):Int) [m0,m1,m2,m3,m4] d [h0',o0',h1',o1',h2',o2',h3',o3',h4',o4']:=by
  have P0:l4*m0≤385365782469381566918211934355475:=mulB (a:=4503599627370495) (b:=85568392920039405) (by omega) (by omega)
  have P1:l4*(m1*19)≤385365782469381566918211934355475:=mulB (a:=4503599627370495) (b:=85568392920039405) (by omega) (by omega)
  have P2:l4*(m2*19)≤385365782469381566918211934355475:=mulB (a:=4503599627370495) (b:=85568392920039405) (by omega) (by omega)
  have P3:l4*(m3*19)≤385365782469381566918211934355475:=mulB (a:=4503599627370495) (b:=85568392920039405) (by omega) (by omega)
  have P4:l4*(m4*19)≤385365782469381566918211934355475:=mulB (a:=4503599627370495) (b:=85568392920039405) (by omega) (by omega)
  obtain ⟨p0,q0,X0,Y0,Z0,s0⟩:=tstep (n+6) (n+5) 4 0 4 l4 m0 kk (g57L3 realA (n+6) kk m) [l0,l1,l2,l3,l4] [m0,m1,m2,m3,m4] [m0,m1,m2,m3,m4] d [h0,o0,h1,o1,h2,o2,h3,o3,h4,o4] (by omega) (by omega) (by omega) (.inl ⟨by omega,by omega,rfl⟩) (by omega) (show h4<18446744073709551616 by omega) (show o4<18446744073709551616 by omega) (show h4*18446744073709551616+o4+l4*m0<340282366920938463463374607431768211456 by omega)
  obtain ⟨p1,q1,X1,Y1,Z1,s1⟩:=tstep (n+6) (n+4) 4 1 0 l4 (m1*19) kk (g57L3 realA (n+6) kk m) [l0,l1,l2,l3,l4] [m0,m1,m2,m3,m4] [m0,m1,m2,m3,m4] d [h0,o0,h1,o1,h2,o2,h3,o3,p0,q0] (by omega) (by omega) (by omega) (.inr ⟨by omega,by omega,rfl⟩) (by omega) (show h0<18446744073709551616 by omega) (show o0<18446744073709551616 by omega) (show h0*18446744073709551616+o0+l4*(m1*19)<340282366920938463463374607431768211456 by omega)
  obtain ⟨p2,q2,X2,Y2,Z2,s2⟩:=tstep (n+6) (n+3) 4 2 1 l4 (m2*19) kk (g57L3 realA (n+6) kk m) [l0,l1,l2,l3,l4] [m0,m1,m2,m3,m4] [m0,m1,m2,m3,m4] d [p1,q1,h1,o1,h2,o2,h3,o3,p0,q0] (by omega) (by omega) (by omega) (.inr ⟨by omega,by omega,rfl⟩) (by omega) (show h1<18446744073709551616 by omega) (show o1<18446744073709551616 by omega) (show h1*18446744073709551616+o1+l4*(m2*19)<340282366920938463463374607431768211456 by omega)
  obtain ⟨p3,q3,X3,Y3,Z3,s3⟩:=tstep (n+6) (n+2) 4 3 2 l4 (m3*19) kk (g57L3 realA (n+6) kk m) [l0,l1,l2,l3,l4] [m0,m1,m2,m3,m4] [m0,m1,m2,m3,m4] d [p1,q1,p2,q2,h2,o2,h3,o3,p0,q0] (by omega) (by omega) (by omega) (.inr ⟨by omega,by omega,rfl⟩) (by omega) (show h2<18446744073709551616 by omega) (show o2<18446744073709551616 by omega) (show h2*18446744073709551616+o2+l4*(m3*19)<340282366920938463463374607431768211456 by omega)
  obtain ⟨p4,q4,X4,Y4,Z4,s4⟩:=tstep (n+6) (n+1) 4 4 3 l4 (m4*19) kk (g57L3 realA (n+6) kk m) [l0,l1,l2,l3,l4] [m0,m1,m2,m3,m4] [m0,m1,m2,m3,m4] d [p1,q1,p2,q2,p3,q3,h3,o3,p0,q0] (by omega) (by omega) (by omega) (.inr ⟨by omega,by omega,rfl⟩) (by omega) (show h3<18446744073709551616 by omega) (show o3<18446744073709551616 by omega) (show h3*18446744073709551616+o3+l4*(m4*19)<340282366920938463463374607431768211456 by omega)
  refine ⟨p1,q1,p2,q2,p3,q3,p4,q4,p0,q0,X1,Y1,Z1,X2,Y2,Z2,X3,Y3,Z3,X4,Y4,Z4,X0,Y0,Z0, ?_⟩
  have st:g57L3 realA (n+6) kk (m+1) [l0,l1,l2,l3,l4] 4 [m0,m1,m2,m3,m4] d [h0,o0,h1,o1,h2,o2,h3,o3,h4,o4]=g57L6 realA (n+6) kk (g57L3 realA (n+6) kk m) (n+5+1) ((4:Nat):Int) l4 [l0,l1,l2,l3,l4] ((4:Nat):Int) [m0,m1,m2,m3,m4] ((0:Nat):Int) [m0,m1,m2,m3,m4] d [h0,o0,h1,o1,h2,o2,h3,o3,h4,o4]:=rfl
  refine st.trans (s0.trans (s1.trans (s2.trans (s3.trans (s4.trans ?_)))))
  rfl
theorem upE (h o:Nat) (hh:h<2251799813685248) (ho:o<18446744073709551616):g68v realA [h,o]=some (.v (.cell (.nat .u64 (8192*h+o/2251799813685248)))):=by
  have hw:=word o h 13 51 (by omega) (by omega)
  have hx:realA.nb .or .u64 (realA.nsh .shl .u64 h 13) (realA.nsh .shr .u64 o 51)=realA.nb .or .u64 (realA.nsh .shr .u64 o 51) (realA.nsh .shl .u64 h 13):=Nat.or_comm _ _
  simp only [Nat.reducePow,Nat.reduceSub] at hw
  rw [Nat.mod_eq_of_lt hh] at hw
  unfold g68v
  generalize 100000=n
  unfold g68
  simp only [List.getD_cons_zero,List.getD_cons_succ]
  rw [hx,hw,Nat.add_comm]
theorem upOk {h o:Nat} (hh:h<2251799813685248) (ho:o<18446744073709551616):g68ok realA [h,o]=true∧g68r0 realA [h,o]=8192*h+o/2251799813685248:=by
  have e:=upE h o hh ho
  exact ⟨by unfold g68ok; rw [e]; rfl,by unfold g68r0; rw [e]; rfl⟩
theorem moreE (b c:Nat) (l:List Nat) (hc:c<18446744073709551616) (h0:l.getD (b+0) 0<9223372036854775808) (h1:l.getD (b+1) 0<18446744073709551616) :
    g67ok realA b c l=true∧g67r0 realA b c l=(l.set (b+1) ((l.getD (b+1) 0+c)%18446744073709551616)).set (b+0) (l.getD (b+0) 0+(l.getD (b+1) 0+c)/18446744073709551616):=by
  have e7:∀ x y,add64a x y 0=(x+y)%18446744073709551616:=fun x y=>rfl
  have e8:∀ x y,add64b x y 0=(x+y)/18446744073709551616:=fun x y=>rfl
  have g:=getD_set_other l (b+1) (b+0) ((l.getD (b+1) 0+c)%18446744073709551616) (by omega)
  have ea:realA.nb .add .u64 (l.getD (b+0) 0) ((l.getD (b+1) 0+c)/18446744073709551616)=l.getD (b+0) 0+(l.getD (b+1) 0+c)/18446744073709551616:=nadd (by omega)
  have e50:g67v realA b c l=some (.tup [],[(0,⟨[.nums .u64 10 ((l.set (b+1) ((l.getD (b+1) 0+c)%18446744073709551616)).set (b+0) (l.getD (b+0) 0+(l.getD (b+1) 0+c)/18446744073709551616))],103,1⟩)]):=by
    unfold g67v
    generalize 100000=n
    unfold g67
    rw [carryT (Nat.zero_le 1) h1 hc]
    simp only [e7,e8,g,ea]
    rfl
  exact ⟨by unfold g67ok; rw [e50]; rfl,by unfold g67r0; rw [e50]; rfl⟩
theorem take2 (l:List Nat) (b x y:Nat) (hb:b+1<l.length) (g0:l.getD (b+0) 0=x) (g1:l.getD (b+1) 0=y):(l.drop b).take 2=[x,y]:=by
  have a0:b<l.length:=by omega
  rw [List.drop_eq_getElem_cons a0,List.drop_eq_getElem_cons hb]
  rw [Nat.add_zero,List.getD_eq_getElem?_getD,List.getElem?_eq_getElem a0] at g0
  rw [List.getD_eq_getElem?_getD,List.getElem?_eq_getElem hb] at g1
  simp only [Option.getD_some] at g0 g1
  rw [g0,g1]
  rfl
theorem wsum (H O c:Nat):8192*(H+(O+c)/18446744073709551616)+(O+c)%18446744073709551616/2251799813685248=(H*18446744073709551616+O+c)/2251799813685248:=by omega
theorem wrem (H O c:Nat):(O+c)%18446744073709551616%2251799813685248=(H*18446744073709551616+O+c)%2251799813685248:=by omega
theorem mstep (n m i c:Nat) (d l out:List Nat) (hi:i<5) (hlen:l.length=10) (hc:c<18446744073709551616) (h0:l.getD (i*2+0) 0<2251799813685240) (h1:l.getD (i*2+1) 0<18446744073709551616) :
    ∃ h o,g57L17 realA n (fun v _=>some v) (m+1) c i d l out=g57L17 realA n (fun v _=>some v) m ((l.getD (i*2+0) 0*18446744073709551616+l.getD (i*2+1) 0+c)/2251799813685248) ((i+1:Nat):Int) d ((l.set (i*2+1) o).set (i*2+0) h) (out.set i ((l.getD (i*2+0) 0*18446744073709551616+l.getD (i*2+1) 0+c)%2251799813685248)):=by
  obtain ⟨k50,r50⟩:=moreE (i*2) c l hc (by omega) h1
  have b1:i*2+1<l.length:=by omega
  have b0:i*2+0<(l.set (i*2+1) ((l.getD (i*2+1) 0+c)%18446744073709551616)).length:=by rw [List.length_set]; omega
  have g0:=getD_set_same (l.set (i*2+1) ((l.getD (i*2+1) 0+c)%18446744073709551616)) (i*2+0) (l.getD (i*2+0) 0+(l.getD (i*2+1) 0+c)/18446744073709551616) b0
  have g1:=(getD_set_other (l.set (i*2+1) ((l.getD (i*2+1) 0+c)%18446744073709551616)) (i*2+0) (i*2+1) (l.getD (i*2+0) 0+(l.getD (i*2+1) 0+c)/18446744073709551616) (by omega)).trans (getD_set_same l (i*2+1) _ b1)
  have ed:=take2 _ (i*2) _ _ (by rw [List.length_set,List.length_set]; omega) g0 g1
  obtain ⟨k51,r51⟩:=upOk (h:=l.getD (i*2+0) 0+(l.getD (i*2+1) 0+c)/18446744073709551616) (o:=(l.getD (i*2+1) 0+c)%18446744073709551616) (by omega) (Nat.mod_lt _ (by decide))
  rw [wsum] at r51
  have em:=wrem (l.getD (i*2+0) 0) (l.getD (i*2+1) 0) c
  refine ⟨l.getD (i*2+0) 0+(l.getD (i*2+1) 0+c)/18446744073709551616,(l.getD (i*2+1) 0+c)%18446744073709551616, ?_⟩
  have e1:realA.ib .add .i64 (i:Int) 1=((i+1:Nat):Int):=addN 1 (by omega)
  rw [g57L17,lssT (show (i:Int)<5 by omega)]
  simp only [g57J18,negN,toNN,ltT hi,k50,r50,ed,k51,r51,g1,nand51,em]
  rw [e1]
theorem dm' (x c q r:Nat) (hq:(x+c)/2251799813685248=q) (hr:(x+c)%2251799813685248=r):r+2251799813685248*q=x+c∧r<2251799813685248:=by omega
theorem cb {h o c q:Nat} (hh:h<2251799813685240) (ho:o<18446744073709551616) (hc:c<18446744073709551616) (hq:(h*18446744073709551616+o+c)/2251799813685248=q):q<18446744073709551616:=by omega
theorem c4b {u c4 T c3:Nat} (e:u+2251799813685248*c4=T+c3) (hT:T≤101412048018258307083739982725125) (b3:c3<18446744073709551616):c4<144115188075855872:=by omega
theorem norm5 (m h0 o0 h1 o1 h2 o2 h3 o3 h4 o4:Nat) (d:List Nat) (H0:h0<2251799813685240) (O0:o0<18446744073709551616) (H1:h1<2251799813685240) (O1:o1<18446744073709551616) (H2:h2<2251799813685240) (O2:o2<18446744073709551616) (H3:h3<2251799813685240) (O3:o3<18446744073709551616) (H4:h4<2251799813685240) (O4:o4<18446744073709551616) (hT:h4*18446744073709551616+o4≤101412048018258307083739982725125) :
    ∃ u0 u1 u2 u3 u4 c,u0<2251799813685248∧u1<2251799813685248∧u2<2251799813685248∧u3<2251799813685248∧u4<2251799813685248∧c<144115188075855872∧v51 u0 u1 u2 u3 u4+57896044618658097711785492504343953926634992332820282019728792003956564819968*c=v51 (h0*18446744073709551616+o0) (h1*18446744073709551616+o1) (h2*18446744073709551616+o2) (h3*18446744073709551616+o3) (h4*18446744073709551616+o4) ∧
      g57L17 realA (m+6) (fun v _=>some v) (m+6) 0 0 d [h0,o0,h1,o1,h2,o2,h3,o3,h4,o4] [0,0,0,0,0]=g57J22 realA (m+6) (fun v _=>some v) c d [u0,u1,u2,u3,u4]:=by
  obtain ⟨x0,y0,z0⟩:=mstep (m+6) (m+5) 0 0 d [h0,o0,h1,o1,h2,o2,h3,o3,h4,o4] [0,0,0,0,0] (by decide) rfl (by decide) H0 O0
  replace z0:g57L17 realA (m+6) (fun v _=>some v) (m+5+1) 0 ((0:Nat):Int) d [h0,o0,h1,o1,h2,o2,h3,o3,h4,o4] [0,0,0,0,0]=g57L17 realA (m+6) (fun v _=>some v) (m+5) ((h0*18446744073709551616+o0+0)/2251799813685248) ((1:Nat):Int) d [x0,y0,h1,o1,h2,o2,h3,o3,h4,o4] [((h0*18446744073709551616+o0+0)%2251799813685248),0,0,0,0]:=z0
  obtain ⟨c0,hc0⟩:∃ c,(h0*18446744073709551616+o0+0)/2251799813685248=c:=⟨_,rfl⟩
  obtain ⟨u0,hu0⟩:∃ u,(h0*18446744073709551616+o0+0)%2251799813685248=u:=⟨_,rfl⟩
  rw [hc0,hu0] at z0
  have b0:c0<18446744073709551616:=cb H0 O0 (by decide) hc0
  obtain ⟨e0,w0⟩:=dm' _ _ _ _ hc0 hu0
  obtain ⟨x1,y1,z1⟩:=mstep (m+6) (m+4) 1 c0 d [x0,y0,h1,o1,h2,o2,h3,o3,h4,o4] [u0,0,0,0,0] (by decide) rfl b0 H1 O1
  replace z1:g57L17 realA (m+6) (fun v _=>some v) (m+4+1) c0 ((1:Nat):Int) d [x0,y0,h1,o1,h2,o2,h3,o3,h4,o4] [u0,0,0,0,0]=g57L17 realA (m+6) (fun v _=>some v) (m+4) ((h1*18446744073709551616+o1+c0)/2251799813685248) ((2:Nat):Int) d [x0,y0,x1,y1,h2,o2,h3,o3,h4,o4] [u0,((h1*18446744073709551616+o1+c0)%2251799813685248),0,0,0]:=z1
  obtain ⟨c1,hc1⟩:∃ c,(h1*18446744073709551616+o1+c0)/2251799813685248=c:=⟨_,rfl⟩
  obtain ⟨u1,hu1⟩:∃ u,(h1*18446744073709551616+o1+c0)%2251799813685248=u:=⟨_,rfl⟩
  rw [hc1,hu1] at z1
  have b1:c1<18446744073709551616:=cb H1 O1 b0 hc1
  obtain ⟨e1,w1⟩:=dm' _ _ _ _ hc1 hu1
  obtain ⟨x2,y2,z2⟩:=mstep (m+6) (m+3) 2 c1 d [x0,y0,x1,y1,h2,o2,h3,o3,h4,o4] [u0,u1,0,0,0] (by decide) rfl b1 H2 O2
  replace z2:g57L17 realA (m+6) (fun v _=>some v) (m+3+1) c1 ((2:Nat):Int) d [x0,y0,x1,y1,h2,o2,h3,o3,h4,o4] [u0,u1,0,0,0]=g57L17 realA (m+6) (fun v _=>some v) (m+3) ((h2*18446744073709551616+o2+c1)/2251799813685248) ((3:Nat):Int) d [x0,y0,x1,y1,x2,y2,h3,o3,h4,o4] [u0,u1,((h2*18446744073709551616+o2+c1)%2251799813685248),0,0]:=z2
  obtain ⟨c2,hc2⟩:∃ c,(h2*18446744073709551616+o2+c1)/2251799813685248=c:=⟨_,rfl⟩
  obtain ⟨u2,hu2⟩:∃ u,(h2*18446744073709551616+o2+c1)%2251799813685248=u:=⟨_,rfl⟩
  rw [hc2,hu2] at z2
  have b2:c2<18446744073709551616:=cb H2 O2 b1 hc2
  obtain ⟨e2,w2⟩:=dm' _ _ _ _ hc2 hu2
  obtain ⟨x3,y3,z3⟩:=mstep (m+6) (m+2) 3 c2 d [x0,y0,x1,y1,x2,y2,h3,o3,h4,o4] [u0,u1,u2,0,0] (by decide) rfl b2 H3 O3
  replace z3:g57L17 realA (m+6) (fun v _=>some v) (m+2+1) c2 ((3:Nat):Int) d [x0,y0,x1,y1,x2,y2,h3,o3,h4,o4] [u0,u1,u2,0,0]=g57L17 realA (m+6) (fun v _=>some v) (m+2) ((h3*18446744073709551616+o3+c2)/2251799813685248) ((4:Nat):Int) d [x0,y0,x1,y1,x2,y2,x3,y3,h4,o4] [u0,u1,u2,((h3*18446744073709551616+o3+c2)%2251799813685248),0]:=z3
  obtain ⟨c3,hc3⟩:∃ c,(h3*18446744073709551616+o3+c2)/2251799813685248=c:=⟨_,rfl⟩
  obtain ⟨u3,hu3⟩:∃ u,(h3*18446744073709551616+o3+c2)%2251799813685248=u:=⟨_,rfl⟩
  rw [hc3,hu3] at z3
  have b3:c3<18446744073709551616:=cb H3 O3 b2 hc3
  obtain ⟨e3,w3⟩:=dm' _ _ _ _ hc3 hu3
  obtain ⟨x4,y4,z4⟩:=mstep (m+6) (m+1) 4 c3 d [x0,y0,x1,y1,x2,y2,x3,y3,h4,o4] [u0,u1,u2,u3,0] (by decide) rfl b3 H4 O4
  replace z4:g57L17 realA (m+6) (fun v _=>some v) (m+1+1) c3 ((4:Nat):Int) d [x0,y0,x1,y1,x2,y2,x3,y3,h4,o4] [u0,u1,u2,u3,0]=g57L17 realA (m+6) (fun v _=>some v) (m+1) ((h4*18446744073709551616+o4+c3)/2251799813685248) ((5:Nat):Int) d [x0,y0,x1,y1,x2,y2,x3,y3,x4,y4] [u0,u1,u2,u3,((h4*18446744073709551616+o4+c3)%2251799813685248)]:=z4
  obtain ⟨c4,hc4⟩:∃ c,(h4*18446744073709551616+o4+c3)/2251799813685248=c:=⟨_,rfl⟩
  obtain ⟨u4,hu4⟩:∃ u,(h4*18446744073709551616+o4+c3)%2251799813685248=u:=⟨_,rfl⟩
  rw [hc4,hu4] at z4
  have b4:c4<18446744073709551616:=cb H4 O4 b3 hc4
  obtain ⟨e4,w4⟩:=dm' _ _ _ _ hc4 hu4
  refine ⟨u0,u1,u2,u3,u4,c4,w0,w1,w2,w3,w4, ?_, ?_, ?_⟩
  · exact c4b e4 hT b3
  · rw [Nat.add_zero] at e0
    exact chain u0 u1 u2 u3 u4 _ _ _ _ _ c0 c1 c2 c3 c4 e0 e1 e2 e3 e4
  · refine Eq.trans (b:=g57L17 realA (m+6) (fun v _=>some v) (m+5+1) 0 ((0:Nat):Int) d [h0,o0,h1,o1,h2,o2,h3,o3,h4,o4] [0,0,0,0,0]) rfl ?_
    refine z0.trans (z1.trans (z2.trans (z3.trans (z4.trans ?_))))
    rw [g57L17,show realA.ic .lss (((5:Nat)):Int) 5=false from rfl]
theorem mb1 {m:Nat} (h:m<4503599627370496):m≤85568392920039405:=by omega
theorem mb2 {m:Nat} (h:m<4503599627370496):m*19≤85568392920039405:=by omega
theorem addB {T p b b2:Nat} (h:T≤b) (hp:p≤385365782469381566918211934355475) (hb:b+1298074214633706907132624082305024=b2):T+p≤b2:=by omega
theorem t1 {a b:Nat} (h:a*b≤20282409603651661416747996545025):a*b≤385365782469381566918211934355475:=by omega
theorem t19 {a b:Nat} (h:a*b≤20282409603651661416747996545025):a*(b*19)≤385365782469381566918211934355475:=by rw [← Nat.mul_assoc]; omega
theorem sum5 {a b c d e x:Nat} (ha:a≤x) (hb:b≤x) (hc:c≤x) (hd:d≤x) (he:e≤x):a+b+c+d+e≤5*x:=by omega
theorem lt1 {u c:Nat} (h:u<2251799813685248) (hc:c<144115188075855872):u+c*19<9223372036854775808:=by omega
theorem lt2 {u:Nat} (h:u<2251799813685248):u<9223372036854775808:=by omega
theorem lt3 {c:Nat} (hc:c<144115188075855872):c*19<18446744073709551616:=by omega
theorem lt4 {u c:Nat} (h:u<2251799813685248) (hc:c<144115188075855872):u+c*19<18446744073709551616:=by omega
theorem r0b {r c u:Nat} (h:r<2251799813685248+19*c) (h2:2251799813685248*c≤u+8192) (h3:u<2251799813685248):r<2251799813685248+57:=by omega
theorem z2l (V c:Nat):V+c*19+PP*c=V+57896044618658097711785492504343953926634992332820282019728792003956564819968*c:=by unfold PP; omega
theorem rows (m:Nat) {l0 l1 l2 l3 l4 m0 m1 m2 m3 m4:Nat} (L0:l0<4503599627370496) (M0:m0<4503599627370496) (L1:l1<4503599627370496) (M1:m1<4503599627370496) (L2:l2<4503599627370496) (M2:m2<4503599627370496) (L3:l3<4503599627370496) (M3:m3<4503599627370496) (L4:l4<4503599627370496) (M4:m4<4503599627370496):∃ h0 o0 h1 o1 h2 o2 h3 o3 h4 o4,o0<18446744073709551616∧h0*18446744073709551616+o0=l0*m0+l1*(m4*19)+l2*(m3*19)+l3*(m2*19)+l4*(m1*19)∧o1<18446744073709551616∧h1*18446744073709551616+o1=l0*m1+l1*m0+l2*(m4*19)+l3*(m3*19)+l4*(m2*19)∧o2<18446744073709551616∧h2*18446744073709551616+o2=l0*m2+l1*m1+l2*m0+l3*(m4*19)+l4*(m3*19)∧o3<18446744073709551616∧h3*18446744073709551616+o3=l0*m3+l1*m2+l2*m1+l3*m0+l4*(m4*19)∧o4<18446744073709551616∧h4*18446744073709551616+o4=l0*m4+l1*m3+l2*m2+l3*m1+l4*m0 ∧
    g57L3 realA (m+6) (fun v _=>some v) (m+6) [l0,l1,l2,l3,l4] 0 [m0,m1,m2,m3,m4] [0,0,0,0,0] [0,0,0,0,0,0,0,0,0,0]=g57L17 realA (m+6) (fun v _=>some v) (m+6) 0 0 [0,0,0,0,0] [h0,o0,h1,o1,h2,o2,h3,o3,h4,o4] [0,0,0,0,0]:=by
  obtain ⟨h0_0,o0_0,h0_1,o0_1,h0_2,o0_2,h0_3,o0_3,h0_4,o0_4,A00,B00,C00,A01,B01,C01,A02,B02,C02,A03,B03,C03,A04,B04,C04,s0⟩:=row0 m (m+5) l0 l1 l2 l3 l4 m0 m1 m2 m3 m4 0 0 0 0 0 0 0 0 0 0 (fun v _=>some v) [0,0,0,0,0] L0 M0 L1 M1 L2 M2 L3 M3 L4 M4 (by decide) (by decide) (by decide) (by decide) (by decide) (by decide) (by decide) (by decide) (by decide) (by decide) (by decide) (by decide) (by decide) (by decide) (by decide)
  have P00:l0*m0≤385365782469381566918211934355475:=mulB (a:=4503599627370495) (b:=85568392920039405) (Nat.le_of_lt_succ L0) (mb1 M0)
  have D00:h0_0*18446744073709551616+o0_0≤1298074214633706907132624082305024:=Nat.le_trans (Nat.le_of_eq C00) (addB (b:=0) (by decide) P00 rfl)
  have P01:l0*m1≤385365782469381566918211934355475:=mulB (a:=4503599627370495) (b:=85568392920039405) (Nat.le_of_lt_succ L0) (mb1 M1)
  have D01:h0_1*18446744073709551616+o0_1≤1298074214633706907132624082305024:=Nat.le_trans (Nat.le_of_eq C01) (addB (b:=0) (by decide) P01 rfl)
  have P02:l0*m2≤385365782469381566918211934355475:=mulB (a:=4503599627370495) (b:=85568392920039405) (Nat.le_of_lt_succ L0) (mb1 M2)
  have D02:h0_2*18446744073709551616+o0_2≤1298074214633706907132624082305024:=Nat.le_trans (Nat.le_of_eq C02) (addB (b:=0) (by decide) P02 rfl)
  have P03:l0*m3≤385365782469381566918211934355475:=mulB (a:=4503599627370495) (b:=85568392920039405) (Nat.le_of_lt_succ L0) (mb1 M3)
  have D03:h0_3*18446744073709551616+o0_3≤1298074214633706907132624082305024:=Nat.le_trans (Nat.le_of_eq C03) (addB (b:=0) (by decide) P03 rfl)
  have P04:l0*m4≤385365782469381566918211934355475:=mulB (a:=4503599627370495) (b:=85568392920039405) (Nat.le_of_lt_succ L0) (mb1 M4)
  have D04:h0_4*18446744073709551616+o0_4≤1298074214633706907132624082305024:=Nat.le_trans (Nat.le_of_eq C04) (addB (b:=0) (by decide) P04 rfl)
  obtain ⟨h1_0,o1_0,h1_1,o1_1,h1_2,o1_2,h1_3,o1_3,h1_4,o1_4,A10,B10,C10,A11,B11,C11,A12,B12,C12,A13,B13,C13,A14,B14,C14,s1⟩:=row1 m (m+4) l0 l1 l2 l3 l4 m0 m1 m2 m3 m4 h0_0 o0_0 h0_1 o0_1 h0_2 o0_2 h0_3 o0_3 h0_4 o0_4 (fun v _=>some v) [0,0,0,0,0] L0 M0 L1 M1 L2 M2 L3 M3 L4 M4 A00 B00 D00 A01 B01 D01 A02 B02 D02 A03 B03 D03 A04 B04 D04
  have P10:l1*m0≤385365782469381566918211934355475:=mulB (a:=4503599627370495) (b:=85568392920039405) (Nat.le_of_lt_succ L1) (mb1 M0)
  have D11:h1_1*18446744073709551616+o1_1≤2596148429267413814265248164610048:=Nat.le_trans (Nat.le_of_eq C11) (addB D01 P10 rfl)
  have P11:l1*m1≤385365782469381566918211934355475:=mulB (a:=4503599627370495) (b:=85568392920039405) (Nat.le_of_lt_succ L1) (mb1 M1)
  have D12:h1_2*18446744073709551616+o1_2≤2596148429267413814265248164610048:=Nat.le_trans (Nat.le_of_eq C12) (addB D02 P11 rfl)
  have P12:l1*m2≤385365782469381566918211934355475:=mulB (a:=4503599627370495) (b:=85568392920039405) (Nat.le_of_lt_succ L1) (mb1 M2)
  have D13:h1_3*18446744073709551616+o1_3≤2596148429267413814265248164610048:=Nat.le_trans (Nat.le_of_eq C13) (addB D03 P12 rfl)
  have P13:l1*m3≤385365782469381566918211934355475:=mulB (a:=4503599627370495) (b:=85568392920039405) (Nat.le_of_lt_succ L1) (mb1 M3)
  have D14:h1_4*18446744073709551616+o1_4≤2596148429267413814265248164610048:=Nat.le_trans (Nat.le_of_eq C14) (addB D04 P13 rfl)
  have P14:l1*(m4*19)≤385365782469381566918211934355475:=mulB (a:=4503599627370495) (b:=85568392920039405) (Nat.le_of_lt_succ L1) (mb2 M4)
  have D10:h1_0*18446744073709551616+o1_0≤2596148429267413814265248164610048:=Nat.le_trans (Nat.le_of_eq C10) (addB D00 P14 rfl)
  obtain ⟨h2_0,o2_0,h2_1,o2_1,h2_2,o2_2,h2_3,o2_3,h2_4,o2_4,A20,B20,C20,A21,B21,C21,A22,B22,C22,A23,B23,C23,A24,B24,C24,s2⟩:=row2 m (m+3) l0 l1 l2 l3 l4 m0 m1 m2 m3 m4 h1_0 o1_0 h1_1 o1_1 h1_2 o1_2 h1_3 o1_3 h1_4 o1_4 (fun v _=>some v) [0,0,0,0,0] L0 M0 L1 M1 L2 M2 L3 M3 L4 M4 A10 B10 D10 A11 B11 D11 A12 B12 D12 A13 B13 D13 A14 B14 D14
  have P20:l2*m0≤385365782469381566918211934355475:=mulB (a:=4503599627370495) (b:=85568392920039405) (Nat.le_of_lt_succ L2) (mb1 M0)
  have D22:h2_2*18446744073709551616+o2_2≤3894222643901120721397872246915072:=Nat.le_trans (Nat.le_of_eq C22) (addB D12 P20 rfl)
  have P21:l2*m1≤385365782469381566918211934355475:=mulB (a:=4503599627370495) (b:=85568392920039405) (Nat.le_of_lt_succ L2) (mb1 M1)
  have D23:h2_3*18446744073709551616+o2_3≤3894222643901120721397872246915072:=Nat.le_trans (Nat.le_of_eq C23) (addB D13 P21 rfl)
  have P22:l2*m2≤385365782469381566918211934355475:=mulB (a:=4503599627370495) (b:=85568392920039405) (Nat.le_of_lt_succ L2) (mb1 M2)
  have D24:h2_4*18446744073709551616+o2_4≤3894222643901120721397872246915072:=Nat.le_trans (Nat.le_of_eq C24) (addB D14 P22 rfl)
  have P23:l2*(m3*19)≤385365782469381566918211934355475:=mulB (a:=4503599627370495) (b:=85568392920039405) (Nat.le_of_lt_succ L2) (mb2 M3)
  have D20:h2_0*18446744073709551616+o2_0≤3894222643901120721397872246915072:=Nat.le_trans (Nat.le_of_eq C20) (addB D10 P23 rfl)
  have P24:l2*(m4*19)≤385365782469381566918211934355475:=mulB (a:=4503599627370495) (b:=85568392920039405) (Nat.le_of_lt_succ L2) (mb2 M4)
  have D21:h2_1*18446744073709551616+o2_1≤3894222643901120721397872246915072:=Nat.le_trans (Nat.le_of_eq C21) (addB D11 P24 rfl)
  obtain ⟨h3_0,o3_0,h3_1,o3_1,h3_2,o3_2,h3_3,o3_3,h3_4,o3_4,A30,B30,C30,A31,B31,C31,A32,B32,C32,A33,B33,C33,A34,B34,C34,s3⟩:=row3 m (m+2) l0 l1 l2 l3 l4 m0 m1 m2 m3 m4 h2_0 o2_0 h2_1 o2_1 h2_2 o2_2 h2_3 o2_3 h2_4 o2_4 (fun v _=>some v) [0,0,0,0,0] L0 M0 L1 M1 L2 M2 L3 M3 L4 M4 A20 B20 D20 A21 B21 D21 A22 B22 D22 A23 B23 D23 A24 B24 D24
  have P30:l3*m0≤385365782469381566918211934355475:=mulB (a:=4503599627370495) (b:=85568392920039405) (Nat.le_of_lt_succ L3) (mb1 M0)
  have D33:h3_3*18446744073709551616+o3_3≤5192296858534827628530496329220096:=Nat.le_trans (Nat.le_of_eq C33) (addB D23 P30 rfl)
  have P31:l3*m1≤385365782469381566918211934355475:=mulB (a:=4503599627370495) (b:=85568392920039405) (Nat.le_of_lt_succ L3) (mb1 M1)
  have D34:h3_4*18446744073709551616+o3_4≤5192296858534827628530496329220096:=Nat.le_trans (Nat.le_of_eq C34) (addB D24 P31 rfl)
  have P32:l3*(m2*19)≤385365782469381566918211934355475:=mulB (a:=4503599627370495) (b:=85568392920039405) (Nat.le_of_lt_succ L3) (mb2 M2)
  have D30:h3_0*18446744073709551616+o3_0≤5192296858534827628530496329220096:=Nat.le_trans (Nat.le_of_eq C30) (addB D20 P32 rfl)
  have P33:l3*(m3*19)≤385365782469381566918211934355475:=mulB (a:=4503599627370495) (b:=85568392920039405) (Nat.le_of_lt_succ L3) (mb2 M3)
  have D31:h3_1*18446744073709551616+o3_1≤5192296858534827628530496329220096:=Nat.le_trans (Nat.le_of_eq C31) (addB D21 P33 rfl)
  have P34:l3*(m4*19)≤385365782469381566918211934355475:=mulB (a:=4503599627370495) (b:=85568392920039405) (Nat.le_of_lt_succ L3) (mb2 M4)
  have D32:h3_2*18446744073709551616+o3_2≤5192296858534827628530496329220096:=Nat.le_trans (Nat.le_of_eq C32) (addB D22 P34 rfl)
  obtain ⟨h4_0,o4_0,h4_1,o4_1,h4_2,o4_2,h4_3,o4_3,h4_4,o4_4,A40,B40,C40,A41,B41,C41,A42,B42,C42,A43,B43,C43,A44,B44,C44,s4⟩:=row4 m (m+1) l0 l1 l2 l3 l4 m0 m1 m2 m3 m4 h3_0 o3_0 h3_1 o3_1 h3_2 o3_2 h3_3 o3_3 h3_4 o3_4 (fun v _=>some v) [0,0,0,0,0] L0 M0 L1 M1 L2 M2 L3 M3 L4 M4 A30 B30 D30 A31 B31 D31 A32 B32 D32 A33 B33 D33 A34 B34 D34
  have P40:l4*m0≤385365782469381566918211934355475:=mulB (a:=4503599627370495) (b:=85568392920039405) (Nat.le_of_lt_succ L4) (mb1 M0)
  have D44:h4_4*18446744073709551616+o4_4≤6490371073168534535663120411525120:=Nat.le_trans (Nat.le_of_eq C44) (addB D34 P40 rfl)
  have P41:l4*(m1*19)≤385365782469381566918211934355475:=mulB (a:=4503599627370495) (b:=85568392920039405) (Nat.le_of_lt_succ L4) (mb2 M1)
  have D40:h4_0*18446744073709551616+o4_0≤6490371073168534535663120411525120:=Nat.le_trans (Nat.le_of_eq C40) (addB D30 P41 rfl)
  have P42:l4*(m2*19)≤385365782469381566918211934355475:=mulB (a:=4503599627370495) (b:=85568392920039405) (Nat.le_of_lt_succ L4) (mb2 M2)
  have D41:h4_1*18446744073709551616+o4_1≤6490371073168534535663120411525120:=Nat.le_trans (Nat.le_of_eq C41) (addB D31 P42 rfl)
  have P43:l4*(m3*19)≤385365782469381566918211934355475:=mulB (a:=4503599627370495) (b:=85568392920039405) (Nat.le_of_lt_succ L4) (mb2 M3)
  have D42:h4_2*18446744073709551616+o4_2≤6490371073168534535663120411525120:=Nat.le_trans (Nat.le_of_eq C42) (addB D32 P43 rfl)
  have P44:l4*(m4*19)≤385365782469381566918211934355475:=mulB (a:=4503599627370495) (b:=85568392920039405) (Nat.le_of_lt_succ L4) (mb2 M4)
  have D43:h4_3*18446744073709551616+o4_3≤6490371073168534535663120411525120:=Nat.le_trans (Nat.le_of_eq C43) (addB D33 P44 rfl)
  refine ⟨h4_0,o4_0,h4_1,o4_1,h4_2,o4_2,h4_3,o4_3,h4_4,o4_4,B40,by rw [C40,C30,C20,C10,C00,Nat.zero_mul,Nat.zero_add],B41,by rw [C41,C31,C21,C11,C01,Nat.zero_mul,Nat.zero_add],B42,by rw [C42,C32,C22,C12,C02,Nat.zero_mul,Nat.zero_add],B43,by rw [C43,C33,C23,C13,C03,Nat.zero_mul,Nat.zero_add],B44,by rw [C44,C34,C24,C14,C04,Nat.zero_mul,Nat.zero_add], ?_⟩
  refine Eq.trans (b:=g57L3 realA (m+6) (fun v _=>some v) (m+5+1) [l0,l1,l2,l3,l4] 0 [m0,m1,m2,m3,m4] [0,0,0,0,0] [0,0,0,0,0,0,0,0,0,0]) rfl ?_
  refine s0.trans (s1.trans (s2.trans (s3.trans (s4.trans ?_))))
  rw [g57L3,lssF (by decide)]
  rfl
theorem prod51 (l0 l1 l2 l3 l4 m0 m1 m2 m3 m4:Nat):v51 (l0*m0+l1*(m4*19)+l2*(m3*19)+l3*(m2*19)+l4*(m1*19)) (l0*m1+l1*m0+l2*(m4*19)+l3*(m3*19)+l4*(m2*19)) (l0*m2+l1*m1+l2*m0+l3*(m4*19)+l4*(m3*19)) (l0*m3+l1*m2+l2*m1+l3*m0+l4*(m4*19)) (l0*m4+l1*m3+l2*m2+l3*m1+l4*m0)+PP*((l1*m4+l2*m3+l3*m2+l4*m1)+2251799813685248*(l2*m4+l3*m3+l4*m2)+5070602400912917605986812821504*(l3*m4+l4*m3)+11417981541647679048466287755595961091061972992*(l4*m4))=v51 l0 l1 l2 l3 l4*v51 m0 m1 m2 m3 m4:=by
  unfold v51 PP
  grind
theorem hb {h o t:Nat} (e:h*18446744073709551616+o=t) (ht:t≤1926828912346907834591059671777375):h<2251799813685240:=by omega
theorem timesOk {l0 l1 l2 l3 l4 m0 m1 m2 m3 m4:Nat} (L0:l0<4503599627370496) (M0:m0<4503599627370496) (L1:l1<4503599627370496) (M1:m1<4503599627370496) (L2:l2<4503599627370496) (M2:m2<4503599627370496) (L3:l3<4503599627370496) (M3:m3<4503599627370496) (L4:l4<4503599627370496) (M4:m4<4503599627370496) :
    g57ok realA [l0,l1,l2,l3,l4] [m0,m1,m2,m3,m4]=true∧∃ r0 r1 r2 r3 r4,r1<2251799813685248∧r2<2251799813685248∧r3<2251799813685248∧r4<2251799813685248∧r0<2251799813685248+57∧v51 r0 r1 r2 r3 r4%PP=(v51 l0 l1 l2 l3 l4*v51 m0 m1 m2 m3 m4)%PP∧g57r0 realA [l0,l1,l2,l3,l4] [m0,m1,m2,m3,m4]=[r0,r1,r2,r3,r4]:=by
  obtain ⟨h0,o0,h1,o1,h2,o2,h3,o3,h4,o4,B0,E0,B1,E1,B2,E2,B3,E3,B4,E4,st⟩:=rows 99994 L0 M0 L1 M1 L2 M2 L3 M3 L4 M4
  have Q00:l0*m0≤20282409603651661416747996545025:=mulB (a:=4503599627370495) (b:=4503599627370495) (Nat.le_of_lt_succ L0) (Nat.le_of_lt_succ M0)
  have Q01:l0*m1≤20282409603651661416747996545025:=mulB (a:=4503599627370495) (b:=4503599627370495) (Nat.le_of_lt_succ L0) (Nat.le_of_lt_succ M1)
  have Q02:l0*m2≤20282409603651661416747996545025:=mulB (a:=4503599627370495) (b:=4503599627370495) (Nat.le_of_lt_succ L0) (Nat.le_of_lt_succ M2)
  have Q03:l0*m3≤20282409603651661416747996545025:=mulB (a:=4503599627370495) (b:=4503599627370495) (Nat.le_of_lt_succ L0) (Nat.le_of_lt_succ M3)
  have Q04:l0*m4≤20282409603651661416747996545025:=mulB (a:=4503599627370495) (b:=4503599627370495) (Nat.le_of_lt_succ L0) (Nat.le_of_lt_succ M4)
  have Q10:l1*m0≤20282409603651661416747996545025:=mulB (a:=4503599627370495) (b:=4503599627370495) (Nat.le_of_lt_succ L1) (Nat.le_of_lt_succ M0)
  have Q11:l1*m1≤20282409603651661416747996545025:=mulB (a:=4503599627370495) (b:=4503599627370495) (Nat.le_of_lt_succ L1) (Nat.le_of_lt_succ M1)
  have Q12:l1*m2≤20282409603651661416747996545025:=mulB (a:=4503599627370495) (b:=4503599627370495) (Nat.le_of_lt_succ L1) (Nat.le_of_lt_succ M2)
  have Q13:l1*m3≤20282409603651661416747996545025:=mulB (a:=4503599627370495) (b:=4503599627370495) (Nat.le_of_lt_succ L1) (Nat.le_of_lt_succ M3)
  have Q14:l1*m4≤20282409603651661416747996545025:=mulB (a:=4503599627370495) (b:=4503599627370495) (Nat.le_of_lt_succ L1) (Nat.le_of_lt_succ M4)
  have Q20:l2*m0≤20282409603651661416747996545025:=mulB (a:=4503599627370495) (b:=4503599627370495) (Nat.le_of_lt_succ L2) (Nat.le_of_lt_succ M0)
  have Q21:l2*m1≤20282409603651661416747996545025:=mulB (a:=4503599627370495) (b:=4503599627370495) (Nat.le_of_lt_succ L2) (Nat.le_of_lt_succ M1)
  have Q22:l2*m2≤20282409603651661416747996545025:=mulB (a:=4503599627370495) (b:=4503599627370495) (Nat.le_of_lt_succ L2) (Nat.le_of_lt_succ M2)
  have Q23:l2*m3≤20282409603651661416747996545025:=mulB (a:=4503599627370495) (b:=4503599627370495) (Nat.le_of_lt_succ L2) (Nat.le_of_lt_succ M3)
  have Q24:l2*m4≤20282409603651661416747996545025:=mulB (a:=4503599627370495) (b:=4503599627370495) (Nat.le_of_lt_succ L2) (Nat.le_of_lt_succ M4)
  have Q30:l3*m0≤20282409603651661416747996545025:=mulB (a:=4503599627370495) (b:=4503599627370495) (Nat.le_of_lt_succ L3) (Nat.le_of_lt_succ M0)
  have Q31:l3*m1≤20282409603651661416747996545025:=mulB (a:=4503599627370495) (b:=4503599627370495) (Nat.le_of_lt_succ L3) (Nat.le_of_lt_succ M1)
  have Q32:l3*m2≤20282409603651661416747996545025:=mulB (a:=4503599627370495) (b:=4503599627370495) (Nat.le_of_lt_succ L3) (Nat.le_of_lt_succ M2)
  have Q33:l3*m3≤20282409603651661416747996545025:=mulB (a:=4503599627370495) (b:=4503599627370495) (Nat.le_of_lt_succ L3) (Nat.le_of_lt_succ M3)
  have Q34:l3*m4≤20282409603651661416747996545025:=mulB (a:=4503599627370495) (b:=4503599627370495) (Nat.le_of_lt_succ L3) (Nat.le_of_lt_succ M4)
  have Q40:l4*m0≤20282409603651661416747996545025:=mulB (a:=4503599627370495) (b:=4503599627370495) (Nat.le_of_lt_succ L4) (Nat.le_of_lt_succ M0)
  have Q41:l4*m1≤20282409603651661416747996545025:=mulB (a:=4503599627370495) (b:=4503599627370495) (Nat.le_of_lt_succ L4) (Nat.le_of_lt_succ M1)
  have Q42:l4*m2≤20282409603651661416747996545025:=mulB (a:=4503599627370495) (b:=4503599627370495) (Nat.le_of_lt_succ L4) (Nat.le_of_lt_succ M2)
  have Q43:l4*m3≤20282409603651661416747996545025:=mulB (a:=4503599627370495) (b:=4503599627370495) (Nat.le_of_lt_succ L4) (Nat.le_of_lt_succ M3)
  have Q44:l4*m4≤20282409603651661416747996545025:=mulB (a:=4503599627370495) (b:=4503599627370495) (Nat.le_of_lt_succ L4) (Nat.le_of_lt_succ M4)
  have F0:l0*m0+l1*(m4*19)+l2*(m3*19)+l3*(m2*19)+l4*(m1*19)≤1926828912346907834591059671777375:=sum5 (x:=385365782469381566918211934355475) (t1 Q00) (t19 Q14) (t19 Q23) (t19 Q32) (t19 Q41)
  have F1:l0*m1+l1*m0+l2*(m4*19)+l3*(m3*19)+l4*(m2*19)≤1926828912346907834591059671777375:=sum5 (x:=385365782469381566918211934355475) (t1 Q01) (t1 Q10) (t19 Q24) (t19 Q33) (t19 Q42)
  have F2:l0*m2+l1*m1+l2*m0+l3*(m4*19)+l4*(m3*19)≤1926828912346907834591059671777375:=sum5 (x:=385365782469381566918211934355475) (t1 Q02) (t1 Q11) (t1 Q20) (t19 Q34) (t19 Q43)
  have F3:l0*m3+l1*m2+l2*m1+l3*m0+l4*(m4*19)≤1926828912346907834591059671777375:=sum5 (x:=385365782469381566918211934355475) (t1 Q03) (t1 Q12) (t1 Q21) (t1 Q30) (t19 Q44)
  have F4:l0*m4+l1*m3+l2*m2+l3*m1+l4*m0≤101412048018258307083739982725125:=sum5 (x:=20282409603651661416747996545025) Q04 Q13 Q22 Q31 Q40
  obtain ⟨u0,u1,u2,u3,u4,c,w0,w1,w2,w3,w4,hc,hv,sn⟩:=norm5 99994 h0 o0 h1 o1 h2 o2 h3 o3 h4 o4 [0,0,0,0,0] (hb E0 F0) B0 (hb E1 F1) B1 (hb E2 F2) B2 (hb E3 F3) B3 (hb E4 (Nat.le_trans F4 (by decide))) B4 (by rw [E4]; exact F4)
  rw [E0,E1,E2,E3,E4] at hv
  have pr:=prod51 l0 l1 l2 l3 l4 m0 m1 m2 m3 m4
  clear F0 F1 F2 F3 F4 E0 E1 E2 E3 E4 B0 B1 B2 B3 B4
  obtain ⟨k,r0,r1,r2,r3,r4,c',q1,q2,q3,q4,q5,q6,q7,q8⟩:=carryOk (l0:=u0+c*19) (l1:=u1) (l2:=u2) (l3:=u3) (l4:=u4) (lt1 w0 hc) (lt2 w1) (lt2 w2) (lt2 w3) (lt2 w4)
  have e:g57v realA [l0,l1,l2,l3,l4] [m0,m1,m2,m3,m4]=some (.v (.agg [.nums .u64 5 [r0,r1,r2,r3,r4]])):=by
    unfold g57v
    rw [show (100000:Nat)=99994+6 from rfl]
    generalize 99994=m at st sn ⊢
    refine Eq.trans st (sn.trans ?_)
    unfold g57J22
    simp only [List.getD_cons_zero,List.set_cons_zero,nmul (lt3 hc),nadd (lt4 w0 hc),k,q8]
  refine ⟨by unfold g57ok; rw [e]; rfl,r0,r1,r2,r3,r4,q1,q2,q3,q4,r0b q5 q6 w4, ?_,by unfold g57r0; rw [e]; rfl⟩
  have z1:v51 r0 r1 r2 r3 r4%PP=v51 (u0+c*19) u1 u2 u3 u4%PP:=by rw [← q7,Nat.add_mul_mod_self_left]
  have z2:v51 (u0+c*19) u1 u2 u3 u4+PP*c=v51 u0 u1 u2 u3 u4+57896044618658097711785492504343953926634992332820282019728792003956564819968*c:=by rw [v51_add0]; exact z2l _ _
  rw [z1,← Nat.add_mul_mod_self_left (v51 (u0+c*19) u1 u2 u3 u4) PP c,z2,hv,← pr,Nat.add_mul_mod_self_left]
end Go.Sx
