import Derived.Test.YtpdpafehfloelaaSxY06a
namespace Go.Sx
set_option linter.unusedSectionVars false
open Go.Proofs
set_option linter.unusedVariables false
set_option maxRecDepth 100000
theorem SxY06spi {R:Type} (c:Bool) {f1 f2:Nat→Option R} {a1 a2:Option R} (h1:Prs f1 a1) (h2:Prs f2 a2):Prs (fun k=>match c with | true=>f1 k | false=>f2 k) (match c with | true=>a1 | false=>a2):=by cases c <;> assumption
attribute [local irreducible] carryok add64a add64b g49ok g49r0 g49r1
def g59O (A:Ar):Orc:=orcOf [(49,g49o A),(70,g70o A)]
theorem g59O_sound:OSound Try.prog (g59O realA):=orc_sound fun f g hm args v hv=>by
  simp only [List.mem_cons,List.not_mem_nil,or_false,Prod.mk.injEq] at hm
  rcases hm with ⟨rfl,rfl⟩ | ⟨rfl,rfl⟩
  · exact g49o_sound _ _ hv
  · exact g70o_sound _ _ hv
theorem g59O_det:ODet (g59O realA):=orc_det _
def g59an:Ann:=[(0,([0,1],[])),(1,([2,3,4],[1000,1001,1002])),(2,([3,4,12,13],[1001,1002])),(3,([3,4,12,13],[1001,1002])),(4,([3,4,5,6,12,13],[1001,1002])),(5,([3,4,5,6,7,12,13],[1001,1002])),(6,([3,4,5,6,7,8,12,13],[1001,1002])),(7,([3,4,5,6,7,8,12,13],[1001,1002])),(8,([3,4,5,6,7,8,12,13],[1001,1002])),(9,([3,4,5,6,7,8,9,10,12,13],[1001,1002])),(10,([3,4,5,6,7,8,9,10,12,13],[1001,1002])),(11,([3,4,5,6,7,8,9,11,12,13],[1001,1002])),(12,([3,4,5,6,7,8,9,12,13],[1001,1002])),(13,([3,4,5,6,8,9,11,12,13],[1001,1002])),(14,([3,4,12,13],[1001,1002])),(15,([4],[1002]))]
def g59res:List ResultVar:=[.cell 4 93]
def g59cut:List Nat:=[3,8]
noncomputable def g59N {R:Type} (A:Ar) (kk:AV→Heap→Option R) (t:List Bool→St→Option R) (p:List Bool) (s:St):Option R:=nodeN A gtys (g59O A) g59an g59cut t (bodyOf Try.f59) (finD gtys g59res kk) p s
def g59J8s (x0:Int) (x1 x2:Nat) (x3:Int) (x4:List Nat) (x5:Int) (x6 x7:List Nat):St:=⟨[(3,(pT 1001 0)),(4,(pT 1002 0)),(5,(i6 x0)),(6,(u64v x1)),(7,(u64v x2)),(8,(i6 x3)),(12,(aN .u64 6 x4)),(13,(i6 x5))],[(1001,(bU 6 x6 93)),(1002,(bU 6 x7 93))]⟩
def g59J8 {R:Type} (A:Ar) (n:Nat) (kk:AV→Heap→Option R) (lg59L6:Int→Nat→Nat→Int→List Nat→Int→List Nat→List Nat→Option R) (x0:Int) (x1 x2:Nat) (x3:Int) (x4:List Nat) (x5:Int) (x6 x7:List Nat):Option R :=
 match A.neg x3 with
 | true=>none
 | false=>match A.lt (A.toN x3) 6 with
  | true=>match g49ok A x1 (x6.getD (A.toN x3) 0) with
   | true=>match A.neg (A.ib .add .i64 x0 x3) with
    | true=>none
    | false=>match A.lt (A.toN (A.ib .add .i64 x0 x3)) 6 with
     | true=>match carryok (x7.getD (A.toN (A.ib .add .i64 x0 x3)) 0) (g49r1 A x1 (x6.getD (A.toN x3) 0)) 0 with
      | true=>match A.neg (A.ib .add .i64 x0 x3) with
       | true=>none
       | false=>match A.lt (A.toN (A.ib .add .i64 x0 x3)) 6 with
        | true=>match A.neg (A.ib .add .i64 x0 x3) with
         | true=>none
         | false=>match A.lt (A.toN (A.ib .add .i64 x0 x3)) 6 with
          | true=>match carryok ((x7.set (A.toN (A.ib .add .i64 x0 x3)) (add64a (x7.getD (A.toN (A.ib .add .i64 x0 x3)) 0) (g49r1 A x1 (x6.getD (A.toN x3) 0)) 0)).getD (A.toN (A.ib .add .i64 x0 x3)) 0) x2 0 with
           | true=>match A.neg (A.ib .add .i64 x0 x3) with
            | true=>none
            | false=>match A.lt (A.toN (A.ib .add .i64 x0 x3)) 6 with
             | true=>lg59L6 x0 x1 (A.nb .add .u64 (A.nb .add .u64 (g49r0 A x1 (x6.getD (A.toN x3) 0)) (add64b (x7.getD (A.toN (A.ib .add .i64 x0 x3)) 0) (g49r1 A x1 (x6.getD (A.toN x3) 0)) 0)) (add64b ((x7.set (A.toN (A.ib .add .i64 x0 x3)) (add64a (x7.getD (A.toN (A.ib .add .i64 x0 x3)) 0) (g49r1 A x1 (x6.getD (A.toN x3) 0)) 0)).getD (A.toN (A.ib .add .i64 x0 x3)) 0) x2 0)) (A.ib .add .i64 x3 1) x4 x5 x6 ((x7.set (A.toN (A.ib .add .i64 x0 x3)) (add64a (x7.getD (A.toN (A.ib .add .i64 x0 x3)) 0) (g49r1 A x1 (x6.getD (A.toN x3) 0)) 0)).set (A.toN (A.ib .add .i64 x0 x3)) (add64a ((x7.set (A.toN (A.ib .add .i64 x0 x3)) (add64a (x7.getD (A.toN (A.ib .add .i64 x0 x3)) 0) (g49r1 A x1 (x6.getD (A.toN x3) 0)) 0)).getD (A.toN (A.ib .add .i64 x0 x3)) 0) x2 0))
             | false=>none
           | false=>none
          | false=>none
        | false=>none
      | false=>none
     | false=>none
   | false=>none
  | false=>none
def g59L6s (x0:Int) (x1 x2:Nat) (x3:Int) (x4:List Nat) (x5:Int) (x6 x7:List Nat):St:=⟨[(3,(pT 1001 0)),(4,(pT 1002 0)),(5,(i6 x0)),(6,(u64v x1)),(7,(u64v x2)),(8,(i6 x3)),(12,(aN .u64 6 x4)),(13,(i6 x5))],[(1001,(bU 6 x6 93)),(1002,(bU 6 x7 93))]⟩
def g59L6 {R:Type} (A:Ar) (n:Nat) (kk:AV→Heap→Option R) (lg59L2:List Nat→Int→List Nat→List Nat→Option R):Nat→Int→Nat→Nat→Int→List Nat→Int→List Nat→List Nat→Option R
 | 0,_,_,_,_,_,_,_,_=>none
 | m+1,x0,x1,x2,x3,x4,x5,x6,x7=>match A.ic .lss (A.ib .add .i64 x0 x3) 6 with
 | true=>g59J8 A n kk (g59L6 A n kk lg59L2 m) x0 x1 x2 x3 x4 x5 x6 x7
 | false=>lg59L2 x4 (A.ib .add .i64 x5 1) x6 x7
def g59J3s (x0:List Nat) (x1:Int) (x2 x3:List Nat):St:=⟨[(3,(pT 1001 0)),(4,(pT 1002 0)),(12,(aN .u64 6 x0)),(13,(i6 x1))],[(1001,(bU 6 x2 93)),(1002,(bU 6 x3 93))]⟩
def g59J3 {R:Type} (A:Ar) (n:Nat) (kk:AV→Heap→Option R) (lg59L2:List Nat→Int→List Nat→List Nat→Option R) (x0:List Nat) (x1:Int) (x2 x3:List Nat):Option R :=
 match A.neg x1 with
 | true=>none
 | false=>match A.lt (A.toN x1) 6 with
  | true=>g59L6 A n kk lg59L2 n x1 (x0.getD (A.toN x1) 0) 0 0 x0 x1 x2 x3
  | false=>none
def g59L2s (x0:List Nat) (x1:Int) (x2 x3:List Nat):St:=⟨[(3,(pT 1001 0)),(4,(pT 1002 0)),(12,(aN .u64 6 x0)),(13,(i6 x1))],[(1001,(bU 6 x2 93)),(1002,(bU 6 x3 93))]⟩
def g59L2 {R:Type} (A:Ar) (n:Nat) (kk:AV→Heap→Option R)  : Nat→List Nat→Int→List Nat→List Nat→Option R
 | 0,_,_,_,_=>none
 | m+1,x0,x1,x2,x3=>match A.ic .lss x1 6 with
 | true=>g59J3 A n kk (g59L2 A n kk  m) x0 x1 x2 x3
 | false=>kk (aN .u64 6 x3) [(1002,(bU 6 x3 93))]
def g59 {R:Type} (A:Ar) (n:Nat) (kk:AV→Heap→Option R) (a b:List Nat):Option R :=
 g59L2 A n kk  n a 0 b [0,0,0,0,0,0]
section
variable {R:Type} {A:Ar} {n:Nat} {kk:AV→Heap→Option R} {tb:Nat→List Bool→St→Option R} (st:Stp (g59N A kk) tb)
include st
theorem g59J8_go {lg59L6:Int→Nat→Nat→Int→List Nat→Int→List Nat→List Nat→Option R} (hg59L6:∀ (x0:Int) (x1 x2:Nat) (x3:Int) (x4:List Nat) (x5:Int) (x6 x7:List Nat),Prs (fun k=>tb k (pth 27036) (g59L6s x0 x1 x2 x3 x4 x5 x6 x7)) (lg59L6 x0 x1 x2 x3 x4 x5 x6 x7)) {x0:Int} {x1:Nat} {x2:Nat} {x3:Int} {x4:List Nat} {x5:Int} {x6:List Nat} {x7:List Nat}:Prs (fun k=>tb k (pth 54073) (g59J8s x0 x1 x2 x3 x4 x5 x6 x7)) (g59J8 A n kk lg59L6 x0 x1 x2 x3 x4 x5 x6 x7):=by
  unfold g59J8
  exact st.g (pc (SxY06spi _ pn (SxY06spi _ (SxY06spi _ (SxY06spi _ pn (SxY06spi _ (SxY06spi _ (SxY06spi _ pn (SxY06spi _ (SxY06spi _ pn (SxY06spi _ (SxY06spi _ (SxY06spi _ pn (SxY06spi _ (hg59L6 _ _ _ _ _ _ _ _) pn)) pn) pn)) pn)) pn) pn)) pn) pn)) (by kernel_rfl))
theorem g59L6_go {lg59L2:List Nat→Int→List Nat→List Nat→Option R} (hg59L2:∀ (x0:List Nat) (x1:Int) (x2 x3:List Nat),Prs (fun k=>tb k (pth 52) (g59L2s x0 x1 x2 x3)) (lg59L2 x0 x1 x2 x3)) (m:Nat):∀ (x0:Int) (x1 x2:Nat) (x3:Int) (x4:List Nat) (x5:Int) (x6 x7:List Nat),Prs (fun k=>tb k (pth 27036) (g59L6s x0 x1 x2 x3 x4 x5 x6 x7)) (g59L6 A n kk lg59L2 m x0 x1 x2 x3 x4 x5 x6 x7):=by
  induction m with
  | zero=>intro x0 x1 x2 x3 x4 x5 x6 x7; exact pn0
  | succ m ih =>
    intro x0 x1 x2 x3 x4 x5 x6 x7; rw [g59L6]
    exact st.g (pc (SxY06spi _ (g59J8_go st ih) (hg59L2 _ _ _ _)) (by kernel_rfl))
theorem g59J3_go {lg59L2:List Nat→Int→List Nat→List Nat→Option R} (hg59L2:∀ (x0:List Nat) (x1:Int) (x2 x3:List Nat),Prs (fun k=>tb k (pth 52) (g59L2s x0 x1 x2 x3)) (lg59L2 x0 x1 x2 x3)) {x0:List Nat} {x1:Int} {x2:List Nat} {x3:List Nat}:Prs (fun k=>tb k (pth 211) (g59J3s x0 x1 x2 x3)) (g59J3 A n kk lg59L2 x0 x1 x2 x3):=by
  unfold g59J3
  exact st.g (pc (SxY06spi _ pn (SxY06spi _ (g59L6_go st hg59L2 n _ _ _ _ _ _ _ _) pn)) (by kernel_rfl))
theorem g59L2_go (m:Nat):∀ (x0:List Nat) (x1:Int) (x2 x3:List Nat),Prs (fun k=>tb k (pth 52) (g59L2s x0 x1 x2 x3)) (g59L2 A n kk m x0 x1 x2 x3):=by
  induction m with
  | zero=>intro x0 x1 x2 x3; exact pn0
  | succ m ih =>
    intro x0 x1 x2 x3; rw [g59L2]
    exact st.g (pc (SxY06spi _ (g59J3_go st ih) (pf _)) (by kernel_rfl))
theorem g59_go {a:List Nat} {b:List Nat}:Prs (fun k=>funN A gtys (g59O A) g59an g59cut (bodyOf Try.f59) g59res [(aN .u64 6 a),(aN .u64 6 b)] [] kk (tb k)) (g59 A n kk a b):=by
  unfold g59
  exact pc (g59L2_go st n _ _ _ _) (by kernel_rfl)
end
def g59is (o:Option AV):Bool:=match o with
 | some (aN .u64 6 _)=>true
 | _=>false
def g59g0 (o:Option AV):List Nat:=match o with
 | some (aN .u64 6 x)=>x
 | _=>[]
theorem g59is_spec {o:Option AV} (h:g59is o=true):o=some (aN .u64 6 (g59g0 o)):=by
  unfold g59is at h
  split at h
  · rfl
  · cases h
def g59v (A:Ar) (a b:List Nat):Option AV:=g59 A (100000) (fun v _=>some v) a b
def g59ok (A:Ar) (a b:List Nat):Bool:=g59is (g59v A a b)
def g59r0 (A:Ar) (a b:List Nat):List Nat:=g59g0 (g59v A a b)
theorem g59ok_spec {A:Ar} {a b} (h:g59ok A a b=true):g59v A a b=some (aN .u64 6 (g59r0 A a b)):=g59is_spec h
def g59o (A:Ar) (args:List AV):Option (Bool × AV):=match args with
 | [.v (.agg [.nums .u64 n0 a]),.v (.agg [.nums .u64 n1 b])]=>some (Nat.beq n0 6&&(Nat.beq n1 6&&(g59ok A a b)),.v (.agg [.nums .u64 6 (g59r0 A a b)]))
 | _=>none
theorem g59o_sound:∀ args v,g59o realA args=some (true,v)→Fn1 Try.prog 59 args v:=by
  intro args v h
  unfold g59o at h
  split at h
  · rename_i n0 a n1 b
    simp only [Option.some.injEq,Prod.mk.injEq] at h
    obtain ⟨hc,h⟩:=h
    subst h
    · skip
      simp only [Bool.and_eq_true] at hc
      have en0:=beq_true hc.1
      subst en0
      replace hc:=hc.2
      have en1:=beq_true hc.1
      subst en1
      replace hc:=hc.2
      exact fn1_ofG mixed gtysOK g59O_sound g59O_det (an:=g59an) (cut:=g59cut) Try.func59 (c:=bodyOf Try.f59) rfl (by kernel_rfl) Try.call59 (Nat.le_of_ble_eq_true rfl) (fun b=>rfl) (fun _=>(show g59v realA a b=_ from g59ok_spec hc)) fun _ st=>g59_go st
  · cases h
attribute [local irreducible] g59ok g59r0
def g60O (A:Ar):Orc:=orcOf []
theorem g60O_sound:OSound Try.prog (g60O realA):=orc_sound fun f g hm args v hv=>by
  cases hm
theorem g60O_det:ODet (g60O realA):=orc_det _
def g60an:Ann:=[(0,([0,1],[])),(1,([2,3],[1000,1001])),(2,([2,3,5],[1000,1001])),(3,([2,3,5],[1000,1001])),(4,([2,3,5],[1000,1001])),(5,([2,3,5],[1000,1001])),(6,([],[]))]
def g60res:List ResultVar:=[.tmp 4]
def g60cut:List Nat:=[4]
noncomputable def g60N {R:Type} (A:Ar) (kk:AV→Heap→Option R) (t:List Bool→St→Option R) (p:List Bool) (s:St):Option R:=nodeN A gtys (g60O A) g60an g60cut t (bodyOf Try.f60) (finD gtys g60res kk) p s
def g60J4s (x0:Int) (x1 x2:List Nat):St:=⟨[(2,(pT 1000 0)),(3,(pT 1001 0)),(5,(i6 x0))],[(1000,(bU 6 x1 93)),(1001,(bU 6 x2 93))]⟩
def g60J4 {R:Type} (A:Ar) (n:Nat) (kk:AV→Heap→Option R) (lg60L2:Int→List Nat→List Nat→Option R) (x0:Int) (x1 x2:List Nat):Option R :=
 match A.neg x0 with
 | true=>none
 | false=>match A.lt (A.toN x0) 6 with
  | true=>match A.neg x0 with
   | true=>none
   | false=>match A.lt (A.toN x0) 6 with
    | true=>match A.nc .neq (x1.getD (A.toN x0) 0) (x2.getD (A.toN x0) 0) with
     | true=>match A.neg x0 with
      | true=>none
      | false=>match A.lt (A.toN x0) 6 with
       | true=>match A.neg x0 with
        | true=>none
        | false=>match A.lt (A.toN x0) 6 with
         | true=>kk (bO (A.nc .gtr (x1.getD (A.toN x0) 0) (x2.getD (A.toN x0) 0))) [(1000,(bU 6 x1 93)),(1001,(bU 6 x2 93))]
         | false=>none
       | false=>none
     | false=>lg60L2 (A.ib .sub .i64 x0 1) x1 x2
    | false=>none
  | false=>none
def g60L2s (x0:Int) (x1 x2:List Nat):St:=⟨[(2,(pT 1000 0)),(3,(pT 1001 0)),(5,(i6 x0))],[(1000,(bU 6 x1 93)),(1001,(bU 6 x2 93))]⟩
def g60L2 {R:Type} (A:Ar) (n:Nat) (kk:AV→Heap→Option R)  : Nat→Int→List Nat→List Nat→Option R
 | 0,_,_,_=>none
 | m+1,x0,x1,x2=>match A.ic .geq x0 0 with
 | true=>g60J4 A n kk (g60L2 A n kk  m) x0 x1 x2
 | false=>kk (bO false) []
def g60 {R:Type} (A:Ar) (n:Nat) (kk:AV→Heap→Option R) (a b:List Nat):Option R :=
 g60L2 A n kk  n 5 a b
section
variable {R:Type} {A:Ar} {n:Nat} {kk:AV→Heap→Option R} {tb:Nat→List Bool→St→Option R} (st:Stp (g60N A kk) tb)
include st
theorem g60J4_go {lg60L2:Int→List Nat→List Nat→Option R} (hg60L2:∀ (x0:Int) (x1 x2:List Nat),Prs (fun k=>tb k (pth 52) (g60L2s x0 x1 x2)) (lg60L2 x0 x1 x2)) {x0:Int} {x1:List Nat} {x2:List Nat}:Prs (fun k=>tb k (pth 105) (g60J4s x0 x1 x2)) (g60J4 A n kk lg60L2 x0 x1 x2):=by
  unfold g60J4
  exact st.g (pc (SxY06spi _ pn (SxY06spi _ (SxY06spi _ pn (SxY06spi _ (SxY06spi _ (SxY06spi _ pn (SxY06spi _ (SxY06spi _ pn (SxY06spi _ (pf _) pn)) pn)) (hg60L2 _ _ _)) pn)) pn)) (by kernel_rfl))
theorem g60L2_go (m:Nat):∀ (x0:Int) (x1 x2:List Nat),Prs (fun k=>tb k (pth 52) (g60L2s x0 x1 x2)) (g60L2 A n kk m x0 x1 x2):=by
  induction m with
  | zero=>intro x0 x1 x2; exact pn0
  | succ m ih =>
    intro x0 x1 x2; rw [g60L2]
    exact st.g (pc (SxY06spi _ (g60J4_go st ih) (pf _)) (by kernel_rfl))
theorem g60_go {a:List Nat} {b:List Nat}:Prs (fun k=>funN A gtys (g60O A) g60an g60cut (bodyOf Try.f60) g60res [(aN .u64 6 a),(aN .u64 6 b)] [] kk (tb k)) (g60 A n kk a b):=by
  unfold g60
  exact pc (g60L2_go st n _ _ _) (by kernel_rfl)
end
def g60is (o:Option AV):Bool:=match o with
 | some (.v (.cell (.bool _)))=>true
 | _=>false
def g60g0 (o:Option AV):Bool:=match o with
 | some (.v (.cell (.bool x)))=>x
 | _=>false
theorem g60is_spec {o:Option AV} (h:g60is o=true):o=some (.v (.cell (.bool (g60g0 o)))):=by
  unfold g60is at h
  split at h
  · rfl
  · cases h
def g60v (A:Ar) (a b:List Nat):Option AV:=g60 A (100000) (fun v _=>some v) a b
def g60ok (A:Ar) (a b:List Nat):Bool:=g60is (g60v A a b)
def g60r0 (A:Ar) (a b:List Nat):Bool:=g60g0 (g60v A a b)
theorem g60ok_spec {A:Ar} {a b} (h:g60ok A a b=true):g60v A a b=some (.v (.cell (.bool (g60r0 A a b)))):=g60is_spec h
def g60o (A:Ar) (args:List AV):Option (Bool × AV):=match args with
 | [.v (.agg [.nums .u64 n0 a]),.v (.agg [.nums .u64 n1 b])]=>some (Nat.beq n0 6&&(Nat.beq n1 6&&(g60ok A a b)),.v (.cell (.bool (g60r0 A a b))))
 | _=>none
theorem g60o_sound:∀ args v,g60o realA args=some (true,v)→Fn1 Try.prog 60 args v:=by
  intro args v h
  unfold g60o at h
  split at h
  · rename_i n0 a n1 b
    simp only [Option.some.injEq,Prod.mk.injEq] at h
    obtain ⟨hc,h⟩:=h
    subst h
    · skip
      simp only [Bool.and_eq_true] at hc
      have en0:=beq_true hc.1
      subst en0
      replace hc:=hc.2
      have en1:=beq_true hc.1
      subst en1
      replace hc:=hc.2
      exact fn1_ofG mixed gtysOK g60O_sound g60O_det (an:=g60an) (cut:=g60cut) Try.func60 (c:=bodyOf Try.f60) rfl (by kernel_rfl) Try.call60 (Nat.le_of_ble_eq_true rfl) (fun b=>rfl) (fun _=>(show g60v realA a b=_ from g60ok_spec hc)) fun _ st=>g60_go st
  · cases h
attribute [local irreducible] g60ok g60r0
def g45O (A:Ar):Orc:=orcOf [(59,g59o A),(60,g60o A)]
theorem g45O_sound:OSound Try.prog (g45O realA):=orc_sound fun f g hm args v hv=>by
  simp only [List.mem_cons,List.not_mem_nil,or_false,Prod.mk.injEq] at hm
  rcases hm with ⟨rfl,rfl⟩ | ⟨rfl,rfl⟩
  · exact g59o_sound _ _ hv
  · exact g60o_sound _ _ hv
theorem g45O_det:ODet (g45O realA):=orc_det _
def g45an:Ann:=[(0,([0,1],[])),(1,([0,1],[])),(2,([0,1,5],[2002])),(3,([0,1,5],[2002])),(4,([1,5],[2002])),(5,([1,5,6],[2002,5000])),(6,([1,5,6,7],[2002,5000])),(7,([1,5,6,7],[2002,5000])),(8,([1,5,6,7],[2002,5000])),(9,([1,5,6,7,8],[2002,5000,9001])),(10,([1,5,6,7,8],[2002,5000,9001])),(11,([1,5,6,7,8,9],[2002,5000,9001,11003])),(12,([1,5,6,7,8,9],[2002,5000,9001,11003])),(13,([1,5,6,7,8,9],[2002,5000,9001,11003])),(14,([1,5,6,7,8],[2002,5000,9001])),(15,([6],[5000]))]
def g45res:List ResultVar:=[.tmp 4]
def g45cut:List Nat:=[4,8,13]
abbrev g45t0 (A:Ar) (x1:Int) (x3:List Nat):List Nat:=g59r0 A (x3.set (A.toN (A.ib .quo .i64 x1 64)) (A.nb .or .u64 (x3.getD (A.toN (A.ib .quo .i64 x1 64)) 0) (A.nsh .shl .u64 1 (A.toN (A.ib .rem .i64 x1 64))))) (x3.set (A.toN (A.ib .quo .i64 x1 64)) (A.nb .or .u64 (x3.getD (A.toN (A.ib .quo .i64 x1 64)) 0) (A.nsh .shl .u64 1 (A.toN (A.ib .rem .i64 x1 64)))))
abbrev g45t1 (A:Ar) (x1:Int) (x3:List Nat):List Nat:=g59r0 A (g45t0 A x1 x3) (x3.set (A.toN (A.ib .quo .i64 x1 64)) (A.nb .or .u64 (x3.getD (A.toN (A.ib .quo .i64 x1 64)) 0) (A.nsh .shl .u64 1 (A.toN (A.ib .rem .i64 x1 64)))))
noncomputable def g45N {R:Type} (A:Ar) (kk:AV→Heap→Option R) (t:List Bool→St→Option R) (p:List Bool) (s:St):Option R:=nodeN A gtys (g45O A) g45an g45cut t (bodyOf Try.f45) (finD gtys g45res kk) p s
def g45J13s (x0:Bool) (x1:Int) (x2 x3:List Nat) (x4 x5:List Nat):St:=⟨[(1,(bO x0)),(5,(pT 2002 0)),(6,(pT 5000 0)),(7,(i6 x1)),(8,(pT 9001 0)),(9,(pT 11003 0))],[(2002,(bU 6 x2 93)),(5000,(bU 6 x3 93)),(9001,(bU 6 x4 93)),(11003,(bU 6 x5 93))]⟩
def g45J13 {R:Type} (A:Ar) (n:Nat) (kk:AV→Heap→Option R) (lg45L6:Bool→Int→List Nat→List Nat→Option R) (x0:Bool) (x1:Int) (x2 x3:List Nat) (x4 x5:List Nat):Option R :=
 match g60ok A x5 x2 with
 | true=>match g60r0 A x5 x2 with
  | true=>lg45L6 x0 (A.ib .sub .i64 x1 1) x2 x3
  | false=>lg45L6 x0 (A.ib .sub .i64 x1 1) x2 x4
 | false=>none
def g45J8s (x0:Bool) (x1:Int) (x2 x3:List Nat):St:=⟨[(1,(bO x0)),(5,(pT 2002 0)),(6,(pT 5000 0)),(7,(i6 x1))],[(2002,(bU 6 x2 93)),(5000,(bU 6 x3 93))]⟩
def g45J8 {R:Type} (A:Ar) (n:Nat) (kk:AV→Heap→Option R) (lg45L6:Bool→Int→List Nat→List Nat→Option R) (x0:Bool) (x1:Int) (x2 x3:List Nat):Option R :=
 match A.neg (A.ib .quo .i64 x1 64) with
 | true=>none
 | false=>match A.lt (A.toN (A.ib .quo .i64 x1 64)) 6 with
  | true=>match A.neg (A.ib .rem .i64 x1 64) with
   | true=>none
   | false=>match A.neg (A.ib .quo .i64 x1 64) with
    | true=>none
    | false=>match A.lt (A.toN (A.ib .quo .i64 x1 64)) 6 with
     | true=>match g59ok A (x3.set (A.toN (A.ib .quo .i64 x1 64)) (A.nb .or .u64 (x3.getD (A.toN (A.ib .quo .i64 x1 64)) 0) (A.nsh .shl .u64 1 (A.toN (A.ib .rem .i64 x1 64))))) (x3.set (A.toN (A.ib .quo .i64 x1 64)) (A.nb .or .u64 (x3.getD (A.toN (A.ib .quo .i64 x1 64)) 0) (A.nsh .shl .u64 1 (A.toN (A.ib .rem .i64 x1 64))))) with
      | true=>match x0 with
       | true=>match g59ok A (g45t0 A x1 x3) (x3.set (A.toN (A.ib .quo .i64 x1 64)) (A.nb .or .u64 (x3.getD (A.toN (A.ib .quo .i64 x1 64)) 0) (A.nsh .shl .u64 1 (A.toN (A.ib .rem .i64 x1 64))))) with
        | true=>g45J13 A n kk lg45L6 x0 x1 x2 x3 (x3.set (A.toN (A.ib .quo .i64 x1 64)) (A.nb .or .u64 (x3.getD (A.toN (A.ib .quo .i64 x1 64)) 0) (A.nsh .shl .u64 1 (A.toN (A.ib .rem .i64 x1 64))))) (g45t1 A x1 x3)
        | false=>none
       | false=>g45J13 A n kk lg45L6 x0 x1 x2 x3 (x3.set (A.toN (A.ib .quo .i64 x1 64)) (A.nb .or .u64 (x3.getD (A.toN (A.ib .quo .i64 x1 64)) 0) (A.nsh .shl .u64 1 (A.toN (A.ib .rem .i64 x1 64))))) (g45t0 A x1 x3)
      | false=>none
     | false=>none
  | false=>none
def g45L6s (x0:Bool) (x1:Int) (x2 x3:List Nat):St:=⟨[(1,(bO x0)),(5,(pT 2002 0)),(6,(pT 5000 0)),(7,(i6 x1))],[(2002,(bU 6 x2 93)),(5000,(bU 6 x3 93))]⟩
def g45L6 {R:Type} (A:Ar) (n:Nat) (kk:AV→Heap→Option R)  : Nat→Bool→Int→List Nat→List Nat→Option R
 | 0,_,_,_,_=>none
 | m+1,x0,x1,x2,x3=>match A.ic .geq x1 0 with
 | true=>g45J8 A n kk (g45L6 A n kk  m) x0 x1 x2 x3
 | false=>kk (u64v (x3.getD 0 0)) [(5000,(bU 6 x3 93))]
def g45J4s (x0:Bool) (x1:List Nat):St:=⟨[(1,(bO x0)),(5,(pT 2002 0))],[(2002,(bU 6 x1 93))]⟩
def g45J4 {R:Type} (A:Ar) (n:Nat) (kk:AV→Heap→Option R)  (x0:Bool) (x1:List Nat):Option R :=
 g45L6 A n kk  n x0 69 x1 [0,0,0,0,0,0]
def g45 {R:Type} (A:Ar) (n:Nat) (kk:AV→Heap→Option R) (a:Nat) (b:Bool):Option R :=
 match b with
 | true=>g45J4 A n kk  b ([0,0,0,0,0,0].set 3 a)
 | false=>g45J4 A n kk  b ([0,0,0,0,0,0].set 2 a)
section
variable {R:Type} {A:Ar} {n:Nat} {kk:AV→Heap→Option R} {tb:Nat→List Bool→St→Option R} (st:Stp (g45N A kk) tb)
include st
theorem g45J13_go {lg45L6:Bool→Int→List Nat→List Nat→Option R} (hg45L6:∀ (x0:Bool) (x1:Int) (x2 x3:List Nat),Prs (fun k=>tb k (pth 1780) (g45L6s x0 x1 x2 x3)) (lg45L6 x0 x1 x2 x3)) {x0:Bool} {x1:Int} {x2:List Nat} {x3:List Nat} {x4:List Nat} {x5:List Nat}:Prs (fun k=>tb k (pth 227919) (g45J13s x0 x1 x2 x3 x4 x5)) (g45J13 A n kk lg45L6 x0 x1 x2 x3 x4 x5):=by
  unfold g45J13
  exact st.g (pc (SxY06spi _ (SxY06spi _ (hg45L6 _ _ _ _) (hg45L6 _ _ _ _)) pn) (by kernel_rfl))
theorem g45J8_go {lg45L6:Bool→Int→List Nat→List Nat→Option R} (hg45L6:∀ (x0:Bool) (x1:Int) (x2 x3:List Nat),Prs (fun k=>tb k (pth 1780) (g45L6s x0 x1 x2 x3)) (lg45L6 x0 x1 x2 x3)) {x0:Bool} {x1:Int} {x2:List Nat} {x3:List Nat}:Prs (fun k=>tb k (pth 3561) (g45J8s x0 x1 x2 x3)) (g45J8 A n kk lg45L6 x0 x1 x2 x3):=by
  unfold g45J8
  exact st.g (pc (SxY06spi _ pn (SxY06spi _ (SxY06spi _ pn (SxY06spi _ pn (SxY06spi _ (SxY06spi _ (SxY06spi _ (SxY06spi _ (g45J13_go st hg45L6) pn) (g45J13_go st hg45L6)) pn) pn))) pn)) (by kernel_rfl))
theorem g45L6_go (m:Nat):∀ (x0:Bool) (x1:Int) (x2 x3:List Nat),Prs (fun k=>tb k (pth 1780) (g45L6s x0 x1 x2 x3)) (g45L6 A n kk m x0 x1 x2 x3):=by
  induction m with
  | zero=>intro x0 x1 x2 x3; exact pn0
  | succ m ih =>
    intro x0 x1 x2 x3; rw [g45L6]
    exact st.g (pc (SxY06spi _ (g45J8_go st ih) (pf _)) (by kernel_rfl))
theorem g45J4_go {x0:Bool} {x1:List Nat}:Prs (fun k=>tb k (pth 27) (g45J4s x0 x1)) (g45J4 A n kk x0 x1):=by
  unfold g45J4
  exact st.g (pc (g45L6_go st n _ _ _ _) (by kernel_rfl))
theorem g45_go {a:Nat} {b:Bool}:Prs (fun k=>funN A gtys (g45O A) g45an g45cut (bodyOf Try.f45) g45res [(u64v a),(bO b)] [] kk (tb k)) (g45 A n kk a b):=by
  unfold g45
  exact pc (SxY06spi _ (g45J4_go st) (g45J4_go st)) (by kernel_rfl)
end
def g45is (o:Option AV):Bool:=match o with
 | some (.v (.cell (.nat .u64 _)))=>true
 | _=>false
def g45g0 (o:Option AV):Nat:=match o with
 | some (.v (.cell (.nat .u64 x)))=>x
 | _=>0
theorem g45is_spec {o:Option AV} (h:g45is o=true):o=some (.v (.cell (.nat .u64 (g45g0 o)))):=by
  unfold g45is at h
  split at h
  · rfl
  · cases h
def g45v (A:Ar) (a:Nat) (b:Bool):Option AV:=g45 A (100000) (fun v _=>some v) a b
def g45ok (A:Ar) (a:Nat) (b:Bool):Bool:=g45is (g45v A a b)
def g45r0 (A:Ar) (a:Nat) (b:Bool):Nat:=g45g0 (g45v A a b)
theorem g45ok_spec {A:Ar} {a b} (h:g45ok A a b=true):g45v A a b=some (.v (.cell (.nat .u64 (g45r0 A a b)))):=g45is_spec h
def g45o (A:Ar) (args:List AV):Option (Bool × AV):=match args with
 | [.v (.cell (.nat .u64 a)),.v (.cell (.bool b))]=>some (g45ok A a b,.v (.cell (.nat .u64 (g45r0 A a b))))
 | _=>none
theorem g45o_sound:∀ args v,g45o realA args=some (true,v)→Fn1 Try.prog 45 args v:=by
  intro args v h
  unfold g45o at h
  split at h
  · rename_i a b
    simp only [Option.some.injEq,Prod.mk.injEq] at h
    obtain ⟨hc,h⟩:=h
    subst h
    · skip
      exact fn1_ofG mixed gtysOK g45O_sound g45O_det (an:=g45an) (cut:=g45cut) Try.func45 (c:=bodyOf Try.f45) rfl (by kernel_rfl) Try.call45 (Nat.le_of_ble_eq_true rfl) (fun b=>rfl) (fun _=>(show g45v realA a b=_ from g45ok_spec hc)) fun _ st=>g45_go st
  · cases h
attribute [local irreducible] g45ok g45r0
def g61O (A:Ar):Orc:=orcOf []
theorem g61O_sound:OSound Try.prog (g61O realA):=orc_sound fun f g hm args v hv=>by
  cases hm
theorem g61O_det:ODet (g61O realA):=orc_det _
def g61an:Ann:=[(0,([0,1],[])),(1,([0,1],[])),(2,([0,5],[]))]
def g61res:List ResultVar:=[.tmp 4]
def g61cut:List Nat:=[]
noncomputable def g61N {R:Type} (A:Ar) (kk:AV→Heap→Option R) (t:List Bool→St→Option R) (p:List Bool) (s:St):Option R:=nodeN A gtys (g61O A) g61an g61cut t (bodyOf Try.f61) (finD gtys g61res kk) p s
def g61 {R:Type} (A:Ar) (n:Nat) (kk:AV→Heap→Option R) (a:Nat) (b:Int):Option R :=
 kk (u64v (A.nb .or .u64 (A.nsh .shl .u64 a (A.nb .and .u64 (A.i2n .u64 b) 63)) (A.nsh .shr .u64 a (A.nb .sub .u64 64 (A.nb .and .u64 (A.i2n .u64 b) 63))))) []
section
variable {R:Type} {A:Ar} {n:Nat} {kk:AV→Heap→Option R} {tb:Nat→List Bool→St→Option R} (st:Stp (g61N A kk) tb)
include st
theorem g61_go {a:Nat} {b:Int}:Prs (fun k=>funN A gtys (g61O A) g61an g61cut (bodyOf Try.f61) g61res [(u64v a),(i6 b)] [] kk (tb k)) (g61 A n kk a b):=by
  unfold g61
  exact pc (pf _) (by kernel_rfl)
end
def g61is (o:Option AV):Bool:=match o with
 | some (.v (.cell (.nat .u64 _)))=>true
 | _=>false
def g61g0 (o:Option AV):Nat:=match o with
 | some (.v (.cell (.nat .u64 x)))=>x
 | _=>0
theorem g61is_spec {o:Option AV} (h:g61is o=true):o=some (.v (.cell (.nat .u64 (g61g0 o)))):=by
  unfold g61is at h
  split at h
  · rfl
  · cases h
def g61v (A:Ar) (a:Nat) (b:Int):Option AV:=g61 A (100000) (fun v _=>some v) a b
def g61ok (A:Ar) (a:Nat) (b:Int):Bool:=g61is (g61v A a b)
def g61r0 (A:Ar) (a:Nat) (b:Int):Nat:=g61g0 (g61v A a b)
theorem g61ok_spec {A:Ar} {a b} (h:g61ok A a b=true):g61v A a b=some (.v (.cell (.nat .u64 (g61r0 A a b)))):=g61is_spec h
def g61o (A:Ar) (args:List AV):Option (Bool × AV):=match args with
 | [.v (.cell (.nat .u64 a)),.v (.cell (.int .i64 b))]=>some (g61ok A a b,.v (.cell (.nat .u64 (g61r0 A a b))))
 | _=>none
theorem g61o_sound:∀ args v,g61o realA args=some (true,v)→Fn1 Try.prog 61 args v:=by
  intro args v h
  unfold g61o at h
  split at h
  · rename_i a b
    simp only [Option.some.injEq,Prod.mk.injEq] at h
    obtain ⟨hc,h⟩:=h
    subst h
    · skip
      exact fn1_ofG mixed gtysOK g61O_sound g61O_det (an:=g61an) (cut:=g61cut) Try.func61 (c:=bodyOf Try.f61) rfl (by kernel_rfl) Try.call61 (Nat.le_of_ble_eq_true rfl) (fun b=>rfl) (fun _=>(show g61v realA a b=_ from g61ok_spec hc)) fun _ st=>g61_go st
  · cases h
attribute [local irreducible] g61ok g61r0
def g44O (A:Ar):Orc:=orcOf []
theorem g44O_sound:OSound Try.prog (g44O realA):=orc_sound fun f g hm args v hv=>by
  cases hm
theorem g44O_det:ODet (g44O realA):=orc_det _
def g44an:Ann:=[(0,([],[])),(1,([0],[1000])),(2,([0,1],[1000])),(3,([0,1],[1000])),(4,([0,1],[1000])),(5,([0,1,9,10,11],[1000])),(6,([0,1,9,10,11],[1000])),(7,([0,1,3,9,10,11],[1000])),(8,([0,1,9,10,11],[1000])),(9,([0,1],[1000])),(10,([0],[1000]))]
def g44res:List ResultVar:=[.tmp 0]
def g44cut:List Nat:=[4,6,9]
noncomputable def g44N {R:Type} (A:Ar) (kk:AV→Heap→Option R) (t:List Bool→St→Option R) (p:List Bool) (s:St):Option R:=nodeN A gtys (g44O A) g44an g44cut t (bodyOf Try.f44) (finD gtys g44res kk) p s
def g44J6s (x0 x1 x2:Nat) (x3 x4:Int) (x5:Nat) (x6:List Nat):St:=⟨[(0,(sL 1000 none x0 1)),(1,(u64v x1)),(9,(sL 1000 none x2 1)),(10,(i6 x3)),(11,(i6 x4))],[(1000,⟨[.nums .u64 x5 x6],38,2⟩)]⟩
def g44J6 {R:Type} (A:Ar) (n:Nat) (kk:AV→Heap→Option R) (lg44L2:Nat→Nat→Nat→List Nat→Option R) (lg44L5:Nat→Nat→Nat→Int→Int→Nat→List Nat→Option R) (x0 x1 x2:Nat) (x3 x4:Int) (x5:Nat) (x6:List Nat):Option R :=
 match A.neg x4 with
 | true=>none
 | false=>match A.lt (A.toN x4) x2 with
  | true=>match A.eq (x6.getD (A.toN x4) 0) 0 with
   | true=>none
   | false=>match A.nc .eql (A.nb .rem .u64 x1 (x6.getD (A.toN x4) 0)) 0 with
    | true=>lg44L2 x0 (A.nb .add .u64 x1 1) x5 x6
    | false=>lg44L5 x0 x1 x2 x3 (A.ib .add .i64 x4 1) x5 x6
  | false=>none
def g44J9s (x0 x1 x2:Nat) (x3:List Nat):St:=⟨[(0,(sL 1000 none x0 1)),(1,(u64v x1))],[(1000,⟨[.nums .u64 x2 x3],38,2⟩)]⟩
def g44J9 {R:Type} (A:Ar) (n:Nat) (kk:AV→Heap→Option R) (lg44L2:Nat→Nat→Nat→List Nat→Option R) (x0 x1 x2:Nat) (x3:List Nat):Option R :=
 match A.eq x0 (x2+0) with
 | true=>match A.le (((x3++([x1].take 1)).length)*8) 140737488355328 with
  | true=>lg44L2 ((x3++([x1].take 1)).length) (A.nb .add .u64 x1 1) ((x3++([x1].take 1)).length) (x3++([x1].take 1))
  | false=>none
 | false=>none
def g44L5s (x0 x1 x2:Nat) (x3 x4:Int) (x5:Nat) (x6:List Nat):St:=⟨[(0,(sL 1000 none x0 1)),(1,(u64v x1)),(9,(sL 1000 none x2 1)),(10,(i6 x3)),(11,(i6 x4))],[(1000,⟨[.nums .u64 x5 x6],38,2⟩)]⟩
def g44L5 {R:Type} (A:Ar) (n:Nat) (kk:AV→Heap→Option R) (lg44L2:Nat→Nat→Nat→List Nat→Option R):Nat→Nat→Nat→Nat→Int→Int→Nat→List Nat→Option R
 | 0,_,_,_,_,_,_,_=>none
 | m+1,x0,x1,x2,x3,x4,x5,x6=>match A.ic .lss x4 x3 with
 | true=>g44J6 A n kk lg44L2 (g44L5 A n kk lg44L2 m) x0 x1 x2 x3 x4 x5 x6
 | false=>g44J9 A n kk lg44L2 x0 x1 x5 x6
def g44J4s (x0 x1 x2:Nat) (x3:List Nat):St:=⟨[(0,(sL 1000 none x0 1)),(1,(u64v x1))],[(1000,⟨[.nums .u64 x2 x3],38,2⟩)]⟩
def g44J4 {R:Type} (A:Ar) (n:Nat) (kk:AV→Heap→Option R) (lg44L2:Nat→Nat→Nat→List Nat→Option R) (x0 x1 x2:Nat) (x3:List Nat):Option R :=
 g44L5 A n kk lg44L2 n x0 x1 x0 (A.ofN x0) 0 x2 x3
def g44L2s (x0 x1 x2:Nat) (x3:List Nat):St:=⟨[(0,(sL 1000 none x0 1)),(1,(u64v x1))],[(1000,⟨[.nums .u64 x2 x3],38,2⟩)]⟩
def g44L2 {R:Type} (A:Ar) (n:Nat) (kk:AV→Heap→Option R)  : Nat→Nat→Nat→Nat→List Nat→Option R
 | 0,_,_,_,_=>none
 | m+1,x0,x1,x2,x3=>match A.ic .lss (A.ofN x0) 80 with
 | true=>g44J4 A n kk (g44L2 A n kk  m) x0 x1 x2 x3
 | false=>kk (sL 1000 none x0 1) [(1000,⟨[.nums .u64 x2 x3],38,2⟩)]
def g44 {R:Type} (A:Ar) (n:Nat) (kk:AV→Heap→Option R)  : Option R :=
 g44L2 A n kk  n 0 2 0 []
section
variable {R:Type} {A:Ar} {n:Nat} {kk:AV→Heap→Option R} {tb:Nat→List Bool→St→Option R} (st:Stp (g44N A kk) tb)
include st
theorem g44J6_go {lg44L2:Nat→Nat→Nat→List Nat→Option R} {lg44L5:Nat→Nat→Nat→Int→Int→Nat→List Nat→Option R} (hg44L2:∀ (x0 x1 x2:Nat) (x3:List Nat),Prs (fun k=>tb k (pth 212) (g44L2s x0 x1 x2 x3)) (lg44L2 x0 x1 x2 x3)) (hg44L5:∀ (x0 x1 x2:Nat) (x3 x4:Int) (x5:Nat) (x6:List Nat),Prs (fun k=>tb k (pth 27204) (g44L5s x0 x1 x2 x3 x4 x5 x6)) (lg44L5 x0 x1 x2 x3 x4 x5 x6)) {x0:Nat} {x1:Nat} {x2:Nat} {x3:Int} {x4:Int} {x5:Nat} {x6:List Nat}:Prs (fun k=>tb k (pth 108819) (g44J6s x0 x1 x2 x3 x4 x5 x6)) (g44J6 A n kk lg44L2 lg44L5 x0 x1 x2 x3 x4 x5 x6):=by
  unfold g44J6
  exact st.g (pc (SxY06spi _ pn (SxY06spi _ (SxY06spi _ pn (SxY06spi _ (hg44L2 _ _ _ _) (hg44L5 _ _ _ _ _ _ _))) pn)) (by kernel_rfl))
theorem g44J9_go {lg44L2:Nat→Nat→Nat→List Nat→Option R} (hg44L2:∀ (x0 x1 x2:Nat) (x3:List Nat),Prs (fun k=>tb k (pth 212) (g44L2s x0 x1 x2 x3)) (lg44L2 x0 x1 x2 x3)) {x0:Nat} {x1:Nat} {x2:Nat} {x3:List Nat}:Prs (fun k=>tb k (pth 3401) (g44J9s x0 x1 x2 x3)) (g44J9 A n kk lg44L2 x0 x1 x2 x3):=by
  unfold g44J9
  exact st.g (pc (SxY06spi _ (SxY06spi _ (hg44L2 _ _ _ _) pn) pn) (by kernel_rfl))
theorem g44L5_go {lg44L2:Nat→Nat→Nat→List Nat→Option R} (hg44L2:∀ (x0 x1 x2:Nat) (x3:List Nat),Prs (fun k=>tb k (pth 212) (g44L2s x0 x1 x2 x3)) (lg44L2 x0 x1 x2 x3)) (m:Nat):∀ (x0 x1 x2:Nat) (x3 x4:Int) (x5:Nat) (x6:List Nat),Prs (fun k=>tb k (pth 27204) (g44L5s x0 x1 x2 x3 x4 x5 x6)) (g44L5 A n kk lg44L2 m x0 x1 x2 x3 x4 x5 x6):=by
  induction m with
  | zero=>intro x0 x1 x2 x3 x4 x5 x6; exact pn0
  | succ m ih =>
    intro x0 x1 x2 x3 x4 x5 x6; rw [g44L5]
    exact st.g (pc (SxY06spi _ (g44J6_go st hg44L2 ih) (g44J9_go st hg44L2)) (by kernel_rfl))
theorem g44J4_go {lg44L2:Nat→Nat→Nat→List Nat→Option R} (hg44L2:∀ (x0 x1 x2:Nat) (x3:List Nat),Prs (fun k=>tb k (pth 212) (g44L2s x0 x1 x2 x3)) (lg44L2 x0 x1 x2 x3)) {x0:Nat} {x1:Nat} {x2:Nat} {x3:List Nat}:Prs (fun k=>tb k (pth 425) (g44J4s x0 x1 x2 x3)) (g44J4 A n kk lg44L2 x0 x1 x2 x3):=by
  unfold g44J4
  exact st.g (pc (g44L5_go st hg44L2 n _ _ _ _ _ _ _) (by kernel_rfl))
theorem g44L2_go (m:Nat):∀ (x0 x1 x2:Nat) (x3:List Nat),Prs (fun k=>tb k (pth 212) (g44L2s x0 x1 x2 x3)) (g44L2 A n kk m x0 x1 x2 x3):=by
  induction m with
  | zero=>intro x0 x1 x2 x3; exact pn0
  | succ m ih =>
    intro x0 x1 x2 x3; rw [g44L2]
    exact st.g (pc (SxY06spi _ (g44J4_go st ih) (pf _)) (by kernel_rfl))
theorem g44_go  : Prs (fun k=>funN A gtys (g44O A) g44an g44cut (bodyOf Try.f44) g44res [] [] kk (tb k)) (g44 A n kk ):=by
  unfold g44
  exact pc (g44L2_go st n _ _ _ _) (by kernel_rfl)
end
def g44is (o:Option (AV × Heap)):Bool:=match o with
 | some (.v (.cell (.sl n0 none _ n1)),[(n2,⟨[.nums .u64 _ _],n3,n4⟩)])=>Nat.beq n0 700&&(Nat.beq n1 1&&(Nat.beq n2 700&&(Nat.beq n3 38&&(Nat.beq n4 2))))
 | _=>false
def g44g0 (o:Option (AV × Heap)):Nat:=match o with
 | some (.v (.cell (.sl _ none x _)),[(_,⟨[.nums .u64 _ _],_,_⟩)])=>x
 | _=>0
def g44g1 (o:Option (AV × Heap)):Nat:=match o with
 | some (.v (.cell (.sl _ none _ _)),[(_,⟨[.nums .u64 x _],_,_⟩)])=>x
 | _=>0
def g44g2 (o:Option (AV × Heap)):List Nat:=match o with
 | some (.v (.cell (.sl _ none _ _)),[(_,⟨[.nums .u64 _ x],_,_⟩)])=>x
 | _=>[]
theorem g44is_spec {o:Option (AV × Heap)} (h:g44is o=true):o=some ((sL 700 none (g44g0 o) 1),[(700,⟨[.nums .u64 (g44g1 o) (g44g2 o)],38,2⟩)]):=by
  unfold g44is at h
  split at h
  · rename_i n0 z1 n1 n2 z4 z5 n3 n4
    simp only [Bool.and_eq_true] at h
    have en0:=beq_true h.1
    subst en0
    replace h:=h.2
    have en1:=beq_true h.1
    subst en1
    replace h:=h.2
    have en2:=beq_true h.1
    subst en2
    replace h:=h.2
    have en3:=beq_true h.1
    subst en3
    replace h:=h.2
    have en4:=beq_true h
    subst en4
    rfl
  · cases h
def g44v (A:Ar)  : Option (AV × Heap):=g44 A (100000) (outH [] none) 
def g44ok (A:Ar)  : Bool:=g44is (g44v A)
def g44r0 (A:Ar)  : Nat:=g44g0 (g44v A)
def g44r1 (A:Ar)  : Nat:=g44g1 (g44v A)
def g44r2 (A:Ar)  : List Nat:=g44g2 (g44v A)
theorem g44ok_spec {A:Ar} (h:g44ok A=true):g44v A=some ((sL 700 none (g44r0 A) 1),[(700,⟨[.nums .u64 (g44r1 A) (g44r2 A)],38,2⟩)]):=g44is_spec h
def g44o (A:Ar) (args:List AV) (h:Heap):Option (Bool × AV × Heap):=match args,h with
 | [],[]=>some (g44ok A,(sL 700 none (g44r0 A) 1),[(700,⟨[.nums .u64 (g44r1 A) (g44r2 A)],38,2⟩)])
 | _,_=>none
theorem g44o_sound:∀ args h v h',g44o realA args h=some (true,v,h')→FnH Try.prog 44 args h v h':=by
  intro args h v h' hh
  unfold g44o at hh
  split at hh
  · simp only [Option.some.injEq,Prod.mk.injEq] at hh
    obtain ⟨hc,hv,hh⟩:=hh
    subst hv
    subst hh
    exact fnh_ofG mixed gtysOK g44O_sound g44O_det (an:=g44an) (cut:=g44cut) Try.func44 (c:=bodyOf Try.f44) rfl (by kernel_rfl) Try.call44 (Nat.le_of_ble_eq_true rfl) (pins:=[]) (nilr:=none) (fun _=>(show g44v realA=_ from g44ok_spec hc)) fun _ st=>g44_go st
  · cases hh
attribute [local irreducible] g44ok g44r0 g44r1 g44r2
def g25O (A:Ar):Orc:=orcH [(45,g45o A)] [(44,⟨[],none,(g44o A)⟩)]
theorem g25O_sound:OSound Try.prog (g25O realA):=orcH_sound (fun f g hm args v hv=>by
    simp only [List.mem_cons,List.not_mem_nil,or_false,Prod.mk.injEq] at hm
    rcases hm with ⟨rfl,rfl⟩
    · exact g45o_sound _ _ hv) (fun f e hm args h v h' hv=>by
    simp only [List.mem_cons,List.not_mem_nil,or_false,Prod.mk.injEq] at hm
    rcases hm with ⟨rfl,rfl⟩
    · exact g44o_sound _ _ _ _ hv)
theorem g25O_det:ODet (g25O realA):=orcH_det _ _
def g25an:Ann:=[(0,([],[])),(1,([],[])),(2,([1],[2001])),(3,([1,6,7,8],[2001,3000])),(4,([1,6,7,8],[2001,3000])),(5,([1,2,3,6,7,8],[2001,3000])),(6,([1,2,3,6,7,8],[2001,3000])),(7,([1,2,3,6,7,8],[2001,3000])),(8,([1,6,7,8],[2001,3000])),(9,([1],[2001]))]
def g25res:List ResultVar:=[.tmp 0]
def g25cut:List Nat:=[4]
noncomputable def g25N {R:Type} (A:Ar) (kk:AV→Heap→Option R) (t:List Bool→St→Option R) (p:List Bool) (s:St):Option R:=nodeN A gtys (g25O A) g25an g25cut t (bodyOf Try.f25) (finD gtys g25res kk) p s
def g25J4s (x0:Nat) (x1 x2:Int) (x3:List Nat) (x4:Int) (x5:Nat) (x6:List Nat):St:=⟨[(1,(pT 2001 0)),(6,(sL 3000 none x0 1)),(7,(i6 x1)),(8,(i6 x2))],[(2001,⟨[.nums .u64 88 x3,.one .nils,.one (.int .i64 x4)],76,1⟩),(3000,⟨[.nums .u64 x5 x6],38,2⟩)]⟩
def g25J4 {R:Type} (A:Ar) (n:Nat) (kk:AV→Heap→Option R) (lg25L3:Nat→Int→Int→List Nat→Int→Nat→List Nat→Option R) (x0:Nat) (x1 x2:Int) (x3:List Nat) (x4:Int) (x5:Nat) (x6:List Nat):Option R :=
 match A.neg x2 with
 | true=>none
 | false=>match A.lt (A.toN x2) x0 with
  | true=>match g45ok A (x6.getD (A.toN x2) 0) true with
   | true=>match A.neg x2 with
    | true=>none
    | false=>match A.lt (A.toN x2) 80 with
     | true=>match A.ic .lss x2 8 with
      | true=>match g45ok A (x6.getD (A.toN x2) 0) false with
       | true=>match A.neg x2 with
        | true=>none
        | false=>match A.lt (A.toN x2) 8 with
         | true=>lg25L3 x0 x1 (A.ib .add .i64 x2 1) ((x3.set (8+(A.toN x2)) (g45r0 A (x6.getD (A.toN x2) 0) true)).set (A.toN x2) (g45r0 A (x6.getD (A.toN x2) 0) false)) x4 x5 x6
         | false=>none
       | false=>none
      | false=>lg25L3 x0 x1 (A.ib .add .i64 x2 1) (x3.set (8+(A.toN x2)) (g45r0 A (x6.getD (A.toN x2) 0) true)) x4 x5 x6
     | false=>none
   | false=>none
  | false=>none
def g25L3s (x0:Nat) (x1 x2:Int) (x3:List Nat) (x4:Int) (x5:Nat) (x6:List Nat):St:=⟨[(1,(pT 2001 0)),(6,(sL 3000 none x0 1)),(7,(i6 x1)),(8,(i6 x2))],[(2001,⟨[.nums .u64 88 x3,.one .nils,.one (.int .i64 x4)],76,1⟩),(3000,⟨[.nums .u64 x5 x6],38,2⟩)]⟩
def g25L3 {R:Type} (A:Ar) (n:Nat) (kk:AV→Heap→Option R)  : Nat→Nat→Int→Int→List Nat→Int→Nat→List Nat→Option R
 | 0,_,_,_,_,_,_,_=>none
 | m+1,x0,x1,x2,x3,x4,x5,x6=>match A.ic .lss x2 x1 with
 | true=>g25J4 A n kk (g25L3 A n kk  m) x0 x1 x2 x3 x4 x5 x6
 | false=>kk (pT 2001 0) [(2001,⟨[.nums .u64 88 x3,.one .nils,.one (.int .i64 x4)],76,1⟩)]
def g25 {R:Type} (A:Ar) (n:Nat) (kk:AV→Heap→Option R)  : Option R :=
 match g44ok A with
 | true=>g25L3 A n kk  n (g44r0 A) (A.ofN (g44r0 A)) 0 [0,0,0,0,0,0,0,0,0,0,0,0,0,0,0,0,0,0,0,0,0,0,0,0,0,0,0,0,0,0,0,0,0,0,0,0,0,0,0,0,0,0,0,0,0,0,0,0,0,0,0,0,0,0,0,0,0,0,0,0,0,0,0,0,0,0,0,0,0,0,0,0,0,0,0,0,0,0,0,0,0,0,0,0,0,0,0,0] 0 (g44r1 A) (g44r2 A)
 | false=>none
section
variable {R:Type} {A:Ar} {n:Nat} {kk:AV→Heap→Option R} {tb:Nat→List Bool→St→Option R} (st:Stp (g25N A kk) tb)
include st
theorem g25J4_go {lg25L3:Nat→Int→Int→List Nat→Int→Nat→List Nat→Option R} (hg25L3:∀ (x0:Nat) (x1 x2:Int) (x3:List Nat) (x4:Int) (x5:Nat) (x6:List Nat),Prs (fun k=>tb k (pth 116) (g25L3s x0 x1 x2 x3 x4 x5 x6)) (lg25L3 x0 x1 x2 x3 x4 x5 x6)) {x0:Nat} {x1:Int} {x2:Int} {x3:List Nat} {x4:Int} {x5:Nat} {x6:List Nat}:Prs (fun k=>tb k (pth 467) (g25J4s x0 x1 x2 x3 x4 x5 x6)) (g25J4 A n kk lg25L3 x0 x1 x2 x3 x4 x5 x6):=by
  unfold g25J4
  exact st.g (pc (SxY06spi _ pn (SxY06spi _ (SxY06spi _ (SxY06spi _ pn (SxY06spi _ (SxY06spi _ (SxY06spi _ (SxY06spi _ pn (SxY06spi _ (hg25L3 _ _ _ _ _ _ _) pn)) pn) (hg25L3 _ _ _ _ _ _ _)) pn)) pn) pn)) (by kernel_rfl))
theorem g25L3_go (m:Nat):∀ (x0:Nat) (x1 x2:Int) (x3:List Nat) (x4:Int) (x5:Nat) (x6:List Nat),Prs (fun k=>tb k (pth 116) (g25L3s x0 x1 x2 x3 x4 x5 x6)) (g25L3 A n kk m x0 x1 x2 x3 x4 x5 x6):=by
  induction m with
  | zero=>intro x0 x1 x2 x3 x4 x5 x6; exact pn0
  | succ m ih =>
    intro x0 x1 x2 x3 x4 x5 x6; rw [g25L3]
    exact st.g (pc (SxY06spi _ (g25J4_go st ih) (pf _)) (by kernel_rfl))
theorem g25_go  : Prs (fun k=>funN A gtys (g25O A) g25an g25cut (bodyOf Try.f25) g25res [] [] kk (tb k)) (g25 A n kk ):=by
  unfold g25
  exact pc (SxY06spi _ (g25L3_go st n _ _ _ _ _ _ _) pn) (by kernel_rfl)
end
def g25is (o:Option (AV × Heap)):Bool:=match o with
 | some (.v (.cell (.ptr n0 n1 none)),[(n2,⟨[.nums .u64 n3 _,.one .nils,.one (.int .i64 _)],n4,n5⟩)])=>Nat.beq n0 700&&(Nat.beq n1 0&&(Nat.beq n2 700&&(Nat.beq n3 88&&(Nat.beq n4 76&&(Nat.beq n5 1)))))
 | _=>false
def g25g0 (o:Option (AV × Heap)):List Nat:=match o with
 | some (.v (.cell (.ptr _ _ none)),[(_,⟨[.nums .u64 _ x,.one .nils,.one (.int .i64 _)],_,_⟩)])=>x
 | _=>[]
def g25g1 (o:Option (AV × Heap)):Int:=match o with
 | some (.v (.cell (.ptr _ _ none)),[(_,⟨[.nums .u64 _ _,.one .nils,.one (.int .i64 x)],_,_⟩)])=>x
 | _=>0
theorem g25is_spec {o:Option (AV × Heap)} (h:g25is o=true):o=some ((pT 700 0),[(700,⟨[.nums .u64 88 (g25g0 o),.one .nils,.one (.int .i64 (g25g1 o))],76,1⟩)]):=by
  unfold g25is at h
  split at h
  · rename_i n0 n1 n2 n3 z4 z5 n4 n5
    simp only [Bool.and_eq_true] at h
    have en0:=beq_true h.1
    subst en0
    replace h:=h.2
    have en1:=beq_true h.1
    subst en1
    replace h:=h.2
    have en2:=beq_true h.1
    subst en2
    replace h:=h.2
    have en3:=beq_true h.1
    subst en3
    replace h:=h.2
    have en4:=beq_true h.1
    subst en4
    replace h:=h.2
    have en5:=beq_true h
    subst en5
    rfl
  · cases h
def g25v (A:Ar)  : Option (AV × Heap):=g25 A (100000) (outH [] none) 
def g25ok (A:Ar)  : Bool:=g25is (g25v A)
def g25r0 (A:Ar)  : List Nat:=g25g0 (g25v A)
def g25r1 (A:Ar)  : Int:=g25g1 (g25v A)
theorem g25ok_spec {A:Ar} (h:g25ok A=true):g25v A=some ((pT 700 0),[(700,⟨[.nums .u64 88 (g25r0 A),.one .nils,.one (.int .i64 (g25r1 A))],76,1⟩)]):=g25is_spec h
def g25o (A:Ar) (args:List AV) (h:Heap):Option (Bool × AV × Heap):=match args,h with
 | [],[]=>some (g25ok A,(pT 700 0),[(700,⟨[.nums .u64 88 (g25r0 A),.one .nils,.one (.int .i64 (g25r1 A))],76,1⟩)])
 | _,_=>none
theorem g25o_sound:∀ args h v h',g25o realA args h=some (true,v,h')→FnH Try.prog 25 args h v h':=by
  intro args h v h' hh
  unfold g25o at hh
  split at hh
  · simp only [Option.some.injEq,Prod.mk.injEq] at hh
    obtain ⟨hc,hv,hh⟩:=hh
    subst hv
    subst hh
    exact fnh_ofG mixed gtysOK g25O_sound g25O_det (an:=g25an) (cut:=g25cut) Try.func25 (c:=bodyOf Try.f25) rfl (by kernel_rfl) Try.call25 (Nat.le_of_ble_eq_true rfl) (pins:=[]) (nilr:=none) (fun _=>(show g25v realA=_ from g25ok_spec hc)) fun _ st=>g25_go st
  · cases hh
attribute [local irreducible] g25ok g25r0 g25r1
def g46O (A:Ar):Orc:=orcOf [(61,g61o A)]
theorem g46O_sound:OSound Try.prog (g46O realA):=orc_sound fun f g hm args v hv=>by
  simp only [List.mem_cons,List.not_mem_nil,or_false,Prod.mk.injEq] at hm
  rcases hm with ⟨rfl,rfl⟩
  · exact g61o_sound _ _ hv
theorem g46O_det:ODet (g46O realA):=orc_det _
def g46an:Ann:=[(0,([0,1],[0,1])),(1,([0,1,4],[0,1,1000])),(2,([0,1,4,16],[0,1,1000])),(3,([0,1,4,16],[0,1,1000])),(4,([0,1,4,5,16],[0,1,1000])),(5,([0,1,4,16],[0,1,1000])),(6,([0,4],[0,1,1000])),(7,([0,4,6],[0,1,1000])),(8,([0,4,6],[0,1,1000])),(9,([0,4,6],[0,1,1000])),(10,([0,4,6,7,8],[0,1,1000])),(11,([0,4,6,7,8],[0,1,1000])),(12,([0,4,6,8],[0,1,1000])),(13,([0,4],[0,1,1000])),(14,([0,4,9],[0,1,1000,14004])),(15,([0,4,9,87],[0,1,1000,14004])),(16,([0,4,9,87],[0,1,1000,14004])),(17,([0,4,9,10,87],[0,1,1000,14004])),(18,([0,4,9,10,11,12,87],[0,1,1000,14004])),(19,([0,4,9,11,12,13,87],[0,1,1000,14004])),(20,([0,4,9,12,13,87],[0,1,1000,14004])),(21,([0,4,9,12,13,14,87],[0,1,1000,14004])),(22,([0,4,9,13,14,87],[0,1,1000,14004])),(23,([0,4,9,87],[0,1,1000,14004])),(24,([0,9],[0,1,14004])),(25,([0,9,171],[0,1,14004])),(26,([0,9,171],[0,1,14004])),(27,([0,9,15,171],[0,1,14004])),(28,([0,9,171],[0,1,14004]))]
def g46res:List ResultVar:=[]
def g46cut:List Nat:=[3,6,9,13,16,24,26]
noncomputable def g46N {R:Type} (A:Ar) (kk:AV→Heap→Option R) (t:List Bool→St→Option R) (p:List Bool) (s:St):Option R:=nodeN A gtys (g46O A) g46an g46cut t (bodyOf Try.f46) (finD gtys g46res kk) p s
def g46J3s (x0:Nat) (x1:Int) (x2:List Nat) (x3:Nat) (x4:Int) (x5:Nat) (x6 x7:List Nat):St:=⟨[(0,(pT 0 0)),(1,(sL 1 none x0 1)),(4,(pT 1000 0)),(16,(i6 x1))],[(0,⟨[.nums .u64 88 x2,.one (.sl 1 none x3 1),.one (.int .i64 x4)],76,1⟩),(1,⟨[.nums .u8 x5 x6],5,2⟩),(1000,(bU 80 x7 74))]⟩
def g46J3 {R:Type} (A:Ar) (n:Nat) (kk:AV→Heap→Option R) (lg46L2:Nat→Int→List Nat→Nat→Int→Nat→List Nat→List Nat→Option R) (x0:Nat) (x1:Int) (x2:List Nat) (x3:Nat) (x4:Int) (x5:Nat) (x6 x7:List Nat):Option R :=
 match A.neg (A.ib .quo .i64 x1 8) with
 | true=>none
 | false=>match A.lt (A.toN (A.ib .quo .i64 x1 8)) 80 with
  | true=>match A.neg x1 with
   | true=>none
   | false=>match A.lt (A.toN x1) x0 with
    | true=>match A.neg (A.ib .quo .i64 x1 8) with
     | true=>none
     | false=>match A.lt (A.toN (A.ib .quo .i64 x1 8)) 80 with
      | true=>lg46L2 x0 (A.ib .add .i64 x1 1) x2 x3 x4 x5 x6 (x7.set (A.toN (A.ib .quo .i64 x1 8)) (A.nb .or .u64 (A.nsh .shl .u64 (x7.getD (A.toN (A.ib .quo .i64 x1 8)) 0) 8) (x6.getD (A.toN x1) 0)))
      | false=>none
    | false=>none
  | false=>none
def g46J9s (x0:Int) (x1:List Nat) (x2:Nat) (x3:Int) (x4:Nat) (x5 x6:List Nat):St:=⟨[(0,(pT 0 0)),(4,(pT 1000 0)),(6,(i6 x0))],[(0,⟨[.nums .u64 88 x1,.one (.sl 1 none x2 1),.one (.int .i64 x3)],76,1⟩),(1,⟨[.nums .u8 x4 x5],5,2⟩),(1000,(bU 80 x6 74))]⟩
def g46J9 {R:Type} (A:Ar) (n:Nat) (kk:AV→Heap→Option R) (lg46L7:Int→List Nat→Nat→Int→Nat→List Nat→List Nat→Option R) (x0:Int) (x1:List Nat) (x2:Nat) (x3:Int) (x4:Nat) (x5 x6:List Nat):Option R :=
 match A.neg (A.ib .sub .i64 x0 2) with
 | true=>none
 | false=>match A.lt (A.toN (A.ib .sub .i64 x0 2)) 80 with
  | true=>match A.neg (A.ib .sub .i64 x0 15) with
   | true=>none
   | false=>match A.lt (A.toN (A.ib .sub .i64 x0 15)) 80 with
    | true=>match A.neg (A.ib .sub .i64 x0 7) with
     | true=>none
     | false=>match A.lt (A.toN (A.ib .sub .i64 x0 7)) 80 with
      | true=>match A.neg (A.ib .sub .i64 x0 16) with
       | true=>none
       | false=>match A.lt (A.toN (A.ib .sub .i64 x0 16)) 80 with
        | true=>match A.neg x0 with
         | true=>none
         | false=>match A.lt (A.toN x0) 80 with
          | true=>match A.neg x0 with
           | true=>none
           | false=>match A.lt (A.toN x0) 80 with
            | true=>match g61ok A (x6.getD (A.toN (A.ib .sub .i64 x0 2)) 0) (-19) with
             | true=>match g61ok A (x6.getD (A.toN (A.ib .sub .i64 x0 2)) 0) (-61) with
              | true=>match A.neg x0 with
               | true=>none
               | false=>match A.lt (A.toN x0) 80 with
                | true=>match A.neg x0 with
                 | true=>none
                 | false=>match A.lt (A.toN x0) 80 with
                  | true=>match g61ok A (x6.getD (A.toN (A.ib .sub .i64 x0 15)) 0) (-1) with
                   | true=>match g61ok A (x6.getD (A.toN (A.ib .sub .i64 x0 15)) 0) (-8) with
                    | true=>match A.neg x0 with
                     | true=>none
                     | false=>match A.lt (A.toN x0) 80 with
                      | true=>lg46L7 (A.ib .add .i64 x0 1) x1 x2 x3 x4 x5 (((x6.set (A.toN x0) (A.nb .add .u64 (x6.getD (A.toN (A.ib .sub .i64 x0 7)) 0) (x6.getD (A.toN (A.ib .sub .i64 x0 16)) 0))).set (A.toN x0) (A.nb .add .u64 ((x6.set (A.toN x0) (A.nb .add .u64 (x6.getD (A.toN (A.ib .sub .i64 x0 7)) 0) (x6.getD (A.toN (A.ib .sub .i64 x0 16)) 0))).getD (A.toN x0) 0) (A.nb .xor .u64 (A.nb .xor .u64 (g61r0 A (x6.getD (A.toN (A.ib .sub .i64 x0 2)) 0) (-19)) (g61r0 A (x6.getD (A.toN (A.ib .sub .i64 x0 2)) 0) (-61))) (A.nsh .shr .u64 (x6.getD (A.toN (A.ib .sub .i64 x0 2)) 0) 6)))).set (A.toN x0) (A.nb .add .u64 (((x6.set (A.toN x0) (A.nb .add .u64 (x6.getD (A.toN (A.ib .sub .i64 x0 7)) 0) (x6.getD (A.toN (A.ib .sub .i64 x0 16)) 0))).set (A.toN x0) (A.nb .add .u64 ((x6.set (A.toN x0) (A.nb .add .u64 (x6.getD (A.toN (A.ib .sub .i64 x0 7)) 0) (x6.getD (A.toN (A.ib .sub .i64 x0 16)) 0))).getD (A.toN x0) 0) (A.nb .xor .u64 (A.nb .xor .u64 (g61r0 A (x6.getD (A.toN (A.ib .sub .i64 x0 2)) 0) (-19)) (g61r0 A (x6.getD (A.toN (A.ib .sub .i64 x0 2)) 0) (-61))) (A.nsh .shr .u64 (x6.getD (A.toN (A.ib .sub .i64 x0 2)) 0) 6)))).getD (A.toN x0) 0) (A.nb .xor .u64 (A.nb .xor .u64 (g61r0 A (x6.getD (A.toN (A.ib .sub .i64 x0 15)) 0) (-1)) (g61r0 A (x6.getD (A.toN (A.ib .sub .i64 x0 15)) 0) (-8))) (A.nsh .shr .u64 (x6.getD (A.toN (A.ib .sub .i64 x0 15)) 0) 7))))
                      | false=>none
                    | false=>none
                   | false=>none
                  | false=>none
                | false=>none
              | false=>none
             | false=>none
            | false=>none
          | false=>none
        | false=>none
      | false=>none
    | false=>none
  | false=>none
def g46J16s (x0:Int) (x1:List Nat) (x2:Nat) (x3:Int) (x4:Nat) (x5 x6 x7:List Nat):St:=⟨[(0,(pT 0 0)),(4,(pT 1000 0)),(9,(pT 14004 0)),(87,(i6 x0))],[(0,⟨[.nums .u64 88 x1,.one (.sl 1 none x2 1),.one (.int .i64 x3)],76,1⟩),(1,⟨[.nums .u8 x4 x5],5,2⟩),(1000,(bU 80 x6 74)),(14004,(bU 8 x7 73))]⟩
def g46J16 {R:Type} (A:Ar) (n:Nat) (kk:AV→Heap→Option R) (lg46L15:Int→List Nat→Nat→Int→Nat→List Nat→List Nat→List Nat→Option R) (x0:Int) (x1:List Nat) (x2:Nat) (x3:Int) (x4:Nat) (x5 x6 x7:List Nat):Option R :=
 match A.neg x0 with
 | true=>none
 | false=>match A.lt (A.toN x0) 80 with
  | true=>match A.neg x0 with
   | true=>none
   | false=>match A.lt (A.toN x0) 80 with
    | true=>match g61ok A (x7.getD 4 0) (-14) with
     | true=>match g61ok A (x7.getD 4 0) (-18) with
      | true=>match g61ok A (x7.getD 4 0) (-41) with
       | true=>match g61ok A (x7.getD 0 0) (-28) with
        | true=>match g61ok A (x7.getD 0 0) (-34) with
         | true=>match g61ok A (x7.getD 0 0) (-39) with
          | true=>lg46L15 (A.ib .add .i64 x0 1) x1 x2 x3 x4 x5 x6 (((((((([0,0,0,0,0,0,0,0].set 0 (A.nb .add .u64 (A.nb .add .u64 (A.nb .add .u64 (A.nb .add .u64 (A.nb .add .u64 (x7.getD 7 0) (x1.getD (8+(A.toN x0)) 0)) (x6.getD (A.toN x0) 0)) (A.nb .xor .u64 (x7.getD 6 0) (A.nb .and .u64 (x7.getD 4 0) (A.nb .xor .u64 (x7.getD 5 0) (x7.getD 6 0))))) (A.nb .xor .u64 (A.nb .xor .u64 (g61r0 A (x7.getD 4 0) (-14)) (g61r0 A (x7.getD 4 0) (-18))) (g61r0 A (x7.getD 4 0) (-41)))) (A.nb .add .u64 (A.nb .or .u64 (A.nb .and .u64 (x7.getD 0 0) (x7.getD 1 0)) (A.nb .and .u64 (x7.getD 2 0) (A.nb .or .u64 (x7.getD 0 0) (x7.getD 1 0)))) (A.nb .xor .u64 (A.nb .xor .u64 (g61r0 A (x7.getD 0 0) (-28)) (g61r0 A (x7.getD 0 0) (-34))) (g61r0 A (x7.getD 0 0) (-39)))))).set 1 (x7.getD 0 0)).set 2 (x7.getD 1 0)).set 3 (x7.getD 2 0)).set 4 (A.nb .add .u64 (x7.getD 3 0) (A.nb .add .u64 (A.nb .add .u64 (A.nb .add .u64 (A.nb .add .u64 (x7.getD 7 0) (x1.getD (8+(A.toN x0)) 0)) (x6.getD (A.toN x0) 0)) (A.nb .xor .u64 (x7.getD 6 0) (A.nb .and .u64 (x7.getD 4 0) (A.nb .xor .u64 (x7.getD 5 0) (x7.getD 6 0))))) (A.nb .xor .u64 (A.nb .xor .u64 (g61r0 A (x7.getD 4 0) (-14)) (g61r0 A (x7.getD 4 0) (-18))) (g61r0 A (x7.getD 4 0) (-41)))))).set 5 (x7.getD 4 0)).set 6 (x7.getD 5 0)).set 7 (x7.getD 6 0))
          | false=>none
         | false=>none
        | false=>none
       | false=>none
      | false=>none
     | false=>none
    | false=>none
  | false=>none
def g46J26s (x0:Int) (x1:List Nat) (x2:Nat) (x3:Int) (x4:Nat) (x5 x6:List Nat):St:=⟨[(0,(pT 0 0)),(9,(pT 14004 0)),(171,(i6 x0))],[(0,⟨[.nums .u64 88 x1,.one (.sl 1 none x2 1),.one (.int .i64 x3)],76,1⟩),(1,⟨[.nums .u8 x4 x5],5,2⟩),(14004,(bU 8 x6 73))]⟩
def g46J26 {R:Type} (A:Ar) (n:Nat) (kk:AV→Heap→Option R) (lg46L25:Int→List Nat→Nat→Int→Nat→List Nat→List Nat→Option R) (x0:Int) (x1:List Nat) (x2:Nat) (x3:Int) (x4:Nat) (x5 x6:List Nat):Option R :=
 match A.neg x0 with
 | true=>none
 | false=>match A.lt (A.toN x0) 8 with
  | true=>match A.neg x0 with
   | true=>none
   | false=>match A.lt (A.toN x0) 8 with
    | true=>match A.neg x0 with
     | true=>none
     | false=>match A.lt (A.toN x0) 8 with
      | true=>lg46L25 (A.ib .add .i64 x0 1) (x1.set (A.toN x0) (A.nb .add .u64 (x1.getD (A.toN x0) 0) (x6.getD (A.toN x0) 0))) x2 x3 x4 x5 x6
      | false=>none
    | false=>none
  | false=>none
def g46L25s (x0:Int) (x1:List Nat) (x2:Nat) (x3:Int) (x4:Nat) (x5 x6:List Nat):St:=⟨[(0,(pT 0 0)),(9,(pT 14004 0)),(171,(i6 x0))],[(0,⟨[.nums .u64 88 x1,.one (.sl 1 none x2 1),.one (.int .i64 x3)],76,1⟩),(1,⟨[.nums .u8 x4 x5],5,2⟩),(14004,(bU 8 x6 73))]⟩
def g46L25 {R:Type} (A:Ar) (n:Nat) (kk:AV→Heap→Option R)  : Nat→Int→List Nat→Nat→Int→Nat→List Nat→List Nat→Option R
 | 0,_,_,_,_,_,_,_=>none
 | m+1,x0,x1,x2,x3,x4,x5,x6=>match A.ic .lss x0 8 with
 | true=>g46J26 A n kk (g46L25 A n kk  m) x0 x1 x2 x3 x4 x5 x6
 | false=>kk (.tup []) [(0,⟨[.nums .u64 88 x1,.one (.sl 1 none x2 1),.one (.int .i64 x3)],76,1⟩),(1,⟨[.nums .u8 x4 x5],5,2⟩),(14004,(bU 8 x6 73))]
def g46J24s (x0:List Nat) (x1:Nat) (x2:Int) (x3:Nat) (x4 x5:List Nat):St:=⟨[(0,(pT 0 0)),(9,(pT 14004 0))],[(0,⟨[.nums .u64 88 x0,.one (.sl 1 none x1 1),.one (.int .i64 x2)],76,1⟩),(1,⟨[.nums .u8 x3 x4],5,2⟩),(14004,(bU 8 x5 73))]⟩
def g46J24 {R:Type} (A:Ar) (n:Nat) (kk:AV→Heap→Option R)  (x0:List Nat) (x1:Nat) (x2:Int) (x3:Nat) (x4 x5:List Nat):Option R :=
 g46L25 A n kk  n 0 x0 x1 x2 x3 x4 x5
def g46L15s (x0:Int) (x1:List Nat) (x2:Nat) (x3:Int) (x4:Nat) (x5 x6 x7:List Nat):St:=⟨[(0,(pT 0 0)),(4,(pT 1000 0)),(9,(pT 14004 0)),(87,(i6 x0))],[(0,⟨[.nums .u64 88 x1,.one (.sl 1 none x2 1),.one (.int .i64 x3)],76,1⟩),(1,⟨[.nums .u8 x4 x5],5,2⟩),(1000,(bU 80 x6 74)),(14004,(bU 8 x7 73))]⟩
def g46L15 {R:Type} (A:Ar) (n:Nat) (kk:AV→Heap→Option R)  : Nat→Int→List Nat→Nat→Int→Nat→List Nat→List Nat→List Nat→Option R
 | 0,_,_,_,_,_,_,_,_=>none
 | m+1,x0,x1,x2,x3,x4,x5,x6,x7=>match A.ic .lss x0 80 with
 | true=>g46J16 A n kk (g46L15 A n kk  m) x0 x1 x2 x3 x4 x5 x6 x7
 | false=>g46J24 A n kk  x1 x2 x3 x4 x5 x7
def g46J13s (x0:List Nat) (x1:Nat) (x2:Int) (x3:Nat) (x4 x5:List Nat):St:=⟨[(0,(pT 0 0)),(4,(pT 1000 0))],[(0,⟨[.nums .u64 88 x0,.one (.sl 1 none x1 1),.one (.int .i64 x2)],76,1⟩),(1,⟨[.nums .u8 x3 x4],5,2⟩),(1000,(bU 80 x5 74))]⟩
def g46J13 {R:Type} (A:Ar) (n:Nat) (kk:AV→Heap→Option R)  (x0:List Nat) (x1:Nat) (x2:Int) (x3:Nat) (x4 x5:List Nat):Option R :=
 g46L15 A n kk  n 0 x0 x1 x2 x3 x4 x5 ((x0.drop 0).take 8)
def g46L7s (x0:Int) (x1:List Nat) (x2:Nat) (x3:Int) (x4:Nat) (x5 x6:List Nat):St:=⟨[(0,(pT 0 0)),(4,(pT 1000 0)),(6,(i6 x0))],[(0,⟨[.nums .u64 88 x1,.one (.sl 1 none x2 1),.one (.int .i64 x3)],76,1⟩),(1,⟨[.nums .u8 x4 x5],5,2⟩),(1000,(bU 80 x6 74))]⟩
def g46L7 {R:Type} (A:Ar) (n:Nat) (kk:AV→Heap→Option R)  : Nat→Int→List Nat→Nat→Int→Nat→List Nat→List Nat→Option R
 | 0,_,_,_,_,_,_,_=>none
 | m+1,x0,x1,x2,x3,x4,x5,x6=>match A.ic .lss x0 80 with
 | true=>g46J9 A n kk (g46L7 A n kk  m) x0 x1 x2 x3 x4 x5 x6
 | false=>g46J13 A n kk  x1 x2 x3 x4 x5 x6
def g46J6s (x0:List Nat) (x1:Nat) (x2:Int) (x3:Nat) (x4 x5:List Nat):St:=⟨[(0,(pT 0 0)),(4,(pT 1000 0))],[(0,⟨[.nums .u64 88 x0,.one (.sl 1 none x1 1),.one (.int .i64 x2)],76,1⟩),(1,⟨[.nums .u8 x3 x4],5,2⟩),(1000,(bU 80 x5 74))]⟩
def g46J6 {R:Type} (A:Ar) (n:Nat) (kk:AV→Heap→Option R)  (x0:List Nat) (x1:Nat) (x2:Int) (x3:Nat) (x4 x5:List Nat):Option R :=
 g46L7 A n kk  n 16 x0 x1 x2 x3 x4 x5
def g46L2s (x0:Nat) (x1:Int) (x2:List Nat) (x3:Nat) (x4:Int) (x5:Nat) (x6 x7:List Nat):St:=⟨[(0,(pT 0 0)),(1,(sL 1 none x0 1)),(4,(pT 1000 0)),(16,(i6 x1))],[(0,⟨[.nums .u64 88 x2,.one (.sl 1 none x3 1),.one (.int .i64 x4)],76,1⟩),(1,⟨[.nums .u8 x5 x6],5,2⟩),(1000,(bU 80 x7 74))]⟩
def g46L2 {R:Type} (A:Ar) (n:Nat) (kk:AV→Heap→Option R)  : Nat→Nat→Int→List Nat→Nat→Int→Nat→List Nat→List Nat→Option R
 | 0,_,_,_,_,_,_,_,_=>none
 | m+1,x0,x1,x2,x3,x4,x5,x6,x7=>match A.ic .lss x1 128 with
 | true=>g46J3 A n kk (g46L2 A n kk  m) x0 x1 x2 x3 x4 x5 x6 x7
 | false=>g46J6 A n kk  x2 x3 x4 x5 x6 x7
def g46 {R:Type} (A:Ar) (n:Nat) (kk:AV→Heap→Option R) (x0:Nat) (x1:List Nat) (x2:Nat) (x3:Int) (x4:Nat) (x5:List Nat):Option R :=
 g46L2 A n kk  n x0 0 x1 x2 x3 x4 x5 [0,0,0,0,0,0,0,0,0,0,0,0,0,0,0,0,0,0,0,0,0,0,0,0,0,0,0,0,0,0,0,0,0,0,0,0,0,0,0,0,0,0,0,0,0,0,0,0,0,0,0,0,0,0,0,0,0,0,0,0,0,0,0,0,0,0,0,0,0,0,0,0,0,0,0,0,0,0,0,0]
section
variable {R:Type} {A:Ar} {n:Nat} {kk:AV→Heap→Option R} {tb:Nat→List Bool→St→Option R} (st:Stp (g46N A kk) tb)
include st
theorem g46J3_go {lg46L2:Nat→Int→List Nat→Nat→Int→Nat→List Nat→List Nat→Option R} (hg46L2:∀ (x0:Nat) (x1:Int) (x2:List Nat) (x3:Nat) (x4:Int) (x5:Nat) (x6 x7:List Nat),Prs (fun k=>tb k (pth 52) (g46L2s x0 x1 x2 x3 x4 x5 x6 x7)) (lg46L2 x0 x1 x2 x3 x4 x5 x6 x7)) {x0:Nat} {x1:Int} {x2:List Nat} {x3:Nat} {x4:Int} {x5:Nat} {x6:List Nat} {x7:List Nat}:Prs (fun k=>tb k (pth 211) (g46J3s x0 x1 x2 x3 x4 x5 x6 x7)) (g46J3 A n kk lg46L2 x0 x1 x2 x3 x4 x5 x6 x7):=by
  unfold g46J3
  exact st.g (pc (SxY06spi _ pn (SxY06spi _ (SxY06spi _ pn (SxY06spi _ (SxY06spi _ pn (SxY06spi _ (hg46L2 _ _ _ _ _ _ _ _) pn)) pn)) pn)) (by kernel_rfl))
theorem g46J9_go {lg46L7:Int→List Nat→Nat→Int→Nat→List Nat→List Nat→Option R} (hg46L7:∀ (x0:Int) (x1:List Nat) (x2:Nat) (x3:Int) (x4:Nat) (x5 x6:List Nat),Prs (fun k=>tb k (pth 116) (g46L7s x0 x1 x2 x3 x4 x5 x6)) (lg46L7 x0 x1 x2 x3 x4 x5 x6)) {x0:Int} {x1:List Nat} {x2:Nat} {x3:Int} {x4:Nat} {x5:List Nat} {x6:List Nat}:Prs (fun k=>tb k (pth 233) (g46J9s x0 x1 x2 x3 x4 x5 x6)) (g46J9 A n kk lg46L7 x0 x1 x2 x3 x4 x5 x6):=by
  unfold g46J9
  exact st.g (pc (SxY06spi _ pn (SxY06spi _ (SxY06spi _ pn (SxY06spi _ (SxY06spi _ pn (SxY06spi _ (SxY06spi _ pn (SxY06spi _ (SxY06spi _ pn (SxY06spi _ (SxY06spi _ pn (SxY06spi _ (SxY06spi _ (SxY06spi _ (SxY06spi _ pn (SxY06spi _ (SxY06spi _ pn (SxY06spi _ (SxY06spi _ (SxY06spi _ (SxY06spi _ pn (SxY06spi _ (hg46L7 _ _ _ _ _ _ _) pn)) pn) pn) pn)) pn)) pn) pn) pn)) pn)) pn)) pn)) pn)) pn)) (by kernel_rfl))
theorem g46J16_go {lg46L15:Int→List Nat→Nat→Int→Nat→List Nat→List Nat→List Nat→Option R} (hg46L15:∀ (x0:Int) (x1:List Nat) (x2:Nat) (x3:Int) (x4:Nat) (x5 x6 x7:List Nat),Prs (fun k=>tb k (pth 500) (g46L15s x0 x1 x2 x3 x4 x5 x6 x7)) (lg46L15 x0 x1 x2 x3 x4 x5 x6 x7)) {x0:Int} {x1:List Nat} {x2:Nat} {x3:Int} {x4:Nat} {x5:List Nat} {x6:List Nat} {x7:List Nat}:Prs (fun k=>tb k (pth 2003) (g46J16s x0 x1 x2 x3 x4 x5 x6 x7)) (g46J16 A n kk lg46L15 x0 x1 x2 x3 x4 x5 x6 x7):=by
  unfold g46J16
  exact st.g (pc (SxY06spi _ pn (SxY06spi _ (SxY06spi _ pn (SxY06spi _ (SxY06spi _ (SxY06spi _ (SxY06spi _ (SxY06spi _ (SxY06spi _ (SxY06spi _ (hg46L15 _ _ _ _ _ _ _ _) pn) pn) pn) pn) pn) pn) pn)) pn)) (by kernel_rfl))
theorem g46J26_go {lg46L25:Int→List Nat→Nat→Int→Nat→List Nat→List Nat→Option R} (hg46L25:∀ (x0:Int) (x1:List Nat) (x2:Nat) (x3:Int) (x4:Nat) (x5 x6:List Nat),Prs (fun k=>tb k (pth 508) (g46L25s x0 x1 x2 x3 x4 x5 x6)) (lg46L25 x0 x1 x2 x3 x4 x5 x6)) {x0:Int} {x1:List Nat} {x2:Nat} {x3:Int} {x4:Nat} {x5:List Nat} {x6:List Nat}:Prs (fun k=>tb k (pth 2035) (g46J26s x0 x1 x2 x3 x4 x5 x6)) (g46J26 A n kk lg46L25 x0 x1 x2 x3 x4 x5 x6):=by
  unfold g46J26
  exact st.g (pc (SxY06spi _ pn (SxY06spi _ (SxY06spi _ pn (SxY06spi _ (SxY06spi _ pn (SxY06spi _ (hg46L25 _ _ _ _ _ _ _) pn)) pn)) pn)) (by kernel_rfl))
theorem g46L25_go (m:Nat):∀ (x0:Int) (x1:List Nat) (x2:Nat) (x3:Int) (x4:Nat) (x5 x6:List Nat),Prs (fun k=>tb k (pth 508) (g46L25s x0 x1 x2 x3 x4 x5 x6)) (g46L25 A n kk m x0 x1 x2 x3 x4 x5 x6):=by
  induction m with
  | zero=>intro x0 x1 x2 x3 x4 x5 x6; exact pn0
  | succ m ih =>
    intro x0 x1 x2 x3 x4 x5 x6; rw [g46L25]
    exact st.g (pc (SxY06spi _ (g46J26_go st ih) (pf _)) (by kernel_rfl))
theorem g46J24_go {x0:List Nat} {x1:Nat} {x2:Int} {x3:Nat} {x4:List Nat} {x5:List Nat}:Prs (fun k=>tb k (pth 63) (g46J24s x0 x1 x2 x3 x4 x5)) (g46J24 A n kk x0 x1 x2 x3 x4 x5):=by
  unfold g46J24
  exact st.g (pc (g46L25_go st n _ _ _ _ _ _ _) (by kernel_rfl))
theorem g46L15_go (m:Nat):∀ (x0:Int) (x1:List Nat) (x2:Nat) (x3:Int) (x4:Nat) (x5 x6 x7:List Nat),Prs (fun k=>tb k (pth 500) (g46L15s x0 x1 x2 x3 x4 x5 x6 x7)) (g46L15 A n kk m x0 x1 x2 x3 x4 x5 x6 x7):=by
  induction m with
  | zero=>intro x0 x1 x2 x3 x4 x5 x6 x7; exact pn0
  | succ m ih =>
    intro x0 x1 x2 x3 x4 x5 x6 x7; rw [g46L15]
    exact st.g (pc (SxY06spi _ (g46J16_go st ih) (g46J24_go st)) (by kernel_rfl))
theorem g46J13_go {x0:List Nat} {x1:Nat} {x2:Int} {x3:Nat} {x4:List Nat} {x5:List Nat}:Prs (fun k=>tb k (pth 15) (g46J13s x0 x1 x2 x3 x4 x5)) (g46J13 A n kk x0 x1 x2 x3 x4 x5):=by
  unfold g46J13
  exact st.g (pc (g46L15_go st n _ _ _ _ _ _ _ _) (by kernel_rfl))
theorem g46L7_go (m:Nat):∀ (x0:Int) (x1:List Nat) (x2:Nat) (x3:Int) (x4:Nat) (x5 x6:List Nat),Prs (fun k=>tb k (pth 116) (g46L7s x0 x1 x2 x3 x4 x5 x6)) (g46L7 A n kk m x0 x1 x2 x3 x4 x5 x6):=by
  induction m with
  | zero=>intro x0 x1 x2 x3 x4 x5 x6; exact pn0
  | succ m ih =>
    intro x0 x1 x2 x3 x4 x5 x6; rw [g46L7]
    exact st.g (pc (SxY06spi _ (g46J9_go st ih) (g46J13_go st)) (by kernel_rfl))
theorem g46J6_go {x0:List Nat} {x1:Nat} {x2:Int} {x3:Nat} {x4:List Nat} {x5:List Nat}:Prs (fun k=>tb k (pth 7) (g46J6s x0 x1 x2 x3 x4 x5)) (g46J6 A n kk x0 x1 x2 x3 x4 x5):=by
  unfold g46J6
  exact st.g (pc (g46L7_go st n _ _ _ _ _ _ _) (by kernel_rfl))
theorem g46L2_go (m:Nat):∀ (x0:Nat) (x1:Int) (x2:List Nat) (x3:Nat) (x4:Int) (x5:Nat) (x6 x7:List Nat),Prs (fun k=>tb k (pth 52) (g46L2s x0 x1 x2 x3 x4 x5 x6 x7)) (g46L2 A n kk m x0 x1 x2 x3 x4 x5 x6 x7):=by
  induction m with
  | zero=>intro x0 x1 x2 x3 x4 x5 x6 x7; exact pn0
  | succ m ih =>
    intro x0 x1 x2 x3 x4 x5 x6 x7; rw [g46L2]
    exact st.g (pc (SxY06spi _ (g46J3_go st ih) (g46J6_go st)) (by kernel_rfl))
theorem g46_go {x0:Nat} {x1:List Nat} {x2:Nat} {x3:Int} {x4:Nat} {x5:List Nat}:Prs (fun k=>funN A gtys (g46O A) g46an g46cut (bodyOf Try.f46) g46res [(pT 0 0),(sL 1 none x0 1)] [(0,⟨[.nums .u64 88 x1,.one (.sl 1 none x2 1),.one (.int .i64 x3)],76,1⟩),(1,⟨[.nums .u8 x4 x5],5,2⟩)] kk (tb k)) (g46 A n kk x0 x1 x2 x3 x4 x5):=by
  unfold g46
  exact pc (g46L2_go st n _ _ _ _ _ _ _ _) (by kernel_rfl)
end
def g46is (o:Option (AV × Heap)):Bool:=match o with
 | some (.tup [],[(n0,⟨[.nums .u64 n1 _,.one (.sl n2 none _ n3),.one (.int .i64 _)],n4,n5⟩),(n6,⟨[.nums .u8 _ _],n7,n8⟩)])=>Nat.beq n0 0&&(Nat.beq n1 88&&(Nat.beq n2 1&&(Nat.beq n3 1&&(Nat.beq n4 76&&(Nat.beq n5 1&&(Nat.beq n6 1&&(Nat.beq n7 5&&(Nat.beq n8 2))))))))
 | _=>false
def g46g0 (o:Option (AV × Heap)):List Nat:=match o with
 | some (.tup [],[(_,⟨[.nums .u64 _ x,.one (.sl _ none _ _),.one (.int .i64 _)],_,_⟩),(_,⟨[.nums .u8 _ _],_,_⟩)])=>x
 | _=>[]
def g46g1 (o:Option (AV × Heap)):Nat:=match o with
 | some (.tup [],[(_,⟨[.nums .u64 _ _,.one (.sl _ none x _),.one (.int .i64 _)],_,_⟩),(_,⟨[.nums .u8 _ _],_,_⟩)])=>x
 | _=>0
def g46g2 (o:Option (AV × Heap)):Int:=match o with
 | some (.tup [],[(_,⟨[.nums .u64 _ _,.one (.sl _ none _ _),.one (.int .i64 x)],_,_⟩),(_,⟨[.nums .u8 _ _],_,_⟩)])=>x
 | _=>0
def g46g3 (o:Option (AV × Heap)):Nat:=match o with
 | some (.tup [],[(_,⟨[.nums .u64 _ _,.one (.sl _ none _ _),.one (.int .i64 _)],_,_⟩),(_,⟨[.nums .u8 x _],_,_⟩)])=>x
 | _=>0
def g46g4 (o:Option (AV × Heap)):List Nat:=match o with
 | some (.tup [],[(_,⟨[.nums .u64 _ _,.one (.sl _ none _ _),.one (.int .i64 _)],_,_⟩),(_,⟨[.nums .u8 _ x],_,_⟩)])=>x
 | _=>[]
theorem g46is_spec {o:Option (AV × Heap)} (h:g46is o=true):o=some ((.tup []),[(0,⟨[.nums .u64 88 (g46g0 o),.one (.sl 1 none (g46g1 o) 1),.one (.int .i64 (g46g2 o))],76,1⟩),(1,⟨[.nums .u8 (g46g3 o) (g46g4 o)],5,2⟩)]):=by
  unfold g46is at h
  split at h
  · rename_i n0 n1 z2 n2 z4 n3 z6 n4 n5 n6 z10 z11 n7 n8
    simp only [Bool.and_eq_true] at h
    have en0:=beq_true h.1
    subst en0
    replace h:=h.2
    have en1:=beq_true h.1
    subst en1
    replace h:=h.2
    have en2:=beq_true h.1
    subst en2
    replace h:=h.2
    have en3:=beq_true h.1
    subst en3
    replace h:=h.2
    have en4:=beq_true h.1
    subst en4
    replace h:=h.2
    have en5:=beq_true h.1
    subst en5
    replace h:=h.2
    have en6:=beq_true h.1
    subst en6
    replace h:=h.2
    have en7:=beq_true h.1
    subst en7
    replace h:=h.2
    have en8:=beq_true h
    subst en8
    rfl
  · cases h
def g46v (A:Ar) (x0:Nat) (x1:List Nat) (x2:Nat) (x3:Int) (x4:Nat) (x5:List Nat):Option (AV × Heap):=g46 A (100000) (outH [0,1] none) x0 x1 x2 x3 x4 x5
def g46ok (A:Ar) (x0:Nat) (x1:List Nat) (x2:Nat) (x3:Int) (x4:Nat) (x5:List Nat):Bool:=g46is (g46v A x0 x1 x2 x3 x4 x5)
def g46r0 (A:Ar) (x0:Nat) (x1:List Nat) (x2:Nat) (x3:Int) (x4:Nat) (x5:List Nat):List Nat:=g46g0 (g46v A x0 x1 x2 x3 x4 x5)
def g46r1 (A:Ar) (x0:Nat) (x1:List Nat) (x2:Nat) (x3:Int) (x4:Nat) (x5:List Nat):Nat:=g46g1 (g46v A x0 x1 x2 x3 x4 x5)
def g46r2 (A:Ar) (x0:Nat) (x1:List Nat) (x2:Nat) (x3:Int) (x4:Nat) (x5:List Nat):Int:=g46g2 (g46v A x0 x1 x2 x3 x4 x5)
def g46r3 (A:Ar) (x0:Nat) (x1:List Nat) (x2:Nat) (x3:Int) (x4:Nat) (x5:List Nat):Nat:=g46g3 (g46v A x0 x1 x2 x3 x4 x5)
def g46r4 (A:Ar) (x0:Nat) (x1:List Nat) (x2:Nat) (x3:Int) (x4:Nat) (x5:List Nat):List Nat:=g46g4 (g46v A x0 x1 x2 x3 x4 x5)
theorem g46ok_spec {A:Ar} {x0 x1 x2 x3 x4 x5} (h:g46ok A x0 x1 x2 x3 x4 x5=true):g46v A x0 x1 x2 x3 x4 x5=some ((.tup []),[(0,⟨[.nums .u64 88 (g46r0 A x0 x1 x2 x3 x4 x5),.one (.sl 1 none (g46r1 A x0 x1 x2 x3 x4 x5) 1),.one (.int .i64 (g46r2 A x0 x1 x2 x3 x4 x5))],76,1⟩),(1,⟨[.nums .u8 (g46r3 A x0 x1 x2 x3 x4 x5) (g46r4 A x0 x1 x2 x3 x4 x5)],5,2⟩)]):=g46is_spec h
def g46o (A:Ar) (args:List AV) (h:Heap):Option (Bool × AV × Heap):=match args,h with
 | [.v (.cell (.ptr n0 n1 none)),.v (.cell (.sl n2 none x0 n3))],[(n4,⟨[.nums .u64 n5 x1,.one (.sl n6 none x2 n7),.one (.int .i64 x3)],n8,n9⟩),(n10,⟨[.nums .u8 x4 x5],n11,n12⟩)]=>match Nat.beq n0 0&&(Nat.beq n1 0&&(Nat.beq n2 1&&(Nat.beq n3 1&&(Nat.beq n4 0&&(Nat.beq n5 88&&(Nat.beq n6 1&&(Nat.beq n7 1&&(Nat.beq n8 76&&(Nat.beq n9 1&&(Nat.beq n10 1&&(Nat.beq n11 5&&(Nat.beq n12 2)))))))))))) with
  | true=>some (g46ok A x0 x1 x2 x3 x4 x5,(.tup []),[(0,⟨[.nums .u64 88 (g46r0 A x0 x1 x2 x3 x4 x5),.one (.sl 1 none (g46r1 A x0 x1 x2 x3 x4 x5) 1),.one (.int .i64 (g46r2 A x0 x1 x2 x3 x4 x5))],76,1⟩),(1,⟨[.nums .u8 (g46r3 A x0 x1 x2 x3 x4 x5) (g46r4 A x0 x1 x2 x3 x4 x5)],5,2⟩)])
  | false=>none
 | _,_=>none
theorem g46o_sound:∀ args h v h',g46o realA args h=some (true,v,h')→FnH Try.prog 46 args h v h':=by
  intro args h v h' hh
  unfold g46o at hh
  split at hh
  · rename_i n0 n1 n2 x0 n3 n4 n5 x1 n6 x2 n7 x3 n8 n9 n10 x4 x5 n11 n12
    split at hh
    case h_2=>cases hh
    rename_i hc0
    simp only [Option.some.injEq,Prod.mk.injEq] at hh
    obtain ⟨hc,hv,hh⟩:=hh
    subst hv
    subst hh
    simp only [Bool.and_eq_true] at hc0
    have en0:=beq_true hc0.1
    subst en0
    replace hc0:=hc0.2
    have en1:=beq_true hc0.1
    subst en1
    replace hc0:=hc0.2
    have en2:=beq_true hc0.1
    subst en2
    replace hc0:=hc0.2
    have en3:=beq_true hc0.1
    subst en3
    replace hc0:=hc0.2
    have en4:=beq_true hc0.1
    subst en4
    replace hc0:=hc0.2
    have en5:=beq_true hc0.1
    subst en5
    replace hc0:=hc0.2
    have en6:=beq_true hc0.1
    subst en6
    replace hc0:=hc0.2
    have en7:=beq_true hc0.1
    subst en7
    replace hc0:=hc0.2
    have en8:=beq_true hc0.1
    subst en8
    replace hc0:=hc0.2
    have en9:=beq_true hc0.1
    subst en9
    replace hc0:=hc0.2
    have en10:=beq_true hc0.1
    subst en10
    replace hc0:=hc0.2
    have en11:=beq_true hc0.1
    subst en11
    replace hc0:=hc0.2
    have en12:=beq_true hc0
    subst en12
    exact fnh_ofG mixed gtysOK g46O_sound g46O_det (an:=g46an) (cut:=g46cut) Try.func46 (c:=bodyOf Try.f46) rfl (by kernel_rfl) Try.call46 (Nat.le_of_ble_eq_true rfl) (pins:=[0,1]) (nilr:=none) (fun _=>(show g46v realA x0 x1 x2 x3 x4 x5=_ from g46ok_spec hc)) fun _ st=>g46_go st
  · cases hh
attribute [local irreducible] g46ok g46r0 g46r1 g46r2 g46r3 g46r4
def g46a_O (A:Ar):Orc:=orcOf [(61,g61o A)]
theorem g46a_O_sound:OSound Try.prog (g46a_O realA):=orc_sound fun f g hm args v hv=>by
  simp only [List.mem_cons,List.not_mem_nil,or_false,Prod.mk.injEq] at hm
  rcases hm with ⟨rfl,rfl⟩
  · exact g61o_sound _ _ hv
theorem g46a_O_det:ODet (g46a_O realA):=orc_det _
def g46a_an:Ann:=[(0,([0,1],[0,1])),(1,([0,1,4],[0,1,1000])),(2,([0,1,4,16],[0,1,1000])),(3,([0,1,4,16],[0,1,1000])),(4,([0,1,4,5,16],[0,1,1000])),(5,([0,1,4,16],[0,1,1000])),(6,([0,4],[0,1,1000])),(7,([0,4,6],[0,1,1000])),(8,([0,4,6],[0,1,1000])),(9,([0,4,6],[0,1,1000])),(10,([0,4,6,7,8],[0,1,1000])),(11,([0,4,6,7,8],[0,1,1000])),(12,([0,4,6,8],[0,1,1000])),(13,([0,4],[0,1,1000])),(14,([0,4,9],[0,1,1000,14004])),(15,([0,4,9,87],[0,1,1000,14004])),(16,([0,4,9,87],[0,1,1000,14004])),(17,([0,4,9,10,87],[0,1,1000,14004])),(18,([0,4,9,10,11,12,87],[0,1,1000,14004])),(19,([0,4,9,11,12,13,87],[0,1,1000,14004])),(20,([0,4,9,12,13,87],[0,1,1000,14004])),(21,([0,4,9,12,13,14,87],[0,1,1000,14004])),(22,([0,4,9,13,14,87],[0,1,1000,14004])),(23,([0,4,9,87],[0,1,1000,14004])),(24,([0,9],[0,1,14004])),(25,([0,9,171],[0,1,14004])),(26,([0,9,171],[0,1,14004])),(27,([0,9,15,171],[0,1,14004])),(28,([0,9,171],[0,1,14004]))]
def g46a_res:List ResultVar:=[]
def g46a_cut:List Nat:=[3,6,9,13,16,24,26]
noncomputable def g46a_N {R:Type} (A:Ar) (kk:AV→Heap→Option R) (t:List Bool→St→Option R) (p:List Bool) (s:St):Option R:=nodeN A gtys (g46a_O A) g46a_an g46a_cut t (bodyOf Try.f46) (finD gtys g46a_res kk) p s
def g46a_J3s (x0 x1:Nat) (x2:Int) (x3:List Nat) (x4 x5:Nat) (x6:Int) (x7:Nat) (x8 x9:List Nat):St:=⟨[(0,(pT 0 0)),(1,(sL 1 (some x0) x1 1)),(4,(pT 1000 0)),(16,(i6 x2))],[(0,⟨[.nums .u64 88 x3,.one (.sl 1 (some x4) x5 1),.one (.int .i64 x6)],76,1⟩),(1,⟨[.nums .u8 x7 x8],5,2⟩),(1000,(bU 80 x9 74))]⟩
def g46a_J3 {R:Type} (A:Ar) (n:Nat) (kk:AV→Heap→Option R) (lg46a_L2:Nat→Nat→Int→List Nat→Nat→Nat→Int→Nat→List Nat→List Nat→Option R) (x0 x1:Nat) (x2:Int) (x3:List Nat) (x4 x5:Nat) (x6:Int) (x7:Nat) (x8 x9:List Nat):Option R :=
 match A.neg (A.ib .quo .i64 x2 8) with
 | true=>none
 | false=>match A.lt (A.toN (A.ib .quo .i64 x2 8)) 80 with
  | true=>match A.neg x2 with
   | true=>none
   | false=>match A.lt (A.toN x2) x1 with
    | true=>match A.neg (A.ib .quo .i64 x2 8) with
     | true=>none
     | false=>match A.lt (A.toN (A.ib .quo .i64 x2 8)) 80 with
      | true=>lg46a_L2 x0 x1 (A.ib .add .i64 x2 1) x3 x4 x5 x6 x7 x8 (x9.set (A.toN (A.ib .quo .i64 x2 8)) (A.nb .or .u64 (A.nsh .shl .u64 (x9.getD (A.toN (A.ib .quo .i64 x2 8)) 0) 8) (x8.getD (x0+(A.toN x2)) 0)))
      | false=>none
    | false=>none
  | false=>none
def g46a_J9s (x0:Int) (x1:List Nat) (x2 x3:Nat) (x4:Int) (x5:Nat) (x6 x7:List Nat):St:=⟨[(0,(pT 0 0)),(4,(pT 1000 0)),(6,(i6 x0))],[(0,⟨[.nums .u64 88 x1,.one (.sl 1 (some x2) x3 1),.one (.int .i64 x4)],76,1⟩),(1,⟨[.nums .u8 x5 x6],5,2⟩),(1000,(bU 80 x7 74))]⟩
def g46a_J9 {R:Type} (A:Ar) (n:Nat) (kk:AV→Heap→Option R) (lg46a_L7:Int→List Nat→Nat→Nat→Int→Nat→List Nat→List Nat→Option R) (x0:Int) (x1:List Nat) (x2 x3:Nat) (x4:Int) (x5:Nat) (x6 x7:List Nat):Option R :=
 match A.neg (A.ib .sub .i64 x0 2) with
 | true=>none
 | false=>match A.lt (A.toN (A.ib .sub .i64 x0 2)) 80 with
  | true=>match A.neg (A.ib .sub .i64 x0 15) with
   | true=>none
   | false=>match A.lt (A.toN (A.ib .sub .i64 x0 15)) 80 with
    | true=>match A.neg (A.ib .sub .i64 x0 7) with
     | true=>none
     | false=>match A.lt (A.toN (A.ib .sub .i64 x0 7)) 80 with
      | true=>match A.neg (A.ib .sub .i64 x0 16) with
       | true=>none
       | false=>match A.lt (A.toN (A.ib .sub .i64 x0 16)) 80 with
        | true=>match A.neg x0 with
         | true=>none
         | false=>match A.lt (A.toN x0) 80 with
          | true=>match A.neg x0 with
           | true=>none
           | false=>match A.lt (A.toN x0) 80 with
            | true=>match g61ok A (x7.getD (A.toN (A.ib .sub .i64 x0 2)) 0) (-19) with
             | true=>match g61ok A (x7.getD (A.toN (A.ib .sub .i64 x0 2)) 0) (-61) with
              | true=>match A.neg x0 with
               | true=>none
               | false=>match A.lt (A.toN x0) 80 with
                | true=>match A.neg x0 with
                 | true=>none
                 | false=>match A.lt (A.toN x0) 80 with
                  | true=>match g61ok A (x7.getD (A.toN (A.ib .sub .i64 x0 15)) 0) (-1) with
                   | true=>match g61ok A (x7.getD (A.toN (A.ib .sub .i64 x0 15)) 0) (-8) with
                    | true=>match A.neg x0 with
                     | true=>none
                     | false=>match A.lt (A.toN x0) 80 with
                      | true=>lg46a_L7 (A.ib .add .i64 x0 1) x1 x2 x3 x4 x5 x6 (((x7.set (A.toN x0) (A.nb .add .u64 (x7.getD (A.toN (A.ib .sub .i64 x0 7)) 0) (x7.getD (A.toN (A.ib .sub .i64 x0 16)) 0))).set (A.toN x0) (A.nb .add .u64 ((x7.set (A.toN x0) (A.nb .add .u64 (x7.getD (A.toN (A.ib .sub .i64 x0 7)) 0) (x7.getD (A.toN (A.ib .sub .i64 x0 16)) 0))).getD (A.toN x0) 0) (A.nb .xor .u64 (A.nb .xor .u64 (g61r0 A (x7.getD (A.toN (A.ib .sub .i64 x0 2)) 0) (-19)) (g61r0 A (x7.getD (A.toN (A.ib .sub .i64 x0 2)) 0) (-61))) (A.nsh .shr .u64 (x7.getD (A.toN (A.ib .sub .i64 x0 2)) 0) 6)))).set (A.toN x0) (A.nb .add .u64 (((x7.set (A.toN x0) (A.nb .add .u64 (x7.getD (A.toN (A.ib .sub .i64 x0 7)) 0) (x7.getD (A.toN (A.ib .sub .i64 x0 16)) 0))).set (A.toN x0) (A.nb .add .u64 ((x7.set (A.toN x0) (A.nb .add .u64 (x7.getD (A.toN (A.ib .sub .i64 x0 7)) 0) (x7.getD (A.toN (A.ib .sub .i64 x0 16)) 0))).getD (A.toN x0) 0) (A.nb .xor .u64 (A.nb .xor .u64 (g61r0 A (x7.getD (A.toN (A.ib .sub .i64 x0 2)) 0) (-19)) (g61r0 A (x7.getD (A.toN (A.ib .sub .i64 x0 2)) 0) (-61))) (A.nsh .shr .u64 (x7.getD (A.toN (A.ib .sub .i64 x0 2)) 0) 6)))).getD (A.toN x0) 0) (A.nb .xor .u64 (A.nb .xor .u64 (g61r0 A (x7.getD (A.toN (A.ib .sub .i64 x0 15)) 0) (-1)) (g61r0 A (x7.getD (A.toN (A.ib .sub .i64 x0 15)) 0) (-8))) (A.nsh .shr .u64 (x7.getD (A.toN (A.ib .sub .i64 x0 15)) 0) 7))))
                      | false=>none
                    | false=>none
                   | false=>none
                  | false=>none
                | false=>none
              | false=>none
             | false=>none
            | false=>none
          | false=>none
        | false=>none
      | false=>none
    | false=>none
  | false=>none
def g46a_J16s (x0:Int) (x1:List Nat) (x2 x3:Nat) (x4:Int) (x5:Nat) (x6 x7 x8:List Nat):St:=⟨[(0,(pT 0 0)),(4,(pT 1000 0)),(9,(pT 14004 0)),(87,(i6 x0))],[(0,⟨[.nums .u64 88 x1,.one (.sl 1 (some x2) x3 1),.one (.int .i64 x4)],76,1⟩),(1,⟨[.nums .u8 x5 x6],5,2⟩),(1000,(bU 80 x7 74)),(14004,(bU 8 x8 73))]⟩
def g46a_J16 {R:Type} (A:Ar) (n:Nat) (kk:AV→Heap→Option R) (lg46a_L15:Int→List Nat→Nat→Nat→Int→Nat→List Nat→List Nat→List Nat→Option R) (x0:Int) (x1:List Nat) (x2 x3:Nat) (x4:Int) (x5:Nat) (x6 x7 x8:List Nat):Option R :=
 match A.neg x0 with
 | true=>none
 | false=>match A.lt (A.toN x0) 80 with
  | true=>match A.neg x0 with
   | true=>none
   | false=>match A.lt (A.toN x0) 80 with
    | true=>match g61ok A (x8.getD 4 0) (-14) with
     | true=>match g61ok A (x8.getD 4 0) (-18) with
      | true=>match g61ok A (x8.getD 4 0) (-41) with
       | true=>match g61ok A (x8.getD 0 0) (-28) with
        | true=>match g61ok A (x8.getD 0 0) (-34) with
         | true=>match g61ok A (x8.getD 0 0) (-39) with
          | true=>lg46a_L15 (A.ib .add .i64 x0 1) x1 x2 x3 x4 x5 x6 x7 (((((((([0,0,0,0,0,0,0,0].set 0 (A.nb .add .u64 (A.nb .add .u64 (A.nb .add .u64 (A.nb .add .u64 (A.nb .add .u64 (x8.getD 7 0) (x1.getD (8+(A.toN x0)) 0)) (x7.getD (A.toN x0) 0)) (A.nb .xor .u64 (x8.getD 6 0) (A.nb .and .u64 (x8.getD 4 0) (A.nb .xor .u64 (x8.getD 5 0) (x8.getD 6 0))))) (A.nb .xor .u64 (A.nb .xor .u64 (g61r0 A (x8.getD 4 0) (-14)) (g61r0 A (x8.getD 4 0) (-18))) (g61r0 A (x8.getD 4 0) (-41)))) (A.nb .add .u64 (A.nb .or .u64 (A.nb .and .u64 (x8.getD 0 0) (x8.getD 1 0)) (A.nb .and .u64 (x8.getD 2 0) (A.nb .or .u64 (x8.getD 0 0) (x8.getD 1 0)))) (A.nb .xor .u64 (A.nb .xor .u64 (g61r0 A (x8.getD 0 0) (-28)) (g61r0 A (x8.getD 0 0) (-34))) (g61r0 A (x8.getD 0 0) (-39)))))).set 1 (x8.getD 0 0)).set 2 (x8.getD 1 0)).set 3 (x8.getD 2 0)).set 4 (A.nb .add .u64 (x8.getD 3 0) (A.nb .add .u64 (A.nb .add .u64 (A.nb .add .u64 (A.nb .add .u64 (x8.getD 7 0) (x1.getD (8+(A.toN x0)) 0)) (x7.getD (A.toN x0) 0)) (A.nb .xor .u64 (x8.getD 6 0) (A.nb .and .u64 (x8.getD 4 0) (A.nb .xor .u64 (x8.getD 5 0) (x8.getD 6 0))))) (A.nb .xor .u64 (A.nb .xor .u64 (g61r0 A (x8.getD 4 0) (-14)) (g61r0 A (x8.getD 4 0) (-18))) (g61r0 A (x8.getD 4 0) (-41)))))).set 5 (x8.getD 4 0)).set 6 (x8.getD 5 0)).set 7 (x8.getD 6 0))
          | false=>none
         | false=>none
        | false=>none
       | false=>none
      | false=>none
     | false=>none
    | false=>none
  | false=>none
def g46a_J26s (x0:Int) (x1:List Nat) (x2 x3:Nat) (x4:Int) (x5:Nat) (x6 x7:List Nat):St:=⟨[(0,(pT 0 0)),(9,(pT 14004 0)),(171,(i6 x0))],[(0,⟨[.nums .u64 88 x1,.one (.sl 1 (some x2) x3 1),.one (.int .i64 x4)],76,1⟩),(1,⟨[.nums .u8 x5 x6],5,2⟩),(14004,(bU 8 x7 73))]⟩
def g46a_J26 {R:Type} (A:Ar) (n:Nat) (kk:AV→Heap→Option R) (lg46a_L25:Int→List Nat→Nat→Nat→Int→Nat→List Nat→List Nat→Option R) (x0:Int) (x1:List Nat) (x2 x3:Nat) (x4:Int) (x5:Nat) (x6 x7:List Nat):Option R :=
 match A.neg x0 with
 | true=>none
 | false=>match A.lt (A.toN x0) 8 with
  | true=>match A.neg x0 with
   | true=>none
   | false=>match A.lt (A.toN x0) 8 with
    | true=>match A.neg x0 with
     | true=>none
     | false=>match A.lt (A.toN x0) 8 with
      | true=>lg46a_L25 (A.ib .add .i64 x0 1) (x1.set (A.toN x0) (A.nb .add .u64 (x1.getD (A.toN x0) 0) (x7.getD (A.toN x0) 0))) x2 x3 x4 x5 x6 x7
      | false=>none
    | false=>none
  | false=>none
def g46a_L25s (x0:Int) (x1:List Nat) (x2 x3:Nat) (x4:Int) (x5:Nat) (x6 x7:List Nat):St:=⟨[(0,(pT 0 0)),(9,(pT 14004 0)),(171,(i6 x0))],[(0,⟨[.nums .u64 88 x1,.one (.sl 1 (some x2) x3 1),.one (.int .i64 x4)],76,1⟩),(1,⟨[.nums .u8 x5 x6],5,2⟩),(14004,(bU 8 x7 73))]⟩
def g46a_L25 {R:Type} (A:Ar) (n:Nat) (kk:AV→Heap→Option R)  : Nat→Int→List Nat→Nat→Nat→Int→Nat→List Nat→List Nat→Option R
 | 0,_,_,_,_,_,_,_,_=>none
 | m+1,x0,x1,x2,x3,x4,x5,x6,x7=>match A.ic .lss x0 8 with
 | true=>g46a_J26 A n kk (g46a_L25 A n kk  m) x0 x1 x2 x3 x4 x5 x6 x7
 | false=>kk (.tup []) [(0,⟨[.nums .u64 88 x1,.one (.sl 1 (some x2) x3 1),.one (.int .i64 x4)],76,1⟩),(1,⟨[.nums .u8 x5 x6],5,2⟩),(14004,(bU 8 x7 73))]
def g46a_J24s (x0:List Nat) (x1 x2:Nat) (x3:Int) (x4:Nat) (x5 x6:List Nat):St:=⟨[(0,(pT 0 0)),(9,(pT 14004 0))],[(0,⟨[.nums .u64 88 x0,.one (.sl 1 (some x1) x2 1),.one (.int .i64 x3)],76,1⟩),(1,⟨[.nums .u8 x4 x5],5,2⟩),(14004,(bU 8 x6 73))]⟩
def g46a_J24 {R:Type} (A:Ar) (n:Nat) (kk:AV→Heap→Option R)  (x0:List Nat) (x1 x2:Nat) (x3:Int) (x4:Nat) (x5 x6:List Nat):Option R :=
 g46a_L25 A n kk  n 0 x0 x1 x2 x3 x4 x5 x6
def g46a_L15s (x0:Int) (x1:List Nat) (x2 x3:Nat) (x4:Int) (x5:Nat) (x6 x7 x8:List Nat):St:=⟨[(0,(pT 0 0)),(4,(pT 1000 0)),(9,(pT 14004 0)),(87,(i6 x0))],[(0,⟨[.nums .u64 88 x1,.one (.sl 1 (some x2) x3 1),.one (.int .i64 x4)],76,1⟩),(1,⟨[.nums .u8 x5 x6],5,2⟩),(1000,(bU 80 x7 74)),(14004,(bU 8 x8 73))]⟩
def g46a_L15 {R:Type} (A:Ar) (n:Nat) (kk:AV→Heap→Option R)  : Nat→Int→List Nat→Nat→Nat→Int→Nat→List Nat→List Nat→List Nat→Option R
 | 0,_,_,_,_,_,_,_,_,_=>none
 | m+1,x0,x1,x2,x3,x4,x5,x6,x7,x8=>match A.ic .lss x0 80 with
 | true=>g46a_J16 A n kk (g46a_L15 A n kk  m) x0 x1 x2 x3 x4 x5 x6 x7 x8
 | false=>g46a_J24 A n kk  x1 x2 x3 x4 x5 x6 x8
def g46a_J13s (x0:List Nat) (x1 x2:Nat) (x3:Int) (x4:Nat) (x5 x6:List Nat):St:=⟨[(0,(pT 0 0)),(4,(pT 1000 0))],[(0,⟨[.nums .u64 88 x0,.one (.sl 1 (some x1) x2 1),.one (.int .i64 x3)],76,1⟩),(1,⟨[.nums .u8 x4 x5],5,2⟩),(1000,(bU 80 x6 74))]⟩
def g46a_J13 {R:Type} (A:Ar) (n:Nat) (kk:AV→Heap→Option R)  (x0:List Nat) (x1 x2:Nat) (x3:Int) (x4:Nat) (x5 x6:List Nat):Option R :=
 g46a_L15 A n kk  n 0 x0 x1 x2 x3 x4 x5 x6 ((x0.drop 0).take 8)
def g46a_L7s (x0:Int) (x1:List Nat) (x2 x3:Nat) (x4:Int) (x5:Nat) (x6 x7:List Nat):St:=⟨[(0,(pT 0 0)),(4,(pT 1000 0)),(6,(i6 x0))],[(0,⟨[.nums .u64 88 x1,.one (.sl 1 (some x2) x3 1),.one (.int .i64 x4)],76,1⟩),(1,⟨[.nums .u8 x5 x6],5,2⟩),(1000,(bU 80 x7 74))]⟩
def g46a_L7 {R:Type} (A:Ar) (n:Nat) (kk:AV→Heap→Option R)  : Nat→Int→List Nat→Nat→Nat→Int→Nat→List Nat→List Nat→Option R
 | 0,_,_,_,_,_,_,_,_=>none
 | m+1,x0,x1,x2,x3,x4,x5,x6,x7=>match A.ic .lss x0 80 with
 | true=>g46a_J9 A n kk (g46a_L7 A n kk  m) x0 x1 x2 x3 x4 x5 x6 x7
 | false=>g46a_J13 A n kk  x1 x2 x3 x4 x5 x6 x7
def g46a_J6s (x0:List Nat) (x1 x2:Nat) (x3:Int) (x4:Nat) (x5 x6:List Nat):St:=⟨[(0,(pT 0 0)),(4,(pT 1000 0))],[(0,⟨[.nums .u64 88 x0,.one (.sl 1 (some x1) x2 1),.one (.int .i64 x3)],76,1⟩),(1,⟨[.nums .u8 x4 x5],5,2⟩),(1000,(bU 80 x6 74))]⟩
def g46a_J6 {R:Type} (A:Ar) (n:Nat) (kk:AV→Heap→Option R)  (x0:List Nat) (x1 x2:Nat) (x3:Int) (x4:Nat) (x5 x6:List Nat):Option R :=
 g46a_L7 A n kk  n 16 x0 x1 x2 x3 x4 x5 x6
def g46a_L2s (x0 x1:Nat) (x2:Int) (x3:List Nat) (x4 x5:Nat) (x6:Int) (x7:Nat) (x8 x9:List Nat):St:=⟨[(0,(pT 0 0)),(1,(sL 1 (some x0) x1 1)),(4,(pT 1000 0)),(16,(i6 x2))],[(0,⟨[.nums .u64 88 x3,.one (.sl 1 (some x4) x5 1),.one (.int .i64 x6)],76,1⟩),(1,⟨[.nums .u8 x7 x8],5,2⟩),(1000,(bU 80 x9 74))]⟩
def g46a_L2 {R:Type} (A:Ar) (n:Nat) (kk:AV→Heap→Option R)  : Nat→Nat→Nat→Int→List Nat→Nat→Nat→Int→Nat→List Nat→List Nat→Option R
 | 0,_,_,_,_,_,_,_,_,_,_=>none
 | m+1,x0,x1,x2,x3,x4,x5,x6,x7,x8,x9=>match A.ic .lss x2 128 with
 | true=>g46a_J3 A n kk (g46a_L2 A n kk  m) x0 x1 x2 x3 x4 x5 x6 x7 x8 x9
 | false=>g46a_J6 A n kk  x3 x4 x5 x6 x7 x8 x9
def g46a_ {R:Type} (A:Ar) (n:Nat) (kk:AV→Heap→Option R) (x0 x1:Nat) (x2:List Nat) (x3 x4:Nat) (x5:Int) (x6:Nat) (x7:List Nat):Option R :=
 g46a_L2 A n kk  n x0 x1 0 x2 x3 x4 x5 x6 x7 [0,0,0,0,0,0,0,0,0,0,0,0,0,0,0,0,0,0,0,0,0,0,0,0,0,0,0,0,0,0,0,0,0,0,0,0,0,0,0,0,0,0,0,0,0,0,0,0,0,0,0,0,0,0,0,0,0,0,0,0,0,0,0,0,0,0,0,0,0,0,0,0,0,0,0,0,0,0,0,0]
section
variable {R:Type} {A:Ar} {n:Nat} {kk:AV→Heap→Option R} {tb:Nat→List Bool→St→Option R} (st:Stp (g46a_N A kk) tb)
include st
theorem g46a_J3_go {lg46a_L2:Nat→Nat→Int→List Nat→Nat→Nat→Int→Nat→List Nat→List Nat→Option R} (hg46a_L2:∀ (x0 x1:Nat) (x2:Int) (x3:List Nat) (x4 x5:Nat) (x6:Int) (x7:Nat) (x8 x9:List Nat),Prs (fun k=>tb k (pth 52) (g46a_L2s x0 x1 x2 x3 x4 x5 x6 x7 x8 x9)) (lg46a_L2 x0 x1 x2 x3 x4 x5 x6 x7 x8 x9)) {x0:Nat} {x1:Nat} {x2:Int} {x3:List Nat} {x4:Nat} {x5:Nat} {x6:Int} {x7:Nat} {x8:List Nat} {x9:List Nat}:Prs (fun k=>tb k (pth 211) (g46a_J3s x0 x1 x2 x3 x4 x5 x6 x7 x8 x9)) (g46a_J3 A n kk lg46a_L2 x0 x1 x2 x3 x4 x5 x6 x7 x8 x9):=by
  unfold g46a_J3
  exact st.g (pc (SxY06spi _ pn (SxY06spi _ (SxY06spi _ pn (SxY06spi _ (SxY06spi _ pn (SxY06spi _ (hg46a_L2 _ _ _ _ _ _ _ _ _ _) pn)) pn)) pn)) (by kernel_rfl))
theorem g46a_J9_go {lg46a_L7:Int→List Nat→Nat→Nat→Int→Nat→List Nat→List Nat→Option R} (hg46a_L7:∀ (x0:Int) (x1:List Nat) (x2 x3:Nat) (x4:Int) (x5:Nat) (x6 x7:List Nat),Prs (fun k=>tb k (pth 116) (g46a_L7s x0 x1 x2 x3 x4 x5 x6 x7)) (lg46a_L7 x0 x1 x2 x3 x4 x5 x6 x7)) {x0:Int} {x1:List Nat} {x2:Nat} {x3:Nat} {x4:Int} {x5:Nat} {x6:List Nat} {x7:List Nat}:Prs (fun k=>tb k (pth 233) (g46a_J9s x0 x1 x2 x3 x4 x5 x6 x7)) (g46a_J9 A n kk lg46a_L7 x0 x1 x2 x3 x4 x5 x6 x7):=by
  unfold g46a_J9
  exact st.g (pc (SxY06spi _ pn (SxY06spi _ (SxY06spi _ pn (SxY06spi _ (SxY06spi _ pn (SxY06spi _ (SxY06spi _ pn (SxY06spi _ (SxY06spi _ pn (SxY06spi _ (SxY06spi _ pn (SxY06spi _ (SxY06spi _ (SxY06spi _ (SxY06spi _ pn (SxY06spi _ (SxY06spi _ pn (SxY06spi _ (SxY06spi _ (SxY06spi _ (SxY06spi _ pn (SxY06spi _ (hg46a_L7 _ _ _ _ _ _ _ _) pn)) pn) pn) pn)) pn)) pn) pn) pn)) pn)) pn)) pn)) pn)) pn)) (by kernel_rfl))
theorem g46a_J16_go {lg46a_L15:Int→List Nat→Nat→Nat→Int→Nat→List Nat→List Nat→List Nat→Option R} (hg46a_L15:∀ (x0:Int) (x1:List Nat) (x2 x3:Nat) (x4:Int) (x5:Nat) (x6 x7 x8:List Nat),Prs (fun k=>tb k (pth 500) (g46a_L15s x0 x1 x2 x3 x4 x5 x6 x7 x8)) (lg46a_L15 x0 x1 x2 x3 x4 x5 x6 x7 x8)) {x0:Int} {x1:List Nat} {x2:Nat} {x3:Nat} {x4:Int} {x5:Nat} {x6:List Nat} {x7:List Nat} {x8:List Nat}:Prs (fun k=>tb k (pth 2003) (g46a_J16s x0 x1 x2 x3 x4 x5 x6 x7 x8)) (g46a_J16 A n kk lg46a_L15 x0 x1 x2 x3 x4 x5 x6 x7 x8):=by
  unfold g46a_J16
  exact st.g (pc (SxY06spi _ pn (SxY06spi _ (SxY06spi _ pn (SxY06spi _ (SxY06spi _ (SxY06spi _ (SxY06spi _ (SxY06spi _ (SxY06spi _ (SxY06spi _ (hg46a_L15 _ _ _ _ _ _ _ _ _) pn) pn) pn) pn) pn) pn) pn)) pn)) (by kernel_rfl))
theorem g46a_J26_go {lg46a_L25:Int→List Nat→Nat→Nat→Int→Nat→List Nat→List Nat→Option R} (hg46a_L25:∀ (x0:Int) (x1:List Nat) (x2 x3:Nat) (x4:Int) (x5:Nat) (x6 x7:List Nat),Prs (fun k=>tb k (pth 508) (g46a_L25s x0 x1 x2 x3 x4 x5 x6 x7)) (lg46a_L25 x0 x1 x2 x3 x4 x5 x6 x7)) {x0:Int} {x1:List Nat} {x2:Nat} {x3:Nat} {x4:Int} {x5:Nat} {x6:List Nat} {x7:List Nat}:Prs (fun k=>tb k (pth 2035) (g46a_J26s x0 x1 x2 x3 x4 x5 x6 x7)) (g46a_J26 A n kk lg46a_L25 x0 x1 x2 x3 x4 x5 x6 x7):=by
  unfold g46a_J26
  exact st.g (pc (SxY06spi _ pn (SxY06spi _ (SxY06spi _ pn (SxY06spi _ (SxY06spi _ pn (SxY06spi _ (hg46a_L25 _ _ _ _ _ _ _ _) pn)) pn)) pn)) (by kernel_rfl))
theorem g46a_L25_go (m:Nat):∀ (x0:Int) (x1:List Nat) (x2 x3:Nat) (x4:Int) (x5:Nat) (x6 x7:List Nat),Prs (fun k=>tb k (pth 508) (g46a_L25s x0 x1 x2 x3 x4 x5 x6 x7)) (g46a_L25 A n kk m x0 x1 x2 x3 x4 x5 x6 x7):=by
  induction m with
  | zero=>intro x0 x1 x2 x3 x4 x5 x6 x7; exact pn0
  | succ m ih =>
    intro x0 x1 x2 x3 x4 x5 x6 x7; rw [g46a_L25]
    exact st.g (pc (SxY06spi _ (g46a_J26_go st ih) (pf _)) (by kernel_rfl))
theorem g46a_J24_go {x0:List Nat} {x1:Nat} {x2:Nat} {x3:Int} {x4:Nat} {x5:List Nat} {x6:List Nat}:Prs (fun k=>tb k (pth 63) (g46a_J24s x0 x1 x2 x3 x4 x5 x6)) (g46a_J24 A n kk x0 x1 x2 x3 x4 x5 x6):=by
  unfold g46a_J24
  exact st.g (pc (g46a_L25_go st n _ _ _ _ _ _ _ _) (by kernel_rfl))
theorem g46a_L15_go (m:Nat):∀ (x0:Int) (x1:List Nat) (x2 x3:Nat) (x4:Int) (x5:Nat) (x6 x7 x8:List Nat),Prs (fun k=>tb k (pth 500) (g46a_L15s x0 x1 x2 x3 x4 x5 x6 x7 x8)) (g46a_L15 A n kk m x0 x1 x2 x3 x4 x5 x6 x7 x8):=by
  induction m with
  | zero=>intro x0 x1 x2 x3 x4 x5 x6 x7 x8; exact pn0
  | succ m ih =>
    intro x0 x1 x2 x3 x4 x5 x6 x7 x8; rw [g46a_L15]
    exact st.g (pc (SxY06spi _ (g46a_J16_go st ih) (g46a_J24_go st)) (by kernel_rfl))
theorem g46a_J13_go {x0:List Nat} {x1:Nat} {x2:Nat} {x3:Int} {x4:Nat} {x5:List Nat} {x6:List Nat}:Prs (fun k=>tb k (pth 15) (g46a_J13s x0 x1 x2 x3 x4 x5 x6)) (g46a_J13 A n kk x0 x1 x2 x3 x4 x5 x6):=by
  unfold g46a_J13
  exact st.g (pc (g46a_L15_go st n _ _ _ _ _ _ _ _ _) (by kernel_rfl))
theorem g46a_L7_go (m:Nat):∀ (x0:Int) (x1:List Nat) (x2 x3:Nat) (x4:Int) (x5:Nat) (x6 x7:List Nat),Prs (fun k=>tb k (pth 116) (g46a_L7s x0 x1 x2 x3 x4 x5 x6 x7)) (g46a_L7 A n kk m x0 x1 x2 x3 x4 x5 x6 x7):=by
  induction m with
  | zero=>intro x0 x1 x2 x3 x4 x5 x6 x7; exact pn0
  | succ m ih =>
    intro x0 x1 x2 x3 x4 x5 x6 x7; rw [g46a_L7]
    exact st.g (pc (SxY06spi _ (g46a_J9_go st ih) (g46a_J13_go st)) (by kernel_rfl))
theorem g46a_J6_go {x0:List Nat} {x1:Nat} {x2:Nat} {x3:Int} {x4:Nat} {x5:List Nat} {x6:List Nat}:Prs (fun k=>tb k (pth 7) (g46a_J6s x0 x1 x2 x3 x4 x5 x6)) (g46a_J6 A n kk x0 x1 x2 x3 x4 x5 x6):=by
  unfold g46a_J6
  exact st.g (pc (g46a_L7_go st n _ _ _ _ _ _ _ _) (by kernel_rfl))
theorem g46a_L2_go (m:Nat):∀ (x0 x1:Nat) (x2:Int) (x3:List Nat) (x4 x5:Nat) (x6:Int) (x7:Nat) (x8 x9:List Nat),Prs (fun k=>tb k (pth 52) (g46a_L2s x0 x1 x2 x3 x4 x5 x6 x7 x8 x9)) (g46a_L2 A n kk m x0 x1 x2 x3 x4 x5 x6 x7 x8 x9):=by
  induction m with
  | zero=>intro x0 x1 x2 x3 x4 x5 x6 x7 x8 x9; exact pn0
  | succ m ih =>
    intro x0 x1 x2 x3 x4 x5 x6 x7 x8 x9; rw [g46a_L2]
    exact st.g (pc (SxY06spi _ (g46a_J3_go st ih) (g46a_J6_go st)) (by kernel_rfl))
theorem g46a__go {x0:Nat} {x1:Nat} {x2:List Nat} {x3:Nat} {x4:Nat} {x5:Int} {x6:Nat} {x7:List Nat}:Prs (fun k=>funN A gtys (g46a_O A) g46a_an g46a_cut (bodyOf Try.f46) g46a_res [(pT 0 0),(sL 1 (some x0) x1 1)] [(0,⟨[.nums .u64 88 x2,.one (.sl 1 (some x3) x4 1),.one (.int .i64 x5)],76,1⟩),(1,⟨[.nums .u8 x6 x7],5,2⟩)] kk (tb k)) (g46a_ A n kk x0 x1 x2 x3 x4 x5 x6 x7):=by
  unfold g46a_
  exact pc (g46a_L2_go st n _ _ _ _ _ _ _ _ _ _) (by kernel_rfl)
end
def g46a_is (o:Option (AV × Heap)):Bool:=match o with
 | some (.tup [],[(n0,⟨[.nums .u64 n1 _,.one (.sl n2 (some _) _ n3),.one (.int .i64 _)],n4,n5⟩),(n6,⟨[.nums .u8 _ _],n7,n8⟩)])=>Nat.beq n0 0&&(Nat.beq n1 88&&(Nat.beq n2 1&&(Nat.beq n3 1&&(Nat.beq n4 76&&(Nat.beq n5 1&&(Nat.beq n6 1&&(Nat.beq n7 5&&(Nat.beq n8 2))))))))
 | _=>false
def g46a_g0 (o:Option (AV × Heap)):List Nat:=match o with
 | some (.tup [],[(_,⟨[.nums .u64 _ x,.one (.sl _ (some _) _ _),.one (.int .i64 _)],_,_⟩),(_,⟨[.nums .u8 _ _],_,_⟩)])=>x
 | _=>[]
def g46a_g1 (o:Option (AV × Heap)):Nat:=match o with
 | some (.tup [],[(_,⟨[.nums .u64 _ _,.one (.sl _ (some x) _ _),.one (.int .i64 _)],_,_⟩),(_,⟨[.nums .u8 _ _],_,_⟩)])=>x
 | _=>0
def g46a_g2 (o:Option (AV × Heap)):Nat:=match o with
 | some (.tup [],[(_,⟨[.nums .u64 _ _,.one (.sl _ (some _) x _),.one (.int .i64 _)],_,_⟩),(_,⟨[.nums .u8 _ _],_,_⟩)])=>x
 | _=>0
def g46a_g3 (o:Option (AV × Heap)):Int:=match o with
 | some (.tup [],[(_,⟨[.nums .u64 _ _,.one (.sl _ (some _) _ _),.one (.int .i64 x)],_,_⟩),(_,⟨[.nums .u8 _ _],_,_⟩)])=>x
 | _=>0
def g46a_g4 (o:Option (AV × Heap)):Nat:=match o with
 | some (.tup [],[(_,⟨[.nums .u64 _ _,.one (.sl _ (some _) _ _),.one (.int .i64 _)],_,_⟩),(_,⟨[.nums .u8 x _],_,_⟩)])=>x
 | _=>0
def g46a_g5 (o:Option (AV × Heap)):List Nat:=match o with
 | some (.tup [],[(_,⟨[.nums .u64 _ _,.one (.sl _ (some _) _ _),.one (.int .i64 _)],_,_⟩),(_,⟨[.nums .u8 _ x],_,_⟩)])=>x
 | _=>[]
theorem g46a_is_spec {o:Option (AV × Heap)} (h:g46a_is o=true):o=some ((.tup []),[(0,⟨[.nums .u64 88 (g46a_g0 o),.one (.sl 1 (some (g46a_g1 o)) (g46a_g2 o) 1),.one (.int .i64 (g46a_g3 o))],76,1⟩),(1,⟨[.nums .u8 (g46a_g4 o) (g46a_g5 o)],5,2⟩)]):=by
  unfold g46a_is at h
  split at h
  · rename_i n0 n1 z2 n2 z4 z5 n3 z7 n4 n5 n6 z11 z12 n7 n8
    simp only [Bool.and_eq_true] at h
    have en0:=beq_true h.1
    subst en0
    replace h:=h.2
    have en1:=beq_true h.1
    subst en1
    replace h:=h.2
    have en2:=beq_true h.1
    subst en2
    replace h:=h.2
    have en3:=beq_true h.1
    subst en3
    replace h:=h.2
    have en4:=beq_true h.1
    subst en4
    replace h:=h.2
    have en5:=beq_true h.1
    subst en5
    replace h:=h.2
    have en6:=beq_true h.1
    subst en6
    replace h:=h.2
    have en7:=beq_true h.1
    subst en7
    replace h:=h.2
    have en8:=beq_true h
    subst en8
    rfl
  · cases h
def g46a_v (A:Ar) (x0 x1:Nat) (x2:List Nat) (x3 x4:Nat) (x5:Int) (x6:Nat) (x7:List Nat):Option (AV × Heap):=g46a_ A (100000) (outH [0,1] none) x0 x1 x2 x3 x4 x5 x6 x7
def g46a_ok (A:Ar) (x0 x1:Nat) (x2:List Nat) (x3 x4:Nat) (x5:Int) (x6:Nat) (x7:List Nat):Bool:=g46a_is (g46a_v A x0 x1 x2 x3 x4 x5 x6 x7)
def g46a_r0 (A:Ar) (x0 x1:Nat) (x2:List Nat) (x3 x4:Nat) (x5:Int) (x6:Nat) (x7:List Nat):List Nat:=g46a_g0 (g46a_v A x0 x1 x2 x3 x4 x5 x6 x7)
def g46a_r1 (A:Ar) (x0 x1:Nat) (x2:List Nat) (x3 x4:Nat) (x5:Int) (x6:Nat) (x7:List Nat):Nat:=g46a_g1 (g46a_v A x0 x1 x2 x3 x4 x5 x6 x7)
def g46a_r2 (A:Ar) (x0 x1:Nat) (x2:List Nat) (x3 x4:Nat) (x5:Int) (x6:Nat) (x7:List Nat):Nat:=g46a_g2 (g46a_v A x0 x1 x2 x3 x4 x5 x6 x7)
def g46a_r3 (A:Ar) (x0 x1:Nat) (x2:List Nat) (x3 x4:Nat) (x5:Int) (x6:Nat) (x7:List Nat):Int:=g46a_g3 (g46a_v A x0 x1 x2 x3 x4 x5 x6 x7)
def g46a_r4 (A:Ar) (x0 x1:Nat) (x2:List Nat) (x3 x4:Nat) (x5:Int) (x6:Nat) (x7:List Nat):Nat:=g46a_g4 (g46a_v A x0 x1 x2 x3 x4 x5 x6 x7)
def g46a_r5 (A:Ar) (x0 x1:Nat) (x2:List Nat) (x3 x4:Nat) (x5:Int) (x6:Nat) (x7:List Nat):List Nat:=g46a_g5 (g46a_v A x0 x1 x2 x3 x4 x5 x6 x7)
theorem g46a_ok_spec {A:Ar} {x0 x1 x2 x3 x4 x5 x6 x7} (h:g46a_ok A x0 x1 x2 x3 x4 x5 x6 x7=true):g46a_v A x0 x1 x2 x3 x4 x5 x6 x7=some ((.tup []),[(0,⟨[.nums .u64 88 (g46a_r0 A x0 x1 x2 x3 x4 x5 x6 x7),.one (.sl 1 (some (g46a_r1 A x0 x1 x2 x3 x4 x5 x6 x7)) (g46a_r2 A x0 x1 x2 x3 x4 x5 x6 x7) 1),.one (.int .i64 (g46a_r3 A x0 x1 x2 x3 x4 x5 x6 x7))],76,1⟩),(1,⟨[.nums .u8 (g46a_r4 A x0 x1 x2 x3 x4 x5 x6 x7) (g46a_r5 A x0 x1 x2 x3 x4 x5 x6 x7)],5,2⟩)]):=g46a_is_spec h
def g46a_o (A:Ar) (args:List AV) (h:Heap):Option (Bool × AV × Heap):=match args,h with
 | [.v (.cell (.ptr n0 n1 none)),.v (.cell (.sl n2 (some x0) x1 n3))],[(n4,⟨[.nums .u64 n5 x2,.one (.sl n6 (some x3) x4 n7),.one (.int .i64 x5)],n8,n9⟩),(n10,⟨[.nums .u8 x6 x7],n11,n12⟩)]=>match Nat.beq n0 0&&(Nat.beq n1 0&&(Nat.beq n2 1&&(Nat.beq n3 1&&(Nat.beq n4 0&&(Nat.beq n5 88&&(Nat.beq n6 1&&(Nat.beq n7 1&&(Nat.beq n8 76&&(Nat.beq n9 1&&(Nat.beq n10 1&&(Nat.beq n11 5&&(Nat.beq n12 2)))))))))))) with
  | true=>some (g46a_ok A x0 x1 x2 x3 x4 x5 x6 x7,(.tup []),[(0,⟨[.nums .u64 88 (g46a_r0 A x0 x1 x2 x3 x4 x5 x6 x7),.one (.sl 1 (some (g46a_r1 A x0 x1 x2 x3 x4 x5 x6 x7)) (g46a_r2 A x0 x1 x2 x3 x4 x5 x6 x7) 1),.one (.int .i64 (g46a_r3 A x0 x1 x2 x3 x4 x5 x6 x7))],76,1⟩),(1,⟨[.nums .u8 (g46a_r4 A x0 x1 x2 x3 x4 x5 x6 x7) (g46a_r5 A x0 x1 x2 x3 x4 x5 x6 x7)],5,2⟩)])
  | false=>none
 | _,_=>none
theorem g46a_o_sound:∀ args h v h',g46a_o realA args h=some (true,v,h')→FnH Try.prog 46 args h v h':=by
  intro args h v h' hh
  unfold g46a_o at hh
  split at hh
  · rename_i n0 n1 n2 x0 x1 n3 n4 n5 x2 n6 x3 x4 n7 x5 n8 n9 n10 x6 x7 n11 n12
    split at hh
    case h_2=>cases hh
    rename_i hc0
    simp only [Option.some.injEq,Prod.mk.injEq] at hh
    obtain ⟨hc,hv,hh⟩:=hh
    subst hv
    subst hh
    simp only [Bool.and_eq_true] at hc0
    have en0:=beq_true hc0.1
    subst en0
    replace hc0:=hc0.2
    have en1:=beq_true hc0.1
    subst en1
    replace hc0:=hc0.2
    have en2:=beq_true hc0.1
    subst en2
    replace hc0:=hc0.2
    have en3:=beq_true hc0.1
    subst en3
    replace hc0:=hc0.2
    have en4:=beq_true hc0.1
    subst en4
    replace hc0:=hc0.2
    have en5:=beq_true hc0.1
    subst en5
    replace hc0:=hc0.2
    have en6:=beq_true hc0.1
    subst en6
    replace hc0:=hc0.2
    have en7:=beq_true hc0.1
    subst en7
    replace hc0:=hc0.2
    have en8:=beq_true hc0.1
    subst en8
    replace hc0:=hc0.2
    have en9:=beq_true hc0.1
    subst en9
    replace hc0:=hc0.2
    have en10:=beq_true hc0.1
    subst en10
    replace hc0:=hc0.2
    have en11:=beq_true hc0.1
    subst en11
    replace hc0:=hc0.2
    have en12:=beq_true hc0
    subst en12
    exact fnh_ofG mixed gtysOK g46a_O_sound g46a_O_det (an:=g46a_an) (cut:=g46a_cut) Try.func46 (c:=bodyOf Try.f46) rfl (by kernel_rfl) Try.call46 (Nat.le_of_ble_eq_true rfl) (pins:=[0,1]) (nilr:=none) (fun _=>(show g46a_v realA x0 x1 x2 x3 x4 x5 x6 x7=_ from g46a_ok_spec hc)) fun _ st=>g46a__go st
  · cases hh
attribute [local irreducible] g46a_ok g46a_r0 g46a_r1 g46a_r2 g46a_r3 g46a_r4 g46a_r5
def g26O (A:Ar):Orc:=orcH [] [(46,⟨[],none,(ho2 (g46o A) (g46a_o A))⟩)]
theorem g26O_sound:OSound Try.prog (g26O realA):=orcH_sound (fun f g hm args v hv=>by
    cases hm) (fun f e hm args h v h' hv=>by
    simp only [List.mem_cons,List.not_mem_nil,or_false,Prod.mk.injEq] at hm
    rcases hm with ⟨rfl,rfl⟩
    · exact (ho2_sound g46o_sound g46a_o_sound) _ _ _ _ hv)
theorem g26O_det:ODet (g26O realA):=orcH_det _ _
def g26an:Ann:=[(0,([0,1],[0,501])),(1,([0,1],[0,501])),(2,([0],[0,501])),(3,([0],[0,501])),(4,([0],[0,501]))]
def g26res:List ResultVar:=[]
def g26cut:List Nat:=[3]
noncomputable def g26N {R:Type} (A:Ar) (kk:AV→Heap→Option R) (t:List Bool→St→Option R) (p:List Bool) (s:St):Option R:=nodeN A gtys (g26O A) g26an g26cut t (bodyOf Try.f26) (finD gtys g26res kk) p s
def g26J3as (x0:List Nat) (x1 x2:Nat) (x3:Int) (x4:Nat) (x5:List Nat):St:=⟨[(0,(pT 0 0))],[(0,⟨[.nums .u64 88 x0,.one (.sl 501 (some x1) x2 1),.one (.int .i64 x3)],76,1⟩),(501,⟨[.nums .u8 x4 x5],5,2⟩)]⟩
def g26J3a {R:Type} (A:Ar) (n:Nat) (kk:AV→Heap→Option R) (lg26L2a:List Nat→Nat→Nat→Int→Nat→List Nat→Option R) (x0:List Nat) (x1 x2:Nat) (x3:Int) (x4:Nat) (x5:List Nat):Option R :=
 match A.le 128 x2 with
 | true=>match g46a_ok A x1 128 x0 x1 x2 x3 x4 x5 with
  | true=>match A.le 128 (g46a_r2 A x1 128 x0 x1 x2 x3 x4 x5) with
   | true=>lg26L2a (g46a_r0 A x1 128 x0 x1 x2 x3 x4 x5) ((g46a_r1 A x1 128 x0 x1 x2 x3 x4 x5)+128) ((g46a_r2 A x1 128 x0 x1 x2 x3 x4 x5) - 128) (g46a_r3 A x1 128 x0 x1 x2 x3 x4 x5) (g46a_r4 A x1 128 x0 x1 x2 x3 x4 x5) (g46a_r5 A x1 128 x0 x1 x2 x3 x4 x5)
   | false=>none
  | false=>none
 | false=>none
def g26L2as (x0:List Nat) (x1 x2:Nat) (x3:Int) (x4:Nat) (x5:List Nat):St:=⟨[(0,(pT 0 0))],[(0,⟨[.nums .u64 88 x0,.one (.sl 501 (some x1) x2 1),.one (.int .i64 x3)],76,1⟩),(501,⟨[.nums .u8 x4 x5],5,2⟩)]⟩
def g26L2a {R:Type} (A:Ar) (n:Nat) (kk:AV→Heap→Option R)  : Nat→List Nat→Nat→Nat→Int→Nat→List Nat→Option R
 | 0,_,_,_,_,_,_=>none
 | m+1,x0,x1,x2,x3,x4,x5=>match A.ic .geq (A.ofN x2) 128 with
 | true=>g26J3a A n kk (g26L2a A n kk  m) x0 x1 x2 x3 x4 x5
 | false=>kk (.tup []) [(0,⟨[.nums .u64 88 x0,.one (.sl 501 (some x1) x2 1),.one (.int .i64 x3)],76,1⟩),(501,⟨[.nums .u8 x4 x5],5,2⟩)]
def g26J3s (x0:List Nat) (x1:Nat) (x2:Int) (x3:Nat) (x4:List Nat):St:=⟨[(0,(pT 0 0))],[(0,⟨[.nums .u64 88 x0,.one (.sl 501 none x1 1),.one (.int .i64 x2)],76,1⟩),(501,⟨[.nums .u8 x3 x4],5,2⟩)]⟩
def g26J3 {R:Type} (A:Ar) (n:Nat) (kk:AV→Heap→Option R) (lg26L2a:List Nat→Nat→Nat→Int→Nat→List Nat→Option R) (x0:List Nat) (x1:Nat) (x2:Int) (x3:Nat) (x4:List Nat):Option R :=
 match A.le 128 x1 with
 | true=>match g46ok A 128 x0 x1 x2 x3 x4 with
  | true=>match A.le 128 (g46r1 A 128 x0 x1 x2 x3 x4) with
   | true=>lg26L2a (g46r0 A 128 x0 x1 x2 x3 x4) 128 ((g46r1 A 128 x0 x1 x2 x3 x4) - 128) (g46r2 A 128 x0 x1 x2 x3 x4) (g46r3 A 128 x0 x1 x2 x3 x4) (g46r4 A 128 x0 x1 x2 x3 x4)
   | false=>none
  | false=>none
 | false=>none
def g26L2s (x0:List Nat) (x1:Nat) (x2:Int) (x3:Nat) (x4:List Nat):St:=⟨[(0,(pT 0 0))],[(0,⟨[.nums .u64 88 x0,.one (.sl 501 none x1 1),.one (.int .i64 x2)],76,1⟩),(501,⟨[.nums .u8 x3 x4],5,2⟩)]⟩
def g26L2 {R:Type} (A:Ar) (n:Nat) (kk:AV→Heap→Option R)  : Nat→List Nat→Nat→Int→Nat→List Nat→Option R
 | 0,_,_,_,_,_=>none
 | m+1,x0,x1,x2,x3,x4=>match A.ic .geq (A.ofN x1) 128 with
 | true=>g26J3 A n kk (g26L2a A n kk  m) x0 x1 x2 x3 x4
 | false=>kk (.tup []) [(0,⟨[.nums .u64 88 x0,.one (.sl 501 none x1 1),.one (.int .i64 x2)],76,1⟩),(501,⟨[.nums .u8 x3 x4],5,2⟩)]
def g26 {R:Type} (A:Ar) (n:Nat) (kk:AV→Heap→Option R) (x0 x1:List Nat) (x2 x3:Nat) (x4:Int) (x5:Nat) (x6:List Nat):Option R :=
 match A.eq (x2+x3) (x5+0) with
 | true=>match A.le ((x6.drop x2++x0).length) 140737488355328 with
  | true=>g26L2 A n kk  n x1 ((x6.drop x2++x0).length) (A.ib .add .i64 x4 (A.ofN x0.length)) ((x6.drop x2++x0).length) (x6.drop x2++x0)
  | false=>none
 | false=>none
section
variable {R:Type} {A:Ar} {n:Nat} {kk:AV→Heap→Option R} {tb:Nat→List Bool→St→Option R} (st:Stp (g26N A kk) tb)
include st
theorem g26J3a_go {lg26L2a:List Nat→Nat→Nat→Int→Nat→List Nat→Option R} (hg26L2a:∀ (x0:List Nat) (x1 x2:Nat) (x3:Int) (x4:Nat) (x5:List Nat),Prs (fun k=>tb k (pth 28) (g26L2as x0 x1 x2 x3 x4 x5)) (lg26L2a x0 x1 x2 x3 x4 x5)) {x0:List Nat} {x1:Nat} {x2:Nat} {x3:Int} {x4:Nat} {x5:List Nat}:Prs (fun k=>tb k (pth 57) (g26J3as x0 x1 x2 x3 x4 x5)) (g26J3a A n kk lg26L2a x0 x1 x2 x3 x4 x5):=by
  unfold g26J3a
  exact st.g (pc (SxY06spi _ (SxY06spi _ (SxY06spi _ (hg26L2a _ _ _ _ _ _) pn) pn) pn) (by kernel_rfl))
theorem g26L2a_go (m:Nat):∀ (x0:List Nat) (x1 x2:Nat) (x3:Int) (x4:Nat) (x5:List Nat),Prs (fun k=>tb k (pth 28) (g26L2as x0 x1 x2 x3 x4 x5)) (g26L2a A n kk m x0 x1 x2 x3 x4 x5):=by
  induction m with
  | zero=>intro x0 x1 x2 x3 x4 x5; exact pn0
  | succ m ih =>
    intro x0 x1 x2 x3 x4 x5; rw [g26L2a]
    exact st.g (pc (SxY06spi _ (g26J3a_go st ih) (pf _)) (by kernel_rfl))
theorem g26J3_go {lg26L2a:List Nat→Nat→Nat→Int→Nat→List Nat→Option R} (hg26L2a:∀ (x0:List Nat) (x1 x2:Nat) (x3:Int) (x4:Nat) (x5:List Nat),Prs (fun k=>tb k (pth 28) (g26L2as x0 x1 x2 x3 x4 x5)) (lg26L2a x0 x1 x2 x3 x4 x5)) {x0:List Nat} {x1:Nat} {x2:Int} {x3:Nat} {x4:List Nat}:Prs (fun k=>tb k (pth 57) (g26J3s x0 x1 x2 x3 x4)) (g26J3 A n kk lg26L2a x0 x1 x2 x3 x4):=by
  unfold g26J3
  exact st.g (pc (SxY06spi _ (SxY06spi _ (SxY06spi _ (hg26L2a _ _ _ _ _ _) pn) pn) pn) (by kernel_rfl))
theorem g26L2_go (m:Nat):∀ (x0:List Nat) (x1:Nat) (x2:Int) (x3:Nat) (x4:List Nat),Prs (fun k=>tb k (pth 28) (g26L2s x0 x1 x2 x3 x4)) (g26L2 A n kk m x0 x1 x2 x3 x4):=by
  induction m with
  | zero=>intro x0 x1 x2 x3 x4; exact pn0
  | succ m ih =>
    intro x0 x1 x2 x3 x4; rw [g26L2]
    exact st.g (pc (SxY06spi _ (g26J3_go st (g26L2a_go st m)) (pf _)) (by kernel_rfl))
theorem g26_go {x0:List Nat} {x1:List Nat} {x2:Nat} {x3:Nat} {x4:Int} {x5:Nat} {x6:List Nat}:Prs (fun k=>funN A gtys (g26O A) g26an g26cut (bodyOf Try.f26) g26res [(pT 0 0),(tS x0)] [(0,⟨[.nums .u64 88 x1,.one (.sl 501 (some x2) x3 1),.one (.int .i64 x4)],76,1⟩),(501,⟨[.nums .u8 x5 x6],5,2⟩)] kk (tb k)) (g26 A n kk x0 x1 x2 x3 x4 x5 x6):=by
  unfold g26
  exact pc (SxY06spi _ (SxY06spi _ (g26L2_go st n _ _ _ _ _) pn) pn) (by kernel_rfl)
end
def g26is (o:Option (AV × Heap)):Bool:=match o with
 | some (.tup [],[(n0,⟨[.nums .u64 n1 _,.one (.sl n2 (some _) _ n3),.one (.int .i64 _)],n4,n5⟩),(n6,⟨[.nums .u8 _ _],n7,n8⟩)])=>Nat.beq n0 0&&(Nat.beq n1 88&&(Nat.beq n2 501&&(Nat.beq n3 1&&(Nat.beq n4 76&&(Nat.beq n5 1&&(Nat.beq n6 501&&(Nat.beq n7 5&&(Nat.beq n8 2))))))))
 | _=>false
def g26g0 (o:Option (AV × Heap)):List Nat:=match o with
 | some (.tup [],[(_,⟨[.nums .u64 _ x,.one (.sl _ (some _) _ _),.one (.int .i64 _)],_,_⟩),(_,⟨[.nums .u8 _ _],_,_⟩)])=>x
 | _=>[]
def g26g1 (o:Option (AV × Heap)):Nat:=match o with
 | some (.tup [],[(_,⟨[.nums .u64 _ _,.one (.sl _ (some x) _ _),.one (.int .i64 _)],_,_⟩),(_,⟨[.nums .u8 _ _],_,_⟩)])=>x
 | _=>0
def g26g2 (o:Option (AV × Heap)):Nat:=match o with
 | some (.tup [],[(_,⟨[.nums .u64 _ _,.one (.sl _ (some _) x _),.one (.int .i64 _)],_,_⟩),(_,⟨[.nums .u8 _ _],_,_⟩)])=>x
 | _=>0
def g26g3 (o:Option (AV × Heap)):Int:=match o with
 | some (.tup [],[(_,⟨[.nums .u64 _ _,.one (.sl _ (some _) _ _),.one (.int .i64 x)],_,_⟩),(_,⟨[.nums .u8 _ _],_,_⟩)])=>x
 | _=>0
def g26g4 (o:Option (AV × Heap)):Nat:=match o with
 | some (.tup [],[(_,⟨[.nums .u64 _ _,.one (.sl _ (some _) _ _),.one (.int .i64 _)],_,_⟩),(_,⟨[.nums .u8 x _],_,_⟩)])=>x
 | _=>0
def g26g5 (o:Option (AV × Heap)):List Nat:=match o with
 | some (.tup [],[(_,⟨[.nums .u64 _ _,.one (.sl _ (some _) _ _),.one (.int .i64 _)],_,_⟩),(_,⟨[.nums .u8 _ x],_,_⟩)])=>x
 | _=>[]
theorem g26is_spec {o:Option (AV × Heap)} (h:g26is o=true):o=some ((.tup []),[(0,⟨[.nums .u64 88 (g26g0 o),.one (.sl 501 (some (g26g1 o)) (g26g2 o) 1),.one (.int .i64 (g26g3 o))],76,1⟩),(501,⟨[.nums .u8 (g26g4 o) (g26g5 o)],5,2⟩)]):=by
  unfold g26is at h
  split at h
  · rename_i n0 n1 z2 n2 z4 z5 n3 z7 n4 n5 n6 z11 z12 n7 n8
    simp only [Bool.and_eq_true] at h
    have en0:=beq_true h.1
    subst en0
    replace h:=h.2
    have en1:=beq_true h.1
    subst en1
    replace h:=h.2
    have en2:=beq_true h.1
    subst en2
    replace h:=h.2
    have en3:=beq_true h.1
    subst en3
    replace h:=h.2
    have en4:=beq_true h.1
    subst en4
    replace h:=h.2
    have en5:=beq_true h.1
    subst en5
    replace h:=h.2
    have en6:=beq_true h.1
    subst en6
    replace h:=h.2
    have en7:=beq_true h.1
    subst en7
    replace h:=h.2
    have en8:=beq_true h
    subst en8
    rfl
  · cases h
def g26v (A:Ar) (x0 x1:List Nat) (x2 x3:Nat) (x4:Int) (x5:Nat) (x6:List Nat):Option (AV × Heap):=g26 A (100000) (outN [501,600] [0,501] none) x0 x1 x2 x3 x4 x5 x6
def g26ok (A:Ar) (x0 x1:List Nat) (x2 x3:Nat) (x4:Int) (x5:Nat) (x6:List Nat):Bool:=g26is (g26v A x0 x1 x2 x3 x4 x5 x6)
def g26r0 (A:Ar) (x0 x1:List Nat) (x2 x3:Nat) (x4:Int) (x5:Nat) (x6:List Nat):List Nat:=g26g0 (g26v A x0 x1 x2 x3 x4 x5 x6)
def g26r1 (A:Ar) (x0 x1:List Nat) (x2 x3:Nat) (x4:Int) (x5:Nat) (x6:List Nat):Nat:=g26g1 (g26v A x0 x1 x2 x3 x4 x5 x6)
def g26r2 (A:Ar) (x0 x1:List Nat) (x2 x3:Nat) (x4:Int) (x5:Nat) (x6:List Nat):Nat:=g26g2 (g26v A x0 x1 x2 x3 x4 x5 x6)
def g26r3 (A:Ar) (x0 x1:List Nat) (x2 x3:Nat) (x4:Int) (x5:Nat) (x6:List Nat):Int:=g26g3 (g26v A x0 x1 x2 x3 x4 x5 x6)
def g26r4 (A:Ar) (x0 x1:List Nat) (x2 x3:Nat) (x4:Int) (x5:Nat) (x6:List Nat):Nat:=g26g4 (g26v A x0 x1 x2 x3 x4 x5 x6)
def g26r5 (A:Ar) (x0 x1:List Nat) (x2 x3:Nat) (x4:Int) (x5:Nat) (x6:List Nat):List Nat:=g26g5 (g26v A x0 x1 x2 x3 x4 x5 x6)
theorem g26ok_spec {A:Ar} {x0 x1 x2 x3 x4 x5 x6} (h:g26ok A x0 x1 x2 x3 x4 x5 x6=true):g26v A x0 x1 x2 x3 x4 x5 x6=some ((.tup []),[(0,⟨[.nums .u64 88 (g26r0 A x0 x1 x2 x3 x4 x5 x6),.one (.sl 501 (some (g26r1 A x0 x1 x2 x3 x4 x5 x6)) (g26r2 A x0 x1 x2 x3 x4 x5 x6) 1),.one (.int .i64 (g26r3 A x0 x1 x2 x3 x4 x5 x6))],76,1⟩),(501,⟨[.nums .u8 (g26r4 A x0 x1 x2 x3 x4 x5 x6) (g26r5 A x0 x1 x2 x3 x4 x5 x6)],5,2⟩)]):=g26is_spec h
def g26o (A:Ar) (args:List AV) (h:Heap):Option (Bool × AV × Heap):=match args,h with
 | [.v (.cell (.ptr n0 n1 none)),.v (.cell (.str x0))],[(n2,⟨[.nums .u64 n3 x1,.one (.sl n4 (some x2) x3 n5),.one (.int .i64 x4)],n6,n7⟩),(n8,⟨[.nums .u8 x5 x6],n9,n10⟩)]=>match Nat.beq n0 0&&(Nat.beq n1 0&&(Nat.beq n2 0&&(Nat.beq n3 88&&(Nat.beq n4 501&&(Nat.beq n5 1&&(Nat.beq n6 76&&(Nat.beq n7 1&&(Nat.beq n8 501&&(Nat.beq n9 5&&(Nat.beq n10 2)))))))))) with
  | true=>some (g26ok A x0 x1 x2 x3 x4 x5 x6,(.tup []),[(0,⟨[.nums .u64 88 (g26r0 A x0 x1 x2 x3 x4 x5 x6),.one (.sl 501 (some (g26r1 A x0 x1 x2 x3 x4 x5 x6)) (g26r2 A x0 x1 x2 x3 x4 x5 x6) 1),.one (.int .i64 (g26r3 A x0 x1 x2 x3 x4 x5 x6))],76,1⟩),(501,⟨[.nums .u8 (g26r4 A x0 x1 x2 x3 x4 x5 x6) (g26r5 A x0 x1 x2 x3 x4 x5 x6)],5,2⟩)])
  | false=>none
 | _,_=>none
theorem g26o_sound:∀ args h v h',g26o realA args h=some (true,v,h')→FnH Try.prog 26 args h v h':=by
  intro args h v h' hh
  unfold g26o at hh
  split at hh
  · rename_i n0 n1 x0 n2 n3 x1 n4 x2 x3 n5 x4 n6 n7 n8 x5 x6 n9 n10
    split at hh
    case h_2=>cases hh
    rename_i hc0
    simp only [Option.some.injEq,Prod.mk.injEq] at hh
    obtain ⟨hc,hv,hh⟩:=hh
    subst hv
    subst hh
    simp only [Bool.and_eq_true] at hc0
    have en0:=beq_true hc0.1
    subst en0
    replace hc0:=hc0.2
    have en1:=beq_true hc0.1
    subst en1
    replace hc0:=hc0.2
    have en2:=beq_true hc0.1
    subst en2
    replace hc0:=hc0.2
    have en3:=beq_true hc0.1
    subst en3
    replace hc0:=hc0.2
    have en4:=beq_true hc0.1
    subst en4
    replace hc0:=hc0.2
    have en5:=beq_true hc0.1
    subst en5
    replace hc0:=hc0.2
    have en6:=beq_true hc0.1
    subst en6
    replace hc0:=hc0.2
    have en7:=beq_true hc0.1
    subst en7
    replace hc0:=hc0.2
    have en8:=beq_true hc0.1
    subst en8
    replace hc0:=hc0.2
    have en9:=beq_true hc0.1
    subst en9
    replace hc0:=hc0.2
    have en10:=beq_true hc0
    subst en10
    exact fnh_ofGN mixed gtysOK g26O_sound g26O_det (an:=g26an) (cut:=g26cut) Try.func26 (c:=bodyOf Try.f26) rfl (by kernel_rfl) Try.call26 (Nat.le_of_ble_eq_true rfl) (B:=[501,600]) (pins:=[0,501]) (nilr:=none) (fun _=>(show g26v realA x0 x1 x2 x3 x4 x5 x6=_ from g26ok_spec hc)) fun _ st=>g26_go st
  · cases hh
attribute [local irreducible] g26ok g26r0 g26r1 g26r2 g26r3 g26r4 g26r5
def g26a_O (A:Ar):Orc:=orcH [] [(46,⟨[],none,(ho2 (g46o A) (g46a_o A))⟩)]
theorem g26a_O_sound:OSound Try.prog (g26a_O realA):=orcH_sound (fun f g hm args v hv=>by
    cases hm) (fun f e hm args h v h' hv=>by
    simp only [List.mem_cons,List.not_mem_nil,or_false,Prod.mk.injEq] at hm
    rcases hm with ⟨rfl,rfl⟩
    · exact (ho2_sound g46o_sound g46a_o_sound) _ _ _ _ hv)
theorem g26a_O_det:ODet (g26a_O realA):=orcH_det _ _
def g26a_an:Ann:=[(0,([0,1],[0,600])),(1,([0,1],[0,600])),(2,([0],[0,600])),(3,([0],[0,600])),(4,([0],[0,600]))]
def g26a_res:List ResultVar:=[]
def g26a_cut:List Nat:=[3]
noncomputable def g26a_N {R:Type} (A:Ar) (kk:AV→Heap→Option R) (t:List Bool→St→Option R) (p:List Bool) (s:St):Option R:=nodeN A gtys (g26a_O A) g26a_an g26a_cut t (bodyOf Try.f26) (finD gtys g26a_res kk) p s
def g26a_J3as (x0:List Nat) (x1 x2:Nat) (x3:Int) (x4:Nat) (x5:List Nat):St:=⟨[(0,(pT 0 0))],[(0,⟨[.nums .u64 88 x0,.one (.sl 600 (some x1) x2 1),.one (.int .i64 x3)],76,1⟩),(600,⟨[.nums .u8 x4 x5],5,2⟩)]⟩
def g26a_J3a {R:Type} (A:Ar) (n:Nat) (kk:AV→Heap→Option R) (lg26a_L2a:List Nat→Nat→Nat→Int→Nat→List Nat→Option R) (x0:List Nat) (x1 x2:Nat) (x3:Int) (x4:Nat) (x5:List Nat):Option R :=
 match A.le 128 x2 with
 | true=>match g46a_ok A x1 128 x0 x1 x2 x3 x4 x5 with
  | true=>match A.le 128 (g46a_r2 A x1 128 x0 x1 x2 x3 x4 x5) with
   | true=>lg26a_L2a (g46a_r0 A x1 128 x0 x1 x2 x3 x4 x5) ((g46a_r1 A x1 128 x0 x1 x2 x3 x4 x5)+128) ((g46a_r2 A x1 128 x0 x1 x2 x3 x4 x5) - 128) (g46a_r3 A x1 128 x0 x1 x2 x3 x4 x5) (g46a_r4 A x1 128 x0 x1 x2 x3 x4 x5) (g46a_r5 A x1 128 x0 x1 x2 x3 x4 x5)
   | false=>none
  | false=>none
 | false=>none
def g26a_L2as (x0:List Nat) (x1 x2:Nat) (x3:Int) (x4:Nat) (x5:List Nat):St:=⟨[(0,(pT 0 0))],[(0,⟨[.nums .u64 88 x0,.one (.sl 600 (some x1) x2 1),.one (.int .i64 x3)],76,1⟩),(600,⟨[.nums .u8 x4 x5],5,2⟩)]⟩
def g26a_L2a {R:Type} (A:Ar) (n:Nat) (kk:AV→Heap→Option R)  : Nat→List Nat→Nat→Nat→Int→Nat→List Nat→Option R
 | 0,_,_,_,_,_,_=>none
 | m+1,x0,x1,x2,x3,x4,x5=>match A.ic .geq (A.ofN x2) 128 with
 | true=>g26a_J3a A n kk (g26a_L2a A n kk  m) x0 x1 x2 x3 x4 x5
 | false=>kk (.tup []) [(0,⟨[.nums .u64 88 x0,.one (.sl 600 (some x1) x2 1),.one (.int .i64 x3)],76,1⟩),(600,⟨[.nums .u8 x4 x5],5,2⟩)]
def g26a_J3s (x0:List Nat) (x1:Nat) (x2:Int) (x3:Nat) (x4:List Nat):St:=⟨[(0,(pT 0 0))],[(0,⟨[.nums .u64 88 x0,.one (.sl 600 none x1 1),.one (.int .i64 x2)],76,1⟩),(600,⟨[.nums .u8 x3 x4],5,2⟩)]⟩
def g26a_J3 {R:Type} (A:Ar) (n:Nat) (kk:AV→Heap→Option R) (lg26a_L2a:List Nat→Nat→Nat→Int→Nat→List Nat→Option R) (x0:List Nat) (x1:Nat) (x2:Int) (x3:Nat) (x4:List Nat):Option R :=
 match A.le 128 x1 with
 | true=>match g46ok A 128 x0 x1 x2 x3 x4 with
  | true=>match A.le 128 (g46r1 A 128 x0 x1 x2 x3 x4) with
   | true=>lg26a_L2a (g46r0 A 128 x0 x1 x2 x3 x4) 128 ((g46r1 A 128 x0 x1 x2 x3 x4) - 128) (g46r2 A 128 x0 x1 x2 x3 x4) (g46r3 A 128 x0 x1 x2 x3 x4) (g46r4 A 128 x0 x1 x2 x3 x4)
   | false=>none
  | false=>none
 | false=>none
def g26a_L2s (x0:List Nat) (x1:Nat) (x2:Int) (x3:Nat) (x4:List Nat):St:=⟨[(0,(pT 0 0))],[(0,⟨[.nums .u64 88 x0,.one (.sl 600 none x1 1),.one (.int .i64 x2)],76,1⟩),(600,⟨[.nums .u8 x3 x4],5,2⟩)]⟩
def g26a_L2 {R:Type} (A:Ar) (n:Nat) (kk:AV→Heap→Option R)  : Nat→List Nat→Nat→Int→Nat→List Nat→Option R
 | 0,_,_,_,_,_=>none
 | m+1,x0,x1,x2,x3,x4=>match A.ic .geq (A.ofN x1) 128 with
 | true=>g26a_J3 A n kk (g26a_L2a A n kk  m) x0 x1 x2 x3 x4
 | false=>kk (.tup []) [(0,⟨[.nums .u64 88 x0,.one (.sl 600 none x1 1),.one (.int .i64 x2)],76,1⟩),(600,⟨[.nums .u8 x3 x4],5,2⟩)]
def g26a_ {R:Type} (A:Ar) (n:Nat) (kk:AV→Heap→Option R) (x0 x1:List Nat) (x2 x3:Nat) (x4:Int) (x5:Nat) (x6:List Nat):Option R :=
 match A.eq (x2+x3) (x5+0) with
 | true=>match A.le ((x6.drop x2++x0).length) 140737488355328 with
  | true=>g26a_L2 A n kk  n x1 ((x6.drop x2++x0).length) (A.ib .add .i64 x4 (A.ofN x0.length)) ((x6.drop x2++x0).length) (x6.drop x2++x0)
  | false=>none
 | false=>none
section
variable {R:Type} {A:Ar} {n:Nat} {kk:AV→Heap→Option R} {tb:Nat→List Bool→St→Option R} (st:Stp (g26a_N A kk) tb)
include st
theorem g26a_J3a_go {lg26a_L2a:List Nat→Nat→Nat→Int→Nat→List Nat→Option R} (hg26a_L2a:∀ (x0:List Nat) (x1 x2:Nat) (x3:Int) (x4:Nat) (x5:List Nat),Prs (fun k=>tb k (pth 28) (g26a_L2as x0 x1 x2 x3 x4 x5)) (lg26a_L2a x0 x1 x2 x3 x4 x5)) {x0:List Nat} {x1:Nat} {x2:Nat} {x3:Int} {x4:Nat} {x5:List Nat}:Prs (fun k=>tb k (pth 57) (g26a_J3as x0 x1 x2 x3 x4 x5)) (g26a_J3a A n kk lg26a_L2a x0 x1 x2 x3 x4 x5):=by
  unfold g26a_J3a
  exact st.g (pc (SxY06spi _ (SxY06spi _ (SxY06spi _ (hg26a_L2a _ _ _ _ _ _) pn) pn) pn) (by kernel_rfl))
theorem g26a_L2a_go (m:Nat):∀ (x0:List Nat) (x1 x2:Nat) (x3:Int) (x4:Nat) (x5:List Nat),Prs (fun k=>tb k (pth 28) (g26a_L2as x0 x1 x2 x3 x4 x5)) (g26a_L2a A n kk m x0 x1 x2 x3 x4 x5):=by
  induction m with
  | zero=>intro x0 x1 x2 x3 x4 x5; exact pn0
  | succ m ih =>
    intro x0 x1 x2 x3 x4 x5; rw [g26a_L2a]
    exact st.g (pc (SxY06spi _ (g26a_J3a_go st ih) (pf _)) (by kernel_rfl))
theorem g26a_J3_go {lg26a_L2a:List Nat→Nat→Nat→Int→Nat→List Nat→Option R} (hg26a_L2a:∀ (x0:List Nat) (x1 x2:Nat) (x3:Int) (x4:Nat) (x5:List Nat),Prs (fun k=>tb k (pth 28) (g26a_L2as x0 x1 x2 x3 x4 x5)) (lg26a_L2a x0 x1 x2 x3 x4 x5)) {x0:List Nat} {x1:Nat} {x2:Int} {x3:Nat} {x4:List Nat}:Prs (fun k=>tb k (pth 57) (g26a_J3s x0 x1 x2 x3 x4)) (g26a_J3 A n kk lg26a_L2a x0 x1 x2 x3 x4):=by
  unfold g26a_J3
  exact st.g (pc (SxY06spi _ (SxY06spi _ (SxY06spi _ (hg26a_L2a _ _ _ _ _ _) pn) pn) pn) (by kernel_rfl))
theorem g26a_L2_go (m:Nat):∀ (x0:List Nat) (x1:Nat) (x2:Int) (x3:Nat) (x4:List Nat),Prs (fun k=>tb k (pth 28) (g26a_L2s x0 x1 x2 x3 x4)) (g26a_L2 A n kk m x0 x1 x2 x3 x4):=by
  induction m with
  | zero=>intro x0 x1 x2 x3 x4; exact pn0
  | succ m ih =>
    intro x0 x1 x2 x3 x4; rw [g26a_L2]
    exact st.g (pc (SxY06spi _ (g26a_J3_go st (g26a_L2a_go st m)) (pf _)) (by kernel_rfl))
theorem g26a__go {x0:List Nat} {x1:List Nat} {x2:Nat} {x3:Nat} {x4:Int} {x5:Nat} {x6:List Nat}:Prs (fun k=>funN A gtys (g26a_O A) g26a_an g26a_cut (bodyOf Try.f26) g26a_res [(pT 0 0),(tS x0)] [(0,⟨[.nums .u64 88 x1,.one (.sl 600 (some x2) x3 1),.one (.int .i64 x4)],76,1⟩),(600,⟨[.nums .u8 x5 x6],5,2⟩)] kk (tb k)) (g26a_ A n kk x0 x1 x2 x3 x4 x5 x6):=by
  unfold g26a_
  exact pc (SxY06spi _ (SxY06spi _ (g26a_L2_go st n _ _ _ _ _) pn) pn) (by kernel_rfl)
end
def g26a_is (o:Option (AV × Heap)):Bool:=match o with
 | some (.tup [],[(n0,⟨[.nums .u64 n1 _,.one (.sl n2 (some _) _ n3),.one (.int .i64 _)],n4,n5⟩),(n6,⟨[.nums .u8 _ _],n7,n8⟩)])=>Nat.beq n0 0&&(Nat.beq n1 88&&(Nat.beq n2 600&&(Nat.beq n3 1&&(Nat.beq n4 76&&(Nat.beq n5 1&&(Nat.beq n6 600&&(Nat.beq n7 5&&(Nat.beq n8 2))))))))
 | _=>false
def g26a_g0 (o:Option (AV × Heap)):List Nat:=match o with
 | some (.tup [],[(_,⟨[.nums .u64 _ x,.one (.sl _ (some _) _ _),.one (.int .i64 _)],_,_⟩),(_,⟨[.nums .u8 _ _],_,_⟩)])=>x
 | _=>[]
def g26a_g1 (o:Option (AV × Heap)):Nat:=match o with
 | some (.tup [],[(_,⟨[.nums .u64 _ _,.one (.sl _ (some x) _ _),.one (.int .i64 _)],_,_⟩),(_,⟨[.nums .u8 _ _],_,_⟩)])=>x
 | _=>0
def g26a_g2 (o:Option (AV × Heap)):Nat:=match o with
 | some (.tup [],[(_,⟨[.nums .u64 _ _,.one (.sl _ (some _) x _),.one (.int .i64 _)],_,_⟩),(_,⟨[.nums .u8 _ _],_,_⟩)])=>x
 | _=>0
def g26a_g3 (o:Option (AV × Heap)):Int:=match o with
 | some (.tup [],[(_,⟨[.nums .u64 _ _,.one (.sl _ (some _) _ _),.one (.int .i64 x)],_,_⟩),(_,⟨[.nums .u8 _ _],_,_⟩)])=>x
 | _=>0
def g26a_g4 (o:Option (AV × Heap)):Nat:=match o with
 | some (.tup [],[(_,⟨[.nums .u64 _ _,.one (.sl _ (some _) _ _),.one (.int .i64 _)],_,_⟩),(_,⟨[.nums .u8 x _],_,_⟩)])=>x
 | _=>0
def g26a_g5 (o:Option (AV × Heap)):List Nat:=match o with
 | some (.tup [],[(_,⟨[.nums .u64 _ _,.one (.sl _ (some _) _ _),.one (.int .i64 _)],_,_⟩),(_,⟨[.nums .u8 _ x],_,_⟩)])=>x
 | _=>[]
theorem g26a_is_spec {o:Option (AV × Heap)} (h:g26a_is o=true):o=some ((.tup []),[(0,⟨[.nums .u64 88 (g26a_g0 o),.one (.sl 600 (some (g26a_g1 o)) (g26a_g2 o) 1),.one (.int .i64 (g26a_g3 o))],76,1⟩),(600,⟨[.nums .u8 (g26a_g4 o) (g26a_g5 o)],5,2⟩)]):=by
  unfold g26a_is at h
  split at h
  · rename_i n0 n1 z2 n2 z4 z5 n3 z7 n4 n5 n6 z11 z12 n7 n8
    simp only [Bool.and_eq_true] at h
    have en0:=beq_true h.1
    subst en0
    replace h:=h.2
    have en1:=beq_true h.1
    subst en1
    replace h:=h.2
    have en2:=beq_true h.1
    subst en2
    replace h:=h.2
    have en3:=beq_true h.1
    subst en3
    replace h:=h.2
    have en4:=beq_true h.1
    subst en4
    replace h:=h.2
    have en5:=beq_true h.1
    subst en5
    replace h:=h.2
    have en6:=beq_true h.1
    subst en6
    replace h:=h.2
    have en7:=beq_true h.1
    subst en7
    replace h:=h.2
    have en8:=beq_true h
    subst en8
    rfl
  · cases h
def g26a_v (A:Ar) (x0 x1:List Nat) (x2 x3:Nat) (x4:Int) (x5:Nat) (x6:List Nat):Option (AV × Heap):=g26a_ A (100000) (outN [501,600] [0,600] none) x0 x1 x2 x3 x4 x5 x6
def g26a_ok (A:Ar) (x0 x1:List Nat) (x2 x3:Nat) (x4:Int) (x5:Nat) (x6:List Nat):Bool:=g26a_is (g26a_v A x0 x1 x2 x3 x4 x5 x6)
def g26a_r0 (A:Ar) (x0 x1:List Nat) (x2 x3:Nat) (x4:Int) (x5:Nat) (x6:List Nat):List Nat:=g26a_g0 (g26a_v A x0 x1 x2 x3 x4 x5 x6)
def g26a_r1 (A:Ar) (x0 x1:List Nat) (x2 x3:Nat) (x4:Int) (x5:Nat) (x6:List Nat):Nat:=g26a_g1 (g26a_v A x0 x1 x2 x3 x4 x5 x6)
def g26a_r2 (A:Ar) (x0 x1:List Nat) (x2 x3:Nat) (x4:Int) (x5:Nat) (x6:List Nat):Nat:=g26a_g2 (g26a_v A x0 x1 x2 x3 x4 x5 x6)
def g26a_r3 (A:Ar) (x0 x1:List Nat) (x2 x3:Nat) (x4:Int) (x5:Nat) (x6:List Nat):Int:=g26a_g3 (g26a_v A x0 x1 x2 x3 x4 x5 x6)
def g26a_r4 (A:Ar) (x0 x1:List Nat) (x2 x3:Nat) (x4:Int) (x5:Nat) (x6:List Nat):Nat:=g26a_g4 (g26a_v A x0 x1 x2 x3 x4 x5 x6)
def g26a_r5 (A:Ar) (x0 x1:List Nat) (x2 x3:Nat) (x4:Int) (x5:Nat) (x6:List Nat):List Nat:=g26a_g5 (g26a_v A x0 x1 x2 x3 x4 x5 x6)
theorem g26a_ok_spec {A:Ar} {x0 x1 x2 x3 x4 x5 x6} (h:g26a_ok A x0 x1 x2 x3 x4 x5 x6=true):g26a_v A x0 x1 x2 x3 x4 x5 x6=some ((.tup []),[(0,⟨[.nums .u64 88 (g26a_r0 A x0 x1 x2 x3 x4 x5 x6),.one (.sl 600 (some (g26a_r1 A x0 x1 x2 x3 x4 x5 x6)) (g26a_r2 A x0 x1 x2 x3 x4 x5 x6) 1),.one (.int .i64 (g26a_r3 A x0 x1 x2 x3 x4 x5 x6))],76,1⟩),(600,⟨[.nums .u8 (g26a_r4 A x0 x1 x2 x3 x4 x5 x6) (g26a_r5 A x0 x1 x2 x3 x4 x5 x6)],5,2⟩)]):=g26a_is_spec h
def g26a_o (A:Ar) (args:List AV) (h:Heap):Option (Bool × AV × Heap):=match args,h with
 | [.v (.cell (.ptr n0 n1 none)),.v (.cell (.str x0))],[(n2,⟨[.nums .u64 n3 x1,.one (.sl n4 (some x2) x3 n5),.one (.int .i64 x4)],n6,n7⟩),(n8,⟨[.nums .u8 x5 x6],n9,n10⟩)]=>match Nat.beq n0 0&&(Nat.beq n1 0&&(Nat.beq n2 0&&(Nat.beq n3 88&&(Nat.beq n4 600&&(Nat.beq n5 1&&(Nat.beq n6 76&&(Nat.beq n7 1&&(Nat.beq n8 600&&(Nat.beq n9 5&&(Nat.beq n10 2)))))))))) with
  | true=>some (g26a_ok A x0 x1 x2 x3 x4 x5 x6,(.tup []),[(0,⟨[.nums .u64 88 (g26a_r0 A x0 x1 x2 x3 x4 x5 x6),.one (.sl 600 (some (g26a_r1 A x0 x1 x2 x3 x4 x5 x6)) (g26a_r2 A x0 x1 x2 x3 x4 x5 x6) 1),.one (.int .i64 (g26a_r3 A x0 x1 x2 x3 x4 x5 x6))],76,1⟩),(600,⟨[.nums .u8 (g26a_r4 A x0 x1 x2 x3 x4 x5 x6) (g26a_r5 A x0 x1 x2 x3 x4 x5 x6)],5,2⟩)])
  | false=>none
 | _,_=>none
theorem g26a_o_sound:∀ args h v h',g26a_o realA args h=some (true,v,h')→FnH Try.prog 26 args h v h':=by
  intro args h v h' hh
  unfold g26a_o at hh
  split at hh
  · rename_i n0 n1 x0 n2 n3 x1 n4 x2 x3 n5 x4 n6 n7 n8 x5 x6 n9 n10
    split at hh
    case h_2=>cases hh
    rename_i hc0
    simp only [Option.some.injEq,Prod.mk.injEq] at hh
    obtain ⟨hc,hv,hh⟩:=hh
    subst hv
    subst hh
    simp only [Bool.and_eq_true] at hc0
    have en0:=beq_true hc0.1
    subst en0
    replace hc0:=hc0.2
    have en1:=beq_true hc0.1
    subst en1
    replace hc0:=hc0.2
    have en2:=beq_true hc0.1
    subst en2
    replace hc0:=hc0.2
    have en3:=beq_true hc0.1
    subst en3
    replace hc0:=hc0.2
    have en4:=beq_true hc0.1
    subst en4
    replace hc0:=hc0.2
    have en5:=beq_true hc0.1
    subst en5
    replace hc0:=hc0.2
    have en6:=beq_true hc0.1
    subst en6
    replace hc0:=hc0.2
    have en7:=beq_true hc0.1
    subst en7
    replace hc0:=hc0.2
    have en8:=beq_true hc0.1
    subst en8
    replace hc0:=hc0.2
    have en9:=beq_true hc0.1
    subst en9
    replace hc0:=hc0.2
    have en10:=beq_true hc0
    subst en10
    exact fnh_ofGN mixed gtysOK g26a_O_sound g26a_O_det (an:=g26a_an) (cut:=g26a_cut) Try.func26 (c:=bodyOf Try.f26) rfl (by kernel_rfl) Try.call26 (Nat.le_of_ble_eq_true rfl) (B:=[501,600]) (pins:=[0,600]) (nilr:=none) (fun _=>(show g26a_v realA x0 x1 x2 x3 x4 x5 x6=_ from g26a_ok_spec hc)) fun _ st=>g26a__go st
  · cases hh
attribute [local irreducible] g26a_ok g26a_r0 g26a_r1 g26a_r2 g26a_r3 g26a_r4 g26a_r5
def g28O (A:Ar):Orc:=orcH [(49,g49o A)] [(26,⟨[0,1],(some (0,1,1,⟨[.nums .u8 0 []],5,2⟩)),(hoN [501,600] (ho2 (g26o A) (g26a_o A)))⟩)]
theorem g28O_sound:OSound Try.prog (g28O realA):=orcH_sound (fun f g hm args v hv=>by
    simp only [List.mem_cons,List.not_mem_nil,or_false,Prod.mk.injEq] at hm
    rcases hm with ⟨rfl,rfl⟩
    · exact g49o_sound _ _ hv) (fun f e hm args h v h' hv=>by
    simp only [List.mem_cons,List.not_mem_nil,or_false,Prod.mk.injEq] at hm
    rcases hm with ⟨rfl,rfl⟩
    · exact (hoN_sound (ho2_sound g26o_sound g26a_o_sound)) _ _ _ _ hv)
theorem g28O_det:ODet (g28O realA):=orcH_det _ _
def g28an:Ann:=[(0,([0],[0,1])),(1,([0],[0,1])),(2,([0,3],[0,1,2009])),(3,([0,3,4],[0,1,2009,3004])),(4,([0,3,4],[0,1,2009,3004])),(5,([0,3,4],[0,1,2009,3004])),(6,([0,3,4],[0,1,2009,3004])),(7,([3,4,5,6],[0,1,2009,3004])),(8,([3,4,50,51,52],[0,1,2009,3004,8002])),(9,([3,4,50,51,52],[0,1,2009,3004,8002])),(10,([3,4,8,50,51,52],[0,1,2009,3004,8002])),(11,([3,4,8,50,51,52,56],[0,1,2009,3004,8002])),(12,([3,4,8,50,51,52,56],[0,1,2009,3004,8002])),(13,([3,4,8,9,50,51,52,56],[0,1,2009,3004,8002])),(14,([3,4,8,50,51,52,56],[0,1,2009,3004,8002])),(15,([3,4,50,51,52],[0,1,2009,3004,8002])),(16,([3,4],[0,1,2009,3004])),(17,([3],[0,1,2009,17003])),(18,([3,10],[0,1,2009,17003,18000])),(19,([10,77,78],[0,1,18000])),(20,([10,77,78],[0,1,18000])),(21,([10,12,77,78],[0,1,18000])),(22,([10,12,77,78,81],[0,1,18000])),(23,([10,12,77,78,81],[0,1,18000])),(24,([10,12,13,77,78,81],[0,1,18000])),(25,([10,12,77,78,81],[0,1,18000])),(26,([10,77,78],[0,1,18000])),(27,([10],[0,1,18000]))]
def g28res:List ResultVar:=[.tmp 2]
def g28cut:List Nat:=[6,9,12,16,20,23]
noncomputable def g28N {R:Type} (A:Ar) (kk:AV→Heap→Option R) (t:List Bool→St→Option R) (p:List Bool) (s:St):Option R:=nodeN A gtys (g28O A) g28an g28cut t (bodyOf Try.f28) (finD gtys g28res kk) p s
def g28J12s (x0 x1 x2:Nat) (x3 x4 x5:Int) (x6:List Nat) (x7 x8:Nat) (x9:Int) (x10:Nat) (x11 x12:List Nat) (x13:Int) (x14:Nat) (x15:List Nat) (x16:Nat) (x17:List Nat):St:=⟨[(3,(pT 2009 0)),(4,(sL 3004 none x0 1)),(8,(u64v x1)),(50,(sL 8002 none x2 1)),(51,(i6 x3)),(52,(i6 x4)),(56,(i6 x5))],[(0,⟨[.nums .u64 88 x6,.one (.sl 1 (some x7) x8 1),.one (.int .i64 x9)],76,1⟩),(1,⟨[.nums .u8 x10 x11],5,2⟩),(2009,⟨[.nums .u64 88 x12,.one .nils,.one (.int .i64 x13)],76,1⟩),(3004,⟨[.nums .u8 x14 x15],5,2⟩),(8002,⟨[.nums .u64 x16 x17],38,2⟩)]⟩
def g28J12 {R:Type} (A:Ar) (n:Nat) (kk:AV→Heap→Option R) (lg28L11:Nat→Nat→Nat→Int→Int→Int→List Nat→Nat→Nat→Int→Nat→List Nat→List Nat→Int→Nat→List Nat→Nat→List Nat→Option R) (x0 x1 x2:Nat) (x3 x4 x5:Int) (x6:List Nat) (x7 x8:Nat) (x9:Int) (x10:Nat) (x11 x12:List Nat) (x13:Int) (x14:Nat) (x15:List Nat) (x16:Nat) (x17:List Nat):Option R :=
 match A.neg (A.ib .sub .i64 56 (A.ib .mul .i64 8 x5)) with
 | true=>none
 | false=>match A.eq x0 (x14+0) with
  | true=>match A.le ((x15++([A.n2n .u8 (A.nsh .shr .u64 x1 (A.toN (A.ib .sub .i64 56 (A.ib .mul .i64 8 x5))))].take 1)).length) 140737488355328 with
   | true=>lg28L11 ((x15++([A.n2n .u8 (A.nsh .shr .u64 x1 (A.toN (A.ib .sub .i64 56 (A.ib .mul .i64 8 x5))))].take 1)).length) x1 x2 x3 x4 (A.ib .add .i64 x5 1) x6 x7 x8 x9 x10 x11 x12 x13 ((x15++([A.n2n .u8 (A.nsh .shr .u64 x1 (A.toN (A.ib .sub .i64 56 (A.ib .mul .i64 8 x5))))].take 1)).length) (x15++([A.n2n .u8 (A.nsh .shr .u64 x1 (A.toN (A.ib .sub .i64 56 (A.ib .mul .i64 8 x5))))].take 1)) x16 x17
   | false=>none
  | false=>none
def g28L11s (x0 x1 x2:Nat) (x3 x4 x5:Int) (x6:List Nat) (x7 x8:Nat) (x9:Int) (x10:Nat) (x11 x12:List Nat) (x13:Int) (x14:Nat) (x15:List Nat) (x16:Nat) (x17:List Nat):St:=⟨[(3,(pT 2009 0)),(4,(sL 3004 none x0 1)),(8,(u64v x1)),(50,(sL 8002 none x2 1)),(51,(i6 x3)),(52,(i6 x4)),(56,(i6 x5))],[(0,⟨[.nums .u64 88 x6,.one (.sl 1 (some x7) x8 1),.one (.int .i64 x9)],76,1⟩),(1,⟨[.nums .u8 x10 x11],5,2⟩),(2009,⟨[.nums .u64 88 x12,.one .nils,.one (.int .i64 x13)],76,1⟩),(3004,⟨[.nums .u8 x14 x15],5,2⟩),(8002,⟨[.nums .u64 x16 x17],38,2⟩)]⟩
def g28L11 {R:Type} (A:Ar) (n:Nat) (kk:AV→Heap→Option R) (lg28L8:Nat→Nat→Int→Int→List Nat→Nat→Nat→Int→Nat→List Nat→List Nat→Int→Nat→List Nat→Nat→List Nat→Option R):Nat→Nat→Nat→Nat→Int→Int→Int→List Nat→Nat→Nat→Int→Nat→List Nat→List Nat→Int→Nat→List Nat→Nat→List Nat→Option R
 | 0,_,_,_,_,_,_,_,_,_,_,_,_,_,_,_,_,_,_=>none
 | m+1,x0,x1,x2,x3,x4,x5,x6,x7,x8,x9,x10,x11,x12,x13,x14,x15,x16,x17=>match A.ic .lss x5 8 with
 | true=>g28J12 A n kk (g28L11 A n kk lg28L8 m) x0 x1 x2 x3 x4 x5 x6 x7 x8 x9 x10 x11 x12 x13 x14 x15 x16 x17
 | false=>lg28L8 x0 x2 x3 (A.ib .add .i64 x4 1) x6 x7 x8 x9 x10 x11 x12 x13 x14 x15 x16 x17
def g28J9s (x0 x1:Nat) (x2 x3:Int) (x4:List Nat) (x5 x6:Nat) (x7:Int) (x8:Nat) (x9 x10:List Nat) (x11:Int) (x12:Nat) (x13:List Nat) (x14:Nat) (x15:List Nat):St:=⟨[(3,(pT 2009 0)),(4,(sL 3004 none x0 1)),(50,(sL 8002 none x1 1)),(51,(i6 x2)),(52,(i6 x3))],[(0,⟨[.nums .u64 88 x4,.one (.sl 1 (some x5) x6 1),.one (.int .i64 x7)],76,1⟩),(1,⟨[.nums .u8 x8 x9],5,2⟩),(2009,⟨[.nums .u64 88 x10,.one .nils,.one (.int .i64 x11)],76,1⟩),(3004,⟨[.nums .u8 x12 x13],5,2⟩),(8002,⟨[.nums .u64 x14 x15],38,2⟩)]⟩
def g28J9 {R:Type} (A:Ar) (n:Nat) (kk:AV→Heap→Option R) (lg28L8:Nat→Nat→Int→Int→List Nat→Nat→Nat→Int→Nat→List Nat→List Nat→Int→Nat→List Nat→Nat→List Nat→Option R) (x0 x1:Nat) (x2 x3:Int) (x4:List Nat) (x5 x6:Nat) (x7:Int) (x8:Nat) (x9 x10:List Nat) (x11:Int) (x12:Nat) (x13:List Nat) (x14:Nat) (x15:List Nat):Option R :=
 match A.neg x3 with
 | true=>none
 | false=>match A.lt (A.toN x3) x1 with
  | true=>g28L11 A n kk lg28L8 n x0 (x15.getD (A.toN x3) 0) x1 x2 x3 0 x4 x5 x6 x7 x8 x9 x10 x11 x12 x13 x14 x15
  | false=>none
def g28J23s (x0 x1:Nat) (x2:List Nat) (x3 x4:Int) (x5:List Nat) (x6 x7:Nat) (x8:Int) (x9:Nat) (x10:List Nat) (x11:Nat) (x12:List Nat):St:=⟨[(10,(sL 18000 none x0 1)),(12,(u64v x1)),(77,(aN .u64 8 x2)),(78,(i6 x3)),(81,(i6 x4))],[(0,⟨[.nums .u64 88 x5,.one (.sl 1 (some x6) x7 1),.one (.int .i64 x8)],76,1⟩),(1,⟨[.nums .u8 x9 x10],5,2⟩),(18000,⟨[.nums .u8 x11 x12],5,2⟩)]⟩
def g28J23 {R:Type} (A:Ar) (n:Nat) (kk:AV→Heap→Option R) (lg28L22:Nat→Nat→List Nat→Int→Int→List Nat→Nat→Nat→Int→Nat→List Nat→Nat→List Nat→Option R) (x0 x1:Nat) (x2:List Nat) (x3 x4:Int) (x5:List Nat) (x6 x7:Nat) (x8:Int) (x9:Nat) (x10:List Nat) (x11:Nat) (x12:List Nat):Option R :=
 match A.neg (A.ib .sub .i64 56 (A.ib .mul .i64 8 x4)) with
 | true=>none
 | false=>match A.eq x0 (x11+0) with
  | true=>match A.le ((x12++([A.n2n .u8 (A.nsh .shr .u64 x1 (A.toN (A.ib .sub .i64 56 (A.ib .mul .i64 8 x4))))].take 1)).length) 140737488355328 with
   | true=>lg28L22 ((x12++([A.n2n .u8 (A.nsh .shr .u64 x1 (A.toN (A.ib .sub .i64 56 (A.ib .mul .i64 8 x4))))].take 1)).length) x1 x2 x3 (A.ib .add .i64 x4 1) x5 x6 x7 x8 x9 x10 ((x12++([A.n2n .u8 (A.nsh .shr .u64 x1 (A.toN (A.ib .sub .i64 56 (A.ib .mul .i64 8 x4))))].take 1)).length) (x12++([A.n2n .u8 (A.nsh .shr .u64 x1 (A.toN (A.ib .sub .i64 56 (A.ib .mul .i64 8 x4))))].take 1))
   | false=>none
  | false=>none
def g28L22s (x0 x1:Nat) (x2:List Nat) (x3 x4:Int) (x5:List Nat) (x6 x7:Nat) (x8:Int) (x9:Nat) (x10:List Nat) (x11:Nat) (x12:List Nat):St:=⟨[(10,(sL 18000 none x0 1)),(12,(u64v x1)),(77,(aN .u64 8 x2)),(78,(i6 x3)),(81,(i6 x4))],[(0,⟨[.nums .u64 88 x5,.one (.sl 1 (some x6) x7 1),.one (.int .i64 x8)],76,1⟩),(1,⟨[.nums .u8 x9 x10],5,2⟩),(18000,⟨[.nums .u8 x11 x12],5,2⟩)]⟩
def g28L22 {R:Type} (A:Ar) (n:Nat) (kk:AV→Heap→Option R) (lg28L19:Nat→List Nat→Int→List Nat→Nat→Nat→Int→Nat→List Nat→Nat→List Nat→Option R):Nat→Nat→Nat→List Nat→Int→Int→List Nat→Nat→Nat→Int→Nat→List Nat→Nat→List Nat→Option R
 | 0,_,_,_,_,_,_,_,_,_,_,_,_,_=>none
 | m+1,x0,x1,x2,x3,x4,x5,x6,x7,x8,x9,x10,x11,x12=>match A.ic .lss x4 8 with
 | true=>g28J23 A n kk (g28L22 A n kk lg28L19 m) x0 x1 x2 x3 x4 x5 x6 x7 x8 x9 x10 x11 x12
 | false=>lg28L19 x0 x2 (A.ib .add .i64 x3 1) x5 x6 x7 x8 x9 x10 x11 x12
def g28J20s (x0:Nat) (x1:List Nat) (x2:Int) (x3:List Nat) (x4 x5:Nat) (x6:Int) (x7:Nat) (x8:List Nat) (x9:Nat) (x10:List Nat):St:=⟨[(10,(sL 18000 none x0 1)),(77,(aN .u64 8 x1)),(78,(i6 x2))],[(0,⟨[.nums .u64 88 x3,.one (.sl 1 (some x4) x5 1),.one (.int .i64 x6)],76,1⟩),(1,⟨[.nums .u8 x7 x8],5,2⟩),(18000,⟨[.nums .u8 x9 x10],5,2⟩)]⟩
def g28J20 {R:Type} (A:Ar) (n:Nat) (kk:AV→Heap→Option R) (lg28L19:Nat→List Nat→Int→List Nat→Nat→Nat→Int→Nat→List Nat→Nat→List Nat→Option R) (x0:Nat) (x1:List Nat) (x2:Int) (x3:List Nat) (x4 x5:Nat) (x6:Int) (x7:Nat) (x8:List Nat) (x9:Nat) (x10:List Nat):Option R :=
 match A.neg x2 with
 | true=>none
 | false=>match A.lt (A.toN x2) 8 with
  | true=>g28L22 A n kk lg28L19 n x0 (x1.getD (A.toN x2) 0) x1 x2 0 x3 x4 x5 x6 x7 x8 x9 x10
  | false=>none
def g28L19s (x0:Nat) (x1:List Nat) (x2:Int) (x3:List Nat) (x4 x5:Nat) (x6:Int) (x7:Nat) (x8:List Nat) (x9:Nat) (x10:List Nat):St:=⟨[(10,(sL 18000 none x0 1)),(77,(aN .u64 8 x1)),(78,(i6 x2))],[(0,⟨[.nums .u64 88 x3,.one (.sl 1 (some x4) x5 1),.one (.int .i64 x6)],76,1⟩),(1,⟨[.nums .u8 x7 x8],5,2⟩),(18000,⟨[.nums .u8 x9 x10],5,2⟩)]⟩
def g28L19 {R:Type} (A:Ar) (n:Nat) (kk:AV→Heap→Option R)  : Nat→Nat→List Nat→Int→List Nat→Nat→Nat→Int→Nat→List Nat→Nat→List Nat→Option R
 | 0,_,_,_,_,_,_,_,_,_,_,_=>none
 | m+1,x0,x1,x2,x3,x4,x5,x6,x7,x8,x9,x10=>match A.ic .lss x2 8 with
 | true=>g28J20 A n kk (g28L19 A n kk  m) x0 x1 x2 x3 x4 x5 x6 x7 x8 x9 x10
 | false=>kk (tS (x10.take x0)) [(0,⟨[.nums .u64 88 x3,.one (.sl 1 (some x4) x5 1),.one (.int .i64 x6)],76,1⟩),(1,⟨[.nums .u8 x7 x8],5,2⟩),(18000,⟨[.nums .u8 x9 x10],5,2⟩)]
def g28J16s (x0:Nat) (x1:List Nat) (x2 x3:Nat) (x4:Int) (x5:Nat) (x6 x7:List Nat) (x8:Int) (x9:Nat) (x10:List Nat):St:=⟨[(3,(pT 2009 0)),(4,(sL 3004 none x0 1))],[(0,⟨[.nums .u64 88 x1,.one (.sl 1 (some x2) x3 1),.one (.int .i64 x4)],76,1⟩),(1,⟨[.nums .u8 x5 x6],5,2⟩),(2009,⟨[.nums .u64 88 x7,.one .nils,.one (.int .i64 x8)],76,1⟩),(3004,⟨[.nums .u8 x9 x10],5,2⟩)]⟩
def g28J16 {R:Type} (A:Ar) (n:Nat) (kk:AV→Heap→Option R)  (x0:Nat) (x1:List Nat) (x2 x3:Nat) (x4:Int) (x5:Nat) (x6 x7:List Nat) (x8:Int) (x9:Nat) (x10:List Nat):Option R :=
 match g26a_ok A (x10.take x0) x7 0 0 x8 0 [] with
 | true=>g28L19 A n kk  n 0 (((g26a_r0 A (x10.take x0) x7 0 0 x8 0 []).drop 0).take 8) 0 x1 x2 x3 x4 x5 x6 0 []
 | false=>none
def g28L8s (x0 x1:Nat) (x2 x3:Int) (x4:List Nat) (x5 x6:Nat) (x7:Int) (x8:Nat) (x9 x10:List Nat) (x11:Int) (x12:Nat) (x13:List Nat) (x14:Nat) (x15:List Nat):St:=⟨[(3,(pT 2009 0)),(4,(sL 3004 none x0 1)),(50,(sL 8002 none x1 1)),(51,(i6 x2)),(52,(i6 x3))],[(0,⟨[.nums .u64 88 x4,.one (.sl 1 (some x5) x6 1),.one (.int .i64 x7)],76,1⟩),(1,⟨[.nums .u8 x8 x9],5,2⟩),(2009,⟨[.nums .u64 88 x10,.one .nils,.one (.int .i64 x11)],76,1⟩),(3004,⟨[.nums .u8 x12 x13],5,2⟩),(8002,⟨[.nums .u64 x14 x15],38,2⟩)]⟩
def g28L8 {R:Type} (A:Ar) (n:Nat) (kk:AV→Heap→Option R)  : Nat→Nat→Nat→Int→Int→List Nat→Nat→Nat→Int→Nat→List Nat→List Nat→Int→Nat→List Nat→Nat→List Nat→Option R
 | 0,_,_,_,_,_,_,_,_,_,_,_,_,_,_,_,_=>none
 | m+1,x0,x1,x2,x3,x4,x5,x6,x7,x8,x9,x10,x11,x12,x13,x14,x15=>match A.ic .lss x3 x2 with
 | true=>g28J9 A n kk (g28L8 A n kk  m) x0 x1 x2 x3 x4 x5 x6 x7 x8 x9 x10 x11 x12 x13 x14 x15
 | false=>g28J16 A n kk  x0 x4 x5 x6 x7 x8 x9 x10 x11 x12 x13
def g28J6s (x0:Nat) (x1:List Nat) (x2 x3:Nat) (x4:Int) (x5:Nat) (x6 x7:List Nat) (x8:Int) (x9:Nat) (x10:List Nat):St:=⟨[(0,(pT 0 0)),(3,(pT 2009 0)),(4,(sL 3004 none x0 1))],[(0,⟨[.nums .u64 88 x1,.one (.sl 1 (some x2) x3 1),.one (.int .i64 x4)],76,1⟩),(1,⟨[.nums .u8 x5 x6],5,2⟩),(2009,⟨[.nums .u64 88 x7,.one .nils,.one (.int .i64 x8)],76,1⟩),(3004,⟨[.nums .u8 x9 x10],5,2⟩)]⟩
def g28J6 {R:Type} (A:Ar) (n:Nat) (kk:AV→Heap→Option R)  (x0:Nat) (x1:List Nat) (x2 x3:Nat) (x4:Int) (x5:Nat) (x6 x7:List Nat) (x8:Int) (x9:Nat) (x10:List Nat):Option R :=
 match g49ok A (A.i2n .u64 x4) 8 with
 | true=>g28L8 A n kk  n x0 2 (A.ofN 2) 0 x1 x2 x3 x4 x5 x6 x7 x8 x9 x10 2 [g49r0 A (A.i2n .u64 x4) 8,g49r1 A (A.i2n .u64 x4) 8]
 | false=>none
def g28L4s (x0:Nat) (x1:List Nat) (x2 x3:Nat) (x4:Int) (x5:Nat) (x6 x7:List Nat) (x8:Int) (x9:Nat) (x10:List Nat):St:=⟨[(0,(pT 0 0)),(3,(pT 2009 0)),(4,(sL 3004 none x0 1))],[(0,⟨[.nums .u64 88 x1,.one (.sl 1 (some x2) x3 1),.one (.int .i64 x4)],76,1⟩),(1,⟨[.nums .u8 x5 x6],5,2⟩),(2009,⟨[.nums .u64 88 x7,.one .nils,.one (.int .i64 x8)],76,1⟩),(3004,⟨[.nums .u8 x9 x10],5,2⟩)]⟩
def g28L4 {R:Type} (A:Ar) (n:Nat) (kk:AV→Heap→Option R)  : Nat→Nat→List Nat→Nat→Nat→Int→Nat→List Nat→List Nat→Int→Nat→List Nat→Option R
 | 0,_,_,_,_,_,_,_,_,_,_,_=>none
 | m+1,x0,x1,x2,x3,x4,x5,x6,x7,x8,x9,x10=>match A.ic .neq (A.ib .rem .i64 (A.ofN x0) 128) 112 with
 | true=>match A.eq x0 (x9+0) with
  | true=>match A.le ((x10++([0].take 1)).length) 140737488355328 with
   | true=>g28L4 A n kk  m ((x10++([0].take 1)).length) x1 x2 x3 x4 x5 x6 x7 x8 ((x10++([0].take 1)).length) (x10++([0].take 1))
   | false=>none
  | false=>none
 | false=>g28J6 A n kk  x0 x1 x2 x3 x4 x5 x6 x7 x8 x9 x10
def g28 {R:Type} (A:Ar) (n:Nat) (kk:AV→Heap→Option R) (x0:List Nat) (x1 x2:Nat) (x3:Int) (x4:Nat) (x5:List Nat):Option R :=
 match A.eq 0 0 with
 | true=>match A.le (([]++((x5.drop x1).take x2)).length) 140737488355328 with
  | true=>match A.eq (([]++((x5.drop x1).take x2)).length) ((([]++((x5.drop x1).take x2)).length)+0) with
   | true=>match A.le ((([]++((x5.drop x1).take x2))++([128].take 1)).length) 140737488355328 with
    | true=>g28L4 A n kk  n ((([]++((x5.drop x1).take x2))++([128].take 1)).length) x0 x1 x2 x3 x4 x5 (([0,0,0,0,0,0,0,0,0,0,0,0,0,0,0,0,0,0,0,0,0,0,0,0,0,0,0,0,0,0,0,0,0,0,0,0,0,0,0,0,0,0,0,0,0,0,0,0,0,0,0,0,0,0,0,0,0,0,0,0,0,0,0,0,0,0,0,0,0,0,0,0,0,0,0,0,0,0,0,0,0,0,0,0,0,0,0,0].take 0++(((x0.drop 0).take 8)++[0,0,0,0,0,0,0,0,0,0,0,0,0,0,0,0,0,0,0,0,0,0,0,0,0,0,0,0,0,0,0,0,0,0,0,0,0,0,0,0,0,0,0,0,0,0,0,0,0,0,0,0,0,0,0,0,0,0,0,0,0,0,0,0,0,0,0,0,0,0,0,0,0,0,0,0,0,0,0,0,0,0,0,0,0,0,0,0].drop 8)).take 8++(((x0.drop 8).take 80)++([0,0,0,0,0,0,0,0,0,0,0,0,0,0,0,0,0,0,0,0,0,0,0,0,0,0,0,0,0,0,0,0,0,0,0,0,0,0,0,0,0,0,0,0,0,0,0,0,0,0,0,0,0,0,0,0,0,0,0,0,0,0,0,0,0,0,0,0,0,0,0,0,0,0,0,0,0,0,0,0,0,0,0,0,0,0,0,0].take 0++(((x0.drop 0).take 8)++[0,0,0,0,0,0,0,0,0,0,0,0,0,0,0,0,0,0,0,0,0,0,0,0,0,0,0,0,0,0,0,0,0,0,0,0,0,0,0,0,0,0,0,0,0,0,0,0,0,0,0,0,0,0,0,0,0,0,0,0,0,0,0,0,0,0,0,0,0,0,0,0,0,0,0,0,0,0,0,0,0,0,0,0,0,0,0,0].drop 8)).drop 88)) 0 ((([]++((x5.drop x1).take x2))++([128].take 1)).length) (([]++((x5.drop x1).take x2))++([128].take 1))
    | false=>none
   | false=>none
  | false=>none
 | false=>none
section
variable {R:Type} {A:Ar} {n:Nat} {kk:AV→Heap→Option R} {tb:Nat→List Bool→St→Option R} (st:Stp (g28N A kk) tb)
include st
theorem g28J12_go {lg28L11:Nat→Nat→Nat→Int→Int→Int→List Nat→Nat→Nat→Int→Nat→List Nat→List Nat→Int→Nat→List Nat→Nat→List Nat→Option R} (hg28L11:∀ (x0 x1 x2:Nat) (x3 x4 x5:Int) (x6:List Nat) (x7 x8:Nat) (x9:Int) (x10:Nat) (x11 x12:List Nat) (x13:Int) (x14:Nat) (x15:List Nat) (x16:Nat) (x17:List Nat),Prs (fun k=>tb k (pth 521420) (g28L11s x0 x1 x2 x3 x4 x5 x6 x7 x8 x9 x10 x11 x12 x13 x14 x15 x16 x17)) (lg28L11 x0 x1 x2 x3 x4 x5 x6 x7 x8 x9 x10 x11 x12 x13 x14 x15 x16 x17)) {x0:Nat} {x1:Nat} {x2:Nat} {x3:Int} {x4:Int} {x5:Int} {x6:List Nat} {x7:Nat} {x8:Nat} {x9:Int} {x10:Nat} {x11:List Nat} {x12:List Nat} {x13:Int} {x14:Nat} {x15:List Nat} {x16:Nat} {x17:List Nat}:Prs (fun k=>tb k (pth 2085683) (g28J12s x0 x1 x2 x3 x4 x5 x6 x7 x8 x9 x10 x11 x12 x13 x14 x15 x16 x17)) (g28J12 A n kk lg28L11 x0 x1 x2 x3 x4 x5 x6 x7 x8 x9 x10 x11 x12 x13 x14 x15 x16 x17):=by
  unfold g28J12
  exact st.g (pc (SxY06spi _ pn (SxY06spi _ (SxY06spi _ (hg28L11 _ _ _ _ _ _ _ _ _ _ _ _ _ _ _ _ _ _) pn) pn)) (by kernel_rfl))
theorem g28L11_go {lg28L8:Nat→Nat→Int→Int→List Nat→Nat→Nat→Int→Nat→List Nat→List Nat→Int→Nat→List Nat→Nat→List Nat→Option R} (hg28L8:∀ (x0 x1:Nat) (x2 x3:Int) (x4:List Nat) (x5 x6:Nat) (x7:Int) (x8:Nat) (x9 x10:List Nat) (x11:Int) (x12:Nat) (x13:List Nat) (x14:Nat) (x15:List Nat),Prs (fun k=>tb k (pth 2036) (g28L8s x0 x1 x2 x3 x4 x5 x6 x7 x8 x9 x10 x11 x12 x13 x14 x15)) (lg28L8 x0 x1 x2 x3 x4 x5 x6 x7 x8 x9 x10 x11 x12 x13 x14 x15)) (m:Nat):∀ (x0 x1 x2:Nat) (x3 x4 x5:Int) (x6:List Nat) (x7 x8:Nat) (x9:Int) (x10:Nat) (x11 x12:List Nat) (x13:Int) (x14:Nat) (x15:List Nat) (x16:Nat) (x17:List Nat),Prs (fun k=>tb k (pth 521420) (g28L11s x0 x1 x2 x3 x4 x5 x6 x7 x8 x9 x10 x11 x12 x13 x14 x15 x16 x17)) (g28L11 A n kk lg28L8 m x0 x1 x2 x3 x4 x5 x6 x7 x8 x9 x10 x11 x12 x13 x14 x15 x16 x17):=by
  induction m with
  | zero=>intro x0 x1 x2 x3 x4 x5 x6 x7 x8 x9 x10 x11 x12 x13 x14 x15 x16 x17; exact pn0
  | succ m ih =>
    intro x0 x1 x2 x3 x4 x5 x6 x7 x8 x9 x10 x11 x12 x13 x14 x15 x16 x17; rw [g28L11]
    exact st.g (pc (SxY06spi _ (g28J12_go st ih) (hg28L8 _ _ _ _ _ _ _ _ _ _ _ _ _ _ _ _)) (by kernel_rfl))
theorem g28J9_go {lg28L8:Nat→Nat→Int→Int→List Nat→Nat→Nat→Int→Nat→List Nat→List Nat→Int→Nat→List Nat→Nat→List Nat→Option R} (hg28L8:∀ (x0 x1:Nat) (x2 x3:Int) (x4:List Nat) (x5 x6:Nat) (x7:Int) (x8:Nat) (x9 x10:List Nat) (x11:Int) (x12:Nat) (x13:List Nat) (x14:Nat) (x15:List Nat),Prs (fun k=>tb k (pth 2036) (g28L8s x0 x1 x2 x3 x4 x5 x6 x7 x8 x9 x10 x11 x12 x13 x14 x15)) (lg28L8 x0 x1 x2 x3 x4 x5 x6 x7 x8 x9 x10 x11 x12 x13 x14 x15)) {x0:Nat} {x1:Nat} {x2:Int} {x3:Int} {x4:List Nat} {x5:Nat} {x6:Nat} {x7:Int} {x8:Nat} {x9:List Nat} {x10:List Nat} {x11:Int} {x12:Nat} {x13:List Nat} {x14:Nat} {x15:List Nat}:Prs (fun k=>tb k (pth 8147) (g28J9s x0 x1 x2 x3 x4 x5 x6 x7 x8 x9 x10 x11 x12 x13 x14 x15)) (g28J9 A n kk lg28L8 x0 x1 x2 x3 x4 x5 x6 x7 x8 x9 x10 x11 x12 x13 x14 x15):=by
  unfold g28J9
  exact st.g (pc (SxY06spi _ pn (SxY06spi _ (g28L11_go st hg28L8 n _ _ _ _ _ _ _ _ _ _ _ _ _ _ _ _ _ _) pn)) (by kernel_rfl))
theorem g28J23_go {lg28L22:Nat→Nat→List Nat→Int→Int→List Nat→Nat→Nat→Int→Nat→List Nat→Nat→List Nat→Option R} (hg28L22:∀ (x0 x1:Nat) (x2:List Nat) (x3 x4:Int) (x5:List Nat) (x6 x7:Nat) (x8:Int) (x9:Nat) (x10:List Nat) (x11:Nat) (x12:List Nat),Prs (fun k=>tb k (pth 4191436) (g28L22s x0 x1 x2 x3 x4 x5 x6 x7 x8 x9 x10 x11 x12)) (lg28L22 x0 x1 x2 x3 x4 x5 x6 x7 x8 x9 x10 x11 x12)) {x0:Nat} {x1:Nat} {x2:List Nat} {x3:Int} {x4:Int} {x5:List Nat} {x6:Nat} {x7:Nat} {x8:Int} {x9:Nat} {x10:List Nat} {x11:Nat} {x12:List Nat}:Prs (fun k=>tb k (pth 16765747) (g28J23s x0 x1 x2 x3 x4 x5 x6 x7 x8 x9 x10 x11 x12)) (g28J23 A n kk lg28L22 x0 x1 x2 x3 x4 x5 x6 x7 x8 x9 x10 x11 x12):=by
  unfold g28J23
  exact st.g (pc (SxY06spi _ pn (SxY06spi _ (SxY06spi _ (hg28L22 _ _ _ _ _ _ _ _ _ _ _ _ _) pn) pn)) (by kernel_rfl))
theorem g28L22_go {lg28L19:Nat→List Nat→Int→List Nat→Nat→Nat→Int→Nat→List Nat→Nat→List Nat→Option R} (hg28L19:∀ (x0:Nat) (x1:List Nat) (x2:Int) (x3:List Nat) (x4 x5:Nat) (x6:Int) (x7:Nat) (x8:List Nat) (x9:Nat) (x10:List Nat),Prs (fun k=>tb k (pth 16372) (g28L19s x0 x1 x2 x3 x4 x5 x6 x7 x8 x9 x10)) (lg28L19 x0 x1 x2 x3 x4 x5 x6 x7 x8 x9 x10)) (m:Nat):∀ (x0 x1:Nat) (x2:List Nat) (x3 x4:Int) (x5:List Nat) (x6 x7:Nat) (x8:Int) (x9:Nat) (x10:List Nat) (x11:Nat) (x12:List Nat),Prs (fun k=>tb k (pth 4191436) (g28L22s x0 x1 x2 x3 x4 x5 x6 x7 x8 x9 x10 x11 x12)) (g28L22 A n kk lg28L19 m x0 x1 x2 x3 x4 x5 x6 x7 x8 x9 x10 x11 x12):=by
  induction m with
  | zero=>intro x0 x1 x2 x3 x4 x5 x6 x7 x8 x9 x10 x11 x12; exact pn0
  | succ m ih =>
    intro x0 x1 x2 x3 x4 x5 x6 x7 x8 x9 x10 x11 x12; rw [g28L22]
    exact st.g (pc (SxY06spi _ (g28J23_go st ih) (hg28L19 _ _ _ _ _ _ _ _ _ _ _)) (by kernel_rfl))
theorem g28J20_go {lg28L19:Nat→List Nat→Int→List Nat→Nat→Nat→Int→Nat→List Nat→Nat→List Nat→Option R} (hg28L19:∀ (x0:Nat) (x1:List Nat) (x2:Int) (x3:List Nat) (x4 x5:Nat) (x6:Int) (x7:Nat) (x8:List Nat) (x9:Nat) (x10:List Nat),Prs (fun k=>tb k (pth 16372) (g28L19s x0 x1 x2 x3 x4 x5 x6 x7 x8 x9 x10)) (lg28L19 x0 x1 x2 x3 x4 x5 x6 x7 x8 x9 x10)) {x0:Nat} {x1:List Nat} {x2:Int} {x3:List Nat} {x4:Nat} {x5:Nat} {x6:Int} {x7:Nat} {x8:List Nat} {x9:Nat} {x10:List Nat}:Prs (fun k=>tb k (pth 65491) (g28J20s x0 x1 x2 x3 x4 x5 x6 x7 x8 x9 x10)) (g28J20 A n kk lg28L19 x0 x1 x2 x3 x4 x5 x6 x7 x8 x9 x10):=by
  unfold g28J20
  exact st.g (pc (SxY06spi _ pn (SxY06spi _ (g28L22_go st hg28L19 n _ _ _ _ _ _ _ _ _ _ _ _ _) pn)) (by kernel_rfl))
theorem g28L19_go (m:Nat):∀ (x0:Nat) (x1:List Nat) (x2:Int) (x3:List Nat) (x4 x5:Nat) (x6:Int) (x7:Nat) (x8:List Nat) (x9:Nat) (x10:List Nat),Prs (fun k=>tb k (pth 16372) (g28L19s x0 x1 x2 x3 x4 x5 x6 x7 x8 x9 x10)) (g28L19 A n kk m x0 x1 x2 x3 x4 x5 x6 x7 x8 x9 x10):=by
  induction m with
  | zero=>intro x0 x1 x2 x3 x4 x5 x6 x7 x8 x9 x10; exact pn0
  | succ m ih =>
    intro x0 x1 x2 x3 x4 x5 x6 x7 x8 x9 x10; rw [g28L19]
    exact st.g (pc (SxY06spi _ (g28J20_go st ih) (pf _)) (by kernel_rfl))
theorem g28J16_go {x0:Nat} {x1:List Nat} {x2:Nat} {x3:Nat} {x4:Int} {x5:Nat} {x6:List Nat} {x7:List Nat} {x8:Int} {x9:Nat} {x10:List Nat}:Prs (fun k=>tb k (pth 255) (g28J16s x0 x1 x2 x3 x4 x5 x6 x7 x8 x9 x10)) (g28J16 A n kk x0 x1 x2 x3 x4 x5 x6 x7 x8 x9 x10):=by
  unfold g28J16
  exact st.g (pc (SxY06spi _ (g28L19_go st n _ _ _ _ _ _ _ _ _ _ _) pn) (by kernel_rfl))
theorem g28L8_go (m:Nat):∀ (x0 x1:Nat) (x2 x3:Int) (x4:List Nat) (x5 x6:Nat) (x7:Int) (x8:Nat) (x9 x10:List Nat) (x11:Int) (x12:Nat) (x13:List Nat) (x14:Nat) (x15:List Nat),Prs (fun k=>tb k (pth 2036) (g28L8s x0 x1 x2 x3 x4 x5 x6 x7 x8 x9 x10 x11 x12 x13 x14 x15)) (g28L8 A n kk m x0 x1 x2 x3 x4 x5 x6 x7 x8 x9 x10 x11 x12 x13 x14 x15):=by
  induction m with
  | zero=>intro x0 x1 x2 x3 x4 x5 x6 x7 x8 x9 x10 x11 x12 x13 x14 x15; exact pn0
  | succ m ih =>
    intro x0 x1 x2 x3 x4 x5 x6 x7 x8 x9 x10 x11 x12 x13 x14 x15; rw [g28L8]
    exact st.g (pc (SxY06spi _ (g28J9_go st ih) (g28J16_go st)) (by kernel_rfl))
theorem g28J6_go {x0:Nat} {x1:List Nat} {x2:Nat} {x3:Nat} {x4:Int} {x5:Nat} {x6:List Nat} {x7:List Nat} {x8:Int} {x9:Nat} {x10:List Nat}:Prs (fun k=>tb k (pth 63) (g28J6s x0 x1 x2 x3 x4 x5 x6 x7 x8 x9 x10)) (g28J6 A n kk x0 x1 x2 x3 x4 x5 x6 x7 x8 x9 x10):=by
  unfold g28J6
  exact st.g (pc (SxY06spi _ (g28L8_go st n _ _ _ _ _ _ _ _ _ _ _ _ _ _ _ _) pn) (by kernel_rfl))
theorem g28L4_go (m:Nat):∀ (x0:Nat) (x1:List Nat) (x2 x3:Nat) (x4:Int) (x5:Nat) (x6 x7:List Nat) (x8:Int) (x9:Nat) (x10:List Nat),Prs (fun k=>tb k (pth 248) (g28L4s x0 x1 x2 x3 x4 x5 x6 x7 x8 x9 x10)) (g28L4 A n kk m x0 x1 x2 x3 x4 x5 x6 x7 x8 x9 x10):=by
  induction m with
  | zero=>intro x0 x1 x2 x3 x4 x5 x6 x7 x8 x9 x10; exact pn0
  | succ m ih =>
    intro x0 x1 x2 x3 x4 x5 x6 x7 x8 x9 x10; rw [g28L4]
    exact st.g (pc (SxY06spi _ (SxY06spi _ (SxY06spi _ (ih _ _ _ _ _ _ _ _ _ _ _) pn) pn) (g28J6_go st)) (by kernel_rfl))
theorem g28_go {x0:List Nat} {x1:Nat} {x2:Nat} {x3:Int} {x4:Nat} {x5:List Nat}:Prs (fun k=>funN A gtys (g28O A) g28an g28cut (bodyOf Try.f28) g28res [(pT 0 0)] [(0,⟨[.nums .u64 88 x0,.one (.sl 1 (some x1) x2 1),.one (.int .i64 x3)],76,1⟩),(1,⟨[.nums .u8 x4 x5],5,2⟩)] kk (tb k)) (g28 A n kk x0 x1 x2 x3 x4 x5):=by
  unfold g28
  exact pc (SxY06spi _ (SxY06spi _ (SxY06spi _ (SxY06spi _ (g28L4_go st n _ _ _ _ _ _ _ _ _ _ _) pn) pn) pn) pn) (by kernel_rfl)
end
def g28is (o:Option (AV × Heap)):Bool:=match o with
 | some (.v (.cell (.str _)),[(n0,⟨[.nums .u64 n1 _,.one (.sl n2 (some _) _ n3),.one (.int .i64 _)],n4,n5⟩),(n6,⟨[.nums .u8 _ _],n7,n8⟩)])=>Nat.beq n0 0&&(Nat.beq n1 88&&(Nat.beq n2 1&&(Nat.beq n3 1&&(Nat.beq n4 76&&(Nat.beq n5 1&&(Nat.beq n6 1&&(Nat.beq n7 5&&(Nat.beq n8 2))))))))
 | _=>false
def g28g0 (o:Option (AV × Heap)):List Nat:=match o with
 | some (.v (.cell (.str x)),[(_,⟨[.nums .u64 _ _,.one (.sl _ (some _) _ _),.one (.int .i64 _)],_,_⟩),(_,⟨[.nums .u8 _ _],_,_⟩)])=>x
 | _=>[]
def g28g1 (o:Option (AV × Heap)):List Nat:=match o with
 | some (.v (.cell (.str _)),[(_,⟨[.nums .u64 _ x,.one (.sl _ (some _) _ _),.one (.int .i64 _)],_,_⟩),(_,⟨[.nums .u8 _ _],_,_⟩)])=>x
 | _=>[]
def g28g2 (o:Option (AV × Heap)):Nat:=match o with
 | some (.v (.cell (.str _)),[(_,⟨[.nums .u64 _ _,.one (.sl _ (some x) _ _),.one (.int .i64 _)],_,_⟩),(_,⟨[.nums .u8 _ _],_,_⟩)])=>x
 | _=>0
def g28g3 (o:Option (AV × Heap)):Nat:=match o with
 | some (.v (.cell (.str _)),[(_,⟨[.nums .u64 _ _,.one (.sl _ (some _) x _),.one (.int .i64 _)],_,_⟩),(_,⟨[.nums .u8 _ _],_,_⟩)])=>x
 | _=>0
def g28g4 (o:Option (AV × Heap)):Int:=match o with
 | some (.v (.cell (.str _)),[(_,⟨[.nums .u64 _ _,.one (.sl _ (some _) _ _),.one (.int .i64 x)],_,_⟩),(_,⟨[.nums .u8 _ _],_,_⟩)])=>x
 | _=>0
def g28g5 (o:Option (AV × Heap)):Nat:=match o with
 | some (.v (.cell (.str _)),[(_,⟨[.nums .u64 _ _,.one (.sl _ (some _) _ _),.one (.int .i64 _)],_,_⟩),(_,⟨[.nums .u8 x _],_,_⟩)])=>x
 | _=>0
def g28g6 (o:Option (AV × Heap)):List Nat:=match o with
 | some (.v (.cell (.str _)),[(_,⟨[.nums .u64 _ _,.one (.sl _ (some _) _ _),.one (.int .i64 _)],_,_⟩),(_,⟨[.nums .u8 _ x],_,_⟩)])=>x
 | _=>[]
theorem g28is_spec {o:Option (AV × Heap)} (h:g28is o=true):o=some ((tS (g28g0 o)),[(0,⟨[.nums .u64 88 (g28g1 o),.one (.sl 1 (some (g28g2 o)) (g28g3 o) 1),.one (.int .i64 (g28g4 o))],76,1⟩),(1,⟨[.nums .u8 (g28g5 o) (g28g6 o)],5,2⟩)]):=by
  unfold g28is at h
  split at h
  · rename_i z0 n0 n1 z3 n2 z5 z6 n3 z8 n4 n5 n6 z12 z13 n7 n8
    simp only [Bool.and_eq_true] at h
    have en0:=beq_true h.1
    subst en0
    replace h:=h.2
    have en1:=beq_true h.1
    subst en1
    replace h:=h.2
    have en2:=beq_true h.1
    subst en2
    replace h:=h.2
    have en3:=beq_true h.1
    subst en3
    replace h:=h.2
    have en4:=beq_true h.1
    subst en4
    replace h:=h.2
    have en5:=beq_true h.1
    subst en5
    replace h:=h.2
    have en6:=beq_true h.1
    subst en6
    replace h:=h.2
    have en7:=beq_true h.1
    subst en7
    replace h:=h.2
    have en8:=beq_true h
    subst en8
    rfl
  · cases h
def g28v (A:Ar) (x0:List Nat) (x1 x2:Nat) (x3:Int) (x4:Nat) (x5:List Nat):Option (AV × Heap):=g28 A (100000) (outN [1] [0,1] none) x0 x1 x2 x3 x4 x5
def g28ok (A:Ar) (x0:List Nat) (x1 x2:Nat) (x3:Int) (x4:Nat) (x5:List Nat):Bool:=g28is (g28v A x0 x1 x2 x3 x4 x5)
def g28r0 (A:Ar) (x0:List Nat) (x1 x2:Nat) (x3:Int) (x4:Nat) (x5:List Nat):List Nat:=g28g0 (g28v A x0 x1 x2 x3 x4 x5)
def g28r1 (A:Ar) (x0:List Nat) (x1 x2:Nat) (x3:Int) (x4:Nat) (x5:List Nat):List Nat:=g28g1 (g28v A x0 x1 x2 x3 x4 x5)
def g28r2 (A:Ar) (x0:List Nat) (x1 x2:Nat) (x3:Int) (x4:Nat) (x5:List Nat):Nat:=g28g2 (g28v A x0 x1 x2 x3 x4 x5)
def g28r3 (A:Ar) (x0:List Nat) (x1 x2:Nat) (x3:Int) (x4:Nat) (x5:List Nat):Nat:=g28g3 (g28v A x0 x1 x2 x3 x4 x5)
def g28r4 (A:Ar) (x0:List Nat) (x1 x2:Nat) (x3:Int) (x4:Nat) (x5:List Nat):Int:=g28g4 (g28v A x0 x1 x2 x3 x4 x5)
def g28r5 (A:Ar) (x0:List Nat) (x1 x2:Nat) (x3:Int) (x4:Nat) (x5:List Nat):Nat:=g28g5 (g28v A x0 x1 x2 x3 x4 x5)
def g28r6 (A:Ar) (x0:List Nat) (x1 x2:Nat) (x3:Int) (x4:Nat) (x5:List Nat):List Nat:=g28g6 (g28v A x0 x1 x2 x3 x4 x5)
theorem g28ok_spec {A:Ar} {x0 x1 x2 x3 x4 x5} (h:g28ok A x0 x1 x2 x3 x4 x5=true):g28v A x0 x1 x2 x3 x4 x5=some ((tS (g28r0 A x0 x1 x2 x3 x4 x5)),[(0,⟨[.nums .u64 88 (g28r1 A x0 x1 x2 x3 x4 x5),.one (.sl 1 (some (g28r2 A x0 x1 x2 x3 x4 x5)) (g28r3 A x0 x1 x2 x3 x4 x5) 1),.one (.int .i64 (g28r4 A x0 x1 x2 x3 x4 x5))],76,1⟩),(1,⟨[.nums .u8 (g28r5 A x0 x1 x2 x3 x4 x5) (g28r6 A x0 x1 x2 x3 x4 x5)],5,2⟩)]):=g28is_spec h
def g28o (A:Ar) (args:List AV) (h:Heap):Option (Bool × AV × Heap):=match args,h with
 | [.v (.cell (.ptr n0 n1 none))],[(n2,⟨[.nums .u64 n3 x0,.one (.sl n4 (some x1) x2 n5),.one (.int .i64 x3)],n6,n7⟩),(n8,⟨[.nums .u8 x4 x5],n9,n10⟩)]=>match Nat.beq n0 0&&(Nat.beq n1 0&&(Nat.beq n2 0&&(Nat.beq n3 88&&(Nat.beq n4 1&&(Nat.beq n5 1&&(Nat.beq n6 76&&(Nat.beq n7 1&&(Nat.beq n8 1&&(Nat.beq n9 5&&(Nat.beq n10 2)))))))))) with
  | true=>some (g28ok A x0 x1 x2 x3 x4 x5,(tS (g28r0 A x0 x1 x2 x3 x4 x5)),[(0,⟨[.nums .u64 88 (g28r1 A x0 x1 x2 x3 x4 x5),.one (.sl 1 (some (g28r2 A x0 x1 x2 x3 x4 x5)) (g28r3 A x0 x1 x2 x3 x4 x5) 1),.one (.int .i64 (g28r4 A x0 x1 x2 x3 x4 x5))],76,1⟩),(1,⟨[.nums .u8 (g28r5 A x0 x1 x2 x3 x4 x5) (g28r6 A x0 x1 x2 x3 x4 x5)],5,2⟩)])
  | false=>none
 | _,_=>none
theorem g28o_sound:∀ args h v h',g28o realA args h=some (true,v,h')→FnH Try.prog 28 args h v h':=by
  intro args h v h' hh
  unfold g28o at hh
  split at hh
  · rename_i n0 n1 n2 n3 x0 n4 x1 x2 n5 x3 n6 n7 n8 x4 x5 n9 n10
    split at hh
    case h_2=>cases hh
    rename_i hc0
    simp only [Option.some.injEq,Prod.mk.injEq] at hh
    obtain ⟨hc,hv,hh⟩:=hh
    subst hv
    subst hh
    simp only [Bool.and_eq_true] at hc0
    have en0:=beq_true hc0.1
    subst en0
    replace hc0:=hc0.2
    have en1:=beq_true hc0.1
    subst en1
    replace hc0:=hc0.2
    have en2:=beq_true hc0.1
    subst en2
    replace hc0:=hc0.2
    have en3:=beq_true hc0.1
    subst en3
    replace hc0:=hc0.2
    have en4:=beq_true hc0.1
    subst en4
    replace hc0:=hc0.2
    have en5:=beq_true hc0.1
    subst en5
    replace hc0:=hc0.2
    have en6:=beq_true hc0.1
    subst en6
    replace hc0:=hc0.2
    have en7:=beq_true hc0.1
    subst en7
    replace hc0:=hc0.2
    have en8:=beq_true hc0.1
    subst en8
    replace hc0:=hc0.2
    have en9:=beq_true hc0.1
    subst en9
    replace hc0:=hc0.2
    have en10:=beq_true hc0
    subst en10
    exact fnh_ofGN mixed gtysOK g28O_sound g28O_det (an:=g28an) (cut:=g28cut) Try.func28 (c:=bodyOf Try.f28) rfl (by kernel_rfl) Try.call28 (Nat.le_of_ble_eq_true rfl) (B:=[1]) (pins:=[0,1]) (nilr:=none) (fun _=>(show g28v realA x0 x1 x2 x3 x4 x5=_ from g28ok_spec hc)) fun _ st=>g28_go st
  · cases hh
attribute [local irreducible] g28ok g28r0 g28r1 g28r2 g28r3 g28r4 g28r5 g28r6
def g23O (A:Ar):Orc:=orcN [(25,(1,1,⟨[.nums .u8 0 []],5,2⟩))] (orcH [] [(25,⟨[],none,(g25o A)⟩),(26,⟨[0,1],(some (0,1,1,⟨[.nums .u8 0 []],5,2⟩)),(hoN [501,600] (ho2 (g26o A) (g26a_o A)))⟩),(28,⟨[],none,(hoN [1] (g28o A))⟩)])
theorem g23O_sound:OSound Try.prog (g23O realA):=orcN_sound <| orcH_sound (fun f g hm args v hv=>by
    cases hm) (fun f e hm args h v h' hv=>by
    simp only [List.mem_cons,List.not_mem_nil,or_false,Prod.mk.injEq] at hm
    rcases hm with ⟨rfl,rfl⟩ | ⟨rfl,rfl⟩ | ⟨rfl,rfl⟩
    · exact g25o_sound _ _ _ _ hv
    · exact (hoN_sound (ho2_sound g26o_sound g26a_o_sound)) _ _ _ _ hv
    · exact (hoN_sound g28o_sound) _ _ _ _ hv)
theorem g23O_det:ODet (g23O realA):=orcN_det <| orcH_det _ _
def g23an:Ann:=[(0,([0],[])),(1,([0],[])),(2,([0,3],[2000,2500])),(3,([3],[2000,2500]))]
def g23res:List ResultVar:=[.tmp 2]
def g23cut:List Nat:=[]
abbrev g23t0 (A:Ar) (a:List Nat):List Nat:=g28r0 A (g26r0 A a (g25r0 A) 0 0 (g25r1 A) 0 []) (g26r1 A a (g25r0 A) 0 0 (g25r1 A) 0 []) (g26r2 A a (g25r0 A) 0 0 (g25r1 A) 0 []) (g26r3 A a (g25r0 A) 0 0 (g25r1 A) 0 []) (g26r4 A a (g25r0 A) 0 0 (g25r1 A) 0 []) (g26r5 A a (g25r0 A) 0 0 (g25r1 A) 0 [])
abbrev g23t1 (A:Ar) (a:List Nat):List Nat:=g28r1 A (g26r0 A a (g25r0 A) 0 0 (g25r1 A) 0 []) (g26r1 A a (g25r0 A) 0 0 (g25r1 A) 0 []) (g26r2 A a (g25r0 A) 0 0 (g25r1 A) 0 []) (g26r3 A a (g25r0 A) 0 0 (g25r1 A) 0 []) (g26r4 A a (g25r0 A) 0 0 (g25r1 A) 0 []) (g26r5 A a (g25r0 A) 0 0 (g25r1 A) 0 [])
abbrev g23t2 (A:Ar) (a:List Nat):Nat:=g28r2 A (g26r0 A a (g25r0 A) 0 0 (g25r1 A) 0 []) (g26r1 A a (g25r0 A) 0 0 (g25r1 A) 0 []) (g26r2 A a (g25r0 A) 0 0 (g25r1 A) 0 []) (g26r3 A a (g25r0 A) 0 0 (g25r1 A) 0 []) (g26r4 A a (g25r0 A) 0 0 (g25r1 A) 0 []) (g26r5 A a (g25r0 A) 0 0 (g25r1 A) 0 [])
abbrev g23t3 (A:Ar) (a:List Nat):Nat:=g28r3 A (g26r0 A a (g25r0 A) 0 0 (g25r1 A) 0 []) (g26r1 A a (g25r0 A) 0 0 (g25r1 A) 0 []) (g26r2 A a (g25r0 A) 0 0 (g25r1 A) 0 []) (g26r3 A a (g25r0 A) 0 0 (g25r1 A) 0 []) (g26r4 A a (g25r0 A) 0 0 (g25r1 A) 0 []) (g26r5 A a (g25r0 A) 0 0 (g25r1 A) 0 [])
abbrev g23t4 (A:Ar) (a:List Nat):Int:=g28r4 A (g26r0 A a (g25r0 A) 0 0 (g25r1 A) 0 []) (g26r1 A a (g25r0 A) 0 0 (g25r1 A) 0 []) (g26r2 A a (g25r0 A) 0 0 (g25r1 A) 0 []) (g26r3 A a (g25r0 A) 0 0 (g25r1 A) 0 []) (g26r4 A a (g25r0 A) 0 0 (g25r1 A) 0 []) (g26r5 A a (g25r0 A) 0 0 (g25r1 A) 0 [])
abbrev g23t5 (A:Ar) (a:List Nat):Nat:=g28r5 A (g26r0 A a (g25r0 A) 0 0 (g25r1 A) 0 []) (g26r1 A a (g25r0 A) 0 0 (g25r1 A) 0 []) (g26r2 A a (g25r0 A) 0 0 (g25r1 A) 0 []) (g26r3 A a (g25r0 A) 0 0 (g25r1 A) 0 []) (g26r4 A a (g25r0 A) 0 0 (g25r1 A) 0 []) (g26r5 A a (g25r0 A) 0 0 (g25r1 A) 0 [])
abbrev g23t6 (A:Ar) (a:List Nat):List Nat:=g28r6 A (g26r0 A a (g25r0 A) 0 0 (g25r1 A) 0 []) (g26r1 A a (g25r0 A) 0 0 (g25r1 A) 0 []) (g26r2 A a (g25r0 A) 0 0 (g25r1 A) 0 []) (g26r3 A a (g25r0 A) 0 0 (g25r1 A) 0 []) (g26r4 A a (g25r0 A) 0 0 (g25r1 A) 0 []) (g26r5 A a (g25r0 A) 0 0 (g25r1 A) 0 [])
noncomputable def g23N {R:Type} (A:Ar) (kk:AV→Heap→Option R) (t:List Bool→St→Option R) (p:List Bool) (s:St):Option R:=nodeN A gtys (g23O A) g23an g23cut t (bodyOf Try.f23) (finD gtys g23res kk) p s
def g23 {R:Type} (A:Ar) (n:Nat) (kk:AV→Heap→Option R) (a:List Nat):Option R :=
 match g25ok A with
 | true=>match g26ok A a (g25r0 A) 0 0 (g25r1 A) 0 [] with
  | true=>match g28ok A (g26r0 A a (g25r0 A) 0 0 (g25r1 A) 0 []) (g26r1 A a (g25r0 A) 0 0 (g25r1 A) 0 []) (g26r2 A a (g25r0 A) 0 0 (g25r1 A) 0 []) (g26r3 A a (g25r0 A) 0 0 (g25r1 A) 0 []) (g26r4 A a (g25r0 A) 0 0 (g25r1 A) 0 []) (g26r5 A a (g25r0 A) 0 0 (g25r1 A) 0 []) with
   | true=>kk (tS (g23t0 A a)) [(2000,⟨[.nums .u64 88 (g23t1 A a),.one (.sl 2500 (some (g23t2 A a)) (g23t3 A a) 1),.one (.int .i64 (g23t4 A a))],76,1⟩),(2500,⟨[.nums .u8 (g23t5 A a) (g23t6 A a)],5,2⟩)]
   | false=>none
  | false=>none
 | false=>none
section
variable {R:Type} {A:Ar} {n:Nat} {kk:AV→Heap→Option R} {tb:Nat→List Bool→St→Option R} (st:Stp (g23N A kk) tb)
include st
theorem g23_go {a:List Nat}:Prs (fun k=>funN A gtys (g23O A) g23an g23cut (bodyOf Try.f23) g23res [(tS a)] [] kk (tb k)) (g23 A n kk a):=by
  unfold g23
  exact pc (SxY06spi _ (SxY06spi _ (SxY06spi _ (pf _) pn) pn) pn) (by kernel_rfl)
end
def g23is (o:Option AV):Bool:=match o with
 | some (.v (.cell (.str _)))=>true
 | _=>false
def g23g0 (o:Option AV):List Nat:=match o with
 | some (.v (.cell (.str x)))=>x
 | _=>[]
theorem g23is_spec {o:Option AV} (h:g23is o=true):o=some (.v (.cell (.str (g23g0 o)))):=by
  unfold g23is at h
  split at h
  · rfl
  · cases h
def g23v (A:Ar) (a:List Nat):Option AV:=g23 A (100000) (fun v _=>some v) a
def g23ok (A:Ar) (a:List Nat):Bool:=g23is (g23v A a)
def g23r0 (A:Ar) (a:List Nat):List Nat:=g23g0 (g23v A a)
theorem g23ok_spec {A:Ar} {a} (h:g23ok A a=true):g23v A a=some (.v (.cell (.str (g23r0 A a)))):=g23is_spec h
def g23o (A:Ar) (args:List AV):Option (Bool × AV):=match args with
 | [.v (.cell (.str a))]=>some (g23ok A a,.v (.cell (.str (g23r0 A a))))
 | _=>none
theorem g23o_sound:∀ args v,g23o realA args=some (true,v)→Fn1 Try.prog 23 args v:=by
  intro args v h
  unfold g23o at h
  split at h
  · rename_i a
    simp only [Option.some.injEq,Prod.mk.injEq] at h
    obtain ⟨hc,h⟩:=h
    subst h
    · skip
      exact fn1_ofG mixed gtysOK g23O_sound g23O_det (an:=g23an) (cut:=g23cut) Try.func23 (c:=bodyOf Try.f23) rfl (by kernel_rfl) Try.call23 (Nat.le_of_ble_eq_true rfl) (fun b=>rfl) (fun _=>(show g23v realA a=_ from g23ok_spec hc)) fun _ st=>g23_go st
  · cases h
attribute [local irreducible] g23ok g23r0
end Go.Sx
