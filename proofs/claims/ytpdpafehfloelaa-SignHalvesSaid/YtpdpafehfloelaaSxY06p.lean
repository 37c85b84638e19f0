import Derived.Test.YtpdpafehfloelaaSxY06a
namespace Go.Sx
set_option linter.unusedSectionVars false
open Go.Proofs
set_option linter.unusedVariables false
set_option maxRecDepth 100000
theorem SxY06ppi {R:Type} (c:Bool) {f1 f2:Nat→Option R} {a1 a2:Option R} (h1:Prs f1 a1) (h2:Prs f2 a2):Prs (fun k=>match c with | true=>f1 k | false=>f2 k) (match c with | true=>a1 | false=>a2):=by cases c <;> assumption
attribute [local irreducible] g52ok g52r0 g53ok g53r0 g42ok g42r0 g31ok g31r0 g33ok g33r0 g41ok g41r0 g58ok g58r0 g34ok g34r0 g51ok g51r0 g51r1 g50ok g50r0
def g29O (A:Ar):Orc:=orcOf [(50,g50o A)]
theorem g29O_sound:OSound Try.prog (g29O realA):=orc_sound fun f g hm args v hv=>by
  simp only [List.mem_cons,List.not_mem_nil,or_false,Prod.mk.injEq] at hm
  rcases hm with ⟨rfl,rfl⟩
  · exact g50o_sound _ _ hv
theorem g29O_det:ODet (g29O realA):=orc_det _
def g29an:Ann:=[(0,([0],[])),(1,([0,2],[1000])),(2,([2],[1000])),(3,([0,2],[1000])),(4,([0,2,4],[1000,4000])),(5,([0,2,4,11],[1000,4000])),(6,([0,2,4,11],[1000,4000])),(7,([0,2,4,5,11],[1000,4000])),(8,([0,2,4,5,11,14],[1000,4000])),(9,([0,2,4,5,11,14],[1000,4000])),(10,([0,2,4,5,6,11,14],[1000,4000])),(11,([0,2,4,5,11,14],[1000,4000])),(12,([0,2,4,11],[1000,4000])),(13,([2,4],[1000,4000])),(14,([2],[1000])),(15,([2,4],[1000,4000]))]
def g29res:List ResultVar:=[.cell 2 40,.tmp 3]
def g29cut:List Nat:=[3,6,9,13]
noncomputable def g29N {R:Type} (A:Ar) (kk:AV→Heap→Option R) (t:List Bool→St→Option R) (p:List Bool) (s:St):Option R:=nodeN A gtys (g29O A) g29an g29cut t (bodyOf Try.f29) (finD gtys g29res kk) p s
def g29J9s (x0:List Nat) (x1 x2 x3:Int) (x4 x5:List Nat):St:=⟨[(0,(tS x0)),(2,(pT 1000 0)),(4,(pT 4000 0)),(5,(i6 x1)),(11,(i6 x2)),(14,(i6 x3))],[(1000,(bU 4 x4 40)),(4000,(bU 4 x5 40))]⟩
def g29J9 {R:Type} (A:Ar) (n:Nat) (kk:AV→Heap→Option R) (lg29L5:List Nat→Int→List Nat→List Nat→Option R) (lg29L8:List Nat→Int→Int→Int→List Nat→List Nat→Option R) (x0:List Nat) (x1 x2 x3:Int) (x4 x5:List Nat):Option R :=
 match A.neg x1 with
 | true=>none
 | false=>match A.lt (A.toN x1) 4 with
  | true=>match A.neg (A.ib .add .i64 (A.ib .mul .i64 8 x1) x3) with
   | true=>none
   | false=>match A.lt (A.toN (A.ib .add .i64 (A.ib .mul .i64 8 x1) x3)) x0.length with
    | true=>match A.neg (A.ib .mul .i64 8 x3) with
     | true=>none
     | false=>match A.neg x1 with
      | true=>none
      | false=>match A.lt (A.toN x1) 4 with
       | true=>lg29L8 x0 x1 x2 (A.ib .add .i64 x3 1) x4 (x5.set (A.toN x1) (A.nb .or .u64 (x5.getD (A.toN x1) 0) (A.nsh .shl .u64 (x0.getD (A.toN (A.ib .add .i64 (A.ib .mul .i64 8 x1) x3)) 0) (A.toN (A.ib .mul .i64 8 x3)))))
       | false=>none
    | false=>none
  | false=>none
def g29L8s (x0:List Nat) (x1 x2 x3:Int) (x4 x5:List Nat):St:=⟨[(0,(tS x0)),(2,(pT 1000 0)),(4,(pT 4000 0)),(5,(i6 x1)),(11,(i6 x2)),(14,(i6 x3))],[(1000,(bU 4 x4 40)),(4000,(bU 4 x5 40))]⟩
def g29L8 {R:Type} (A:Ar) (n:Nat) (kk:AV→Heap→Option R) (lg29L5:List Nat→Int→List Nat→List Nat→Option R):Nat→List Nat→Int→Int→Int→List Nat→List Nat→Option R
 | 0,_,_,_,_,_,_=>none
 | m+1,x0,x1,x2,x3,x4,x5=>match A.ic .lss x3 8 with
 | true=>g29J9 A n kk lg29L5 (g29L8 A n kk lg29L5 m) x0 x1 x2 x3 x4 x5
 | false=>lg29L5 x0 (A.ib .add .i64 x2 1) x4 x5
def g29J6s (x0:List Nat) (x1:Int) (x2 x3:List Nat):St:=⟨[(0,(tS x0)),(2,(pT 1000 0)),(4,(pT 4000 0)),(11,(i6 x1))],[(1000,(bU 4 x2 40)),(4000,(bU 4 x3 40))]⟩
def g29J6 {R:Type} (A:Ar) (n:Nat) (kk:AV→Heap→Option R) (lg29L5:List Nat→Int→List Nat→List Nat→Option R) (x0:List Nat) (x1:Int) (x2 x3:List Nat):Option R :=
 g29L8 A n kk lg29L5 n x0 x1 x1 0 x2 x3
def g29J13s (x0 x1:List Nat):St:=⟨[(2,(pT 1000 0)),(4,(pT 4000 0))],[(1000,(bU 4 x0 40)),(4000,(bU 4 x1 40))]⟩
def g29J13 {R:Type} (A:Ar) (n:Nat) (kk:AV→Heap→Option R)  (x0 x1:List Nat):Option R :=
 match g50ok A x1 with
 | true=>match !(g50r0 A x1) with
  | true=>kk (.tup [(.agg [.nums .u64 4 [0,0,0,0]]),(.cell (.bool false))]) [(1000,(bU 4 [0,0,0,0] 40))]
  | false=>kk (.tup [(.agg [.nums .u64 4 x1]),(.cell (.bool true))]) [(1000,(bU 4 x1 40)),(4000,(bU 4 x1 40))]
 | false=>none
def g29L5s (x0:List Nat) (x1:Int) (x2 x3:List Nat):St:=⟨[(0,(tS x0)),(2,(pT 1000 0)),(4,(pT 4000 0)),(11,(i6 x1))],[(1000,(bU 4 x2 40)),(4000,(bU 4 x3 40))]⟩
def g29L5 {R:Type} (A:Ar) (n:Nat) (kk:AV→Heap→Option R)  : Nat→List Nat→Int→List Nat→List Nat→Option R
 | 0,_,_,_,_=>none
 | m+1,x0,x1,x2,x3=>match A.ic .lss x1 4 with
 | true=>g29J6 A n kk (g29L5 A n kk  m) x0 x1 x2 x3
 | false=>g29J13 A n kk  x2 x3
def g29J3s (x0 x1:List Nat):St:=⟨[(0,(tS x0)),(2,(pT 1000 0))],[(1000,(bU 4 x1 40))]⟩
def g29J3 {R:Type} (A:Ar) (n:Nat) (kk:AV→Heap→Option R)  (x0 x1:List Nat):Option R :=
 g29L5 A n kk  n x0 0 x1 [0,0,0,0]
def g29 {R:Type} (A:Ar) (n:Nat) (kk:AV→Heap→Option R) (a:List Nat):Option R :=
 match A.ic .neq (A.ofN a.length) 32 with
 | true=>kk (.tup [(.agg [.nums .u64 4 [0,0,0,0]]),(.cell (.bool false))]) [(1000,(bU 4 [0,0,0,0] 40))]
 | false=>g29J3 A n kk  a [0,0,0,0]
section
variable {R:Type} {A:Ar} {n:Nat} {kk:AV→Heap→Option R} {tb:Nat→List Bool→St→Option R} (st:Stp (g29N A kk) tb)
include st
theorem g29J9_go {lg29L5:List Nat→Int→List Nat→List Nat→Option R} {lg29L8:List Nat→Int→Int→Int→List Nat→List Nat→Option R} (hg29L5:∀ (x0:List Nat) (x1:Int) (x2 x3:List Nat),Prs (fun k=>tb k (pth 244) (g29L5s x0 x1 x2 x3)) (lg29L5 x0 x1 x2 x3)) (hg29L8:∀ (x0:List Nat) (x1 x2 x3:Int) (x4 x5:List Nat),Prs (fun k=>tb k (pth 62668) (g29L8s x0 x1 x2 x3 x4 x5)) (lg29L8 x0 x1 x2 x3 x4 x5)) {x0:List Nat} {x1:Int} {x2:Int} {x3:Int} {x4:List Nat} {x5:List Nat}:Prs (fun k=>tb k (pth 250675) (g29J9s x0 x1 x2 x3 x4 x5)) (g29J9 A n kk lg29L5 lg29L8 x0 x1 x2 x3 x4 x5):=by
  unfold g29J9
  exact st.g (pc (SxY06ppi _ pn (SxY06ppi _ (SxY06ppi _ pn (SxY06ppi _ (SxY06ppi _ pn (SxY06ppi _ pn (SxY06ppi _ (hg29L8 _ _ _ _ _ _) pn))) pn)) pn)) (by kernel_rfl))
theorem g29L8_go {lg29L5:List Nat→Int→List Nat→List Nat→Option R} (hg29L5:∀ (x0:List Nat) (x1:Int) (x2 x3:List Nat),Prs (fun k=>tb k (pth 244) (g29L5s x0 x1 x2 x3)) (lg29L5 x0 x1 x2 x3)) (m:Nat):∀ (x0:List Nat) (x1 x2 x3:Int) (x4 x5:List Nat),Prs (fun k=>tb k (pth 62668) (g29L8s x0 x1 x2 x3 x4 x5)) (g29L8 A n kk lg29L5 m x0 x1 x2 x3 x4 x5):=by
  induction m with
  | zero=>intro x0 x1 x2 x3 x4 x5; exact pn0
  | succ m ih =>
    intro x0 x1 x2 x3 x4 x5; rw [g29L8]
    exact st.g (pc (SxY06ppi _ (g29J9_go st hg29L5 ih) (hg29L5 _ _ _ _)) (by kernel_rfl))
theorem g29J6_go {lg29L5:List Nat→Int→List Nat→List Nat→Option R} (hg29L5:∀ (x0:List Nat) (x1:Int) (x2 x3:List Nat),Prs (fun k=>tb k (pth 244) (g29L5s x0 x1 x2 x3)) (lg29L5 x0 x1 x2 x3)) {x0:List Nat} {x1:Int} {x2:List Nat} {x3:List Nat}:Prs (fun k=>tb k (pth 979) (g29J6s x0 x1 x2 x3)) (g29J6 A n kk lg29L5 x0 x1 x2 x3):=by
  unfold g29J6
  exact st.g (pc (g29L8_go st hg29L5 n _ _ _ _ _ _) (by kernel_rfl))
theorem g29J13_go {x0:List Nat} {x1:List Nat}:Prs (fun k=>tb k (pth 31) (g29J13s x0 x1)) (g29J13 A n kk x0 x1):=by
  unfold g29J13
  exact st.g (pc (SxY06ppi _ (SxY06ppi _ (pf _) (pf _)) pn) (by kernel_rfl))
theorem g29L5_go (m:Nat):∀ (x0:List Nat) (x1:Int) (x2 x3:List Nat),Prs (fun k=>tb k (pth 244) (g29L5s x0 x1 x2 x3)) (g29L5 A n kk m x0 x1 x2 x3):=by
  induction m with
  | zero=>intro x0 x1 x2 x3; exact pn0
  | succ m ih =>
    intro x0 x1 x2 x3; rw [g29L5]
    exact st.g (pc (SxY06ppi _ (g29J6_go st ih) (g29J13_go st)) (by kernel_rfl))
theorem g29J3_go {x0:List Nat} {x1:List Nat}:Prs (fun k=>tb k (pth 7) (g29J3s x0 x1)) (g29J3 A n kk x0 x1):=by
  unfold g29J3
  exact st.g (pc (g29L5_go st n _ _ _ _) (by kernel_rfl))
theorem g29_go {a:List Nat}:Prs (fun k=>funN A gtys (g29O A) g29an g29cut (bodyOf Try.f29) g29res [(tS a)] [] kk (tb k)) (g29 A n kk a):=by
  unfold g29
  exact pc (SxY06ppi _ (pf _) (g29J3_go st)) (by kernel_rfl)
end
def g29is (o:Option AV):Bool:=match o with
 | some (.tup [.agg [.nums .u64 4 _],.cell (.bool _)])=>true
 | _=>false
def g29g0 (o:Option AV):List Nat:=match o with
 | some (.tup [.agg [.nums .u64 4 x],.cell (.bool _)])=>x
 | _=>[]
def g29g1 (o:Option AV):Bool:=match o with
 | some (.tup [.agg [.nums .u64 4 _],.cell (.bool x)])=>x
 | _=>false
theorem g29is_spec {o:Option AV} (h:g29is o=true):o=some (.tup [.agg [.nums .u64 4 (g29g0 o)],.cell (.bool (g29g1 o))]):=by
  unfold g29is at h
  split at h
  · rfl
  · cases h
def g29v (A:Ar) (a:List Nat):Option AV:=g29 A (100000) (fun v _=>some v) a
def g29ok (A:Ar) (a:List Nat):Bool:=g29is (g29v A a)
def g29r0 (A:Ar) (a:List Nat):List Nat:=g29g0 (g29v A a)
def g29r1 (A:Ar) (a:List Nat):Bool:=g29g1 (g29v A a)
theorem g29ok_spec {A:Ar} {a} (h:g29ok A a=true):g29v A a=some (.tup [.agg [.nums .u64 4 (g29r0 A a)],.cell (.bool (g29r1 A a))]):=g29is_spec h
def g29o (A:Ar) (args:List AV):Option (Bool × AV):=match args with
 | [.v (.cell (.str a))]=>some (g29ok A a,.tup [.agg [.nums .u64 4 (g29r0 A a)],.cell (.bool (g29r1 A a))])
 | _=>none
theorem g29o_sound:∀ args v,g29o realA args=some (true,v)→Fn1 Try.prog 29 args v:=by
  intro args v h
  unfold g29o at h
  split at h
  · rename_i a
    simp only [Option.some.injEq,Prod.mk.injEq] at h
    obtain ⟨hc,h⟩:=h
    subst h
    · skip
      exact fn1_ofG mixed gtysOK g29O_sound g29O_det (an:=g29an) (cut:=g29cut) Try.func29 (c:=bodyOf Try.f29) rfl (by kernel_rfl) Try.call29 (Nat.le_of_ble_eq_true rfl) (fun b=>rfl) (fun _=>(show g29v realA a=_ from g29ok_spec hc)) fun _ st=>g29_go st
  · cases h
attribute [local irreducible] g29ok g29r0 g29r1
def g43O (A:Ar):Orc:=orcOf [(58,g58o A)]
theorem g43O_sound:OSound Try.prog (g43O realA):=orc_sound fun f g hm args v hv=>by
  simp only [List.mem_cons,List.not_mem_nil,or_false,Prod.mk.injEq] at hm
  rcases hm with ⟨rfl,rfl⟩
  · exact g58o_sound _ _ hv
theorem g43O_det:ODet (g43O realA):=orc_det _
def g43an:Ann:=[(0,([0],[])),(1,([1,2],[1000,1001]))]
def g43res:List ResultVar:=[.cell 2 40]
def g43cut:List Nat:=[]
noncomputable def g43N {R:Type} (A:Ar) (kk:AV→Heap→Option R) (t:List Bool→St→Option R) (p:List Bool) (s:St):Option R:=nodeN A gtys (g43O A) g43an g43cut t (bodyOf Try.f43) (finD gtys g43res kk) p s
def g43 {R:Type} (A:Ar) (n:Nat) (kk:AV→Heap→Option R) (a:List Nat):Option R :=
 match g58ok A a (((([0,0,0,0].set 0 18446744073709551595).set 1 18446744073709551615).set 2 18446744073709551615).set 3 9223372036854775807) with
 | true=>kk (aN .u64 4 (g58r0 A a (((([0,0,0,0].set 0 18446744073709551595).set 1 18446744073709551615).set 2 18446744073709551615).set 3 9223372036854775807))) [(1000,(bU 4 a 40)),(1001,(bU 4 (g58r0 A a (((([0,0,0,0].set 0 18446744073709551595).set 1 18446744073709551615).set 2 18446744073709551615).set 3 9223372036854775807)) 40))]
 | false=>none
section
variable {R:Type} {A:Ar} {n:Nat} {kk:AV→Heap→Option R} {tb:Nat→List Bool→St→Option R} (st:Stp (g43N A kk) tb)
include st
theorem g43_go {a:List Nat}:Prs (fun k=>funN A gtys (g43O A) g43an g43cut (bodyOf Try.f43) g43res [(aN .u64 4 a)] [] kk (tb k)) (g43 A n kk a):=by
  unfold g43
  exact pc (SxY06ppi _ (pf _) pn) (by kernel_rfl)
end
def g43is (o:Option AV):Bool:=match o with
 | some (aN .u64 4 _)=>true
 | _=>false
def g43g0 (o:Option AV):List Nat:=match o with
 | some (aN .u64 4 x)=>x
 | _=>[]
theorem g43is_spec {o:Option AV} (h:g43is o=true):o=some (aN .u64 4 (g43g0 o)):=by
  unfold g43is at h
  split at h
  · rfl
  · cases h
def g43v (A:Ar) (a:List Nat):Option AV:=g43 A (100000) (fun v _=>some v) a
def g43ok (A:Ar) (a:List Nat):Bool:=g43is (g43v A a)
def g43r0 (A:Ar) (a:List Nat):List Nat:=g43g0 (g43v A a)
theorem g43ok_spec {A:Ar} {a} (h:g43ok A a=true):g43v A a=some (aN .u64 4 (g43r0 A a)):=g43is_spec h
def g43o (A:Ar) (args:List AV):Option (Bool × AV):=match args with
 | [.v (.agg [.nums .u64 n0 a])]=>some (Nat.beq n0 4&&(g43ok A a),.v (.agg [.nums .u64 4 (g43r0 A a)]))
 | _=>none
theorem g43o_sound:∀ args v,g43o realA args=some (true,v)→Fn1 Try.prog 43 args v:=by
  intro args v h
  unfold g43o at h
  split at h
  · rename_i n0 a
    simp only [Option.some.injEq,Prod.mk.injEq] at h
    obtain ⟨hc,h⟩:=h
    subst h
    · skip
      simp only [Bool.and_eq_true] at hc
      have en0:=beq_true hc.1
      subst en0
      replace hc:=hc.2
      exact fn1_ofG mixed gtysOK g43O_sound g43O_det (an:=g43an) (cut:=g43cut) Try.func43 (c:=bodyOf Try.f43) rfl (by kernel_rfl) Try.call43 (Nat.le_of_ble_eq_true rfl) (fun b=>rfl) (fun _=>(show g43v realA a=_ from g43ok_spec hc)) fun _ st=>g43_go st
  · cases h
attribute [local irreducible] g43ok g43r0
def g54O (A:Ar):Orc:=orcOf [(42,g42o A),(31,g31o A),(43,g43o A),(41,g41o A)]
theorem g54O_sound:OSound Try.prog (g54O realA):=orc_sound fun f g hm args v hv=>by
  simp only [List.mem_cons,List.not_mem_nil,or_false,Prod.mk.injEq] at hm
  rcases hm with ⟨rfl,rfl⟩ | ⟨rfl,rfl⟩ | ⟨rfl,rfl⟩ | ⟨rfl,rfl⟩
  · exact g42o_sound _ _ hv
  · exact g31o_sound _ _ hv
  · exact g43o_sound _ _ hv
  · exact g41o_sound _ _ hv
theorem g54O_det:ODet (g54O realA):=orc_det _
def g54an:Ann:=[(0,([],[])),(1,([0],[1000]))]
def g54res:List ResultVar:=[.cell 0 40]
def g54cut:List Nat:=[]
noncomputable def g54N {R:Type} (A:Ar) (kk:AV→Heap→Option R) (t:List Bool→St→Option R) (p:List Bool) (s:St):Option R:=nodeN A gtys (g54O A) g54an g54cut t (bodyOf Try.f54) (finD gtys g54res kk) p s
def g54 {R:Type} (A:Ar) (n:Nat) (kk:AV→Heap→Option R)  : Option R :=
 match g42ok A 121665 with
 | true=>match g31ok A (g42r0 A 121665) with
  | true=>match g42ok A 121666 with
   | true=>match g43ok A (g42r0 A 121666) with
    | true=>match g41ok A (g31r0 A (g42r0 A 121665)) (g43r0 A (g42r0 A 121666)) with
     | true=>kk (aN .u64 4 (g41r0 A (g31r0 A (g42r0 A 121665)) (g43r0 A (g42r0 A 121666)))) [(1000,(bU 4 (g41r0 A (g31r0 A (g42r0 A 121665)) (g43r0 A (g42r0 A 121666))) 40))]
     | false=>none
    | false=>none
   | false=>none
  | false=>none
 | false=>none
section
variable {R:Type} {A:Ar} {n:Nat} {kk:AV→Heap→Option R} {tb:Nat→List Bool→St→Option R} (st:Stp (g54N A kk) tb)
include st
theorem g54_go  : Prs (fun k=>funN A gtys (g54O A) g54an g54cut (bodyOf Try.f54) g54res [] [] kk (tb k)) (g54 A n kk ):=by
  unfold g54
  exact pc (SxY06ppi _ (SxY06ppi _ (SxY06ppi _ (SxY06ppi _ (SxY06ppi _ (pf _) pn) pn) pn) pn) pn) (by kernel_rfl)
end
def g54is (o:Option AV):Bool:=match o with
 | some (aN .u64 4 _)=>true
 | _=>false
def g54g0 (o:Option AV):List Nat:=match o with
 | some (aN .u64 4 x)=>x
 | _=>[]
theorem g54is_spec {o:Option AV} (h:g54is o=true):o=some (aN .u64 4 (g54g0 o)):=by
  unfold g54is at h
  split at h
  · rfl
  · cases h
def g54v (A:Ar)  : Option AV:=g54 A (100000) (fun v _=>some v) 
def g54ok (A:Ar)  : Bool:=g54is (g54v A )
def g54r0 (A:Ar)  : List Nat:=g54g0 (g54v A )
theorem g54ok_spec {A:Ar} (h:g54ok A=true):g54v A=some (aN .u64 4 (g54r0 A)):=g54is_spec h
def g54o (A:Ar) (args:List AV):Option (Bool × AV):=match args with
 | []=>some (g54ok A ,.v (.agg [.nums .u64 4 (g54r0 A)]))
 | _=>none
theorem g54o_sound:∀ args v,g54o realA args=some (true,v)→Fn1 Try.prog 54 args v:=by
  intro args v h
  unfold g54o at h
  split at h
  · simp only [Option.some.injEq,Prod.mk.injEq] at h
    obtain ⟨hc,h⟩:=h
    subst h
    · skip
      exact fn1_ofG mixed gtysOK g54O_sound g54O_det (an:=g54an) (cut:=g54cut) Try.func54 (c:=bodyOf Try.f54) rfl (by kernel_rfl) Try.call54 (Nat.le_of_ble_eq_true rfl) (fun b=>rfl) (fun _=>(show g54v realA  = _ from g54ok_spec hc)) fun _ st=>g54_go st
  · cases h
attribute [local irreducible] g54ok g54r0
def g30O (A:Ar):Orc:=orcOf [(41,g41o A),(42,g42o A),(52,g52o A),(54,g54o A),(53,g53o A),(51,g51o A)]
theorem g30O_sound:OSound Try.prog (g30O realA):=orc_sound fun f g hm args v hv=>by
  simp only [List.mem_cons,List.not_mem_nil,or_false,Prod.mk.injEq] at hm
  rcases hm with ⟨rfl,rfl⟩ | ⟨rfl,rfl⟩ | ⟨rfl,rfl⟩ | ⟨rfl,rfl⟩ | ⟨rfl,rfl⟩ | ⟨rfl,rfl⟩
  · exact g41o_sound _ _ hv
  · exact g42o_sound _ _ hv
  · exact g52o_sound _ _ hv
  · exact g54o_sound _ _ hv
  · exact g53o_sound _ _ hv
  · exact g51o_sound _ _ hv
theorem g30O_det:ODet (g30O realA):=orc_det _
def g30an:Ann:=[(0,([0],[])),(1,([1,2],[1000,1001])),(2,([2,4],[1001,2003]))]
def g30res:List ResultVar:=[.cell 2 40,.tmp 3]
def g30cut:List Nat:=[]
noncomputable def g30N {R:Type} (A:Ar) (kk:AV→Heap→Option R) (t:List Bool→St→Option R) (p:List Bool) (s:St):Option R:=nodeN A gtys (g30O A) g30an g30cut t (bodyOf Try.f30) (finD gtys g30res kk) p s
def g30 {R:Type} (A:Ar) (n:Nat) (kk:AV→Heap→Option R) (a:List Nat):Option R :=
 match g41ok A a a with
 | true=>match g42ok A 1 with
  | true=>match g52ok A (g41r0 A a a) (g42r0 A 1) with
   | true=>match g42ok A 1 with
    | true=>match g54ok A with
     | true=>match g41ok A (g41r0 A a a) (g54r0 A) with
      | true=>match g53ok A (g42r0 A 1) (g41r0 A (g41r0 A a a) (g54r0 A)) with
       | true=>match g51ok A (g52r0 A (g41r0 A a a) (g42r0 A 1)) (g53r0 A (g42r0 A 1) (g41r0 A (g41r0 A a a) (g54r0 A))) with
        | true=>kk (.tup [(.agg [.nums .u64 4 (g51r0 A (g52r0 A (g41r0 A a a) (g42r0 A 1)) (g53r0 A (g42r0 A 1) (g41r0 A (g41r0 A a a) (g54r0 A))))]),(.cell (.bool (g51r1 A (g52r0 A (g41r0 A a a) (g42r0 A 1)) (g53r0 A (g42r0 A 1) (g41r0 A (g41r0 A a a) (g54r0 A))))))]) [(1001,(bU 4 (g51r0 A (g52r0 A (g41r0 A a a) (g42r0 A 1)) (g53r0 A (g42r0 A 1) (g41r0 A (g41r0 A a a) (g54r0 A)))) 40)),(2003,(bU 4 (g41r0 A a a) 40))]
        | false=>none
       | false=>none
      | false=>none
     | false=>none
    | false=>none
   | false=>none
  | false=>none
 | false=>none
section
variable {R:Type} {A:Ar} {n:Nat} {kk:AV→Heap→Option R} {tb:Nat→List Bool→St→Option R} (st:Stp (g30N A kk) tb)
include st
theorem g30_go {a:List Nat}:Prs (fun k=>funN A gtys (g30O A) g30an g30cut (bodyOf Try.f30) g30res [(aN .u64 4 a)] [] kk (tb k)) (g30 A n kk a):=by
  unfold g30
  exact pc (SxY06ppi _ (SxY06ppi _ (SxY06ppi _ (SxY06ppi _ (SxY06ppi _ (SxY06ppi _ (SxY06ppi _ (SxY06ppi _ (pf _) pn) pn) pn) pn) pn) pn) pn) pn) (by kernel_rfl)
end
def g30is (o:Option AV):Bool:=match o with
 | some (.tup [.agg [.nums .u64 4 _],.cell (.bool _)])=>true
 | _=>false
def g30g0 (o:Option AV):List Nat:=match o with
 | some (.tup [.agg [.nums .u64 4 x],.cell (.bool _)])=>x
 | _=>[]
def g30g1 (o:Option AV):Bool:=match o with
 | some (.tup [.agg [.nums .u64 4 _],.cell (.bool x)])=>x
 | _=>false
theorem g30is_spec {o:Option AV} (h:g30is o=true):o=some (.tup [.agg [.nums .u64 4 (g30g0 o)],.cell (.bool (g30g1 o))]):=by
  unfold g30is at h
  split at h
  · rfl
  · cases h
def g30v (A:Ar) (a:List Nat):Option AV:=g30 A (100000) (fun v _=>some v) a
def g30ok (A:Ar) (a:List Nat):Bool:=g30is (g30v A a)
def g30r0 (A:Ar) (a:List Nat):List Nat:=g30g0 (g30v A a)
def g30r1 (A:Ar) (a:List Nat):Bool:=g30g1 (g30v A a)
theorem g30ok_spec {A:Ar} {a} (h:g30ok A a=true):g30v A a=some (.tup [.agg [.nums .u64 4 (g30r0 A a)],.cell (.bool (g30r1 A a))]):=g30is_spec h
def g30o (A:Ar) (args:List AV):Option (Bool × AV):=match args with
 | [.v (.agg [.nums .u64 n0 a])]=>some (Nat.beq n0 4&&(g30ok A a),.tup [.agg [.nums .u64 4 (g30r0 A a)],.cell (.bool (g30r1 A a))])
 | _=>none
theorem g30o_sound:∀ args v,g30o realA args=some (true,v)→Fn1 Try.prog 30 args v:=by
  intro args v h
  unfold g30o at h
  split at h
  · rename_i n0 a
    simp only [Option.some.injEq,Prod.mk.injEq] at h
    obtain ⟨hc,h⟩:=h
    subst h
    · skip
      simp only [Bool.and_eq_true] at hc
      have en0:=beq_true hc.1
      subst en0
      replace hc:=hc.2
      exact fn1_ofG mixed gtysOK g30O_sound g30O_det (an:=g30an) (cut:=g30cut) Try.func30 (c:=bodyOf Try.f30) rfl (by kernel_rfl) Try.call30 (Nat.le_of_ble_eq_true rfl) (fun b=>rfl) (fun _=>(show g30v realA a=_ from g30ok_spec hc)) fun _ st=>g30_go st
  · cases h
attribute [local irreducible] g30ok g30r0 g30r1
def g17O (A:Ar):Orc:=orcOf [(29,g29o A),(30,g30o A),(31,g31o A)]
theorem g17O_sound:OSound Try.prog (g17O realA):=orc_sound fun f g hm args v hv=>by
  simp only [List.mem_cons,List.not_mem_nil,or_false,Prod.mk.injEq] at hm
  rcases hm with ⟨rfl,rfl⟩ | ⟨rfl,rfl⟩ | ⟨rfl,rfl⟩
  · exact g29o_sound _ _ hv
  · exact g30o_sound _ _ hv
  · exact g31o_sound _ _ hv
theorem g17O_det:ODet (g17O realA):=orc_det _
def g17an:Ann:=[(0,([0],[])),(1,([0,2],[1000])),(2,([2],[1000])),(3,([0,2],[1000])),(4,([0,2,4],[1000])),(5,([2,4,5,6],[1000,5012])),(6,([2],[1000])),(7,([2,4,5],[1000,5012])),(8,([2,4,5,6,7],[1000,5012,8005])),(9,([2],[1000])),(10,([2,4,5,7],[1000,5012,8005])),(11,([2,4,5,7,8],[1000,5012,8005,11003])),(12,([2,8],[1000,11003])),(13,([2,5,7,8],[1000,5012,8005,11003])),(14,([2,5,7,8],[1000,5012,8005,11003])),(15,([2],[1000])),(16,([2,8],[1000,11003]))]
def g17res:List ResultVar:=[.cell 2 42,.tmp 3]
def g17cut:List Nat:=[3,7,10,13]
noncomputable def g17N {R:Type} (A:Ar) (kk:AV→Heap→Option R) (t:List Bool→St→Option R) (p:List Bool) (s:St):Option R:=nodeN A gtys (g17O A) g17an g17cut t (bodyOf Try.f17) (finD gtys g17res kk) p s
def g17J13s (x0 x1:List Nat) (x2 x3:List Nat) (x4 x5:List Nat):St:=⟨[(2,(pT 1000 0)),(5,(pT 5012 0)),(7,(pT 8005 0)),(8,(pT 11003 0))],[(1000,⟨[.nums .u64 4 x0,.nums .u64 4 x1],42,1⟩),(5012,(bU 4 x2 40)),(8005,(bU 4 x3 40)),(11003,⟨[.nums .u64 4 x4,.nums .u64 4 x5],42,1⟩)]⟩
def g17J13 {R:Type} (A:Ar) (n:Nat) (kk:AV→Heap→Option R)  (x0 x1:List Nat) (x2 x3:List Nat) (x4 x5:List Nat):Option R :=
 match g31ok A x3 with
 | true=>match (A.lq (g31r0 A x3) x3)&&((A.lq x5 x2)&&true) with
  | true=>kk (.tup [(.agg [.nums .u64 4 [0,0,0,0],.nums .u64 4 [0,0,0,0]]),(.cell (.bool false))]) [(1000,⟨[.nums .u64 4 [0,0,0,0],.nums .u64 4 [0,0,0,0]],42,1⟩)]
  | false=>kk (.tup [(.agg [.nums .u64 4 (g31r0 A x3),.nums .u64 4 x5]),(.cell (.bool true))]) [(1000,⟨[.nums .u64 4 (g31r0 A x3),.nums .u64 4 x5],42,1⟩),(11003,⟨[.nums .u64 4 (g31r0 A x3),.nums .u64 4 x5],42,1⟩)]
 | false=>none
def g17J10s (x0:Nat) (x1 x2:List Nat) (x3 x4:List Nat):St:=⟨[(2,(pT 1000 0)),(4,(u8v x0)),(5,(pT 5012 0)),(7,(pT 8005 0))],[(1000,⟨[.nums .u64 4 x1,.nums .u64 4 x2],42,1⟩),(5012,(bU 4 x3 40)),(8005,(bU 4 x4 40))]⟩
def g17J10 {R:Type} (A:Ar) (n:Nat) (kk:AV→Heap→Option R)  (x0:Nat) (x1 x2:List Nat) (x3 x4:List Nat):Option R :=
 match A.nc .eql x0 0 with
 | true=>kk (.tup [(.agg [.nums .u64 4 x4,.nums .u64 4 x3]),(.cell (.bool true))]) [(1000,⟨[.nums .u64 4 x4,.nums .u64 4 x3],42,1⟩),(11003,⟨[.nums .u64 4 x4,.nums .u64 4 x3],42,1⟩)]
 | false=>g17J13 A n kk  x1 x2 x3 x4 x4 x3
def g17J7s (x0:Nat) (x1 x2 x3:List Nat):St:=⟨[(2,(pT 1000 0)),(4,(u8v x0)),(5,(pT 5012 0))],[(1000,⟨[.nums .u64 4 x1,.nums .u64 4 x2],42,1⟩),(5012,(bU 4 x3 40))]⟩
def g17J7 {R:Type} (A:Ar) (n:Nat) (kk:AV→Heap→Option R)  (x0:Nat) (x1 x2 x3:List Nat):Option R :=
 match g30ok A x3 with
 | true=>match !(g30r1 A x3) with
  | true=>kk (.tup [(.agg [.nums .u64 4 [0,0,0,0],.nums .u64 4 [0,0,0,0]]),(.cell (.bool false))]) [(1000,⟨[.nums .u64 4 [0,0,0,0],.nums .u64 4 [0,0,0,0]],42,1⟩)]
  | false=>g17J10 A n kk  x0 x1 x2 x3 (g30r0 A x3)
 | false=>none
def g17J3s (x0 x1 x2:List Nat):St:=⟨[(0,(tS x0)),(2,(pT 1000 0))],[(1000,⟨[.nums .u64 4 x1,.nums .u64 4 x2],42,1⟩)]⟩
def g17J3 {R:Type} (A:Ar) (n:Nat) (kk:AV→Heap→Option R)  (x0 x1 x2:List Nat):Option R :=
 match Nat.blt 31 x0.length with
 | true=>match A.le 31 x0.length with
  | true=>match Nat.blt 31 x0.length with
   | true=>match A.le (((x0.take 31).drop 0).length+([A.nb .andNot .u8 (x0.getD 31 0) 128].take 1).length) 9223372036854775807 with
    | true=>match g29ok A (((x0.take 31).drop 0)++([A.nb .andNot .u8 (x0.getD 31 0) 128].take 1)) with
     | true=>match !(g29r1 A (((x0.take 31).drop 0)++([A.nb .andNot .u8 (x0.getD 31 0) 128].take 1))) with
      | true=>kk (.tup [(.agg [.nums .u64 4 [0,0,0,0],.nums .u64 4 [0,0,0,0]]),(.cell (.bool false))]) [(1000,⟨[.nums .u64 4 [0,0,0,0],.nums .u64 4 [0,0,0,0]],42,1⟩)]
      | false=>g17J7 A n kk  (A.nb .and .u8 (x0.getD 31 0) 128) x1 x2 (g29r0 A (((x0.take 31).drop 0)++([A.nb .andNot .u8 (x0.getD 31 0) 128].take 1)))
     | false=>none
    | false=>none
   | false=>none
  | false=>none
 | false=>none
def g17 {R:Type} (A:Ar) (n:Nat) (kk:AV→Heap→Option R) (a:List Nat):Option R :=
 match A.ic .neq (A.ofN a.length) 32 with
 | true=>kk (.tup [(.agg [.nums .u64 4 [0,0,0,0],.nums .u64 4 [0,0,0,0]]),(.cell (.bool false))]) [(1000,⟨[.nums .u64 4 [0,0,0,0],.nums .u64 4 [0,0,0,0]],42,1⟩)]
 | false=>g17J3 A n kk  a [0,0,0,0] [0,0,0,0]
section
variable {R:Type} {A:Ar} {n:Nat} {kk:AV→Heap→Option R} {tb:Nat→List Bool→St→Option R} (st:Stp (g17N A kk) tb)
include st
theorem g17J13_go {x0:List Nat} {x1:List Nat} {x2:List Nat} {x3:List Nat} {x4:List Nat} {x5:List Nat}:Prs (fun k=>tb k (pth 1023) (g17J13s x0 x1 x2 x3 x4 x5)) (g17J13 A n kk x0 x1 x2 x3 x4 x5):=by
  unfold g17J13
  exact st.g (pc (SxY06ppi _ (SxY06ppi _ (pf _) (pf _)) pn) (by kernel_rfl))
theorem g17J10_go {x0:Nat} {x1:List Nat} {x2:List Nat} {x3:List Nat} {x4:List Nat}:Prs (fun k=>tb k (pth 255) (g17J10s x0 x1 x2 x3 x4)) (g17J10 A n kk x0 x1 x2 x3 x4):=by
  unfold g17J10
  exact st.g (pc (SxY06ppi _ (pf _) (g17J13_go st)) (by kernel_rfl))
theorem g17J7_go {x0:Nat} {x1:List Nat} {x2:List Nat} {x3:List Nat}:Prs (fun k=>tb k (pth 63) (g17J7s x0 x1 x2 x3)) (g17J7 A n kk x0 x1 x2 x3):=by
  unfold g17J7
  exact st.g (pc (SxY06ppi _ (SxY06ppi _ (pf _) (g17J10_go st)) pn) (by kernel_rfl))
theorem g17J3_go {x0:List Nat} {x1:List Nat} {x2:List Nat}:Prs (fun k=>tb k (pth 7) (g17J3s x0 x1 x2)) (g17J3 A n kk x0 x1 x2):=by
  unfold g17J3
  exact st.g (pc (SxY06ppi _ (SxY06ppi _ (SxY06ppi _ (SxY06ppi _ (SxY06ppi _ (SxY06ppi _ (pf _) (g17J7_go st)) pn) pn) pn) pn) pn) (by kernel_rfl))
theorem g17_go {a:List Nat}:Prs (fun k=>funN A gtys (g17O A) g17an g17cut (bodyOf Try.f17) g17res [(tS a)] [] kk (tb k)) (g17 A n kk a):=by
  unfold g17
  exact pc (SxY06ppi _ (pf _) (g17J3_go st)) (by kernel_rfl)
end
def g17is (o:Option AV):Bool:=match o with
 | some (.tup [.agg [.nums .u64 4 _,.nums .u64 4 _],.cell (.bool _)])=>true
 | _=>false
def g17g0 (o:Option AV):List Nat:=match o with
 | some (.tup [.agg [.nums .u64 4 x,.nums .u64 4 _],.cell (.bool _)])=>x
 | _=>[]
def g17g1 (o:Option AV):List Nat:=match o with
 | some (.tup [.agg [.nums .u64 4 _,.nums .u64 4 x],.cell (.bool _)])=>x
 | _=>[]
def g17g2 (o:Option AV):Bool:=match o with
 | some (.tup [.agg [.nums .u64 4 _,.nums .u64 4 _],.cell (.bool x)])=>x
 | _=>false
theorem g17is_spec {o:Option AV} (h:g17is o=true):o=some (.tup [.agg [.nums .u64 4 (g17g0 o),.nums .u64 4 (g17g1 o)],.cell (.bool (g17g2 o))]):=by
  unfold g17is at h
  split at h
  · rfl
  · cases h
def g17v (A:Ar) (a:List Nat):Option AV:=g17 A (100000) (fun v _=>some v) a
def g17ok (A:Ar) (a:List Nat):Bool:=g17is (g17v A a)
def g17r0 (A:Ar) (a:List Nat):List Nat:=g17g0 (g17v A a)
def g17r1 (A:Ar) (a:List Nat):List Nat:=g17g1 (g17v A a)
def g17r2 (A:Ar) (a:List Nat):Bool:=g17g2 (g17v A a)
theorem g17ok_spec {A:Ar} {a} (h:g17ok A a=true):g17v A a=some (.tup [.agg [.nums .u64 4 (g17r0 A a),.nums .u64 4 (g17r1 A a)],.cell (.bool (g17r2 A a))]):=g17is_spec h
def g17o (A:Ar) (args:List AV):Option (Bool × AV):=match args with
 | [.v (.cell (.str a))]=>some (g17ok A a,.tup [.agg [.nums .u64 4 (g17r0 A a),.nums .u64 4 (g17r1 A a)],.cell (.bool (g17r2 A a))])
 | _=>none
theorem g17o_sound:∀ args v,g17o realA args=some (true,v)→Fn1 Try.prog 17 args v:=by
  intro args v h
  unfold g17o at h
  split at h
  · rename_i a
    simp only [Option.some.injEq,Prod.mk.injEq] at h
    obtain ⟨hc,h⟩:=h
    subst h
    · skip
      exact fn1_ofG mixed gtysOK g17O_sound g17O_det (an:=g17an) (cut:=g17cut) Try.func17 (c:=bodyOf Try.f17) rfl (by kernel_rfl) Try.call17 (Nat.le_of_ble_eq_true rfl) (fun b=>rfl) (fun _=>(show g17v realA a=_ from g17ok_spec hc)) fun _ st=>g17_go st
  · cases h
attribute [local irreducible] g17ok g17r0 g17r1 g17r2
def g32O (A:Ar):Orc:=orcOf [(50,g50o A),(41,g41o A),(52,g52o A),(54,g54o A),(42,g42o A)]
theorem g32O_sound:OSound Try.prog (g32O realA):=orc_sound fun f g hm args v hv=>by
  simp only [List.mem_cons,List.not_mem_nil,or_false,Prod.mk.injEq] at hm
  rcases hm with ⟨rfl,rfl⟩ | ⟨rfl,rfl⟩ | ⟨rfl,rfl⟩ | ⟨rfl,rfl⟩ | ⟨rfl,rfl⟩
  · exact g50o_sound _ _ hv
  · exact g41o_sound _ _ hv
  · exact g52o_sound _ _ hv
  · exact g54o_sound _ _ hv
  · exact g42o_sound _ _ hv
theorem g32O_det:ODet (g32O realA):=orc_det _
def g32an:Ann:=[(0,([0],[])),(1,([1],[1000])),(2,([],[])),(3,([1],[1000])),(4,([3,4],[4010,4011]))]
def g32res:List ResultVar:=[.tmp 2]
def g32cut:List Nat:=[3]
noncomputable def g32N {R:Type} (A:Ar) (kk:AV→Heap→Option R) (t:List Bool→St→Option R) (p:List Bool) (s:St):Option R:=nodeN A gtys (g32O A) g32an g32cut t (bodyOf Try.f32) (finD gtys g32res kk) p s
def g32J3s (x0 x1:List Nat):St:=⟨[(1,(pT 1000 0))],[(1000,⟨[.nums .u64 4 x0,.nums .u64 4 x1],42,1⟩)]⟩
def g32J3 {R:Type} (A:Ar) (n:Nat) (kk:AV→Heap→Option R)  (x0 x1:List Nat):Option R :=
 match g41ok A x0 x0 with
 | true=>match g41ok A x1 x1 with
  | true=>match g52ok A (g41r0 A x1 x1) (g41r0 A x0 x0) with
   | true=>match g54ok A with
    | true=>match g41ok A (g41r0 A x0 x0) (g41r0 A x1 x1) with
     | true=>match g41ok A (g54r0 A) (g41r0 A (g41r0 A x0 x0) (g41r0 A x1 x1)) with
      | true=>match g52ok A (g52r0 A (g41r0 A x1 x1) (g41r0 A x0 x0)) (g41r0 A (g54r0 A) (g41r0 A (g41r0 A x0 x0) (g41r0 A x1 x1))) with
       | true=>match g42ok A 1 with
        | true=>kk (bO ((A.lq (g52r0 A (g52r0 A (g41r0 A x1 x1) (g41r0 A x0 x0)) (g41r0 A (g54r0 A) (g41r0 A (g41r0 A x0 x0) (g41r0 A x1 x1)))) (g42r0 A 1))&&true)) [(4010,(bU 4 (g41r0 A x0 x0) 40)),(4011,(bU 4 (g41r0 A x1 x1) 40))]
        | false=>none
       | false=>none
      | false=>none
     | false=>none
    | false=>none
   | false=>none
  | false=>none
 | false=>none
def g32 {R:Type} (A:Ar) (n:Nat) (kk:AV→Heap→Option R) (a0 a1:List Nat):Option R :=
 match g50ok A a0 with
 | true=>match !(g50r0 A a0) with
  | true=>kk (bO false) []
  | false=>match g50ok A a1 with
   | true=>match !(g50r0 A a1) with
    | true=>kk (bO false) []
    | false=>g32J3 A n kk  a0 a1
   | false=>none
 | false=>none
section
variable {R:Type} {A:Ar} {n:Nat} {kk:AV→Heap→Option R} {tb:Nat→List Bool→St→Option R} (st:Stp (g32N A kk) tb)
include st
theorem g32J3_go {x0:List Nat} {x1:List Nat}:Prs (fun k=>tb k (pth 7) (g32J3s x0 x1)) (g32J3 A n kk x0 x1):=by
  unfold g32J3
  exact st.g (pc (SxY06ppi _ (SxY06ppi _ (SxY06ppi _ (SxY06ppi _ (SxY06ppi _ (SxY06ppi _ (SxY06ppi _ (SxY06ppi _ (pf _) pn) pn) pn) pn) pn) pn) pn) pn) (by kernel_rfl))
theorem g32_go {a0:List Nat} {a1:List Nat}:Prs (fun k=>funN A gtys (g32O A) g32an g32cut (bodyOf Try.f32) g32res [(.v (.agg [.nums .u64 4 a0,.nums .u64 4 a1]))] [] kk (tb k)) (g32 A n kk a0 a1):=by
  unfold g32
  exact pc (SxY06ppi _ (SxY06ppi _ (pf _) (SxY06ppi _ (SxY06ppi _ (pf _) (g32J3_go st)) pn)) pn) (by kernel_rfl)
end
def g32is (o:Option AV):Bool:=match o with
 | some (.v (.cell (.bool _)))=>true
 | _=>false
def g32g0 (o:Option AV):Bool:=match o with
 | some (.v (.cell (.bool x)))=>x
 | _=>false
theorem g32is_spec {o:Option AV} (h:g32is o=true):o=some (.v (.cell (.bool (g32g0 o)))):=by
  unfold g32is at h
  split at h
  · rfl
  · cases h
def g32v (A:Ar) (a0 a1:List Nat):Option AV:=g32 A (100000) (fun v _=>some v) a0 a1
def g32ok (A:Ar) (a0 a1:List Nat):Bool:=g32is (g32v A a0 a1)
def g32r0 (A:Ar) (a0 a1:List Nat):Bool:=g32g0 (g32v A a0 a1)
theorem g32ok_spec {A:Ar} {a0 a1} (h:g32ok A a0 a1=true):g32v A a0 a1=some (.v (.cell (.bool (g32r0 A a0 a1)))):=g32is_spec h
def g32o (A:Ar) (args:List AV):Option (Bool × AV):=match args with
 | [.v (.agg [.nums .u64 n0 a0,.nums .u64 n1 a1])]=>some (Nat.beq n0 4&&(Nat.beq n1 4&&(g32ok A a0 a1)),.v (.cell (.bool (g32r0 A a0 a1))))
 | _=>none
theorem g32o_sound:∀ args v,g32o realA args=some (true,v)→Fn1 Try.prog 32 args v:=by
  intro args v h
  unfold g32o at h
  split at h
  · rename_i n0 a0 n1 a1
    simp only [Option.some.injEq,Prod.mk.injEq] at h
    obtain ⟨hc,h⟩:=h
    subst h
    · skip
      simp only [Bool.and_eq_true] at hc
      have en0:=beq_true hc.1
      subst en0
      replace hc:=hc.2
      have en1:=beq_true hc.1
      subst en1
      replace hc:=hc.2
      exact fn1_ofG mixed gtysOK g32O_sound g32O_det (an:=g32an) (cut:=g32cut) Try.func32 (c:=bodyOf Try.f32) rfl (by kernel_rfl) Try.call32 (Nat.le_of_ble_eq_true rfl) (fun b=>rfl) (fun _=>(show g32v realA a0 a1=_ from g32ok_spec hc)) fun _ st=>g32_go st
  · cases h
attribute [local irreducible] g32ok g32r0
def g18O (A:Ar):Orc:=orcOf [(32,g32o A),(33,g33o A),(34,g34o A)]
theorem g18O_sound:OSound Try.prog (g18O realA):=orc_sound fun f g hm args v hv=>by
  simp only [List.mem_cons,List.not_mem_nil,or_false,Prod.mk.injEq] at hm
  rcases hm with ⟨rfl,rfl⟩ | ⟨rfl,rfl⟩ | ⟨rfl,rfl⟩
  · exact g32o_sound _ _ hv
  · exact g33o_sound _ _ hv
  · exact g34o_sound _ _ hv
theorem g18O_det:ODet (g18O realA):=orc_det _
def g18an:Ann:=[(0,([0],[])),(1,([1],[1000])),(2,([],[])),(3,([1],[1000])),(4,([1,4],[1000,4003])),(5,([4],[4003])),(6,([4],[4003]))]
def g18res:List ResultVar:=[.tmp 2,.tmp 3]
def g18cut:List Nat:=[3]
noncomputable def g18N {R:Type} (A:Ar) (kk:AV→Heap→Option R) (t:List Bool→St→Option R) (p:List Bool) (s:St):Option R:=nodeN A gtys (g18O A) g18an g18cut t (bodyOf Try.f18) (finD gtys g18res kk) p s
def g18J3s (x0 x1:List Nat):St:=⟨[(1,(pT 1000 0))],[(1000,⟨[.nums .u64 4 x0,.nums .u64 4 x1],42,1⟩)]⟩
def g18J3 {R:Type} (A:Ar) (n:Nat) (kk:AV→Heap→Option R)  (x0 x1:List Nat):Option R :=
 match g33ok A x1 with
 | true=>match A.le ((g33r0 A x1).length) 9223372036854775807 with
  | true=>match g34ok A x0 with
   | true=>match g34r0 A x0 with
    | true=>match Nat.blt 31 ((g33r0 A x1).length) with
     | true=>match Nat.blt 31 ((g33r0 A x1).length) with
      | true=>kk (.tup [(.cell (.str (((g33r0 A x1).set 31 (A.nb .or .u8 ((g33r0 A x1).getD 31 0) 128)).take ((g33r0 A x1).length)))),(.cell (.bool true))]) [(4003,⟨[.nums .u8 ((g33r0 A x1).length) ((g33r0 A x1).set 31 (A.nb .or .u8 ((g33r0 A x1).getD 31 0) 128))],5,1⟩)]
      | false=>none
     | false=>none
    | false=>kk (.tup [(.cell (.str ((g33r0 A x1).take ((g33r0 A x1).length)))),(.cell (.bool true))]) [(4003,⟨[.nums .u8 ((g33r0 A x1).length) (g33r0 A x1)],5,1⟩)]
   | false=>none
  | false=>none
 | false=>none
def g18 {R:Type} (A:Ar) (n:Nat) (kk:AV→Heap→Option R) (a0 a1:List Nat):Option R :=
 match g32ok A a0 a1 with
 | true=>match !(g32r0 A a0 a1) with
  | true=>kk (.tup [(.cell (.str [])),(.cell (.bool false))]) []
  | false=>g18J3 A n kk  a0 a1
 | false=>none
section
variable {R:Type} {A:Ar} {n:Nat} {kk:AV→Heap→Option R} {tb:Nat→List Bool→St→Option R} (st:Stp (g18N A kk) tb)
include st
theorem g18J3_go {x0:List Nat} {x1:List Nat}:Prs (fun k=>tb k (pth 7) (g18J3s x0 x1)) (g18J3 A n kk x0 x1):=by
  unfold g18J3
  exact st.g (pc (SxY06ppi _ (SxY06ppi _ (SxY06ppi _ (SxY06ppi _ (SxY06ppi _ (SxY06ppi _ (pf _) pn) pn) (pf _)) pn) pn) pn) (by kernel_rfl))
theorem g18_go {a0:List Nat} {a1:List Nat}:Prs (fun k=>funN A gtys (g18O A) g18an g18cut (bodyOf Try.f18) g18res [(.v (.agg [.nums .u64 4 a0,.nums .u64 4 a1]))] [] kk (tb k)) (g18 A n kk a0 a1):=by
  unfold g18
  exact pc (SxY06ppi _ (SxY06ppi _ (pf _) (g18J3_go st)) pn) (by kernel_rfl)
end
def g18is (o:Option AV):Bool:=match o with
 | some (.tup [.cell (.str _),.cell (.bool _)])=>true
 | _=>false
def g18g0 (o:Option AV):List Nat:=match o with
 | some (.tup [.cell (.str x),.cell (.bool _)])=>x
 | _=>[]
def g18g1 (o:Option AV):Bool:=match o with
 | some (.tup [.cell (.str _),.cell (.bool x)])=>x
 | _=>false
theorem g18is_spec {o:Option AV} (h:g18is o=true):o=some (.tup [.cell (.str (g18g0 o)),.cell (.bool (g18g1 o))]):=by
  unfold g18is at h
  split at h
  · rfl
  · cases h
def g18v (A:Ar) (a0 a1:List Nat):Option AV:=g18 A (100000) (fun v _=>some v) a0 a1
def g18ok (A:Ar) (a0 a1:List Nat):Bool:=g18is (g18v A a0 a1)
def g18r0 (A:Ar) (a0 a1:List Nat):List Nat:=g18g0 (g18v A a0 a1)
def g18r1 (A:Ar) (a0 a1:List Nat):Bool:=g18g1 (g18v A a0 a1)
theorem g18ok_spec {A:Ar} {a0 a1} (h:g18ok A a0 a1=true):g18v A a0 a1=some (.tup [.cell (.str (g18r0 A a0 a1)),.cell (.bool (g18r1 A a0 a1))]):=g18is_spec h
def g18o (A:Ar) (args:List AV):Option (Bool × AV):=match args with
 | [.v (.agg [.nums .u64 n0 a0,.nums .u64 n1 a1])]=>some (Nat.beq n0 4&&(Nat.beq n1 4&&(g18ok A a0 a1)),.tup [.cell (.str (g18r0 A a0 a1)),.cell (.bool (g18r1 A a0 a1))])
 | _=>none
theorem g18o_sound:∀ args v,g18o realA args=some (true,v)→Fn1 Try.prog 18 args v:=by
  intro args v h
  unfold g18o at h
  split at h
  · rename_i n0 a0 n1 a1
    simp only [Option.some.injEq,Prod.mk.injEq] at h
    obtain ⟨hc,h⟩:=h
    subst h
    · skip
      simp only [Bool.and_eq_true] at hc
      have en0:=beq_true hc.1
      subst en0
      replace hc:=hc.2
      have en1:=beq_true hc.1
      subst en1
      replace hc:=hc.2
      exact fn1_ofG mixed gtysOK g18O_sound g18O_det (an:=g18an) (cut:=g18cut) Try.func18 (c:=bodyOf Try.f18) rfl (by kernel_rfl) Try.call18 (Nat.le_of_ble_eq_true rfl) (fun b=>rfl) (fun _=>(show g18v realA a0 a1=_ from g18ok_spec hc)) fun _ st=>g18_go st
  · cases h
attribute [local irreducible] g18ok g18r0 g18r1
def g38O (A:Ar):Orc:=orcOf [(42,g42o A)]
theorem g38O_sound:OSound Try.prog (g38O realA):=orc_sound fun f g hm args v hv=>by
  simp only [List.mem_cons,List.not_mem_nil,or_false,Prod.mk.injEq] at hm
  rcases hm with ⟨rfl,rfl⟩
  · exact g42o_sound _ _ hv
theorem g38O_det:ODet (g38O realA):=orc_det _
def g38an:Ann:=[(0,([],[])),(1,([0],[1000]))]
def g38res:List ResultVar:=[.cell 0 42]
def g38cut:List Nat:=[]
noncomputable def g38N {R:Type} (A:Ar) (kk:AV→Heap→Option R) (t:List Bool→St→Option R) (p:List Bool) (s:St):Option R:=nodeN A gtys (g38O A) g38an g38cut t (bodyOf Try.f38) (finD gtys g38res kk) p s
def g38 {R:Type} (A:Ar) (n:Nat) (kk:AV→Heap→Option R)  : Option R :=
 match g42ok A 1 with
 | true=>kk (.v (.agg [.nums .u64 4 [0,0,0,0],.nums .u64 4 (g42r0 A 1)])) [(1000,⟨[.nums .u64 4 [0,0,0,0],.nums .u64 4 (g42r0 A 1)],42,1⟩)]
 | false=>none
section
variable {R:Type} {A:Ar} {n:Nat} {kk:AV→Heap→Option R} {tb:Nat→List Bool→St→Option R} (st:Stp (g38N A kk) tb)
include st
theorem g38_go  : Prs (fun k=>funN A gtys (g38O A) g38an g38cut (bodyOf Try.f38) g38res [] [] kk (tb k)) (g38 A n kk ):=by
  unfold g38
  exact pc (SxY06ppi _ (pf _) pn) (by kernel_rfl)
end
def g38is (o:Option AV):Bool:=match o with
 | some (.v (.agg [.nums .u64 4 _,.nums .u64 4 _]))=>true
 | _=>false
def g38g0 (o:Option AV):List Nat:=match o with
 | some (.v (.agg [.nums .u64 4 x,.nums .u64 4 _]))=>x
 | _=>[]
def g38g1 (o:Option AV):List Nat:=match o with
 | some (.v (.agg [.nums .u64 4 _,.nums .u64 4 x]))=>x
 | _=>[]
theorem g38is_spec {o:Option AV} (h:g38is o=true):o=some (.v (.agg [.nums .u64 4 (g38g0 o),.nums .u64 4 (g38g1 o)])):=by
  unfold g38is at h
  split at h
  · rfl
  · cases h
def g38v (A:Ar)  : Option AV:=g38 A (100000) (fun v _=>some v) 
def g38ok (A:Ar)  : Bool:=g38is (g38v A )
def g38r0 (A:Ar)  : List Nat:=g38g0 (g38v A )
def g38r1 (A:Ar)  : List Nat:=g38g1 (g38v A )
theorem g38ok_spec {A:Ar} (h:g38ok A=true):g38v A=some (.v (.agg [.nums .u64 4 (g38r0 A),.nums .u64 4 (g38r1 A)])):=g38is_spec h
def g38o (A:Ar) (args:List AV):Option (Bool × AV):=match args with
 | []=>some (g38ok A ,.v (.agg [.nums .u64 4 (g38r0 A),.nums .u64 4 (g38r1 A)]))
 | _=>none
theorem g38o_sound:∀ args v,g38o realA args=some (true,v)→Fn1 Try.prog 38 args v:=by
  intro args v h
  unfold g38o at h
  split at h
  · simp only [Option.some.injEq,Prod.mk.injEq] at h
    obtain ⟨hc,h⟩:=h
    subst h
    · skip
      exact fn1_ofG mixed gtysOK g38O_sound g38O_det (an:=g38an) (cut:=g38cut) Try.func38 (c:=bodyOf Try.f38) rfl (by kernel_rfl) Try.call38 (Nat.le_of_ble_eq_true rfl) (fun b=>rfl) (fun _=>(show g38v realA  = _ from g38ok_spec hc)) fun _ st=>g38_go st
  · cases h
attribute [local irreducible] g38ok g38r0 g38r1
def g35O (A:Ar):Orc:=orcOf [(32,g32o A),(38,g38o A),(54,g54o A),(42,g42o A),(41,g41o A),(53,g53o A)]
theorem g35O_sound:OSound Try.prog (g35O realA):=orc_sound fun f g hm args v hv=>by
  simp only [List.mem_cons,List.not_mem_nil,or_false,Prod.mk.injEq] at hm
  rcases hm with ⟨rfl,rfl⟩ | ⟨rfl,rfl⟩ | ⟨rfl,rfl⟩ | ⟨rfl,rfl⟩ | ⟨rfl,rfl⟩ | ⟨rfl,rfl⟩
  · exact g32o_sound _ _ hv
  · exact g38o_sound _ _ hv
  · exact g54o_sound _ _ hv
  · exact g42o_sound _ _ hv
  · exact g41o_sound _ _ hv
  · exact g53o_sound _ _ hv
theorem g35O_det:ODet (g35O realA):=orc_det _
def g35an:Ann:=[(0,([0],[])),(1,([1,2],[1000,1001])),(2,([1,2],[1000,1001])),(3,([1,2],[1000,1001])),(4,([1,2,3],[1000,1001,4001]))]
def g35res:List ResultVar:=[.cell 2 66]
def g35cut:List Nat:=[3]
noncomputable def g35N {R:Type} (A:Ar) (kk:AV→Heap→Option R) (t:List Bool→St→Option R) (p:List Bool) (s:St):Option R:=nodeN A gtys (g35O A) g35an g35cut t (bodyOf Try.f35) (finD gtys g35res kk) p s
def g35J3s (x0 x1:List Nat) (x2 x3:List Nat) (x4 x5 x6:List Nat):St:=⟨[(1,(pT 1000 0)),(2,(pT 1001 0))],[(1000,⟨[.nums .u64 4 x0,.nums .u64 4 x1],42,1⟩),(1001,⟨[.nums .u64 4 x2,.nums .u64 4 x3,.nums .u64 4 x4,.nums .u64 4 x5,.nums .u64 4 x6],66,1⟩)]⟩
def g35J3 {R:Type} (A:Ar) (n:Nat) (kk:AV→Heap→Option R)  (x0 x1:List Nat) (x2 x3:List Nat) (x4 x5 x6:List Nat):Option R :=
 match g54ok A with
 | true=>match g42ok A 1 with
  | true=>match g41ok A x0 x1 with
   | true=>match g53ok A (g54r0 A) (g54r0 A) with
    | true=>kk (.v (.agg [.nums .u64 4 x0,.nums .u64 4 x1,.nums .u64 4 (g42r0 A 1),.nums .u64 4 (g41r0 A x0 x1),.nums .u64 4 (g53r0 A (g54r0 A) (g54r0 A))])) [(1000,⟨[.nums .u64 4 x0,.nums .u64 4 x1],42,1⟩),(1001,⟨[.nums .u64 4 x0,.nums .u64 4 x1,.nums .u64 4 (g42r0 A 1),.nums .u64 4 (g41r0 A x0 x1),.nums .u64 4 (g53r0 A (g54r0 A) (g54r0 A))],66,1⟩),(4001,(bU 4 (g54r0 A) 40))]
    | false=>none
   | false=>none
  | false=>none
 | false=>none
def g35 {R:Type} (A:Ar) (n:Nat) (kk:AV→Heap→Option R) (a0 a1:List Nat):Option R :=
 match g32ok A a0 a1 with
 | true=>match !(g32r0 A a0 a1) with
  | true=>match g38ok A with
   | true=>g35J3 A n kk  (g38r0 A) (g38r1 A) [0,0,0,0] [0,0,0,0] [0,0,0,0] [0,0,0,0] [0,0,0,0]
   | false=>none
  | false=>g35J3 A n kk  a0 a1 [0,0,0,0] [0,0,0,0] [0,0,0,0] [0,0,0,0] [0,0,0,0]
 | false=>none
section
variable {R:Type} {A:Ar} {n:Nat} {kk:AV→Heap→Option R} {tb:Nat→List Bool→St→Option R} (st:Stp (g35N A kk) tb)
include st
theorem g35J3_go {x0:List Nat} {x1:List Nat} {x2:List Nat} {x3:List Nat} {x4:List Nat} {x5:List Nat} {x6:List Nat}:Prs (fun k=>tb k (pth 7) (g35J3s x0 x1 x2 x3 x4 x5 x6)) (g35J3 A n kk x0 x1 x2 x3 x4 x5 x6):=by
  unfold g35J3
  exact st.g (pc (SxY06ppi _ (SxY06ppi _ (SxY06ppi _ (SxY06ppi _ (pf _) pn) pn) pn) pn) (by kernel_rfl))
theorem g35_go {a0:List Nat} {a1:List Nat}:Prs (fun k=>funN A gtys (g35O A) g35an g35cut (bodyOf Try.f35) g35res [(.v (.agg [.nums .u64 4 a0,.nums .u64 4 a1]))] [] kk (tb k)) (g35 A n kk a0 a1):=by
  unfold g35
  exact pc (SxY06ppi _ (SxY06ppi _ (SxY06ppi _ (g35J3_go st) pn) (g35J3_go st)) pn) (by kernel_rfl)
end
def g35is (o:Option AV):Bool:=match o with
 | some (.v (.agg [.nums .u64 4 _,.nums .u64 4 _,.nums .u64 4 _,.nums .u64 4 _,.nums .u64 4 _]))=>true
 | _=>false
def g35g0 (o:Option AV):List Nat:=match o with
 | some (.v (.agg [.nums .u64 4 x,.nums .u64 4 _,.nums .u64 4 _,.nums .u64 4 _,.nums .u64 4 _]))=>x
 | _=>[]
def g35g1 (o:Option AV):List Nat:=match o with
 | some (.v (.agg [.nums .u64 4 _,.nums .u64 4 x,.nums .u64 4 _,.nums .u64 4 _,.nums .u64 4 _]))=>x
 | _=>[]
def g35g2 (o:Option AV):List Nat:=match o with
 | some (.v (.agg [.nums .u64 4 _,.nums .u64 4 _,.nums .u64 4 x,.nums .u64 4 _,.nums .u64 4 _]))=>x
 | _=>[]
def g35g3 (o:Option AV):List Nat:=match o with
 | some (.v (.agg [.nums .u64 4 _,.nums .u64 4 _,.nums .u64 4 _,.nums .u64 4 x,.nums .u64 4 _]))=>x
 | _=>[]
def g35g4 (o:Option AV):List Nat:=match o with
 | some (.v (.agg [.nums .u64 4 _,.nums .u64 4 _,.nums .u64 4 _,.nums .u64 4 _,.nums .u64 4 x]))=>x
 | _=>[]
theorem g35is_spec {o:Option AV} (h:g35is o=true):o=some (.v (.agg [.nums .u64 4 (g35g0 o),.nums .u64 4 (g35g1 o),.nums .u64 4 (g35g2 o),.nums .u64 4 (g35g3 o),.nums .u64 4 (g35g4 o)])):=by
  unfold g35is at h
  split at h
  · rfl
  · cases h
def g35v (A:Ar) (a0 a1:List Nat):Option AV:=g35 A (100000) (fun v _=>some v) a0 a1
def g35ok (A:Ar) (a0 a1:List Nat):Bool:=g35is (g35v A a0 a1)
def g35r0 (A:Ar) (a0 a1:List Nat):List Nat:=g35g0 (g35v A a0 a1)
def g35r1 (A:Ar) (a0 a1:List Nat):List Nat:=g35g1 (g35v A a0 a1)
def g35r2 (A:Ar) (a0 a1:List Nat):List Nat:=g35g2 (g35v A a0 a1)
def g35r3 (A:Ar) (a0 a1:List Nat):List Nat:=g35g3 (g35v A a0 a1)
def g35r4 (A:Ar) (a0 a1:List Nat):List Nat:=g35g4 (g35v A a0 a1)
theorem g35ok_spec {A:Ar} {a0 a1} (h:g35ok A a0 a1=true):g35v A a0 a1=some (.v (.agg [.nums .u64 4 (g35r0 A a0 a1),.nums .u64 4 (g35r1 A a0 a1),.nums .u64 4 (g35r2 A a0 a1),.nums .u64 4 (g35r3 A a0 a1),.nums .u64 4 (g35r4 A a0 a1)])):=g35is_spec h
def g35o (A:Ar) (args:List AV):Option (Bool × AV):=match args with
 | [.v (.agg [.nums .u64 n0 a0,.nums .u64 n1 a1])]=>some (Nat.beq n0 4&&(Nat.beq n1 4&&(g35ok A a0 a1)),.v (.agg [.nums .u64 4 (g35r0 A a0 a1),.nums .u64 4 (g35r1 A a0 a1),.nums .u64 4 (g35r2 A a0 a1),.nums .u64 4 (g35r3 A a0 a1),.nums .u64 4 (g35r4 A a0 a1)]))
 | _=>none
theorem g35o_sound:∀ args v,g35o realA args=some (true,v)→Fn1 Try.prog 35 args v:=by
  intro args v h
  unfold g35o at h
  split at h
  · rename_i n0 a0 n1 a1
    simp only [Option.some.injEq,Prod.mk.injEq] at h
    obtain ⟨hc,h⟩:=h
    subst h
    · skip
      simp only [Bool.and_eq_true] at hc
      have en0:=beq_true hc.1
      subst en0
      replace hc:=hc.2
      have en1:=beq_true hc.1
      subst en1
      replace hc:=hc.2
      exact fn1_ofG mixed gtysOK g35O_sound g35O_det (an:=g35an) (cut:=g35cut) Try.func35 (c:=bodyOf Try.f35) rfl (by kernel_rfl) Try.call35 (Nat.le_of_ble_eq_true rfl) (fun b=>rfl) (fun _=>(show g35v realA a0 a1=_ from g35ok_spec hc)) fun _ st=>g35_go st
  · cases h
attribute [local irreducible] g35ok g35r0 g35r1 g35r2 g35r3 g35r4
def g36O (A:Ar):Orc:=orcOf [(52,g52o A),(41,g41o A),(53,g53o A)]
theorem g36O_sound:OSound Try.prog (g36O realA):=orc_sound fun f g hm args v hv=>by
  simp only [List.mem_cons,List.not_mem_nil,or_false,Prod.mk.injEq] at hm
  rcases hm with ⟨rfl,rfl⟩ | ⟨rfl,rfl⟩ | ⟨rfl,rfl⟩
  · exact g52o_sound _ _ hv
  · exact g41o_sound _ _ hv
  · exact g53o_sound _ _ hv
theorem g36O_det:ODet (g36O realA):=orc_det _
def g36an:Ann:=[(0,([0,1],[])),(1,([2,3,4],[1000,1001,1002])),(2,([2,3,4,5],[1000,1001,1002,2011])),(3,([2,3,4,5,6],[1000,1001,1002,2011,3011])),(4,([2,3,4,5,6,7],[1000,1001,1002,2011,3011,4008])),(5,([2,4,5,6,7,8],[1000,1002,2011,3011,4008,5005])),(6,([2,4,5,6,7,8],[1000,1002,2011,3011,4008,5005])),(7,([2,4,9,10,11,12],[1000,1002,7012,7013,7014,7015]))]
def g36res:List ResultVar:=[.cell 4 66]
def g36cut:List Nat:=[]
abbrev g36t0 (A:Ar) (a0 a1:List Nat) (a2 a3:List Nat) (a4 b0:List Nat) (b1 b2 b3:List Nat):List Nat:=g41r0 A (g52r0 A (g41r0 A (g53r0 A a1 a0) (g53r0 A b1 b0)) (g41r0 A (g52r0 A a1 a0) (g52r0 A b1 b0))) (g52r0 A (g53r0 A (g41r0 A a2 b2) (g41r0 A a2 b2)) (g41r0 A (g41r0 A a3 a4) b3))
abbrev g36t1 (A:Ar) (a0 a1:List Nat) (a2 a3:List Nat) (a4 b0:List Nat) (b1 b2 b3:List Nat):List Nat:=g41r0 A (g53r0 A (g53r0 A (g41r0 A a2 b2) (g41r0 A a2 b2)) (g41r0 A (g41r0 A a3 a4) b3)) (g53r0 A (g41r0 A (g53r0 A a1 a0) (g53r0 A b1 b0)) (g41r0 A (g52r0 A a1 a0) (g52r0 A b1 b0)))
abbrev g36t2 (A:Ar) (a2 a3:List Nat) (a4 b2 b3:List Nat):List Nat:=g41r0 A (g52r0 A (g53r0 A (g41r0 A a2 b2) (g41r0 A a2 b2)) (g41r0 A (g41r0 A a3 a4) b3)) (g53r0 A (g53r0 A (g41r0 A a2 b2) (g41r0 A a2 b2)) (g41r0 A (g41r0 A a3 a4) b3))
abbrev g36t3 (A:Ar) (a0 a1:List Nat) (b0 b1:List Nat):List Nat:=g41r0 A (g52r0 A (g41r0 A (g53r0 A a1 a0) (g53r0 A b1 b0)) (g41r0 A (g52r0 A a1 a0) (g52r0 A b1 b0))) (g53r0 A (g41r0 A (g53r0 A a1 a0) (g53r0 A b1 b0)) (g41r0 A (g52r0 A a1 a0) (g52r0 A b1 b0)))
noncomputable def g36N {R:Type} (A:Ar) (kk:AV→Heap→Option R) (t:List Bool→St→Option R) (p:List Bool) (s:St):Option R:=nodeN A gtys (g36O A) g36an g36cut t (bodyOf Try.f36) (finD gtys g36res kk) p s
def g36 {R:Type} (A:Ar) (n:Nat) (kk:AV→Heap→Option R) (a0 a1:List Nat) (a2 a3:List Nat) (a4 b0:List Nat) (b1 b2:List Nat) (b3 b4:List Nat):Option R :=
 match g52ok A a1 a0 with
 | true=>match g52ok A b1 b0 with
  | true=>match g41ok A (g52r0 A a1 a0) (g52r0 A b1 b0) with
   | true=>match g53ok A a1 a0 with
    | true=>match g53ok A b1 b0 with
     | true=>match g41ok A (g53r0 A a1 a0) (g53r0 A b1 b0) with
      | true=>match g41ok A a3 a4 with
       | true=>match g41ok A (g41r0 A a3 a4) b3 with
        | true=>match g41ok A a2 b2 with
         | true=>match g53ok A (g41r0 A a2 b2) (g41r0 A a2 b2) with
          | true=>match g52ok A (g41r0 A (g53r0 A a1 a0) (g53r0 A b1 b0)) (g41r0 A (g52r0 A a1 a0) (g52r0 A b1 b0)) with
           | true=>match g52ok A (g53r0 A (g41r0 A a2 b2) (g41r0 A a2 b2)) (g41r0 A (g41r0 A a3 a4) b3) with
            | true=>match g53ok A (g53r0 A (g41r0 A a2 b2) (g41r0 A a2 b2)) (g41r0 A (g41r0 A a3 a4) b3) with
             | true=>match g53ok A (g41r0 A (g53r0 A a1 a0) (g53r0 A b1 b0)) (g41r0 A (g52r0 A a1 a0) (g52r0 A b1 b0)) with
              | true=>match g41ok A (g52r0 A (g41r0 A (g53r0 A a1 a0) (g53r0 A b1 b0)) (g41r0 A (g52r0 A a1 a0) (g52r0 A b1 b0))) (g52r0 A (g53r0 A (g41r0 A a2 b2) (g41r0 A a2 b2)) (g41r0 A (g41r0 A a3 a4) b3)) with
               | true=>match g41ok A (g53r0 A (g53r0 A (g41r0 A a2 b2) (g41r0 A a2 b2)) (g41r0 A (g41r0 A a3 a4) b3)) (g53r0 A (g41r0 A (g53r0 A a1 a0) (g53r0 A b1 b0)) (g41r0 A (g52r0 A a1 a0) (g52r0 A b1 b0))) with
                | true=>match g41ok A (g52r0 A (g53r0 A (g41r0 A a2 b2) (g41r0 A a2 b2)) (g41r0 A (g41r0 A a3 a4) b3)) (g53r0 A (g53r0 A (g41r0 A a2 b2) (g41r0 A a2 b2)) (g41r0 A (g41r0 A a3 a4) b3)) with
                 | true=>match g41ok A (g52r0 A (g41r0 A (g53r0 A a1 a0) (g53r0 A b1 b0)) (g41r0 A (g52r0 A a1 a0) (g52r0 A b1 b0))) (g53r0 A (g41r0 A (g53r0 A a1 a0) (g53r0 A b1 b0)) (g41r0 A (g52r0 A a1 a0) (g52r0 A b1 b0))) with
                  | true=>kk (.v (.agg [.nums .u64 4 (g36t0 A a0 a1 a2 a3 a4 b0 b1 b2 b3),.nums .u64 4 (g36t1 A a0 a1 a2 a3 a4 b0 b1 b2 b3),.nums .u64 4 (g36t2 A a2 a3 a4 b2 b3),.nums .u64 4 (g36t3 A a0 a1 b0 b1),.nums .u64 4 a4])) [(1000,⟨[.nums .u64 4 a0,.nums .u64 4 a1,.nums .u64 4 a2,.nums .u64 4 a3,.nums .u64 4 a4],66,1⟩),(1002,⟨[.nums .u64 4 (g36t0 A a0 a1 a2 a3 a4 b0 b1 b2 b3),.nums .u64 4 (g36t1 A a0 a1 a2 a3 a4 b0 b1 b2 b3),.nums .u64 4 (g36t2 A a2 a3 a4 b2 b3),.nums .u64 4 (g36t3 A a0 a1 b0 b1),.nums .u64 4 a4],66,1⟩),(7012,(bU 4 (g52r0 A (g41r0 A (g53r0 A a1 a0) (g53r0 A b1 b0)) (g41r0 A (g52r0 A a1 a0) (g52r0 A b1 b0))) 40)),(7013,(bU 4 (g52r0 A (g53r0 A (g41r0 A a2 b2) (g41r0 A a2 b2)) (g41r0 A (g41r0 A a3 a4) b3)) 40)),(7014,(bU 4 (g53r0 A (g53r0 A (g41r0 A a2 b2) (g41r0 A a2 b2)) (g41r0 A (g41r0 A a3 a4) b3)) 40)),(7015,(bU 4 (g53r0 A (g41r0 A (g53r0 A a1 a0) (g53r0 A b1 b0)) (g41r0 A (g52r0 A a1 a0) (g52r0 A b1 b0))) 40))]
                  | false=>none
                 | false=>none
                | false=>none
               | false=>none
              | false=>none
             | false=>none
            | false=>none
           | false=>none
          | false=>none
         | false=>none
        | false=>none
       | false=>none
      | false=>none
     | false=>none
    | false=>none
   | false=>none
  | false=>none
 | false=>none
section
variable {R:Type} {A:Ar} {n:Nat} {kk:AV→Heap→Option R} {tb:Nat→List Bool→St→Option R} (st:Stp (g36N A kk) tb)
include st
theorem g36_go {a0:List Nat} {a1:List Nat} {a2:List Nat} {a3:List Nat} {a4:List Nat} {b0:List Nat} {b1:List Nat} {b2:List Nat} {b3:List Nat} {b4:List Nat}:Prs (fun k=>funN A gtys (g36O A) g36an g36cut (bodyOf Try.f36) g36res [(.v (.agg [.nums .u64 4 a0,.nums .u64 4 a1,.nums .u64 4 a2,.nums .u64 4 a3,.nums .u64 4 a4])),(.v (.agg [.nums .u64 4 b0,.nums .u64 4 b1,.nums .u64 4 b2,.nums .u64 4 b3,.nums .u64 4 b4]))] [] kk (tb k)) (g36 A n kk a0 a1 a2 a3 a4 b0 b1 b2 b3 b4):=by
  unfold g36
  exact pc (SxY06ppi _ (SxY06ppi _ (SxY06ppi _ (SxY06ppi _ (SxY06ppi _ (SxY06ppi _ (SxY06ppi _ (SxY06ppi _ (SxY06ppi _ (SxY06ppi _ (SxY06ppi _ (SxY06ppi _ (SxY06ppi _ (SxY06ppi _ (SxY06ppi _ (SxY06ppi _ (SxY06ppi _ (SxY06ppi _ (pf _) pn) pn) pn) pn) pn) pn) pn) pn) pn) pn) pn) pn) pn) pn) pn) pn) pn) pn) (by kernel_rfl)
end
def g36is (o:Option AV):Bool:=match o with
 | some (.v (.agg [.nums .u64 4 _,.nums .u64 4 _,.nums .u64 4 _,.nums .u64 4 _,.nums .u64 4 _]))=>true
 | _=>false
def g36g0 (o:Option AV):List Nat:=match o with
 | some (.v (.agg [.nums .u64 4 x,.nums .u64 4 _,.nums .u64 4 _,.nums .u64 4 _,.nums .u64 4 _]))=>x
 | _=>[]
def g36g1 (o:Option AV):List Nat:=match o with
 | some (.v (.agg [.nums .u64 4 _,.nums .u64 4 x,.nums .u64 4 _,.nums .u64 4 _,.nums .u64 4 _]))=>x
 | _=>[]
def g36g2 (o:Option AV):List Nat:=match o with
 | some (.v (.agg [.nums .u64 4 _,.nums .u64 4 _,.nums .u64 4 x,.nums .u64 4 _,.nums .u64 4 _]))=>x
 | _=>[]
def g36g3 (o:Option AV):List Nat:=match o with
 | some (.v (.agg [.nums .u64 4 _,.nums .u64 4 _,.nums .u64 4 _,.nums .u64 4 x,.nums .u64 4 _]))=>x
 | _=>[]
def g36g4 (o:Option AV):List Nat:=match o with
 | some (.v (.agg [.nums .u64 4 _,.nums .u64 4 _,.nums .u64 4 _,.nums .u64 4 _,.nums .u64 4 x]))=>x
 | _=>[]
theorem g36is_spec {o:Option AV} (h:g36is o=true):o=some (.v (.agg [.nums .u64 4 (g36g0 o),.nums .u64 4 (g36g1 o),.nums .u64 4 (g36g2 o),.nums .u64 4 (g36g3 o),.nums .u64 4 (g36g4 o)])):=by
  unfold g36is at h
  split at h
  · rfl
  · cases h
def g36v (A:Ar) (a0 a1:List Nat) (a2 a3:List Nat) (a4 b0:List Nat) (b1 b2:List Nat) (b3 b4:List Nat):Option AV:=g36 A (100000) (fun v _=>some v) a0 a1 a2 a3 a4 b0 b1 b2 b3 b4
def g36ok (A:Ar) (a0 a1:List Nat) (a2 a3:List Nat) (a4 b0:List Nat) (b1 b2:List Nat) (b3 b4:List Nat):Bool:=g36is (g36v A a0 a1 a2 a3 a4 b0 b1 b2 b3 b4)
def g36r0 (A:Ar) (a0 a1:List Nat) (a2 a3:List Nat) (a4 b0:List Nat) (b1 b2:List Nat) (b3 b4:List Nat):List Nat:=g36g0 (g36v A a0 a1 a2 a3 a4 b0 b1 b2 b3 b4)
def g36r1 (A:Ar) (a0 a1:List Nat) (a2 a3:List Nat) (a4 b0:List Nat) (b1 b2:List Nat) (b3 b4:List Nat):List Nat:=g36g1 (g36v A a0 a1 a2 a3 a4 b0 b1 b2 b3 b4)
def g36r2 (A:Ar) (a0 a1:List Nat) (a2 a3:List Nat) (a4 b0:List Nat) (b1 b2:List Nat) (b3 b4:List Nat):List Nat:=g36g2 (g36v A a0 a1 a2 a3 a4 b0 b1 b2 b3 b4)
def g36r3 (A:Ar) (a0 a1:List Nat) (a2 a3:List Nat) (a4 b0:List Nat) (b1 b2:List Nat) (b3 b4:List Nat):List Nat:=g36g3 (g36v A a0 a1 a2 a3 a4 b0 b1 b2 b3 b4)
def g36r4 (A:Ar) (a0 a1:List Nat) (a2 a3:List Nat) (a4 b0:List Nat) (b1 b2:List Nat) (b3 b4:List Nat):List Nat:=g36g4 (g36v A a0 a1 a2 a3 a4 b0 b1 b2 b3 b4)
theorem g36ok_spec {A:Ar} {a0 a1 a2 a3 a4 b0 b1 b2 b3 b4} (h:g36ok A a0 a1 a2 a3 a4 b0 b1 b2 b3 b4=true):g36v A a0 a1 a2 a3 a4 b0 b1 b2 b3 b4=some (.v (.agg [.nums .u64 4 (g36r0 A a0 a1 a2 a3 a4 b0 b1 b2 b3 b4),.nums .u64 4 (g36r1 A a0 a1 a2 a3 a4 b0 b1 b2 b3 b4),.nums .u64 4 (g36r2 A a0 a1 a2 a3 a4 b0 b1 b2 b3 b4),.nums .u64 4 (g36r3 A a0 a1 a2 a3 a4 b0 b1 b2 b3 b4),.nums .u64 4 (g36r4 A a0 a1 a2 a3 a4 b0 b1 b2 b3 b4)])):=g36is_spec h
def g36o (A:Ar) (args:List AV):Option (Bool × AV):=match args with
 | [.v (.agg [.nums .u64 n0 a0,.nums .u64 n1 a1,.nums .u64 n2 a2,.nums .u64 n3 a3,.nums .u64 n4 a4]),.v (.agg [.nums .u64 n5 b0,.nums .u64 n6 b1,.nums .u64 n7 b2,.nums .u64 n8 b3,.nums .u64 n9 b4])]=>some (Nat.beq n0 4&&(Nat.beq n1 4&&(Nat.beq n2 4&&(Nat.beq n3 4&&(Nat.beq n4 4&&(Nat.beq n5 4&&(Nat.beq n6 4&&(Nat.beq n7 4&&(Nat.beq n8 4&&(Nat.beq n9 4&&(g36ok A a0 a1 a2 a3 a4 b0 b1 b2 b3 b4)))))))))),.v (.agg [.nums .u64 4 (g36r0 A a0 a1 a2 a3 a4 b0 b1 b2 b3 b4),.nums .u64 4 (g36r1 A a0 a1 a2 a3 a4 b0 b1 b2 b3 b4),.nums .u64 4 (g36r2 A a0 a1 a2 a3 a4 b0 b1 b2 b3 b4),.nums .u64 4 (g36r3 A a0 a1 a2 a3 a4 b0 b1 b2 b3 b4),.nums .u64 4 (g36r4 A a0 a1 a2 a3 a4 b0 b1 b2 b3 b4)]))
 | _=>none
theorem g36o_sound:∀ args v,g36o realA args=some (true,v)→Fn1 Try.prog 36 args v:=by
  intro args v h
  unfold g36o at h
  split at h
  · rename_i n0 a0 n1 a1 n2 a2 n3 a3 n4 a4 n5 b0 n6 b1 n7 b2 n8 b3 n9 b4
    simp only [Option.some.injEq,Prod.mk.injEq] at h
    obtain ⟨hc,h⟩:=h
    subst h
    · skip
      simp only [Bool.and_eq_true] at hc
      have en0:=beq_true hc.1
      subst en0
      replace hc:=hc.2
      have en1:=beq_true hc.1
      subst en1
      replace hc:=hc.2
      have en2:=beq_true hc.1
      subst en2
      replace hc:=hc.2
      have en3:=beq_true hc.1
      subst en3
      replace hc:=hc.2
      have en4:=beq_true hc.1
      subst en4
      replace hc:=hc.2
      have en5:=beq_true hc.1
      subst en5
      replace hc:=hc.2
      have en6:=beq_true hc.1
      subst en6
      replace hc:=hc.2
      have en7:=beq_true hc.1
      subst en7
      replace hc:=hc.2
      have en8:=beq_true hc.1
      subst en8
      replace hc:=hc.2
      have en9:=beq_true hc.1
      subst en9
      replace hc:=hc.2
      exact fn1_ofG mixed gtysOK g36O_sound g36O_det (an:=g36an) (cut:=g36cut) Try.func36 (c:=bodyOf Try.f36) rfl (by kernel_rfl) Try.call36 (Nat.le_of_ble_eq_true rfl) (fun b=>rfl) (fun _=>(show g36v realA a0 a1 a2 a3 a4 b0 b1 b2 b3 b4=_ from g36ok_spec hc)) fun _ st=>g36_go st
  · cases h
attribute [local irreducible] g36ok g36r0 g36r1 g36r2 g36r3 g36r4
def g37O (A:Ar):Orc:=orcOf [(43,g43o A),(41,g41o A)]
theorem g37O_sound:OSound Try.prog (g37O realA):=orc_sound fun f g hm args v hv=>by
  simp only [List.mem_cons,List.not_mem_nil,or_false,Prod.mk.injEq] at hm
  rcases hm with ⟨rfl,rfl⟩ | ⟨rfl,rfl⟩
  · exact g43o_sound _ _ hv
  · exact g41o_sound _ _ hv
theorem g37O_det:ODet (g37O realA):=orc_det _
def g37an:Ann:=[(0,([0],[])),(1,([1,2],[1000,1001])),(2,([1,2,3],[1000,1001,2003]))]
def g37res:List ResultVar:=[.cell 2 42]
def g37cut:List Nat:=[]
noncomputable def g37N {R:Type} (A:Ar) (kk:AV→Heap→Option R) (t:List Bool→St→Option R) (p:List Bool) (s:St):Option R:=nodeN A gtys (g37O A) g37an g37cut t (bodyOf Try.f37) (finD gtys g37res kk) p s
def g37 {R:Type} (A:Ar) (n:Nat) (kk:AV→Heap→Option R) (a0 a1:List Nat) (a2 a3 a4:List Nat):Option R :=
 match g43ok A a2 with
 | true=>match g41ok A a0 (g43r0 A a2) with
  | true=>match g41ok A a1 (g43r0 A a2) with
   | true=>kk (.v (.agg [.nums .u64 4 (g41r0 A a0 (g43r0 A a2)),.nums .u64 4 (g41r0 A a1 (g43r0 A a2))])) [(1000,⟨[.nums .u64 4 a0,.nums .u64 4 a1,.nums .u64 4 a2,.nums .u64 4 a3,.nums .u64 4 a4],66,1⟩),(1001,⟨[.nums .u64 4 (g41r0 A a0 (g43r0 A a2)),.nums .u64 4 (g41r0 A a1 (g43r0 A a2))],42,1⟩),(2003,(bU 4 (g43r0 A a2) 40))]
   | false=>none
  | false=>none
 | false=>none
section
variable {R:Type} {A:Ar} {n:Nat} {kk:AV→Heap→Option R} {tb:Nat→List Bool→St→Option R} (st:Stp (g37N A kk) tb)
include st
theorem g37_go {a0:List Nat} {a1:List Nat} {a2:List Nat} {a3:List Nat} {a4:List Nat}:Prs (fun k=>funN A gtys (g37O A) g37an g37cut (bodyOf Try.f37) g37res [(.v (.agg [.nums .u64 4 a0,.nums .u64 4 a1,.nums .u64 4 a2,.nums .u64 4 a3,.nums .u64 4 a4]))] [] kk (tb k)) (g37 A n kk a0 a1 a2 a3 a4):=by
  unfold g37
  exact pc (SxY06ppi _ (SxY06ppi _ (SxY06ppi _ (pf _) pn) pn) pn) (by kernel_rfl)
end
def g37is (o:Option AV):Bool:=match o with
 | some (.v (.agg [.nums .u64 4 _,.nums .u64 4 _]))=>true
 | _=>false
def g37g0 (o:Option AV):List Nat:=match o with
 | some (.v (.agg [.nums .u64 4 x,.nums .u64 4 _]))=>x
 | _=>[]
def g37g1 (o:Option AV):List Nat:=match o with
 | some (.v (.agg [.nums .u64 4 _,.nums .u64 4 x]))=>x
 | _=>[]
theorem g37is_spec {o:Option AV} (h:g37is o=true):o=some (.v (.agg [.nums .u64 4 (g37g0 o),.nums .u64 4 (g37g1 o)])):=by
  unfold g37is at h
  split at h
  · rfl
  · cases h
def g37v (A:Ar) (a0 a1:List Nat) (a2 a3 a4:List Nat):Option AV:=g37 A (100000) (fun v _=>some v) a0 a1 a2 a3 a4
def g37ok (A:Ar) (a0 a1:List Nat) (a2 a3 a4:List Nat):Bool:=g37is (g37v A a0 a1 a2 a3 a4)
def g37r0 (A:Ar) (a0 a1:List Nat) (a2 a3 a4:List Nat):List Nat:=g37g0 (g37v A a0 a1 a2 a3 a4)
def g37r1 (A:Ar) (a0 a1:List Nat) (a2 a3 a4:List Nat):List Nat:=g37g1 (g37v A a0 a1 a2 a3 a4)
theorem g37ok_spec {A:Ar} {a0 a1 a2 a3 a4} (h:g37ok A a0 a1 a2 a3 a4=true):g37v A a0 a1 a2 a3 a4=some (.v (.agg [.nums .u64 4 (g37r0 A a0 a1 a2 a3 a4),.nums .u64 4 (g37r1 A a0 a1 a2 a3 a4)])):=g37is_spec h
def g37o (A:Ar) (args:List AV):Option (Bool × AV):=match args with
 | [.v (.agg [.nums .u64 n0 a0,.nums .u64 n1 a1,.nums .u64 n2 a2,.nums .u64 n3 a3,.nums .u64 n4 a4])]=>some (Nat.beq n0 4&&(Nat.beq n1 4&&(Nat.beq n2 4&&(Nat.beq n3 4&&(Nat.beq n4 4&&(g37ok A a0 a1 a2 a3 a4))))),.v (.agg [.nums .u64 4 (g37r0 A a0 a1 a2 a3 a4),.nums .u64 4 (g37r1 A a0 a1 a2 a3 a4)]))
 | _=>none
theorem g37o_sound:∀ args v,g37o realA args=some (true,v)→Fn1 Try.prog 37 args v:=by
  intro args v h
  unfold g37o at h
  split at h
  · rename_i n0 a0 n1 a1 n2 a2 n3 a3 n4 a4
    simp only [Option.some.injEq,Prod.mk.injEq] at h
    obtain ⟨hc,h⟩:=h
    subst h
    · skip
      simp only [Bool.and_eq_true] at hc
      have en0:=beq_true hc.1
      subst en0
      replace hc:=hc.2
      have en1:=beq_true hc.1
      subst en1
      replace hc:=hc.2
      have en2:=beq_true hc.1
      subst en2
      replace hc:=hc.2
      have en3:=beq_true hc.1
      subst en3
      replace hc:=hc.2
      have en4:=beq_true hc.1
      subst en4
      replace hc:=hc.2
      exact fn1_ofG mixed gtysOK g37O_sound g37O_det (an:=g37an) (cut:=g37cut) Try.func37 (c:=bodyOf Try.f37) rfl (by kernel_rfl) Try.call37 (Nat.le_of_ble_eq_true rfl) (fun b=>rfl) (fun _=>(show g37v realA a0 a1 a2 a3 a4=_ from g37ok_spec hc)) fun _ st=>g37_go st
  · cases h
attribute [local irreducible] g37ok g37r0 g37r1
def g19O (A:Ar):Orc:=orcOf [(35,g35o A),(36,g36o A),(37,g37o A)]
theorem g19O_sound:OSound Try.prog (g19O realA):=orc_sound fun f g hm args v hv=>by
  simp only [List.mem_cons,List.not_mem_nil,or_false,Prod.mk.injEq] at hm
  rcases hm with ⟨rfl,rfl⟩ | ⟨rfl,rfl⟩ | ⟨rfl,rfl⟩
  · exact g35o_sound _ _ hv
  · exact g36o_sound _ _ hv
  · exact g37o_sound _ _ hv
theorem g19O_det:ODet (g19O realA):=orc_det _
def g19an:Ann:=[(0,([0,1],[])),(1,([2,3,4],[1000,1001,1002]))]
def g19res:List ResultVar:=[.cell 4 42]
def g19cut:List Nat:=[]
abbrev g19t0 (A:Ar) (x0 x1:List Nat) (x2 x3:List Nat):List Nat:=g36r0 A (g35r0 A x0 x1) (g35r1 A x0 x1) (g35r2 A x0 x1) (g35r3 A x0 x1) (g35r4 A x0 x1) (g35r0 A x2 x3) (g35r1 A x2 x3) (g35r2 A x2 x3) (g35r3 A x2 x3) (g35r4 A x2 x3)
abbrev g19t1 (A:Ar) (x0 x1:List Nat) (x2 x3:List Nat):List Nat:=g36r1 A (g35r0 A x0 x1) (g35r1 A x0 x1) (g35r2 A x0 x1) (g35r3 A x0 x1) (g35r4 A x0 x1) (g35r0 A x2 x3) (g35r1 A x2 x3) (g35r2 A x2 x3) (g35r3 A x2 x3) (g35r4 A x2 x3)
abbrev g19t2 (A:Ar) (x0 x1:List Nat) (x2 x3:List Nat):List Nat:=g36r2 A (g35r0 A x0 x1) (g35r1 A x0 x1) (g35r2 A x0 x1) (g35r3 A x0 x1) (g35r4 A x0 x1) (g35r0 A x2 x3) (g35r1 A x2 x3) (g35r2 A x2 x3) (g35r3 A x2 x3) (g35r4 A x2 x3)
abbrev g19t3 (A:Ar) (x0 x1:List Nat) (x2 x3:List Nat):List Nat:=g36r3 A (g35r0 A x0 x1) (g35r1 A x0 x1) (g35r2 A x0 x1) (g35r3 A x0 x1) (g35r4 A x0 x1) (g35r0 A x2 x3) (g35r1 A x2 x3) (g35r2 A x2 x3) (g35r3 A x2 x3) (g35r4 A x2 x3)
abbrev g19t4 (A:Ar) (x0 x1:List Nat) (x2 x3:List Nat):List Nat:=g36r4 A (g35r0 A x0 x1) (g35r1 A x0 x1) (g35r2 A x0 x1) (g35r3 A x0 x1) (g35r4 A x0 x1) (g35r0 A x2 x3) (g35r1 A x2 x3) (g35r2 A x2 x3) (g35r3 A x2 x3) (g35r4 A x2 x3)
abbrev g19t5 (A:Ar) (a0 a1:List Nat) (b0 b1:List Nat):List Nat:=g36r0 A (g35r0 A a0 a1) (g35r1 A a0 a1) (g35r2 A a0 a1) (g35r3 A a0 a1) (g35r4 A a0 a1) (g35r0 A b0 b1) (g35r1 A b0 b1) (g35r2 A b0 b1) (g35r3 A b0 b1) (g35r4 A b0 b1)
abbrev g19t6 (A:Ar) (a0 a1:List Nat) (b0 b1:List Nat):List Nat:=g36r1 A (g35r0 A a0 a1) (g35r1 A a0 a1) (g35r2 A a0 a1) (g35r3 A a0 a1) (g35r4 A a0 a1) (g35r0 A b0 b1) (g35r1 A b0 b1) (g35r2 A b0 b1) (g35r3 A b0 b1) (g35r4 A b0 b1)
abbrev g19t7 (A:Ar) (a0 a1:List Nat) (b0 b1:List Nat):List Nat:=g36r2 A (g35r0 A a0 a1) (g35r1 A a0 a1) (g35r2 A a0 a1) (g35r3 A a0 a1) (g35r4 A a0 a1) (g35r0 A b0 b1) (g35r1 A b0 b1) (g35r2 A b0 b1) (g35r3 A b0 b1) (g35r4 A b0 b1)
abbrev g19t8 (A:Ar) (a0 a1:List Nat) (b0 b1:List Nat):List Nat:=g36r3 A (g35r0 A a0 a1) (g35r1 A a0 a1) (g35r2 A a0 a1) (g35r3 A a0 a1) (g35r4 A a0 a1) (g35r0 A b0 b1) (g35r1 A b0 b1) (g35r2 A b0 b1) (g35r3 A b0 b1) (g35r4 A b0 b1)
abbrev g19t9 (A:Ar) (a0 a1:List Nat) (b0 b1:List Nat):List Nat:=g36r4 A (g35r0 A a0 a1) (g35r1 A a0 a1) (g35r2 A a0 a1) (g35r3 A a0 a1) (g35r4 A a0 a1) (g35r0 A b0 b1) (g35r1 A b0 b1) (g35r2 A b0 b1) (g35r3 A b0 b1) (g35r4 A b0 b1)
noncomputable def g19N {R:Type} (A:Ar) (kk:AV→Heap→Option R) (t:List Bool→St→Option R) (p:List Bool) (s:St):Option R:=nodeN A gtys (g19O A) g19an g19cut t (bodyOf Try.f19) (finD gtys g19res kk) p s
def g19 {R:Type} (A:Ar) (n:Nat) (kk:AV→Heap→Option R) (a0 a1:List Nat) (b0 b1:List Nat):Option R :=
 match g35ok A a0 a1 with
 | true=>match g35ok A b0 b1 with
  | true=>match g36ok A (g35r0 A a0 a1) (g35r1 A a0 a1) (g35r2 A a0 a1) (g35r3 A a0 a1) (g35r4 A a0 a1) (g35r0 A b0 b1) (g35r1 A b0 b1) (g35r2 A b0 b1) (g35r3 A b0 b1) (g35r4 A b0 b1) with
   | true=>match g37ok A (g19t5 A a0 a1 b0 b1) (g19t6 A a0 a1 b0 b1) (g19t7 A a0 a1 b0 b1) (g19t8 A a0 a1 b0 b1) (g19t9 A a0 a1 b0 b1) with
    | true=>kk (.v (.agg [.nums .u64 4 (g37r0 A (g19t5 A a0 a1 b0 b1) (g19t6 A a0 a1 b0 b1) (g19t7 A a0 a1 b0 b1) (g19t8 A a0 a1 b0 b1) (g19t9 A a0 a1 b0 b1)),.nums .u64 4 (g37r1 A (g19t5 A a0 a1 b0 b1) (g19t6 A a0 a1 b0 b1) (g19t7 A a0 a1 b0 b1) (g19t8 A a0 a1 b0 b1) (g19t9 A a0 a1 b0 b1))])) [(1000,⟨[.nums .u64 4 a0,.nums .u64 4 a1],42,1⟩),(1001,⟨[.nums .u64 4 b0,.nums .u64 4 b1],42,1⟩),(1002,⟨[.nums .u64 4 (g37r0 A (g19t5 A a0 a1 b0 b1) (g19t6 A a0 a1 b0 b1) (g19t7 A a0 a1 b0 b1) (g19t8 A a0 a1 b0 b1) (g19t9 A a0 a1 b0 b1)),.nums .u64 4 (g37r1 A (g19t5 A a0 a1 b0 b1) (g19t6 A a0 a1 b0 b1) (g19t7 A a0 a1 b0 b1) (g19t8 A a0 a1 b0 b1) (g19t9 A a0 a1 b0 b1))],42,1⟩)]
    | false=>none
   | false=>none
  | false=>none
 | false=>none
section
variable {R:Type} {A:Ar} {n:Nat} {kk:AV→Heap→Option R} {tb:Nat→List Bool→St→Option R} (st:Stp (g19N A kk) tb)
include st
theorem g19_go {a0:List Nat} {a1:List Nat} {b0:List Nat} {b1:List Nat}:Prs (fun k=>funN A gtys (g19O A) g19an g19cut (bodyOf Try.f19) g19res [(.v (.agg [.nums .u64 4 a0,.nums .u64 4 a1])),(.v (.agg [.nums .u64 4 b0,.nums .u64 4 b1]))] [] kk (tb k)) (g19 A n kk a0 a1 b0 b1):=by
  unfold g19
  exact pc (SxY06ppi _ (SxY06ppi _ (SxY06ppi _ (SxY06ppi _ (pf _) pn) pn) pn) pn) (by kernel_rfl)
end
def g19is (o:Option AV):Bool:=match o with
 | some (.v (.agg [.nums .u64 4 _,.nums .u64 4 _]))=>true
 | _=>false
def g19g0 (o:Option AV):List Nat:=match o with
 | some (.v (.agg [.nums .u64 4 x,.nums .u64 4 _]))=>x
 | _=>[]
def g19g1 (o:Option AV):List Nat:=match o with
 | some (.v (.agg [.nums .u64 4 _,.nums .u64 4 x]))=>x
 | _=>[]
theorem g19is_spec {o:Option AV} (h:g19is o=true):o=some (.v (.agg [.nums .u64 4 (g19g0 o),.nums .u64 4 (g19g1 o)])):=by
  unfold g19is at h
  split at h
  · rfl
  · cases h
def g19v (A:Ar) (a0 a1:List Nat) (b0 b1:List Nat):Option AV:=g19 A (100000) (fun v _=>some v) a0 a1 b0 b1
def g19ok (A:Ar) (a0 a1:List Nat) (b0 b1:List Nat):Bool:=g19is (g19v A a0 a1 b0 b1)
def g19r0 (A:Ar) (a0 a1:List Nat) (b0 b1:List Nat):List Nat:=g19g0 (g19v A a0 a1 b0 b1)
def g19r1 (A:Ar) (a0 a1:List Nat) (b0 b1:List Nat):List Nat:=g19g1 (g19v A a0 a1 b0 b1)
theorem g19ok_spec {A:Ar} {a0 a1 b0 b1} (h:g19ok A a0 a1 b0 b1=true):g19v A a0 a1 b0 b1=some (.v (.agg [.nums .u64 4 (g19r0 A a0 a1 b0 b1),.nums .u64 4 (g19r1 A a0 a1 b0 b1)])):=g19is_spec h
def g19o (A:Ar) (args:List AV):Option (Bool × AV):=match args with
 | [.v (.agg [.nums .u64 n0 a0,.nums .u64 n1 a1]),.v (.agg [.nums .u64 n2 b0,.nums .u64 n3 b1])]=>some (Nat.beq n0 4&&(Nat.beq n1 4&&(Nat.beq n2 4&&(Nat.beq n3 4&&(g19ok A a0 a1 b0 b1)))),.v (.agg [.nums .u64 4 (g19r0 A a0 a1 b0 b1),.nums .u64 4 (g19r1 A a0 a1 b0 b1)]))
 | _=>none
theorem g19o_sound:∀ args v,g19o realA args=some (true,v)→Fn1 Try.prog 19 args v:=by
  intro args v h
  unfold g19o at h
  split at h
  · rename_i n0 a0 n1 a1 n2 b0 n3 b1
    simp only [Option.some.injEq,Prod.mk.injEq] at h
    obtain ⟨hc,h⟩:=h
    subst h
    · skip
      simp only [Bool.and_eq_true] at hc
      have en0:=beq_true hc.1
      subst en0
      replace hc:=hc.2
      have en1:=beq_true hc.1
      subst en1
      replace hc:=hc.2
      have en2:=beq_true hc.1
      subst en2
      replace hc:=hc.2
      have en3:=beq_true hc.1
      subst en3
      replace hc:=hc.2
      exact fn1_ofG mixed gtysOK g19O_sound g19O_det (an:=g19an) (cut:=g19cut) Try.func19 (c:=bodyOf Try.f19) rfl (by kernel_rfl) Try.call19 (Nat.le_of_ble_eq_true rfl) (fun b=>rfl) (fun _=>(show g19v realA a0 a1 b0 b1=_ from g19ok_spec hc)) fun _ st=>g19_go st
  · cases h
attribute [local irreducible] g19ok g19r0 g19r1
def g39O (A:Ar):Orc:=orcOf []
theorem g39O_sound:OSound Try.prog (g39O realA):=orc_sound fun f g hm args v hv=>by
  cases hm
theorem g39O_det:ODet (g39O realA):=orc_det _
def g39an:Ann:=[(0,([0,1],[])),(1,([0,1],[])),(2,([],[])),(3,([0,1],[]))]
def g39res:List ResultVar:=[.tmp 4]
def g39cut:List Nat:=[3]
noncomputable def g39N {R:Type} (A:Ar) (kk:AV→Heap→Option R) (t:List Bool→St→Option R) (p:List Bool) (s:St):Option R:=nodeN A gtys (g39O A) g39an g39cut t (bodyOf Try.f39) (finD gtys g39res kk) p s
def g39J3s (x0:List Nat) (x1:Int):St:=⟨[(0,(tS x0)),(1,(i6 x1))],[]⟩
def g39J3 {R:Type} (A:Ar) (n:Nat) (kk:AV→Heap→Option R)  (x0:List Nat) (x1:Int):Option R :=
 match A.neg (A.ib .quo .i64 x1 8) with
 | true=>none
 | false=>match A.lt (A.toN (A.ib .quo .i64 x1 8)) x0.length with
  | true=>match A.neg (A.ib .rem .i64 x1 8) with
   | true=>none
   | false=>kk (i6 (A.ib .and .i64 (A.ofN (A.nsh .shr .u8 (x0.getD (A.toN (A.ib .quo .i64 x1 8)) 0) (A.toN (A.ib .rem .i64 x1 8)))) 1)) []
  | false=>none
def g39 {R:Type} (A:Ar) (n:Nat) (kk:AV→Heap→Option R) (a:List Nat) (b:Int):Option R :=
 match A.ic .lss b 0 with
 | true=>kk (i6 0) []
 | false=>match A.ic .geq (A.ib .quo .i64 b 8) (A.ofN a.length) with
  | true=>kk (i6 0) []
  | false=>g39J3 A n kk  a b
section
variable {R:Type} {A:Ar} {n:Nat} {kk:AV→Heap→Option R} {tb:Nat→List Bool→St→Option R} (st:Stp (g39N A kk) tb)
include st
theorem g39J3_go {x0:List Nat} {x1:Int}:Prs (fun k=>tb k (pth 7) (g39J3s x0 x1)) (g39J3 A n kk x0 x1):=by
  unfold g39J3
  exact st.g (pc (SxY06ppi _ pn (SxY06ppi _ (SxY06ppi _ pn (pf _)) pn)) (by kernel_rfl))
theorem g39_go {a:List Nat} {b:Int}:Prs (fun k=>funN A gtys (g39O A) g39an g39cut (bodyOf Try.f39) g39res [(tS a),(i6 b)] [] kk (tb k)) (g39 A n kk a b):=by
  unfold g39
  exact pc (SxY06ppi _ (pf _) (SxY06ppi _ (pf _) (g39J3_go st))) (by kernel_rfl)
end
def g39is (o:Option AV):Bool:=match o with
 | some (.v (.cell (.int .i64 _)))=>true
 | _=>false
def g39g0 (o:Option AV):Int:=match o with
 | some (.v (.cell (.int .i64 x)))=>x
 | _=>0
theorem g39is_spec {o:Option AV} (h:g39is o=true):o=some (.v (.cell (.int .i64 (g39g0 o)))):=by
  unfold g39is at h
  split at h
  · rfl
  · cases h
def g39v (A:Ar) (a:List Nat) (b:Int):Option AV:=g39 A (100000) (fun v _=>some v) a b
def g39ok (A:Ar) (a:List Nat) (b:Int):Bool:=g39is (g39v A a b)
def g39r0 (A:Ar) (a:List Nat) (b:Int):Int:=g39g0 (g39v A a b)
theorem g39ok_spec {A:Ar} {a b} (h:g39ok A a b=true):g39v A a b=some (.v (.cell (.int .i64 (g39r0 A a b)))):=g39is_spec h
def g39o (A:Ar) (args:List AV):Option (Bool × AV):=match args with
 | [.v (.cell (.str a)),.v (.cell (.int .i64 b))]=>some (g39ok A a b,.v (.cell (.int .i64 (g39r0 A a b))))
 | _=>none
theorem g39o_sound:∀ args v,g39o realA args=some (true,v)→Fn1 Try.prog 39 args v:=by
  intro args v h
  unfold g39o at h
  split at h
  · rename_i a b
    simp only [Option.some.injEq,Prod.mk.injEq] at h
    obtain ⟨hc,h⟩:=h
    subst h
    · skip
      exact fn1_ofG mixed gtysOK g39O_sound g39O_det (an:=g39an) (cut:=g39cut) Try.func39 (c:=bodyOf Try.f39) rfl (by kernel_rfl) Try.call39 (Nat.le_of_ble_eq_true rfl) (fun b=>rfl) (fun _=>(show g39v realA a b=_ from g39ok_spec hc)) fun _ st=>g39_go st
  · cases h
attribute [local irreducible] g39ok g39r0
def g40O (A:Ar):Orc:=orcOf [(41,g41o A),(53,g53o A),(52,g52o A),(31,g31o A)]
theorem g40O_sound:OSound Try.prog (g40O realA):=orc_sound fun f g hm args v hv=>by
  simp only [List.mem_cons,List.not_mem_nil,or_false,Prod.mk.injEq] at hm
  rcases hm with ⟨rfl,rfl⟩ | ⟨rfl,rfl⟩ | ⟨rfl,rfl⟩ | ⟨rfl,rfl⟩
  · exact g41o_sound _ _ hv
  · exact g53o_sound _ _ hv
  · exact g52o_sound _ _ hv
  · exact g31o_sound _ _ hv
theorem g40O_det:ODet (g40O realA):=orc_det _
def g40an:Ann:=[(0,([0],[])),(1,([1,2],[1000,1001])),(2,([1,2,3,4,5],[1000,1001,2015,2016,2017])),(3,([1,2,3,4,5],[1000,1001,2015,2016,2017])),(4,([1,2,3,4,5,6],[1000,1001,2015,2016,2017,4005])),(5,([1,2,3,4,5,7],[1000,1001,2015,2016,2017,5007])),(6,([1,2,3,4,5,7,8],[1000,1001,2015,2016,2017,5007,6003])),(7,([1,2,7,8,9,10],[1000,1001,5007,6003,7007,7008]))]
def g40res:List ResultVar:=[.cell 2 66]
def g40cut:List Nat:=[]
abbrev g40t0 (A:Ar) (a0 a1 a2:List Nat):List Nat:=g41r0 A (g52r0 A (g52r0 A (g41r0 A (g53r0 A a0 a1) (g53r0 A a0 a1)) (g41r0 A a0 a0)) (g41r0 A a1 a1)) (g52r0 A (g52r0 A (g41r0 A a1 a1) (g41r0 A a0 a0)) (g53r0 A (g41r0 A a2 a2) (g41r0 A a2 a2)))
abbrev g40t1 (A:Ar) (a0 a1:List Nat):List Nat:=g41r0 A (g52r0 A (g52r0 A (g41r0 A (g53r0 A a0 a1) (g53r0 A a0 a1)) (g41r0 A a0 a0)) (g41r0 A a1 a1)) (g31r0 A (g53r0 A (g41r0 A a0 a0) (g41r0 A a1 a1)))
noncomputable def g40N {R:Type} (A:Ar) (kk:AV→Heap→Option R) (t:List Bool→St→Option R) (p:List Bool) (s:St):Option R:=nodeN A gtys (g40O A) g40an g40cut t (bodyOf Try.f40) (finD gtys g40res kk) p s
def g40 {R:Type} (A:Ar) (n:Nat) (kk:AV→Heap→Option R) (a0 a1:List Nat) (a2 a3 a4:List Nat):Option R :=
 match g41ok A a0 a0 with
 | true=>match g41ok A a1 a1 with
  | true=>match g41ok A a2 a2 with
   | true=>match g53ok A (g41r0 A a2 a2) (g41r0 A a2 a2) with
    | true=>match g53ok A a0 a1 with
     | true=>match g41ok A (g53r0 A a0 a1) (g53r0 A a0 a1) with
      | true=>match g52ok A (g41r0 A (g53r0 A a0 a1) (g53r0 A a0 a1)) (g41r0 A a0 a0) with
       | true=>match g52ok A (g52r0 A (g41r0 A (g53r0 A a0 a1) (g53r0 A a0 a1)) (g41r0 A a0 a0)) (g41r0 A a1 a1) with
        | true=>match g52ok A (g41r0 A a1 a1) (g41r0 A a0 a0) with
         | true=>match g52ok A (g52r0 A (g41r0 A a1 a1) (g41r0 A a0 a0)) (g53r0 A (g41r0 A a2 a2) (g41r0 A a2 a2)) with
          | true=>match g53ok A (g41r0 A a0 a0) (g41r0 A a1 a1) with
           | true=>match g31ok A (g53r0 A (g41r0 A a0 a0) (g41r0 A a1 a1)) with
            | true=>match g41ok A (g52r0 A (g52r0 A (g41r0 A (g53r0 A a0 a1) (g53r0 A a0 a1)) (g41r0 A a0 a0)) (g41r0 A a1 a1)) (g52r0 A (g52r0 A (g41r0 A a1 a1) (g41r0 A a0 a0)) (g53r0 A (g41r0 A a2 a2) (g41r0 A a2 a2))) with
             | true=>match g41ok A (g52r0 A (g41r0 A a1 a1) (g41r0 A a0 a0)) (g31r0 A (g53r0 A (g41r0 A a0 a0) (g41r0 A a1 a1))) with
              | true=>match g41ok A (g52r0 A (g52r0 A (g41r0 A a1 a1) (g41r0 A a0 a0)) (g53r0 A (g41r0 A a2 a2) (g41r0 A a2 a2))) (g52r0 A (g41r0 A a1 a1) (g41r0 A a0 a0)) with
               | true=>match g41ok A (g52r0 A (g52r0 A (g41r0 A (g53r0 A a0 a1) (g53r0 A a0 a1)) (g41r0 A a0 a0)) (g41r0 A a1 a1)) (g31r0 A (g53r0 A (g41r0 A a0 a0) (g41r0 A a1 a1))) with
                | true=>kk (.v (.agg [.nums .u64 4 (g40t0 A a0 a1 a2),.nums .u64 4 (g41r0 A (g52r0 A (g41r0 A a1 a1) (g41r0 A a0 a0)) (g31r0 A (g53r0 A (g41r0 A a0 a0) (g41r0 A a1 a1)))),.nums .u64 4 (g41r0 A (g52r0 A (g52r0 A (g41r0 A a1 a1) (g41r0 A a0 a0)) (g53r0 A (g41r0 A a2 a2) (g41r0 A a2 a2))) (g52r0 A (g41r0 A a1 a1) (g41r0 A a0 a0))),.nums .u64 4 (g40t1 A a0 a1),.nums .u64 4 a4])) [(1000,⟨[.nums .u64 4 a0,.nums .u64 4 a1,.nums .u64 4 a2,.nums .u64 4 a3,.nums .u64 4 a4],66,1⟩),(1001,⟨[.nums .u64 4 (g40t0 A a0 a1 a2),.nums .u64 4 (g41r0 A (g52r0 A (g41r0 A a1 a1) (g41r0 A a0 a0)) (g31r0 A (g53r0 A (g41r0 A a0 a0) (g41r0 A a1 a1)))),.nums .u64 4 (g41r0 A (g52r0 A (g52r0 A (g41r0 A a1 a1) (g41r0 A a0 a0)) (g53r0 A (g41r0 A a2 a2) (g41r0 A a2 a2))) (g52r0 A (g41r0 A a1 a1) (g41r0 A a0 a0))),.nums .u64 4 (g40t1 A a0 a1),.nums .u64 4 a4],66,1⟩),(5007,(bU 4 (g52r0 A (g52r0 A (g41r0 A (g53r0 A a0 a1) (g53r0 A a0 a1)) (g41r0 A a0 a0)) (g41r0 A a1 a1)) 40)),(6003,(bU 4 (g52r0 A (g41r0 A a1 a1) (g41r0 A a0 a0)) 40)),(7007,(bU 4 (g52r0 A (g52r0 A (g41r0 A a1 a1) (g41r0 A a0 a0)) (g53r0 A (g41r0 A a2 a2) (g41r0 A a2 a2))) 40)),(7008,(bU 4 (g31r0 A (g53r0 A (g41r0 A a0 a0) (g41r0 A a1 a1))) 40))]
                | false=>none
               | false=>none
              | false=>none
             | false=>none
            | false=>none
           | false=>none
          | false=>none
         | false=>none
        | false=>none
       | false=>none
      | false=>none
     | false=>none
    | false=>none
   | false=>none
  | false=>none
 | false=>none
section
variable {R:Type} {A:Ar} {n:Nat} {kk:AV→Heap→Option R} {tb:Nat→List Bool→St→Option R} (st:Stp (g40N A kk) tb)
include st
theorem g40_go {a0:List Nat} {a1:List Nat} {a2:List Nat} {a3:List Nat} {a4:List Nat}:Prs (fun k=>funN A gtys (g40O A) g40an g40cut (bodyOf Try.f40) g40res [(.v (.agg [.nums .u64 4 a0,.nums .u64 4 a1,.nums .u64 4 a2,.nums .u64 4 a3,.nums .u64 4 a4]))] [] kk (tb k)) (g40 A n kk a0 a1 a2 a3 a4):=by
  unfold g40
  exact pc (SxY06ppi _ (SxY06ppi _ (SxY06ppi _ (SxY06ppi _ (SxY06ppi _ (SxY06ppi _ (SxY06ppi _ (SxY06ppi _ (SxY06ppi _ (SxY06ppi _ (SxY06ppi _ (SxY06ppi _ (SxY06ppi _ (SxY06ppi _ (SxY06ppi _ (SxY06ppi _ (pf _) pn) pn) pn) pn) pn) pn) pn) pn) pn) pn) pn) pn) pn) pn) pn) pn) (by kernel_rfl)
end
def g40is (o:Option AV):Bool:=match o with
 | some (.v (.agg [.nums .u64 4 _,.nums .u64 4 _,.nums .u64 4 _,.nums .u64 4 _,.nums .u64 4 _]))=>true
 | _=>false
def g40g0 (o:Option AV):List Nat:=match o with
 | some (.v (.agg [.nums .u64 4 x,.nums .u64 4 _,.nums .u64 4 _,.nums .u64 4 _,.nums .u64 4 _]))=>x
 | _=>[]
def g40g1 (o:Option AV):List Nat:=match o with
 | some (.v (.agg [.nums .u64 4 _,.nums .u64 4 x,.nums .u64 4 _,.nums .u64 4 _,.nums .u64 4 _]))=>x
 | _=>[]
def g40g2 (o:Option AV):List Nat:=match o with
 | some (.v (.agg [.nums .u64 4 _,.nums .u64 4 _,.nums .u64 4 x,.nums .u64 4 _,.nums .u64 4 _]))=>x
 | _=>[]
def g40g3 (o:Option AV):List Nat:=match o with
 | some (.v (.agg [.nums .u64 4 _,.nums .u64 4 _,.nums .u64 4 _,.nums .u64 4 x,.nums .u64 4 _]))=>x
 | _=>[]
def g40g4 (o:Option AV):List Nat:=match o with
 | some (.v (.agg [.nums .u64 4 _,.nums .u64 4 _,.nums .u64 4 _,.nums .u64 4 _,.nums .u64 4 x]))=>x
 | _=>[]
theorem g40is_spec {o:Option AV} (h:g40is o=true):o=some (.v (.agg [.nums .u64 4 (g40g0 o),.nums .u64 4 (g40g1 o),.nums .u64 4 (g40g2 o),.nums .u64 4 (g40g3 o),.nums .u64 4 (g40g4 o)])):=by
  unfold g40is at h
  split at h
  · rfl
  · cases h
def g40v (A:Ar) (a0 a1:List Nat) (a2 a3 a4:List Nat):Option AV:=g40 A (100000) (fun v _=>some v) a0 a1 a2 a3 a4
def g40ok (A:Ar) (a0 a1:List Nat) (a2 a3 a4:List Nat):Bool:=g40is (g40v A a0 a1 a2 a3 a4)
def g40r0 (A:Ar) (a0 a1:List Nat) (a2 a3 a4:List Nat):List Nat:=g40g0 (g40v A a0 a1 a2 a3 a4)
def g40r1 (A:Ar) (a0 a1:List Nat) (a2 a3 a4:List Nat):List Nat:=g40g1 (g40v A a0 a1 a2 a3 a4)
def g40r2 (A:Ar) (a0 a1:List Nat) (a2 a3 a4:List Nat):List Nat:=g40g2 (g40v A a0 a1 a2 a3 a4)
def g40r3 (A:Ar) (a0 a1:List Nat) (a2 a3 a4:List Nat):List Nat:=g40g3 (g40v A a0 a1 a2 a3 a4)
def g40r4 (A:Ar) (a0 a1:List Nat) (a2 a3 a4:List Nat):List Nat:=g40g4 (g40v A a0 a1 a2 a3 a4)
theorem g40ok_spec {A:Ar} {a0 a1 a2 a3 a4} (h:g40ok A a0 a1 a2 a3 a4=true):g40v A a0 a1 a2 a3 a4=some (.v (.agg [.nums .u64 4 (g40r0 A a0 a1 a2 a3 a4),.nums .u64 4 (g40r1 A a0 a1 a2 a3 a4),.nums .u64 4 (g40r2 A a0 a1 a2 a3 a4),.nums .u64 4 (g40r3 A a0 a1 a2 a3 a4),.nums .u64 4 (g40r4 A a0 a1 a2 a3 a4)])):=g40is_spec h
def g40o (A:Ar) (args:List AV):Option (Bool × AV):=match args with
 | [.v (.agg [.nums .u64 n0 a0,.nums .u64 n1 a1,.nums .u64 n2 a2,.nums .u64 n3 a3,.nums .u64 n4 a4])]=>some (Nat.beq n0 4&&(Nat.beq n1 4&&(Nat.beq n2 4&&(Nat.beq n3 4&&(Nat.beq n4 4&&(g40ok A a0 a1 a2 a3 a4))))),.v (.agg [.nums .u64 4 (g40r0 A a0 a1 a2 a3 a4),.nums .u64 4 (g40r1 A a0 a1 a2 a3 a4),.nums .u64 4 (g40r2 A a0 a1 a2 a3 a4),.nums .u64 4 (g40r3 A a0 a1 a2 a3 a4),.nums .u64 4 (g40r4 A a0 a1 a2 a3 a4)]))
 | _=>none
theorem g40o_sound:∀ args v,g40o realA args=some (true,v)→Fn1 Try.prog 40 args v:=by
  intro args v h
  unfold g40o at h
  split at h
  · rename_i n0 a0 n1 a1 n2 a2 n3 a3 n4 a4
    simp only [Option.some.injEq,Prod.mk.injEq] at h
    obtain ⟨hc,h⟩:=h
    subst h
    · skip
      simp only [Bool.and_eq_true] at hc
      have en0:=beq_true hc.1
      subst en0
      replace hc:=hc.2
      have en1:=beq_true hc.1
      subst en1
      replace hc:=hc.2
      have en2:=beq_true hc.1
      subst en2
      replace hc:=hc.2
      have en3:=beq_true hc.1
      subst en3
      replace hc:=hc.2
      have en4:=beq_true hc.1
      subst en4
      replace hc:=hc.2
      exact fn1_ofG mixed gtysOK g40O_sound g40O_det (an:=g40an) (cut:=g40cut) Try.func40 (c:=bodyOf Try.f40) rfl (by kernel_rfl) Try.call40 (Nat.le_of_ble_eq_true rfl) (fun b=>rfl) (fun _=>(show g40v realA a0 a1 a2 a3 a4=_ from g40ok_spec hc)) fun _ st=>g40_go st
  · cases h
attribute [local irreducible] g40ok g40r0 g40r1 g40r2 g40r3 g40r4
def g20O (A:Ar):Orc:=orcOf [(35,g35o A),(38,g38o A),(36,g36o A),(39,g39o A),(40,g40o A),(37,g37o A)]
theorem g20O_sound:OSound Try.prog (g20O realA):=orc_sound fun f g hm args v hv=>by
  simp only [List.mem_cons,List.not_mem_nil,or_false,Prod.mk.injEq] at hm
  rcases hm with ⟨rfl,rfl⟩ | ⟨rfl,rfl⟩ | ⟨rfl,rfl⟩ | ⟨rfl,rfl⟩ | ⟨rfl,rfl⟩ | ⟨rfl,rfl⟩
  · exact g35o_sound _ _ hv
  · exact g38o_sound _ _ hv
  · exact g36o_sound _ _ hv
  · exact g39o_sound _ _ hv
  · exact g40o_sound _ _ hv
  · exact g37o_sound _ _ hv
theorem g20O_det:ODet (g20O realA):=orc_det _
def g20an:Ann:=[(0,([0,1],[])),(1,([0,3,4],[1000,1001])),(2,([0,4,5,6],[1001,2004,2005])),(3,([0,4,5,6,16,17],[1001,2004,2005])),(4,([0,4,5,6,16,17],[1001,2004,2005])),(5,([0,4,5,6,7,16,17],[1001,2004,2005])),(6,([0,4,5,6,7,8,16,17],[1001,2004,2005])),(7,([0,4,5,6,8,16,17],[1001,2004,2005])),(8,([0,4,5,6,16,17],[1001,2004,2005])),(9,([0,4,5,6,16,17],[1001,2004,2005])),(10,([4,6],[1001,2005]))]
def g20res:List ResultVar:=[.cell 4 42]
def g20cut:List Nat:=[4]
noncomputable def g20N {R:Type} (A:Ar) (kk:AV→Heap→Option R) (t:List Bool→St→Option R) (p:List Bool) (s:St):Option R:=nodeN A gtys (g20O A) g20an g20cut t (bodyOf Try.f20) (finD gtys g20res kk) p s
def g20J4s (x0:List Nat) (x1 x2:Int) (x3 x4:List Nat) (x5 x6:List Nat) (x7 x8:List Nat) (x9 x10:List Nat) (x11 x12:List Nat) (x13 x14:List Nat):St:=⟨[(0,(tS x0)),(4,(pT 1001 0)),(5,(pT 2004 0)),(6,(pT 2005 0)),(16,(i6 x1)),(17,(i6 x2))],[(1001,⟨[.nums .u64 4 x3,.nums .u64 4 x4],42,1⟩),(2004,⟨[.nums .u64 4 x5,.nums .u64 4 x6,.nums .u64 4 x7,.nums .u64 4 x8,.nums .u64 4 x9],66,1⟩),(2005,⟨[.nums .u64 4 x10,.nums .u64 4 x11,.nums .u64 4 x12,.nums .u64 4 x13,.nums .u64 4 x14],66,1⟩)]⟩
def g20J4 {R:Type} (A:Ar) (n:Nat) (kk:AV→Heap→Option R) (lg20L3:List Nat→Int→Int→List Nat→List Nat→List Nat→List Nat→List Nat→List Nat→List Nat→List Nat→List Nat→List Nat→List Nat→List Nat→Option R) (x0:List Nat) (x1 x2:Int) (x3 x4:List Nat) (x5 x6:List Nat) (x7 x8:List Nat) (x9 x10:List Nat) (x11 x12:List Nat) (x13 x14:List Nat):Option R :=
 match g39ok A x0 x2 with
 | true=>match A.ic .neq (g39r0 A x0 x2) 0 with
  | true=>match g36ok A x10 x11 x12 x13 x14 x5 x6 x7 x8 x9 with
   | true=>match g40ok A x5 x6 x7 x8 x9 with
    | true=>lg20L3 x0 x1 (A.ib .add .i64 x2 1) x3 x4 (g40r0 A x5 x6 x7 x8 x9) (g40r1 A x5 x6 x7 x8 x9) (g40r2 A x5 x6 x7 x8 x9) (g40r3 A x5 x6 x7 x8 x9) (g40r4 A x5 x6 x7 x8 x9) (g36r0 A x10 x11 x12 x13 x14 x5 x6 x7 x8 x9) (g36r1 A x10 x11 x12 x13 x14 x5 x6 x7 x8 x9) (g36r2 A x10 x11 x12 x13 x14 x5 x6 x7 x8 x9) (g36r3 A x10 x11 x12 x13 x14 x5 x6 x7 x8 x9) (g36r4 A x10 x11 x12 x13 x14 x5 x6 x7 x8 x9)
    | false=>none
   | false=>none
  | false=>match g40ok A x5 x6 x7 x8 x9 with
   | true=>lg20L3 x0 x1 (A.ib .add .i64 x2 1) x3 x4 (g40r0 A x5 x6 x7 x8 x9) (g40r1 A x5 x6 x7 x8 x9) (g40r2 A x5 x6 x7 x8 x9) (g40r3 A x5 x6 x7 x8 x9) (g40r4 A x5 x6 x7 x8 x9) x10 x11 x12 x13 x14
   | false=>none
 | false=>none
def g20L3s (x0:List Nat) (x1 x2:Int) (x3 x4:List Nat) (x5 x6:List Nat) (x7 x8:List Nat) (x9 x10:List Nat) (x11 x12:List Nat) (x13 x14:List Nat):St:=⟨[(0,(tS x0)),(4,(pT 1001 0)),(5,(pT 2004 0)),(6,(pT 2005 0)),(16,(i6 x1)),(17,(i6 x2))],[(1001,⟨[.nums .u64 4 x3,.nums .u64 4 x4],42,1⟩),(2004,⟨[.nums .u64 4 x5,.nums .u64 4 x6,.nums .u64 4 x7,.nums .u64 4 x8,.nums .u64 4 x9],66,1⟩),(2005,⟨[.nums .u64 4 x10,.nums .u64 4 x11,.nums .u64 4 x12,.nums .u64 4 x13,.nums .u64 4 x14],66,1⟩)]⟩
def g20L3 {R:Type} (A:Ar) (n:Nat) (kk:AV→Heap→Option R)  : Nat→List Nat→Int→Int→List Nat→List Nat→List Nat→List Nat→List Nat→List Nat→List Nat→List Nat→List Nat→List Nat→List Nat→List Nat→Option R
 | 0,_,_,_,_,_,_,_,_,_,_,_,_,_,_,_=>none
 | m+1,x0,x1,x2,x3,x4,x5,x6,x7,x8,x9,x10,x11,x12,x13,x14=>match A.ic .lss x2 x1 with
 | true=>g20J4 A n kk (g20L3 A n kk  m) x0 x1 x2 x3 x4 x5 x6 x7 x8 x9 x10 x11 x12 x13 x14
 | false=>match g37ok A x10 x11 x12 x13 x14 with
  | true=>kk (.v (.agg [.nums .u64 4 (g37r0 A x10 x11 x12 x13 x14),.nums .u64 4 (g37r1 A x10 x11 x12 x13 x14)])) [(1001,⟨[.nums .u64 4 (g37r0 A x10 x11 x12 x13 x14),.nums .u64 4 (g37r1 A x10 x11 x12 x13 x14)],42,1⟩),(2005,⟨[.nums .u64 4 x10,.nums .u64 4 x11,.nums .u64 4 x12,.nums .u64 4 x13,.nums .u64 4 x14],66,1⟩)]
  | false=>none
def g20 {R:Type} (A:Ar) (n:Nat) (kk:AV→Heap→Option R) (a b0 b1:List Nat):Option R :=
 match g35ok A b0 b1 with
 | true=>match g38ok A with
  | true=>match g35ok A (g38r0 A) (g38r1 A) with
   | true=>g20L3 A n kk  n a (A.ib .mul .i64 8 (A.mn (A.ofN a.length) 32)) 0 [0,0,0,0] [0,0,0,0] (g35r0 A b0 b1) (g35r1 A b0 b1) (g35r2 A b0 b1) (g35r3 A b0 b1) (g35r4 A b0 b1) (g35r0 A (g38r0 A) (g38r1 A)) (g35r1 A (g38r0 A) (g38r1 A)) (g35r2 A (g38r0 A) (g38r1 A)) (g35r3 A (g38r0 A) (g38r1 A)) (g35r4 A (g38r0 A) (g38r1 A))
   | false=>none
  | false=>none
 | false=>none
section
variable {R:Type} {A:Ar} {n:Nat} {kk:AV→Heap→Option R} {tb:Nat→List Bool→St→Option R} (st:Stp (g20N A kk) tb)
include st
theorem g20J4_go {lg20L3:List Nat→Int→Int→List Nat→List Nat→List Nat→List Nat→List Nat→List Nat→List Nat→List Nat→List Nat→List Nat→List Nat→List Nat→Option R} (hg20L3:∀ (x0:List Nat) (x1 x2:Int) (x3 x4:List Nat) (x5 x6:List Nat) (x7 x8:List Nat) (x9 x10:List Nat) (x11 x12:List Nat) (x13 x14:List Nat),Prs (fun k=>tb k (pth 116) (g20L3s x0 x1 x2 x3 x4 x5 x6 x7 x8 x9 x10 x11 x12 x13 x14)) (lg20L3 x0 x1 x2 x3 x4 x5 x6 x7 x8 x9 x10 x11 x12 x13 x14)) {x0:List Nat} {x1:Int} {x2:Int} {x3:List Nat} {x4:List Nat} {x5:List Nat} {x6:List Nat} {x7:List Nat} {x8:List Nat} {x9:List Nat} {x10:List Nat} {x11:List Nat} {x12:List Nat} {x13:List Nat} {x14:List Nat}:Prs (fun k=>tb k (pth 467) (g20J4s x0 x1 x2 x3 x4 x5 x6 x7 x8 x9 x10 x11 x12 x13 x14)) (g20J4 A n kk lg20L3 x0 x1 x2 x3 x4 x5 x6 x7 x8 x9 x10 x11 x12 x13 x14):=by
  unfold g20J4
  exact st.g (pc (SxY06ppi _ (SxY06ppi _ (SxY06ppi _ (SxY06ppi _ (hg20L3 _ _ _ _ _ _ _ _ _ _ _ _ _ _ _) pn) pn) (SxY06ppi _ (hg20L3 _ _ _ _ _ _ _ _ _ _ _ _ _ _ _) pn)) pn) (by kernel_rfl))
theorem g20L3_go (m:Nat):∀ (x0:List Nat) (x1 x2:Int) (x3 x4:List Nat) (x5 x6:List Nat) (x7 x8:List Nat) (x9 x10:List Nat) (x11 x12:List Nat) (x13 x14:List Nat),Prs (fun k=>tb k (pth 116) (g20L3s x0 x1 x2 x3 x4 x5 x6 x7 x8 x9 x10 x11 x12 x13 x14)) (g20L3 A n kk m x0 x1 x2 x3 x4 x5 x6 x7 x8 x9 x10 x11 x12 x13 x14):=by
  induction m with
  | zero=>intro x0 x1 x2 x3 x4 x5 x6 x7 x8 x9 x10 x11 x12 x13 x14; exact pn0
  | succ m ih =>
    intro x0 x1 x2 x3 x4 x5 x6 x7 x8 x9 x10 x11 x12 x13 x14; rw [g20L3]
    exact st.g (pc (SxY06ppi _ (g20J4_go st ih) (SxY06ppi _ (pf _) pn)) (by kernel_rfl))
theorem g20_go {a:List Nat} {b0:List Nat} {b1:List Nat}:Prs (fun k=>funN A gtys (g20O A) g20an g20cut (bodyOf Try.f20) g20res [(tS a),(.v (.agg [.nums .u64 4 b0,.nums .u64 4 b1]))] [] kk (tb k)) (g20 A n kk a b0 b1):=by
  unfold g20
  exact pc (SxY06ppi _ (SxY06ppi _ (SxY06ppi _ (g20L3_go st n _ _ _ _ _ _ _ _ _ _ _ _ _ _ _) pn) pn) pn) (by kernel_rfl)
end
def g20is (o:Option AV):Bool:=match o with
 | some (.v (.agg [.nums .u64 4 _,.nums .u64 4 _]))=>true
 | _=>false
def g20g0 (o:Option AV):List Nat:=match o with
 | some (.v (.agg [.nums .u64 4 x,.nums .u64 4 _]))=>x
 | _=>[]
def g20g1 (o:Option AV):List Nat:=match o with
 | some (.v (.agg [.nums .u64 4 _,.nums .u64 4 x]))=>x
 | _=>[]
theorem g20is_spec {o:Option AV} (h:g20is o=true):o=some (.v (.agg [.nums .u64 4 (g20g0 o),.nums .u64 4 (g20g1 o)])):=by
  unfold g20is at h
  split at h
  · rfl
  · cases h
def g20v (A:Ar) (a b0 b1:List Nat):Option AV:=g20 A (100000) (fun v _=>some v) a b0 b1
def g20ok (A:Ar) (a b0 b1:List Nat):Bool:=g20is (g20v A a b0 b1)
def g20r0 (A:Ar) (a b0 b1:List Nat):List Nat:=g20g0 (g20v A a b0 b1)
def g20r1 (A:Ar) (a b0 b1:List Nat):List Nat:=g20g1 (g20v A a b0 b1)
theorem g20ok_spec {A:Ar} {a b0 b1} (h:g20ok A a b0 b1=true):g20v A a b0 b1=some (.v (.agg [.nums .u64 4 (g20r0 A a b0 b1),.nums .u64 4 (g20r1 A a b0 b1)])):=g20is_spec h
def g20o (A:Ar) (args:List AV):Option (Bool × AV):=match args with
 | [.v (.cell (.str a)),.v (.agg [.nums .u64 n0 b0,.nums .u64 n1 b1])]=>some (Nat.beq n0 4&&(Nat.beq n1 4&&(g20ok A a b0 b1)),.v (.agg [.nums .u64 4 (g20r0 A a b0 b1),.nums .u64 4 (g20r1 A a b0 b1)]))
 | _=>none
theorem g20o_sound:∀ args v,g20o realA args=some (true,v)→Fn1 Try.prog 20 args v:=by
  intro args v h
  unfold g20o at h
  split at h
  · rename_i a n0 b0 n1 b1
    simp only [Option.some.injEq,Prod.mk.injEq] at h
    obtain ⟨hc,h⟩:=h
    subst h
    · skip
      simp only [Bool.and_eq_true] at hc
      have en0:=beq_true hc.1
      subst en0
      replace hc:=hc.2
      have en1:=beq_true hc.1
      subst en1
      replace hc:=hc.2
      exact fn1_ofG mixed gtysOK g20O_sound g20O_det (an:=g20an) (cut:=g20cut) Try.func20 (c:=bodyOf Try.f20) rfl (by kernel_rfl) Try.call20 (Nat.le_of_ble_eq_true rfl) (fun b=>rfl) (fun _=>(show g20v realA a b0 b1=_ from g20ok_spec hc)) fun _ st=>g20_go st
  · cases h
attribute [local irreducible] g20ok g20r0 g20r1
def g21O (A:Ar):Orc:=orcOf [(42,g42o A),(43,g43o A),(41,g41o A),(30,g30o A)]
theorem g21O_sound:OSound Try.prog (g21O realA):=orc_sound fun f g hm args v hv=>by
  simp only [List.mem_cons,List.not_mem_nil,or_false,Prod.mk.injEq] at hm
  rcases hm with ⟨rfl,rfl⟩ | ⟨rfl,rfl⟩ | ⟨rfl,rfl⟩ | ⟨rfl,rfl⟩
  · exact g42o_sound _ _ hv
  · exact g43o_sound _ _ hv
  · exact g41o_sound _ _ hv
  · exact g30o_sound _ _ hv
theorem g21O_det:ODet (g21O realA):=orc_det _
def g21an:Ann:=[(0,([],[])),(1,([0],[1000])),(2,([0,1],[1000,2004])),(3,([0,1,2],[1000,2004,3005]))]
def g21res:List ResultVar:=[.cell 0 42]
def g21cut:List Nat:=[]
noncomputable def g21N {R:Type} (A:Ar) (kk:AV→Heap→Option R) (t:List Bool→St→Option R) (p:List Bool) (s:St):Option R:=nodeN A gtys (g21O A) g21an g21cut t (bodyOf Try.f21) (finD gtys g21res kk) p s
def g21 {R:Type} (A:Ar) (n:Nat) (kk:AV→Heap→Option R)  : Option R :=
 match g42ok A 4 with
 | true=>match g42ok A 5 with
  | true=>match g43ok A (g42r0 A 5) with
   | true=>match g41ok A (g42r0 A 4) (g43r0 A (g42r0 A 5)) with
    | true=>match g30ok A (g41r0 A (g42r0 A 4) (g43r0 A (g42r0 A 5))) with
     | true=>kk (.v (.agg [.nums .u64 4 (g30r0 A (g41r0 A (g42r0 A 4) (g43r0 A (g42r0 A 5)))),.nums .u64 4 (g41r0 A (g42r0 A 4) (g43r0 A (g42r0 A 5)))])) [(1000,⟨[.nums .u64 4 (g30r0 A (g41r0 A (g42r0 A 4) (g43r0 A (g42r0 A 5)))),.nums .u64 4 (g41r0 A (g42r0 A 4) (g43r0 A (g42r0 A 5)))],42,1⟩),(2004,(bU 4 (g41r0 A (g42r0 A 4) (g43r0 A (g42r0 A 5))) 40)),(3005,(bU 4 (g30r0 A (g41r0 A (g42r0 A 4) (g43r0 A (g42r0 A 5)))) 40))]
     | false=>none
    | false=>none
   | false=>none
  | false=>none
 | false=>none
section
variable {R:Type} {A:Ar} {n:Nat} {kk:AV→Heap→Option R} {tb:Nat→List Bool→St→Option R} (st:Stp (g21N A kk) tb)
include st
theorem g21_go  : Prs (fun k=>funN A gtys (g21O A) g21an g21cut (bodyOf Try.f21) g21res [] [] kk (tb k)) (g21 A n kk ):=by
  unfold g21
  exact pc (SxY06ppi _ (SxY06ppi _ (SxY06ppi _ (SxY06ppi _ (SxY06ppi _ (pf _) pn) pn) pn) pn) pn) (by kernel_rfl)
end
def g21is (o:Option AV):Bool:=match o with
 | some (.v (.agg [.nums .u64 4 _,.nums .u64 4 _]))=>true
 | _=>false
def g21g0 (o:Option AV):List Nat:=match o with
 | some (.v (.agg [.nums .u64 4 x,.nums .u64 4 _]))=>x
 | _=>[]
def g21g1 (o:Option AV):List Nat:=match o with
 | some (.v (.agg [.nums .u64 4 _,.nums .u64 4 x]))=>x
 | _=>[]
theorem g21is_spec {o:Option AV} (h:g21is o=true):o=some (.v (.agg [.nums .u64 4 (g21g0 o),.nums .u64 4 (g21g1 o)])):=by
  unfold g21is at h
  split at h
  · rfl
  · cases h
def g21v (A:Ar)  : Option AV:=g21 A (100000) (fun v _=>some v) 
def g21ok (A:Ar)  : Bool:=g21is (g21v A )
def g21r0 (A:Ar)  : List Nat:=g21g0 (g21v A )
def g21r1 (A:Ar)  : List Nat:=g21g1 (g21v A )
theorem g21ok_spec {A:Ar} (h:g21ok A=true):g21v A=some (.v (.agg [.nums .u64 4 (g21r0 A),.nums .u64 4 (g21r1 A)])):=g21is_spec h
def g21o (A:Ar) (args:List AV):Option (Bool × AV):=match args with
 | []=>some (g21ok A ,.v (.agg [.nums .u64 4 (g21r0 A),.nums .u64 4 (g21r1 A)]))
 | _=>none
theorem g21o_sound:∀ args v,g21o realA args=some (true,v)→Fn1 Try.prog 21 args v:=by
  intro args v h
  unfold g21o at h
  split at h
  · simp only [Option.some.injEq,Prod.mk.injEq] at h
    obtain ⟨hc,h⟩:=h
    subst h
    · skip
      exact fn1_ofG mixed gtysOK g21O_sound g21O_det (an:=g21an) (cut:=g21cut) Try.func21 (c:=bodyOf Try.f21) rfl (by kernel_rfl) Try.call21 (Nat.le_of_ble_eq_true rfl) (fun b=>rfl) (fun _=>(show g21v realA  = _ from g21ok_spec hc)) fun _ st=>g21_go st
  · cases h
attribute [local irreducible] g21ok g21r0 g21r1
def g22O (A:Ar):Orc:=orcOf [(32,g32o A),(38,g38o A),(31,g31o A)]
theorem g22O_sound:OSound Try.prog (g22O realA):=orc_sound fun f g hm args v hv=>by
  simp only [List.mem_cons,List.not_mem_nil,or_false,Prod.mk.injEq] at hm
  rcases hm with ⟨rfl,rfl⟩ | ⟨rfl,rfl⟩ | ⟨rfl,rfl⟩
  · exact g32o_sound _ _ hv
  · exact g38o_sound _ _ hv
  · exact g31o_sound _ _ hv
theorem g22O_det:ODet (g22O realA):=orc_det _
def g22an:Ann:=[(0,([0],[])),(1,([1,2],[1000,1001])),(2,([2],[1001])),(3,([1,2],[1000,1001]))]
def g22res:List ResultVar:=[.cell 2 42]
def g22cut:List Nat:=[3]
noncomputable def g22N {R:Type} (A:Ar) (kk:AV→Heap→Option R) (t:List Bool→St→Option R) (p:List Bool) (s:St):Option R:=nodeN A gtys (g22O A) g22an g22cut t (bodyOf Try.f22) (finD gtys g22res kk) p s
def g22J3s (x0 x1:List Nat) (x2 x3:List Nat):St:=⟨[(1,(pT 1000 0)),(2,(pT 1001 0))],[(1000,⟨[.nums .u64 4 x0,.nums .u64 4 x1],42,1⟩),(1001,⟨[.nums .u64 4 x2,.nums .u64 4 x3],42,1⟩)]⟩
def g22J3 {R:Type} (A:Ar) (n:Nat) (kk:AV→Heap→Option R)  (x0 x1:List Nat) (x2 x3:List Nat):Option R :=
 match g31ok A x0 with
 | true=>kk (.v (.agg [.nums .u64 4 (g31r0 A x0),.nums .u64 4 x1])) [(1000,⟨[.nums .u64 4 x0,.nums .u64 4 x1],42,1⟩),(1001,⟨[.nums .u64 4 (g31r0 A x0),.nums .u64 4 x1],42,1⟩)]
 | false=>none
def g22 {R:Type} (A:Ar) (n:Nat) (kk:AV→Heap→Option R) (a0 a1:List Nat):Option R :=
 match g32ok A a0 a1 with
 | true=>match !(g32r0 A a0 a1) with
  | true=>match g38ok A with
   | true=>kk (.v (.agg [.nums .u64 4 (g38r0 A),.nums .u64 4 (g38r1 A)])) [(1001,⟨[.nums .u64 4 (g38r0 A),.nums .u64 4 (g38r1 A)],42,1⟩)]
   | false=>none
  | false=>g22J3 A n kk  a0 a1 [0,0,0,0] [0,0,0,0]
 | false=>none
section
variable {R:Type} {A:Ar} {n:Nat} {kk:AV→Heap→Option R} {tb:Nat→List Bool→St→Option R} (st:Stp (g22N A kk) tb)
include st
theorem g22J3_go {x0:List Nat} {x1:List Nat} {x2:List Nat} {x3:List Nat}:Prs (fun k=>tb k (pth 7) (g22J3s x0 x1 x2 x3)) (g22J3 A n kk x0 x1 x2 x3):=by
  unfold g22J3
  exact st.g (pc (SxY06ppi _ (pf _) pn) (by kernel_rfl))
theorem g22_go {a0:List Nat} {a1:List Nat}:Prs (fun k=>funN A gtys (g22O A) g22an g22cut (bodyOf Try.f22) g22res [(.v (.agg [.nums .u64 4 a0,.nums .u64 4 a1]))] [] kk (tb k)) (g22 A n kk a0 a1):=by
  unfold g22
  exact pc (SxY06ppi _ (SxY06ppi _ (SxY06ppi _ (pf _) pn) (g22J3_go st)) pn) (by kernel_rfl)
end
def g22is (o:Option AV):Bool:=match o with
 | some (.v (.agg [.nums .u64 4 _,.nums .u64 4 _]))=>true
 | _=>false
def g22g0 (o:Option AV):List Nat:=match o with
 | some (.v (.agg [.nums .u64 4 x,.nums .u64 4 _]))=>x
 | _=>[]
def g22g1 (o:Option AV):List Nat:=match o with
 | some (.v (.agg [.nums .u64 4 _,.nums .u64 4 x]))=>x
 | _=>[]
theorem g22is_spec {o:Option AV} (h:g22is o=true):o=some (.v (.agg [.nums .u64 4 (g22g0 o),.nums .u64 4 (g22g1 o)])):=by
  unfold g22is at h
  split at h
  · rfl
  · cases h
def g22v (A:Ar) (a0 a1:List Nat):Option AV:=g22 A (100000) (fun v _=>some v) a0 a1
def g22ok (A:Ar) (a0 a1:List Nat):Bool:=g22is (g22v A a0 a1)
def g22r0 (A:Ar) (a0 a1:List Nat):List Nat:=g22g0 (g22v A a0 a1)
def g22r1 (A:Ar) (a0 a1:List Nat):List Nat:=g22g1 (g22v A a0 a1)
theorem g22ok_spec {A:Ar} {a0 a1} (h:g22ok A a0 a1=true):g22v A a0 a1=some (.v (.agg [.nums .u64 4 (g22r0 A a0 a1),.nums .u64 4 (g22r1 A a0 a1)])):=g22is_spec h
def g22o (A:Ar) (args:List AV):Option (Bool × AV):=match args with
 | [.v (.agg [.nums .u64 n0 a0,.nums .u64 n1 a1])]=>some (Nat.beq n0 4&&(Nat.beq n1 4&&(g22ok A a0 a1)),.v (.agg [.nums .u64 4 (g22r0 A a0 a1),.nums .u64 4 (g22r1 A a0 a1)]))
 | _=>none
theorem g22o_sound:∀ args v,g22o realA args=some (true,v)→Fn1 Try.prog 22 args v:=by
  intro args v h
  unfold g22o at h
  split at h
  · rename_i n0 a0 n1 a1
    simp only [Option.some.injEq,Prod.mk.injEq] at h
    obtain ⟨hc,h⟩:=h
    subst h
    · skip
      simp only [Bool.and_eq_true] at hc
      have en0:=beq_true hc.1
      subst en0
      replace hc:=hc.2
      have en1:=beq_true hc.1
      subst en1
      replace hc:=hc.2
      exact fn1_ofG mixed gtysOK g22O_sound g22O_det (an:=g22an) (cut:=g22cut) Try.func22 (c:=bodyOf Try.f22) rfl (by kernel_rfl) Try.call22 (Nat.le_of_ble_eq_true rfl) (fun b=>rfl) (fun _=>(show g22v realA a0 a1=_ from g22ok_spec hc)) fun _ st=>g22_go st
  · cases h
attribute [local irreducible] g22ok g22r0 g22r1
end Go.Sx
