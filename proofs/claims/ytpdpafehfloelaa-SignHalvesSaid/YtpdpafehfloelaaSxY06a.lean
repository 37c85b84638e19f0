import Derived.Test.YtpdpafehfloelaaChecked
import Derived.Test.YtpdpafehfloelaaSxK3
import Derived.Test.YtpdpafehfloelaaSxNi
import Derived.Test.YtpdpafehfloelaaSxTn
namespace Go.Sx
set_option linter.unusedSectionVars false
open Go.Proofs
set_option linter.unusedVariables false
set_option maxRecDepth 100000
theorem mixed:Try.prog.follows .mixedOrders=true:=Try.checked.mixed
def gtyList:List (Nat × Ty):=[(3,⟨.int .i64,1,8,(.cell (.int .i64 0)),[],0,0,false⟩),
  (5,⟨.int .u8,1,1,(.cell (.nat .u8 0)),[],0,0,false⟩),
  (9,⟨.string,1,16,(.cell (.str [])),[],0,0,false⟩),
  (30,⟨.slice,1,24,(.cell .nils),[],0,5,false⟩),
  (33,⟨.struct,3,48,(.agg [.one (.str []),.one (.str []),.one (.str [])]),[(0,9),(1,9),(2,9)],0,0,true⟩),
  (38,⟨.int .u64,1,8,(.cell (.nat .u64 0)),[],0,0,false⟩),
  (39,⟨.array,4,32,(.agg [.nums .u64 4 [0,0,0,0]]),[],4,38,true⟩),
  (40,⟨.array,4,32,(.agg [.nums .u64 4 [0,0,0,0]]),[],4,38,true⟩),
  (42,⟨.struct,8,64,(.agg [.nums .u64 4 [0,0,0,0],.nums .u64 4 [0,0,0,0]]),[(0,40),(4,40)],0,0,true⟩),
  (50,⟨.slice,1,24,(.cell .nils),[],0,9,false⟩),
  (55,⟨.int .u32,1,4,(.cell (.nat .u32 0)),[],0,0,false⟩),
  (56,⟨.array,65,260,(.agg [.nums .u32 65 [0,0,0,0,0,0,0,0,0,0,0,0,0,0,0,0,0,0,0,0,0,0,0,0,0,0,0,0,0,0,0,0,0,0,0,0,0,0,0,0,0,0,0,0,0,0,0,0,0,0,0,0,0,0,0,0,0,0,0,0,0,0,0,0,0]]),[],65,55,true⟩),
  (57,⟨.int .u64,1,8,(.cell (.nat .u64 0)),[],0,0,false⟩),
  (66,⟨.struct,20,160,(.agg [.nums .u64 4 [0,0,0,0],.nums .u64 4 [0,0,0,0],.nums .u64 4 [0,0,0,0],.nums .u64 4 [0,0,0,0],.nums .u64 4 [0,0,0,0]]),[(0,40),(4,40),(8,40),(12,40),(16,40)],0,0,true⟩),
  (73,⟨.array,8,64,(.agg [.nums .u64 8 [0,0,0,0,0,0,0,0]]),[],8,38,true⟩),
  (74,⟨.array,80,640,(.agg [.nums .u64 80 [0,0,0,0,0,0,0,0,0,0,0,0,0,0,0,0,0,0,0,0,0,0,0,0,0,0,0,0,0,0,0,0,0,0,0,0,0,0,0,0,0,0,0,0,0,0,0,0,0,0,0,0,0,0,0,0,0,0,0,0,0,0,0,0,0,0,0,0,0,0,0,0,0,0,0,0,0,0,0,0]]),[],80,38,true⟩),
  (76,⟨.struct,90,736,(.agg [.nums .u64 88 [0,0,0,0,0,0,0,0,0,0,0,0,0,0,0,0,0,0,0,0,0,0,0,0,0,0,0,0,0,0,0,0,0,0,0,0,0,0,0,0,0,0,0,0,0,0,0,0,0,0,0,0,0,0,0,0,0,0,0,0,0,0,0,0,0,0,0,0,0,0,0,0,0,0,0,0,0,0,0,0,0,0,0,0,0,0,0,0],.one .nils,.one (.int .i64 0)]),[(0,73),(8,74),(88,30),(89,3)],0,0,false⟩),
  (77,⟨.slice,1,24,(.cell .nils),[],0,38,false⟩),
  (82,⟨.array,5,40,(.agg [.nums .u64 5 [0,0,0,0,0]]),[],5,38,true⟩),
  (88,⟨.array,5,40,(.agg [.nums .u64 5 [0,0,0,0,0]]),[],5,38,true⟩),
  (93,⟨.array,6,48,(.agg [.nums .u64 6 [0,0,0,0,0,0]]),[],6,38,true⟩),
  (102,⟨.struct,2,16,(.agg [.nums .u64 2 [0,0]]),[(0,38),(1,38)],0,0,true⟩),
  (103,⟨.array,10,80,(.agg [.nums .u64 10 [0,0,0,0,0,0,0,0,0,0]]),[],5,102,true⟩)]
def gtys:Tys:=fun t=>lk t gtyList
theorem gtysOK0:allL (fun p=>tyB Try.prog p.1 p.2) gtyList=true:=by kernel_rfl
theorem gtysOK:TyOK Try.prog gtys:=tyOK_of gtysOK0 (eqB_spec (by kernel_rfl))
theorem SxY06api {R:Type} (c:Bool) {f1 f2:Nat→Option R} {a1 a2:Option R} (h1:Prs f1 a1) (h2:Prs f2 a2):Prs (fun k=>match c with | true=>f1 k | false=>f2 k) (match c with | true=>a1 | false=>a2):=by cases c <;> assumption
attribute [local irreducible] carryok add64a add64b
def g65O (A:Ar):Orc:=orcOf []
theorem g65O_sound:OSound Try.prog (g65O realA):=orc_sound fun f g hm args v hv=>by
  cases hm
theorem g65O_det:ODet (g65O realA):=orc_det _
def g65an:Ann:=[(0,([0],[])),(1,([1,2],[1000,1001])),(2,([1,2,3],[1000,1001])),(3,([1,2,3,5],[1000,1001])),(4,([1,2,3,5],[1000,1001])),(5,([1,2,3,4,5],[1000,1001])),(6,([1,2,4,5],[1000,1001])),(7,([1,2,3,4,5],[1000,1001])),(8,([1,2,3,5],[1000,1001])),(9,([1,2,3],[1000,1001])),(10,([1,2],[1000,1001]))]
def g65res:List ResultVar:=[.cell 2 88]
def g65cut:List Nat:=[4,9]
noncomputable def g65N {R:Type} (A:Ar) (kk:AV→Heap→Option R) (t:List Bool→St→Option R) (p:List Bool) (s:St):Option R:=nodeN A gtys (g65O A) g65an g65cut t (bodyOf Try.f65) (finD gtys g65res kk) p s
def g65J4s (x0:Nat) (x1:Int) (x2 x3:List Nat):St:=⟨[(1,(pT 1000 0)),(2,(pT 1001 0)),(3,(u64v x0)),(5,(i6 x1))],[(1000,(bU 5 x2 88)),(1001,(bU 5 x3 88))]⟩
def g65J4 {R:Type} (A:Ar) (n:Nat) (kk:AV→Heap→Option R) (lg65L3:Nat→Int→List Nat→List Nat→Option R) (x0:Nat) (x1:Int) (x2 x3:List Nat):Option R :=
 match A.neg x1 with
 | true=>none
 | false=>match A.lt (A.toN x1) 5 with
  | true=>match A.neg x1 with
   | true=>none
   | false=>match A.lt (A.toN x1) 5 with
    | true=>match A.neg x1 with
     | true=>none
     | false=>match A.lt (A.toN x1) 5 with
      | true=>match A.neg x1 with
       | true=>none
       | false=>match A.lt (A.toN x1) 5 with
        | true=>match A.neg x1 with
         | true=>none
         | false=>match A.lt (A.toN x1) 5 with
          | true=>lg65L3 (A.nsh .shr .u64 ((x2.set (A.toN x1) (A.nb .add .u64 (x2.getD (A.toN x1) 0) x0)).getD (A.toN x1) 0) 51) (A.ib .add .i64 x1 1) ((x2.set (A.toN x1) (A.nb .add .u64 (x2.getD (A.toN x1) 0) x0)).set (A.toN x1) (A.nb .and .u64 ((x2.set (A.toN x1) (A.nb .add .u64 (x2.getD (A.toN x1) 0) x0)).getD (A.toN x1) 0) 2251799813685247)) x3
          | false=>none
        | false=>none
      | false=>none
    | false=>none
  | false=>none
def g65J9s (x0:Nat) (x1 x2:List Nat):St:=⟨[(1,(pT 1000 0)),(2,(pT 1001 0)),(3,(u64v x0))],[(1000,(bU 5 x1 88)),(1001,(bU 5 x2 88))]⟩
def g65J9 {R:Type} (A:Ar) (n:Nat) (kk:AV→Heap→Option R)  (x0:Nat) (x1 x2:List Nat):Option R :=
 kk (aN .u64 5 (x1.set 0 (A.nb .add .u64 (x1.getD 0 0) (A.nb .mul .u64 x0 19)))) [(1000,(bU 5 (x1.set 0 (A.nb .add .u64 (x1.getD 0 0) (A.nb .mul .u64 x0 19))) 88)),(1001,(bU 5 (x1.set 0 (A.nb .add .u64 (x1.getD 0 0) (A.nb .mul .u64 x0 19))) 88))]
def g65L3s (x0:Nat) (x1:Int) (x2 x3:List Nat):St:=⟨[(1,(pT 1000 0)),(2,(pT 1001 0)),(3,(u64v x0)),(5,(i6 x1))],[(1000,(bU 5 x2 88)),(1001,(bU 5 x3 88))]⟩
def g65L3 {R:Type} (A:Ar) (n:Nat) (kk:AV→Heap→Option R)  : Nat→Nat→Int→List Nat→List Nat→Option R
 | 0,_,_,_,_=>none
 | m+1,x0,x1,x2,x3=>match A.ic .lss x1 5 with
 | true=>g65J4 A n kk (g65L3 A n kk  m) x0 x1 x2 x3
 | false=>g65J9 A n kk  x0 x2 x3
def g65 {R:Type} (A:Ar) (n:Nat) (kk:AV→Heap→Option R) (a:List Nat):Option R :=
 g65L3 A n kk  n 0 0 a [0,0,0,0,0]
section
variable {R:Type} {A:Ar} {n:Nat} {kk:AV→Heap→Option R} {tb:Nat→List Bool→St→Option R} (st:Stp (g65N A kk) tb)
include st
theorem g65J4_go {lg65L3:Nat→Int→List Nat→List Nat→Option R} (hg65L3:∀ (x0:Nat) (x1:Int) (x2 x3:List Nat),Prs (fun k=>tb k (pth 116) (g65L3s x0 x1 x2 x3)) (lg65L3 x0 x1 x2 x3)) {x0:Nat} {x1:Int} {x2:List Nat} {x3:List Nat}:Prs (fun k=>tb k (pth 467) (g65J4s x0 x1 x2 x3)) (g65J4 A n kk lg65L3 x0 x1 x2 x3):=by
  unfold g65J4
  exact st.g (pc (SxY06api _ pn (SxY06api _ (SxY06api _ pn (SxY06api _ (SxY06api _ pn (SxY06api _ (SxY06api _ pn (SxY06api _ (SxY06api _ pn (SxY06api _ (hg65L3 _ _ _ _) pn)) pn)) pn)) pn)) pn)) (by kernel_rfl))
theorem g65J9_go {x0:Nat} {x1:List Nat} {x2:List Nat}:Prs (fun k=>tb k (pth 15) (g65J9s x0 x1 x2)) (g65J9 A n kk x0 x1 x2):=by
  unfold g65J9
  exact st.g (pc (pf _) (by kernel_rfl))
theorem g65L3_go (m:Nat):∀ (x0:Nat) (x1:Int) (x2 x3:List Nat),Prs (fun k=>tb k (pth 116) (g65L3s x0 x1 x2 x3)) (g65L3 A n kk m x0 x1 x2 x3):=by
  induction m with
  | zero=>intro x0 x1 x2 x3; exact pn0
  | succ m ih =>
    intro x0 x1 x2 x3; rw [g65L3]
    exact st.g (pc (SxY06api _ (g65J4_go st ih) (g65J9_go st)) (by kernel_rfl))
theorem g65_go {a:List Nat}:Prs (fun k=>funN A gtys (g65O A) g65an g65cut (bodyOf Try.f65) g65res [(aN .u64 5 a)] [] kk (tb k)) (g65 A n kk a):=by
  unfold g65
  exact pc (g65L3_go st n _ _ _ _) (by kernel_rfl)
end
def g65is (o:Option AV):Bool:=match o with
 | some (aN .u64 5 _)=>true
 | _=>false
def g65g0 (o:Option AV):List Nat:=match o with
 | some (aN .u64 5 x)=>x
 | _=>[]
theorem g65is_spec {o:Option AV} (h:g65is o=true):o=some (aN .u64 5 (g65g0 o)):=by
  unfold g65is at h
  split at h
  · rfl
  · cases h
def g65v (A:Ar) (a:List Nat):Option AV:=g65 A (100000) (fun v _=>some v) a
def g65ok (A:Ar) (a:List Nat):Bool:=g65is (g65v A a)
def g65r0 (A:Ar) (a:List Nat):List Nat:=g65g0 (g65v A a)
theorem g65ok_spec {A:Ar} {a} (h:g65ok A a=true):g65v A a=some (aN .u64 5 (g65r0 A a)):=g65is_spec h
def g65o (A:Ar) (args:List AV):Option (Bool × AV):=match args with
 | [.v (.agg [.nums .u64 n0 a])]=>some (Nat.beq n0 5&&(g65ok A a),.v (.agg [.nums .u64 5 (g65r0 A a)]))
 | _=>none
theorem g65o_sound:∀ args v,g65o realA args=some (true,v)→Fn1 Try.prog 65 args v:=by
  intro args v h
  unfold g65o at h
  split at h
  · rename_i n0 a
    simp only [Option.some.injEq,Prod.mk.injEq] at h
    obtain ⟨hc,h⟩:=h
    subst h
    · skip
      simp only [Bool.and_eq_true] at hc
      have en0:=beq_true hc.1
      subst en0
      replace hc:=hc.2
      exact fn1_ofG mixed gtysOK g65O_sound g65O_det (an:=g65an) (cut:=g65cut) Try.func65 (c:=bodyOf Try.f65) rfl (by kernel_rfl) Try.call65 (Nat.le_of_ble_eq_true rfl) (fun b=>rfl) (fun _=>(show g65v realA a=_ from g65ok_spec hc)) fun _ st=>g65_go st
  · cases h
attribute [local irreducible] g65ok g65r0
def g55O (A:Ar):Orc:=orcOf [(65,g65o A)]
theorem g55O_sound:OSound Try.prog (g55O realA):=orc_sound fun f g hm args v hv=>by
  simp only [List.mem_cons,List.not_mem_nil,or_false,Prod.mk.injEq] at hm
  rcases hm with ⟨rfl,rfl⟩
  · exact g65o_sound _ _ hv
theorem g55O_det:ODet (g55O realA):=orc_det _
def g55an:Ann:=[(0,([0],[])),(1,([1,2],[1000,1001])),(2,([2,3],[1001,2031]))]
def g55res:List ResultVar:=[.cell 2 88]
def g55cut:List Nat:=[]
noncomputable def g55N {R:Type} (A:Ar) (kk:AV→Heap→Option R) (t:List Bool→St→Option R) (p:List Bool) (s:St):Option R:=nodeN A gtys (g55O A) g55an g55cut t (bodyOf Try.f55) (finD gtys g55res kk) p s
def g55 {R:Type} (A:Ar) (n:Nat) (kk:AV→Heap→Option R) (a:List Nat):Option R :=
 match g65ok A ((((([0,0,0,0,0].set 0 (A.nb .and .u64 (a.getD 0 0) 2251799813685247)).set 1 (A.nb .and .u64 (A.nb .or .u64 (A.nsh .shr .u64 (a.getD 0 0) 51) (A.nsh .shl .u64 (a.getD 1 0) 13)) 2251799813685247)).set 2 (A.nb .and .u64 (A.nb .or .u64 (A.nsh .shr .u64 (a.getD 1 0) 38) (A.nsh .shl .u64 (a.getD 2 0) 26)) 2251799813685247)).set 3 (A.nb .and .u64 (A.nb .or .u64 (A.nsh .shr .u64 (a.getD 2 0) 25) (A.nsh .shl .u64 (a.getD 3 0) 39)) 2251799813685247)).set 4 (A.nsh .shr .u64 (a.getD 3 0) 12)) with
 | true=>kk (aN .u64 5 (g65r0 A ((((([0,0,0,0,0].set 0 (A.nb .and .u64 (a.getD 0 0) 2251799813685247)).set 1 (A.nb .and .u64 (A.nb .or .u64 (A.nsh .shr .u64 (a.getD 0 0) 51) (A.nsh .shl .u64 (a.getD 1 0) 13)) 2251799813685247)).set 2 (A.nb .and .u64 (A.nb .or .u64 (A.nsh .shr .u64 (a.getD 1 0) 38) (A.nsh .shl .u64 (a.getD 2 0) 26)) 2251799813685247)).set 3 (A.nb .and .u64 (A.nb .or .u64 (A.nsh .shr .u64 (a.getD 2 0) 25) (A.nsh .shl .u64 (a.getD 3 0) 39)) 2251799813685247)).set 4 (A.nsh .shr .u64 (a.getD 3 0) 12)))) [(1001,(bU 5 (g65r0 A ((((([0,0,0,0,0].set 0 (A.nb .and .u64 (a.getD 0 0) 2251799813685247)).set 1 (A.nb .and .u64 (A.nb .or .u64 (A.nsh .shr .u64 (a.getD 0 0) 51) (A.nsh .shl .u64 (a.getD 1 0) 13)) 2251799813685247)).set 2 (A.nb .and .u64 (A.nb .or .u64 (A.nsh .shr .u64 (a.getD 1 0) 38) (A.nsh .shl .u64 (a.getD 2 0) 26)) 2251799813685247)).set 3 (A.nb .and .u64 (A.nb .or .u64 (A.nsh .shr .u64 (a.getD 2 0) 25) (A.nsh .shl .u64 (a.getD 3 0) 39)) 2251799813685247)).set 4 (A.nsh .shr .u64 (a.getD 3 0) 12))) 88)),(2031,(bU 5 ((((([0,0,0,0,0].set 0 (A.nb .and .u64 (a.getD 0 0) 2251799813685247)).set 1 (A.nb .and .u64 (A.nb .or .u64 (A.nsh .shr .u64 (a.getD 0 0) 51) (A.nsh .shl .u64 (a.getD 1 0) 13)) 2251799813685247)).set 2 (A.nb .and .u64 (A.nb .or .u64 (A.nsh .shr .u64 (a.getD 1 0) 38) (A.nsh .shl .u64 (a.getD 2 0) 26)) 2251799813685247)).set 3 (A.nb .and .u64 (A.nb .or .u64 (A.nsh .shr .u64 (a.getD 2 0) 25) (A.nsh .shl .u64 (a.getD 3 0) 39)) 2251799813685247)).set 4 (A.nsh .shr .u64 (a.getD 3 0) 12)) 88))]
 | false=>none
section
variable {R:Type} {A:Ar} {n:Nat} {kk:AV→Heap→Option R} {tb:Nat→List Bool→St→Option R} (st:Stp (g55N A kk) tb)
include st
theorem g55_go {a:List Nat}:Prs (fun k=>funN A gtys (g55O A) g55an g55cut (bodyOf Try.f55) g55res [(aN .u64 4 a)] [] kk (tb k)) (g55 A n kk a):=by
  unfold g55
  exact pc (SxY06api _ (pf _) pn) (by kernel_rfl)
end
def g55is (o:Option AV):Bool:=match o with
 | some (aN .u64 5 _)=>true
 | _=>false
def g55g0 (o:Option AV):List Nat:=match o with
 | some (aN .u64 5 x)=>x
 | _=>[]
theorem g55is_spec {o:Option AV} (h:g55is o=true):o=some (aN .u64 5 (g55g0 o)):=by
  unfold g55is at h
  split at h
  · rfl
  · cases h
def g55v (A:Ar) (a:List Nat):Option AV:=g55 A (100000) (fun v _=>some v) a
def g55ok (A:Ar) (a:List Nat):Bool:=g55is (g55v A a)
def g55r0 (A:Ar) (a:List Nat):List Nat:=g55g0 (g55v A a)
theorem g55ok_spec {A:Ar} {a} (h:g55ok A a=true):g55v A a=some (aN .u64 5 (g55r0 A a)):=g55is_spec h
def g55o (A:Ar) (args:List AV):Option (Bool × AV):=match args with
 | [.v (.agg [.nums .u64 n0 a])]=>some (Nat.beq n0 4&&(g55ok A a),.v (.agg [.nums .u64 5 (g55r0 A a)]))
 | _=>none
theorem g55o_sound:∀ args v,g55o realA args=some (true,v)→Fn1 Try.prog 55 args v:=by
  intro args v h
  unfold g55o at h
  split at h
  · rename_i n0 a
    simp only [Option.some.injEq,Prod.mk.injEq] at h
    obtain ⟨hc,h⟩:=h
    subst h
    · skip
      simp only [Bool.and_eq_true] at hc
      have en0:=beq_true hc.1
      subst en0
      replace hc:=hc.2
      exact fn1_ofG mixed gtysOK g55O_sound g55O_det (an:=g55an) (cut:=g55cut) Try.func55 (c:=bodyOf Try.f55) rfl (by kernel_rfl) Try.call55 (Nat.le_of_ble_eq_true rfl) (fun b=>rfl) (fun _=>(show g55v realA a=_ from g55ok_spec hc)) fun _ st=>g55_go st
  · cases h
attribute [local irreducible] g55ok g55r0
def g56O (A:Ar):Orc:=orcOf [(65,g65o A)]
theorem g56O_sound:OSound Try.prog (g56O realA):=orc_sound fun f g hm args v hv=>by
  simp only [List.mem_cons,List.not_mem_nil,or_false,Prod.mk.injEq] at hm
  rcases hm with ⟨rfl,rfl⟩
  · exact g65o_sound _ _ hv
theorem g56O_det:ODet (g56O realA):=orc_det _
def g56an:Ann:=[(0,([0],[])),(1,([1,2],[1000,1001])),(2,([1,2],[1000,1001])),(3,([1,2,3],[1000,1001])),(4,([1,2,3,4],[1000,1001])),(5,([1,2,3,4],[1000,1001])),(6,([1,2,3,4],[1000,1001])),(7,([1,2,3],[1000,1001])),(8,([1,2],[1000,1001])),(9,([1,2,5],[1000,1001])),(10,([1,2,5,30],[1000,1001])),(11,([1,2,5,30],[1000,1001])),(12,([1,2,5,6,30],[1000,1001])),(13,([1,2,6,30],[1000,1001])),(14,([1,2,5,6,30],[1000,1001])),(15,([1,2,5,30],[1000,1001])),(16,([1,2],[1000,1001]))]
def g56res:List ResultVar:=[.cell 2 40]
def g56cut:List Nat:=[6,7,11,16]
noncomputable def g56N {R:Type} (A:Ar) (kk:AV→Heap→Option R) (t:List Bool→St→Option R) (p:List Bool) (s:St):Option R:=nodeN A gtys (g56O A) g56an g56cut t (bodyOf Try.f56) (finD gtys g56res kk) p s
def g56J6s (x0:Nat) (x1:Int) (x2 x3:List Nat):St:=⟨[(1,(pT 1000 0)),(2,(pT 1001 0)),(3,(u64v x0)),(4,(i6 x1))],[(1000,(bU 5 x2 88)),(1001,(bU 4 x3 40))]⟩
def g56J6 {R:Type} (A:Ar) (n:Nat) (kk:AV→Heap→Option R) (lg56L4:Nat→Int→List Nat→List Nat→Option R) (x0:Nat) (x1:Int) (x2 x3:List Nat):Option R :=
 match A.neg x1 with
 | true=>none
 | false=>match A.lt (A.toN x1) 5 with
  | true=>lg56L4 (A.nsh .shr .u64 (A.nb .add .u64 (x2.getD (A.toN x1) 0) x0) 51) (A.ib .add .i64 x1 1) x2 x3
  | false=>none
def g56J11s (x0:Nat) (x1:Int) (x2 x3:List Nat):St:=⟨[(1,(pT 1000 0)),(2,(pT 1001 0)),(5,(u64v x0)),(30,(i6 x1))],[(1000,(bU 5 x2 88)),(1001,(bU 4 x3 40))]⟩
def g56J11 {R:Type} (A:Ar) (n:Nat) (kk:AV→Heap→Option R) (lg56L10:Nat→Int→List Nat→List Nat→Option R) (x0:Nat) (x1:Int) (x2 x3:List Nat):Option R :=
 match A.neg x1 with
 | true=>none
 | false=>match A.lt (A.toN x1) 5 with
  | true=>match A.neg x1 with
   | true=>none
   | false=>match A.lt (A.toN x1) 5 with
    | true=>match A.neg x1 with
     | true=>none
     | false=>match A.lt (A.toN x1) 5 with
      | true=>match A.neg x1 with
       | true=>none
       | false=>match A.lt (A.toN x1) 5 with
        | true=>match A.neg x1 with
         | true=>none
         | false=>match A.lt (A.toN x1) 5 with
          | true=>lg56L10 (A.nsh .shr .u64 ((x2.set (A.toN x1) (A.nb .add .u64 (x2.getD (A.toN x1) 0) x0)).getD (A.toN x1) 0) 51) (A.ib .add .i64 x1 1) ((x2.set (A.toN x1) (A.nb .add .u64 (x2.getD (A.toN x1) 0) x0)).set (A.toN x1) (A.nb .and .u64 ((x2.set (A.toN x1) (A.nb .add .u64 (x2.getD (A.toN x1) 0) x0)).getD (A.toN x1) 0) 2251799813685247)) x3
          | false=>none
        | false=>none
      | false=>none
    | false=>none
  | false=>none
def g56J16s (x0 x1:List Nat):St:=⟨[(1,(pT 1000 0)),(2,(pT 1001 0))],[(1000,(bU 5 x0 88)),(1001,(bU 4 x1 40))]⟩
def g56J16 {R:Type} (A:Ar) (n:Nat) (kk:AV→Heap→Option R)  (x0 x1:List Nat):Option R :=
 kk (aN .u64 4 (((([0,0,0,0].set 0 (A.nb .or .u64 (x0.getD 0 0) (A.nsh .shl .u64 (x0.getD 1 0) 51))).set 1 (A.nb .or .u64 (A.nsh .shr .u64 (x0.getD 1 0) 13) (A.nsh .shl .u64 (x0.getD 2 0) 38))).set 2 (A.nb .or .u64 (A.nsh .shr .u64 (x0.getD 2 0) 26) (A.nsh .shl .u64 (x0.getD 3 0) 25))).set 3 (A.nb .or .u64 (A.nsh .shr .u64 (x0.getD 3 0) 39) (A.nsh .shl .u64 (x0.getD 4 0) 12)))) [(1000,(bU 5 x0 88)),(1001,(bU 4 (((([0,0,0,0].set 0 (A.nb .or .u64 (x0.getD 0 0) (A.nsh .shl .u64 (x0.getD 1 0) 51))).set 1 (A.nb .or .u64 (A.nsh .shr .u64 (x0.getD 1 0) 13) (A.nsh .shl .u64 (x0.getD 2 0) 38))).set 2 (A.nb .or .u64 (A.nsh .shr .u64 (x0.getD 2 0) 26) (A.nsh .shl .u64 (x0.getD 3 0) 25))).set 3 (A.nb .or .u64 (A.nsh .shr .u64 (x0.getD 3 0) 39) (A.nsh .shl .u64 (x0.getD 4 0) 12))) 40))]
def g56L10s (x0:Nat) (x1:Int) (x2 x3:List Nat):St:=⟨[(1,(pT 1000 0)),(2,(pT 1001 0)),(5,(u64v x0)),(30,(i6 x1))],[(1000,(bU 5 x2 88)),(1001,(bU 4 x3 40))]⟩
def g56L10 {R:Type} (A:Ar) (n:Nat) (kk:AV→Heap→Option R)  : Nat→Nat→Int→List Nat→List Nat→Option R
 | 0,_,_,_,_=>none
 | m+1,x0,x1,x2,x3=>match A.ic .lss x1 5 with
 | true=>g56J11 A n kk (g56L10 A n kk  m) x0 x1 x2 x3
 | false=>g56J16 A n kk  x2 x3
def g56J7s (x0:Nat) (x1 x2:List Nat):St:=⟨[(1,(pT 1000 0)),(2,(pT 1001 0)),(3,(u64v x0))],[(1000,(bU 5 x1 88)),(1001,(bU 4 x2 40))]⟩
def g56J7 {R:Type} (A:Ar) (n:Nat) (kk:AV→Heap→Option R)  (x0:Nat) (x1 x2:List Nat):Option R :=
 g56L10 A n kk  n 0 0 (x1.set 0 (A.nb .add .u64 (x1.getD 0 0) (A.nb .mul .u64 19 x0))) x2
def g56L4s (x0:Nat) (x1:Int) (x2 x3:List Nat):St:=⟨[(1,(pT 1000 0)),(2,(pT 1001 0)),(3,(u64v x0)),(4,(i6 x1))],[(1000,(bU 5 x2 88)),(1001,(bU 4 x3 40))]⟩
def g56L4 {R:Type} (A:Ar) (n:Nat) (kk:AV→Heap→Option R)  : Nat→Nat→Int→List Nat→List Nat→Option R
 | 0,_,_,_,_=>none
 | m+1,x0,x1,x2,x3=>match A.ic .lss x1 5 with
 | true=>g56J6 A n kk (g56L4 A n kk  m) x0 x1 x2 x3
 | false=>g56J7 A n kk  x0 x2 x3
def g56 {R:Type} (A:Ar) (n:Nat) (kk:AV→Heap→Option R) (a:List Nat):Option R :=
 match g65ok A a with
 | true=>match g65ok A (g65r0 A a) with
  | true=>g56L4 A n kk  n (A.nsh .shr .u64 (A.nb .add .u64 ((g65r0 A (g65r0 A a)).getD 0 0) 19) 51) 1 (g65r0 A (g65r0 A a)) [0,0,0,0]
  | false=>none
 | false=>none
section
variable {R:Type} {A:Ar} {n:Nat} {kk:AV→Heap→Option R} {tb:Nat→List Bool→St→Option R} (st:Stp (g56N A kk) tb)
include st
theorem g56J6_go {lg56L4:Nat→Int→List Nat→List Nat→Option R} (hg56L4:∀ (x0:Nat) (x1:Int) (x2 x3:List Nat),Prs (fun k=>tb k (pth 244) (g56L4s x0 x1 x2 x3)) (lg56L4 x0 x1 x2 x3)) {x0:Nat} {x1:Int} {x2:List Nat} {x3:List Nat}:Prs (fun k=>tb k (pth 489) (g56J6s x0 x1 x2 x3)) (g56J6 A n kk lg56L4 x0 x1 x2 x3):=by
  unfold g56J6
  exact st.g (pc (SxY06api _ pn (SxY06api _ (hg56L4 _ _ _ _) pn)) (by kernel_rfl))
theorem g56J11_go {lg56L10:Nat→Int→List Nat→List Nat→Option R} (hg56L10:∀ (x0:Nat) (x1:Int) (x2 x3:List Nat),Prs (fun k=>tb k (pth 2036) (g56L10s x0 x1 x2 x3)) (lg56L10 x0 x1 x2 x3)) {x0:Nat} {x1:Int} {x2:List Nat} {x3:List Nat}:Prs (fun k=>tb k (pth 8147) (g56J11s x0 x1 x2 x3)) (g56J11 A n kk lg56L10 x0 x1 x2 x3):=by
  unfold g56J11
  exact st.g (pc (SxY06api _ pn (SxY06api _ (SxY06api _ pn (SxY06api _ (SxY06api _ pn (SxY06api _ (SxY06api _ pn (SxY06api _ (SxY06api _ pn (SxY06api _ (hg56L10 _ _ _ _) pn)) pn)) pn)) pn)) pn)) (by kernel_rfl))
theorem g56J16_go {x0:List Nat} {x1:List Nat}:Prs (fun k=>tb k (pth 255) (g56J16s x0 x1)) (g56J16 A n kk x0 x1):=by
  unfold g56J16
  exact st.g (pc (pf _) (by kernel_rfl))
theorem g56L10_go (m:Nat):∀ (x0:Nat) (x1:Int) (x2 x3:List Nat),Prs (fun k=>tb k (pth 2036) (g56L10s x0 x1 x2 x3)) (g56L10 A n kk m x0 x1 x2 x3):=by
  induction m with
  | zero=>intro x0 x1 x2 x3; exact pn0
  | succ m ih =>
    intro x0 x1 x2 x3; rw [g56L10]
    exact st.g (pc (SxY06api _ (g56J11_go st ih) (g56J16_go st)) (by kernel_rfl))
theorem g56J7_go {x0:Nat} {x1:List Nat} {x2:List Nat}:Prs (fun k=>tb k (pth 31) (g56J7s x0 x1 x2)) (g56J7 A n kk x0 x1 x2):=by
  unfold g56J7
  exact st.g (pc (g56L10_go st n _ _ _ _) (by kernel_rfl))
theorem g56L4_go (m:Nat):∀ (x0:Nat) (x1:Int) (x2 x3:List Nat),Prs (fun k=>tb k (pth 244) (g56L4s x0 x1 x2 x3)) (g56L4 A n kk m x0 x1 x2 x3):=by
  induction m with
  | zero=>intro x0 x1 x2 x3; exact pn0
  | succ m ih =>
    intro x0 x1 x2 x3; rw [g56L4]
    exact st.g (pc (SxY06api _ (g56J6_go st ih) (g56J7_go st)) (by kernel_rfl))
theorem g56_go {a:List Nat}:Prs (fun k=>funN A gtys (g56O A) g56an g56cut (bodyOf Try.f56) g56res [(aN .u64 5 a)] [] kk (tb k)) (g56 A n kk a):=by
  unfold g56
  exact pc (SxY06api _ (SxY06api _ (g56L4_go st n _ _ _ _) pn) pn) (by kernel_rfl)
end
def g56is (o:Option AV):Bool:=match o with
 | some (aN .u64 4 _)=>true
 | _=>false
def g56g0 (o:Option AV):List Nat:=match o with
 | some (aN .u64 4 x)=>x
 | _=>[]
theorem g56is_spec {o:Option AV} (h:g56is o=true):o=some (aN .u64 4 (g56g0 o)):=by
  unfold g56is at h
  split at h
  · rfl
  · cases h
def g56v (A:Ar) (a:List Nat):Option AV:=g56 A (100000) (fun v _=>some v) a
def g56ok (A:Ar) (a:List Nat):Bool:=g56is (g56v A a)
def g56r0 (A:Ar) (a:List Nat):List Nat:=g56g0 (g56v A a)
theorem g56ok_spec {A:Ar} {a} (h:g56ok A a=true):g56v A a=some (aN .u64 4 (g56r0 A a)):=g56is_spec h
def g56o (A:Ar) (args:List AV):Option (Bool × AV):=match args with
 | [.v (.agg [.nums .u64 n0 a])]=>some (Nat.beq n0 5&&(g56ok A a),.v (.agg [.nums .u64 4 (g56r0 A a)]))
 | _=>none
theorem g56o_sound:∀ args v,g56o realA args=some (true,v)→Fn1 Try.prog 56 args v:=by
  intro args v h
  unfold g56o at h
  split at h
  · rename_i n0 a
    simp only [Option.some.injEq,Prod.mk.injEq] at h
    obtain ⟨hc,h⟩:=h
    subst h
    · skip
      simp only [Bool.and_eq_true] at hc
      have en0:=beq_true hc.1
      subst en0
      replace hc:=hc.2
      exact fn1_ofG mixed gtysOK g56O_sound g56O_det (an:=g56an) (cut:=g56cut) Try.func56 (c:=bodyOf Try.f56) rfl (by kernel_rfl) Try.call56 (Nat.le_of_ble_eq_true rfl) (fun b=>rfl) (fun _=>(show g56v realA a=_ from g56ok_spec hc)) fun _ st=>g56_go st
  · cases h
attribute [local irreducible] g56ok g56r0
def g52O (A:Ar):Orc:=orcOf [(55,g55o A),(56,g56o A)]
theorem g52O_sound:OSound Try.prog (g52O realA):=orc_sound fun f g hm args v hv=>by
  simp only [List.mem_cons,List.not_mem_nil,or_false,Prod.mk.injEq] at hm
  rcases hm with ⟨rfl,rfl⟩ | ⟨rfl,rfl⟩
  · exact g55o_sound _ _ hv
  · exact g56o_sound _ _ hv
theorem g52O_det:ODet (g52O realA):=orc_det _
def g52an:Ann:=[(0,([0,1],[])),(1,([2,3,4],[1000,1001,1002])),(2,([4,5,6],[1002,2004,2005])),(3,([4,5,6,7],[1002,2004,2005,3001])),(4,([4,5,6,7,14],[1002,2004,2005,3001])),(5,([4,5,6,7,14],[1002,2004,2005,3001])),(6,([4,5,6,7,8,14],[1002,2004,2005,3001])),(7,([4,5,6,7,14],[1002,2004,2005,3001])),(8,([4,5],[1002,2004]))]
def g52res:List ResultVar:=[.cell 4 40]
def g52cut:List Nat:=[5]
noncomputable def g52N {R:Type} (A:Ar) (kk:AV→Heap→Option R) (t:List Bool→St→Option R) (p:List Bool) (s:St):Option R:=nodeN A gtys (g52O A) g52an g52cut t (bodyOf Try.f52) (finD gtys g52res kk) p s
def g52J5s (x0:Int) (x1 x2:List Nat) (x3 x4:List Nat):St:=⟨[(4,(pT 1002 0)),(5,(pT 2004 0)),(6,(pT 2005 0)),(7,(pT 3001 0)),(14,(i6 x0))],[(1002,(bU 4 x1 40)),(2004,(bU 5 x2 88)),(2005,(bU 5 x3 88)),(3001,(bU 5 x4 88))]⟩
def g52J5 {R:Type} (A:Ar) (n:Nat) (kk:AV→Heap→Option R) (lg52L4:Int→List Nat→List Nat→List Nat→List Nat→Option R) (x0:Int) (x1 x2:List Nat) (x3 x4:List Nat):Option R :=
 match A.neg x0 with
 | true=>none
 | false=>match A.lt (A.toN x0) 5 with
  | true=>match A.neg x0 with
   | true=>none
   | false=>match A.lt (A.toN x0) 5 with
    | true=>match A.neg x0 with
     | true=>none
     | false=>match A.lt (A.toN x0) 5 with
      | true=>match A.neg x0 with
       | true=>none
       | false=>match A.lt (A.toN x0) 5 with
        | true=>lg52L4 (A.ib .add .i64 x0 1) x1 (x2.set (A.toN x0) (A.nb .add .u64 (x2.getD (A.toN x0) 0) (A.nb .sub .u64 (x4.getD (A.toN x0) 0) (x3.getD (A.toN x0) 0)))) x3 x4
        | false=>none
      | false=>none
    | false=>none
  | false=>none
def g52L4s (x0:Int) (x1 x2:List Nat) (x3 x4:List Nat):St:=⟨[(4,(pT 1002 0)),(5,(pT 2004 0)),(6,(pT 2005 0)),(7,(pT 3001 0)),(14,(i6 x0))],[(1002,(bU 4 x1 40)),(2004,(bU 5 x2 88)),(2005,(bU 5 x3 88)),(3001,(bU 5 x4 88))]⟩
def g52L4 {R:Type} (A:Ar) (n:Nat) (kk:AV→Heap→Option R)  : Nat→Int→List Nat→List Nat→List Nat→List Nat→Option R
 | 0,_,_,_,_,_=>none
 | m+1,x0,x1,x2,x3,x4=>match A.ic .lss x0 5 with
 | true=>g52J5 A n kk (g52L4 A n kk  m) x0 x1 x2 x3 x4
 | false=>match g56ok A x2 with
  | true=>kk (aN .u64 4 (g56r0 A x2)) [(1002,(bU 4 (g56r0 A x2) 40)),(2004,(bU 5 x2 88))]
  | false=>none
def g52 {R:Type} (A:Ar) (n:Nat) (kk:AV→Heap→Option R) (a b:List Nat):Option R :=
 match g55ok A a with
 | true=>match g55ok A b with
  | true=>g52L4 A n kk  n 0 [0,0,0,0] (g55r0 A a) (g55r0 A b) ((((([0,0,0,0,0].set 0 9007199254740916).set 1 9007199254740988).set 2 9007199254740988).set 3 9007199254740988).set 4 9007199254740988)
  | false=>none
 | false=>none
section
variable {R:Type} {A:Ar} {n:Nat} {kk:AV→Heap→Option R} {tb:Nat→List Bool→St→Option R} (st:Stp (g52N A kk) tb)
include st
theorem g52J5_go {lg52L4:Int→List Nat→List Nat→List Nat→List Nat→Option R} (hg52L4:∀ (x0:Int) (x1 x2:List Nat) (x3 x4:List Nat),Prs (fun k=>tb k (pth 244) (g52L4s x0 x1 x2 x3 x4)) (lg52L4 x0 x1 x2 x3 x4)) {x0:Int} {x1:List Nat} {x2:List Nat} {x3:List Nat} {x4:List Nat}:Prs (fun k=>tb k (pth 979) (g52J5s x0 x1 x2 x3 x4)) (g52J5 A n kk lg52L4 x0 x1 x2 x3 x4):=by
  unfold g52J5
  exact st.g (pc (SxY06api _ pn (SxY06api _ (SxY06api _ pn (SxY06api _ (SxY06api _ pn (SxY06api _ (SxY06api _ pn (SxY06api _ (hg52L4 _ _ _ _ _) pn)) pn)) pn)) pn)) (by kernel_rfl))
theorem g52L4_go (m:Nat):∀ (x0:Int) (x1 x2:List Nat) (x3 x4:List Nat),Prs (fun k=>tb k (pth 244) (g52L4s x0 x1 x2 x3 x4)) (g52L4 A n kk m x0 x1 x2 x3 x4):=by
  induction m with
  | zero=>intro x0 x1 x2 x3 x4; exact pn0
  | succ m ih =>
    intro x0 x1 x2 x3 x4; rw [g52L4]
    exact st.g (pc (SxY06api _ (g52J5_go st ih) (SxY06api _ (pf _) pn)) (by kernel_rfl))
theorem g52_go {a:List Nat} {b:List Nat}:Prs (fun k=>funN A gtys (g52O A) g52an g52cut (bodyOf Try.f52) g52res [(aN .u64 4 a),(aN .u64 4 b)] [] kk (tb k)) (g52 A n kk a b):=by
  unfold g52
  exact pc (SxY06api _ (SxY06api _ (g52L4_go st n _ _ _ _ _) pn) pn) (by kernel_rfl)
end
def g52is (o:Option AV):Bool:=match o with
 | some (aN .u64 4 _)=>true
 | _=>false
def g52g0 (o:Option AV):List Nat:=match o with
 | some (aN .u64 4 x)=>x
 | _=>[]
theorem g52is_spec {o:Option AV} (h:g52is o=true):o=some (aN .u64 4 (g52g0 o)):=by
  unfold g52is at h
  split at h
  · rfl
  · cases h
def g52v (A:Ar) (a b:List Nat):Option AV:=g52 A (100000) (fun v _=>some v) a b
def g52ok (A:Ar) (a b:List Nat):Bool:=g52is (g52v A a b)
def g52r0 (A:Ar) (a b:List Nat):List Nat:=g52g0 (g52v A a b)
theorem g52ok_spec {A:Ar} {a b} (h:g52ok A a b=true):g52v A a b=some (aN .u64 4 (g52r0 A a b)):=g52is_spec h
def g52o (A:Ar) (args:List AV):Option (Bool × AV):=match args with
 | [.v (.agg [.nums .u64 n0 a]),.v (.agg [.nums .u64 n1 b])]=>some (Nat.beq n0 4&&(Nat.beq n1 4&&(g52ok A a b)),.v (.agg [.nums .u64 4 (g52r0 A a b)]))
 | _=>none
theorem g52o_sound:∀ args v,g52o realA args=some (true,v)→Fn1 Try.prog 52 args v:=by
  intro args v h
  unfold g52o at h
  split at h
  · rename_i n0 a n1 b
    simp only [Option.some.injEq,Prod.mk.injEq] at h
    obtain ⟨hc,h⟩:=h
    subst h
    · skip
      simp only [Bool.and_eq_true] at hc
      have en0:=beq_true hc.1
      subst en0
      replace hc:=hc.2
      have en1:=beq_true hc.1
      subst en1
      replace hc:=hc.2
      exact fn1_ofG mixed gtysOK g52O_sound g52O_det (an:=g52an) (cut:=g52cut) Try.func52 (c:=bodyOf Try.f52) rfl (by kernel_rfl) Try.call52 (Nat.le_of_ble_eq_true rfl) (fun b=>rfl) (fun _=>(show g52v realA a b=_ from g52ok_spec hc)) fun _ st=>g52_go st
  · cases h
attribute [local irreducible] g52ok g52r0
def g53O (A:Ar):Orc:=orcOf [(55,g55o A),(56,g56o A)]
theorem g53O_sound:OSound Try.prog (g53O realA):=orc_sound fun f g hm args v hv=>by
  simp only [List.mem_cons,List.not_mem_nil,or_false,Prod.mk.injEq] at hm
  rcases hm with ⟨rfl,rfl⟩ | ⟨rfl,rfl⟩
  · exact g55o_sound _ _ hv
  · exact g56o_sound _ _ hv
theorem g53O_det:ODet (g53O realA):=orc_det _
def g53an:Ann:=[(0,([0,1],[])),(1,([2,3,4],[1000,1001,1002])),(2,([4,5,6],[1002,2004,2005])),(3,([4,5,6,12],[1002,2004,2005])),(4,([4,5,6,12],[1002,2004,2005])),(5,([4,5,6,7,12],[1002,2004,2005])),(6,([4,5,6,12],[1002,2004,2005])),(7,([4,5],[1002,2004]))]
def g53res:List ResultVar:=[.cell 4 40]
def g53cut:List Nat:=[4]
noncomputable def g53N {R:Type} (A:Ar) (kk:AV→Heap→Option R) (t:List Bool→St→Option R) (p:List Bool) (s:St):Option R:=nodeN A gtys (g53O A) g53an g53cut t (bodyOf Try.f53) (finD gtys g53res kk) p s
def g53J4s (x0:Int) (x1 x2 x3:List Nat):St:=⟨[(4,(pT 1002 0)),(5,(pT 2004 0)),(6,(pT 2005 0)),(12,(i6 x0))],[(1002,(bU 4 x1 40)),(2004,(bU 5 x2 88)),(2005,(bU 5 x3 88))]⟩
def g53J4 {R:Type} (A:Ar) (n:Nat) (kk:AV→Heap→Option R) (lg53L3:Int→List Nat→List Nat→List Nat→Option R) (x0:Int) (x1 x2 x3:List Nat):Option R :=
 match A.neg x0 with
 | true=>none
 | false=>match A.lt (A.toN x0) 5 with
  | true=>match A.neg x0 with
   | true=>none
   | false=>match A.lt (A.toN x0) 5 with
    | true=>match A.neg x0 with
     | true=>none
     | false=>match A.lt (A.toN x0) 5 with
      | true=>lg53L3 (A.ib .add .i64 x0 1) x1 (x2.set (A.toN x0) (A.nb .add .u64 (x2.getD (A.toN x0) 0) (x3.getD (A.toN x0) 0))) x3
      | false=>none
    | false=>none
  | false=>none
def g53L3s (x0:Int) (x1 x2 x3:List Nat):St:=⟨[(4,(pT 1002 0)),(5,(pT 2004 0)),(6,(pT 2005 0)),(12,(i6 x0))],[(1002,(bU 4 x1 40)),(2004,(bU 5 x2 88)),(2005,(bU 5 x3 88))]⟩
def g53L3 {R:Type} (A:Ar) (n:Nat) (kk:AV→Heap→Option R)  : Nat→Int→List Nat→List Nat→List Nat→Option R
 | 0,_,_,_,_=>none
 | m+1,x0,x1,x2,x3=>match A.ic .lss x0 5 with
 | true=>g53J4 A n kk (g53L3 A n kk  m) x0 x1 x2 x3
 | false=>match g56ok A x2 with
  | true=>kk (aN .u64 4 (g56r0 A x2)) [(1002,(bU 4 (g56r0 A x2) 40)),(2004,(bU 5 x2 88))]
  | false=>none
def g53 {R:Type} (A:Ar) (n:Nat) (kk:AV→Heap→Option R) (a b:List Nat):Option R :=
 match g55ok A a with
 | true=>match g55ok A b with
  | true=>g53L3 A n kk  n 0 [0,0,0,0] (g55r0 A a) (g55r0 A b)
  | false=>none
 | false=>none
section
variable {R:Type} {A:Ar} {n:Nat} {kk:AV→Heap→Option R} {tb:Nat→List Bool→St→Option R} (st:Stp (g53N A kk) tb)
include st
theorem g53J4_go {lg53L3:Int→List Nat→List Nat→List Nat→Option R} (hg53L3:∀ (x0:Int) (x1 x2 x3:List Nat),Prs (fun k=>tb k (pth 116) (g53L3s x0 x1 x2 x3)) (lg53L3 x0 x1 x2 x3)) {x0:Int} {x1:List Nat} {x2:List Nat} {x3:List Nat}:Prs (fun k=>tb k (pth 467) (g53J4s x0 x1 x2 x3)) (g53J4 A n kk lg53L3 x0 x1 x2 x3):=by
  unfold g53J4
  exact st.g (pc (SxY06api _ pn (SxY06api _ (SxY06api _ pn (SxY06api _ (SxY06api _ pn (SxY06api _ (hg53L3 _ _ _ _) pn)) pn)) pn)) (by kernel_rfl))
theorem g53L3_go (m:Nat):∀ (x0:Int) (x1 x2 x3:List Nat),Prs (fun k=>tb k (pth 116) (g53L3s x0 x1 x2 x3)) (g53L3 A n kk m x0 x1 x2 x3):=by
  induction m with
  | zero=>intro x0 x1 x2 x3; exact pn0
  | succ m ih =>
    intro x0 x1 x2 x3; rw [g53L3]
    exact st.g (pc (SxY06api _ (g53J4_go st ih) (SxY06api _ (pf _) pn)) (by kernel_rfl))
theorem g53_go {a:List Nat} {b:List Nat}:Prs (fun k=>funN A gtys (g53O A) g53an g53cut (bodyOf Try.f53) g53res [(aN .u64 4 a),(aN .u64 4 b)] [] kk (tb k)) (g53 A n kk a b):=by
  unfold g53
  exact pc (SxY06api _ (SxY06api _ (g53L3_go st n _ _ _ _) pn) pn) (by kernel_rfl)
end
def g53is (o:Option AV):Bool:=match o with
 | some (aN .u64 4 _)=>true
 | _=>false
def g53g0 (o:Option AV):List Nat:=match o with
 | some (aN .u64 4 x)=>x
 | _=>[]
theorem g53is_spec {o:Option AV} (h:g53is o=true):o=some (aN .u64 4 (g53g0 o)):=by
  unfold g53is at h
  split at h
  · rfl
  · cases h
def g53v (A:Ar) (a b:List Nat):Option AV:=g53 A (100000) (fun v _=>some v) a b
def g53ok (A:Ar) (a b:List Nat):Bool:=g53is (g53v A a b)
def g53r0 (A:Ar) (a b:List Nat):List Nat:=g53g0 (g53v A a b)
theorem g53ok_spec {A:Ar} {a b} (h:g53ok A a b=true):g53v A a b=some (aN .u64 4 (g53r0 A a b)):=g53is_spec h
def g53o (A:Ar) (args:List AV):Option (Bool × AV):=match args with
 | [.v (.agg [.nums .u64 n0 a]),.v (.agg [.nums .u64 n1 b])]=>some (Nat.beq n0 4&&(Nat.beq n1 4&&(g53ok A a b)),.v (.agg [.nums .u64 4 (g53r0 A a b)]))
 | _=>none
theorem g53o_sound:∀ args v,g53o realA args=some (true,v)→Fn1 Try.prog 53 args v:=by
  intro args v h
  unfold g53o at h
  split at h
  · rename_i n0 a n1 b
    simp only [Option.some.injEq,Prod.mk.injEq] at h
    obtain ⟨hc,h⟩:=h
    subst h
    · skip
      simp only [Bool.and_eq_true] at hc
      have en0:=beq_true hc.1
      subst en0
      replace hc:=hc.2
      have en1:=beq_true hc.1
      subst en1
      replace hc:=hc.2
      exact fn1_ofG mixed gtysOK g53O_sound g53O_det (an:=g53an) (cut:=g53cut) Try.func53 (c:=bodyOf Try.f53) rfl (by kernel_rfl) Try.call53 (Nat.le_of_ble_eq_true rfl) (fun b=>rfl) (fun _=>(show g53v realA a b=_ from g53ok_spec hc)) fun _ st=>g53_go st
  · cases h
attribute [local irreducible] g53ok g53r0
def g42O (A:Ar):Orc:=orcOf []
theorem g42O_sound:OSound Try.prog (g42O realA):=orc_sound fun f g hm args v hv=>by
  cases hm
theorem g42O_det:ODet (g42O realA):=orc_det _
def g42an:Ann:=[(0,([0],[])),(1,([0,2],[1000]))]
def g42res:List ResultVar:=[.cell 2 40]
def g42cut:List Nat:=[]
noncomputable def g42N {R:Type} (A:Ar) (kk:AV→Heap→Option R) (t:List Bool→St→Option R) (p:List Bool) (s:St):Option R:=nodeN A gtys (g42O A) g42an g42cut t (bodyOf Try.f42) (finD gtys g42res kk) p s
def g42 {R:Type} (A:Ar) (n:Nat) (kk:AV→Heap→Option R) (a:Nat):Option R :=
 kk (aN .u64 4 ([0,0,0,0].set 0 a)) [(1000,(bU 4 ([0,0,0,0].set 0 a) 40))]
section
variable {R:Type} {A:Ar} {n:Nat} {kk:AV→Heap→Option R} {tb:Nat→List Bool→St→Option R} (st:Stp (g42N A kk) tb)
include st
theorem g42_go {a:Nat}:Prs (fun k=>funN A gtys (g42O A) g42an g42cut (bodyOf Try.f42) g42res [(u64v a)] [] kk (tb k)) (g42 A n kk a):=by
  unfold g42
  exact pc (pf _) (by kernel_rfl)
end
def g42is (o:Option AV):Bool:=match o with
 | some (aN .u64 4 _)=>true
 | _=>false
def g42g0 (o:Option AV):List Nat:=match o with
 | some (aN .u64 4 x)=>x
 | _=>[]
theorem g42is_spec {o:Option AV} (h:g42is o=true):o=some (aN .u64 4 (g42g0 o)):=by
  unfold g42is at h
  split at h
  · rfl
  · cases h
def g42v (A:Ar) (a:Nat):Option AV:=g42 A (100000) (fun v _=>some v) a
def g42ok (A:Ar) (a:Nat):Bool:=g42is (g42v A a)
def g42r0 (A:Ar) (a:Nat):List Nat:=g42g0 (g42v A a)
theorem g42ok_spec {A:Ar} {a} (h:g42ok A a=true):g42v A a=some (aN .u64 4 (g42r0 A a)):=g42is_spec h
def g42o (A:Ar) (args:List AV):Option (Bool × AV):=match args with
 | [.v (.cell (.nat .u64 a))]=>some (g42ok A a,.v (.agg [.nums .u64 4 (g42r0 A a)]))
 | _=>none
theorem g42o_sound:∀ args v,g42o realA args=some (true,v)→Fn1 Try.prog 42 args v:=by
  intro args v h
  unfold g42o at h
  split at h
  · rename_i a
    simp only [Option.some.injEq,Prod.mk.injEq] at h
    obtain ⟨hc,h⟩:=h
    subst h
    · skip
      exact fn1_ofG mixed gtysOK g42O_sound g42O_det (an:=g42an) (cut:=g42cut) Try.func42 (c:=bodyOf Try.f42) rfl (by kernel_rfl) Try.call42 (Nat.le_of_ble_eq_true rfl) (fun b=>rfl) (fun _=>(show g42v realA a=_ from g42ok_spec hc)) fun _ st=>g42_go st
  · cases h
attribute [local irreducible] g42ok g42r0
def g31O (A:Ar):Orc:=orcOf [(52,g52o A)]
theorem g31O_sound:OSound Try.prog (g31O realA):=orc_sound fun f g hm args v hv=>by
  simp only [List.mem_cons,List.not_mem_nil,or_false,Prod.mk.injEq] at hm
  rcases hm with ⟨rfl,rfl⟩
  · exact g52o_sound _ _ hv
theorem g31O_det:ODet (g31O realA):=orc_det _
def g31an:Ann:=[(0,([0],[])),(1,([1,2],[1000,1001]))]
def g31res:List ResultVar:=[.cell 2 40]
def g31cut:List Nat:=[]
noncomputable def g31N {R:Type} (A:Ar) (kk:AV→Heap→Option R) (t:List Bool→St→Option R) (p:List Bool) (s:St):Option R:=nodeN A gtys (g31O A) g31an g31cut t (bodyOf Try.f31) (finD gtys g31res kk) p s
def g31 {R:Type} (A:Ar) (n:Nat) (kk:AV→Heap→Option R) (a:List Nat):Option R :=
 match g52ok A [0,0,0,0] a with
 | true=>kk (aN .u64 4 (g52r0 A [0,0,0,0] a)) [(1000,(bU 4 a 40)),(1001,(bU 4 (g52r0 A [0,0,0,0] a) 40))]
 | false=>none
section
variable {R:Type} {A:Ar} {n:Nat} {kk:AV→Heap→Option R} {tb:Nat→List Bool→St→Option R} (st:Stp (g31N A kk) tb)
include st
theorem g31_go {a:List Nat}:Prs (fun k=>funN A gtys (g31O A) g31an g31cut (bodyOf Try.f31) g31res [(aN .u64 4 a)] [] kk (tb k)) (g31 A n kk a):=by
  unfold g31
  exact pc (SxY06api _ (pf _) pn) (by kernel_rfl)
end
def g31is (o:Option AV):Bool:=match o with
 | some (aN .u64 4 _)=>true
 | _=>false
def g31g0 (o:Option AV):List Nat:=match o with
 | some (aN .u64 4 x)=>x
 | _=>[]
theorem g31is_spec {o:Option AV} (h:g31is o=true):o=some (aN .u64 4 (g31g0 o)):=by
  unfold g31is at h
  split at h
  · rfl
  · cases h
def g31v (A:Ar) (a:List Nat):Option AV:=g31 A (100000) (fun v _=>some v) a
def g31ok (A:Ar) (a:List Nat):Bool:=g31is (g31v A a)
def g31r0 (A:Ar) (a:List Nat):List Nat:=g31g0 (g31v A a)
theorem g31ok_spec {A:Ar} {a} (h:g31ok A a=true):g31v A a=some (aN .u64 4 (g31r0 A a)):=g31is_spec h
def g31o (A:Ar) (args:List AV):Option (Bool × AV):=match args with
 | [.v (.agg [.nums .u64 n0 a])]=>some (Nat.beq n0 4&&(g31ok A a),.v (.agg [.nums .u64 4 (g31r0 A a)]))
 | _=>none
theorem g31o_sound:∀ args v,g31o realA args=some (true,v)→Fn1 Try.prog 31 args v:=by
  intro args v h
  unfold g31o at h
  split at h
  · rename_i n0 a
    simp only [Option.some.injEq,Prod.mk.injEq] at h
    obtain ⟨hc,h⟩:=h
    subst h
    · skip
      simp only [Bool.and_eq_true] at hc
      have en0:=beq_true hc.1
      subst en0
      replace hc:=hc.2
      exact fn1_ofG mixed gtysOK g31O_sound g31O_det (an:=g31an) (cut:=g31cut) Try.func31 (c:=bodyOf Try.f31) rfl (by kernel_rfl) Try.call31 (Nat.le_of_ble_eq_true rfl) (fun b=>rfl) (fun _=>(show g31v realA a=_ from g31ok_spec hc)) fun _ st=>g31_go st
  · cases h
attribute [local irreducible] g31ok g31r0
def g33O (A:Ar):Orc:=orcOf [(55,g55o A),(56,g56o A)]
theorem g33O_sound:OSound Try.prog (g33O realA):=orc_sound fun f g hm args v hv=>by
  simp only [List.mem_cons,List.not_mem_nil,or_false,Prod.mk.injEq] at hm
  rcases hm with ⟨rfl,rfl⟩ | ⟨rfl,rfl⟩
  · exact g55o_sound _ _ hv
  · exact g56o_sound _ _ hv
theorem g33O_det:ODet (g33O realA):=orc_det _
def g33an:Ann:=[(0,([0],[])),(1,([1],[1000])),(2,([1],[1000])),(3,([1,3],[1000,3000])),(4,([3,11,12],[3000])),(5,([3,11,12],[3000])),(6,([3,5,11,12],[3000])),(7,([3,5,11,12,15],[3000])),(8,([3,5,11,12,15],[3000])),(9,([3,5,6,11,12,15],[3000])),(10,([3,5,11,12,15],[3000])),(11,([3,11,12],[3000])),(12,([3],[3000]))]
def g33res:List ResultVar:=[.tmp 2]
def g33cut:List Nat:=[5,8]
noncomputable def g33N {R:Type} (A:Ar) (kk:AV→Heap→Option R) (t:List Bool→St→Option R) (p:List Bool) (s:St):Option R:=nodeN A gtys (g33O A) g33an g33cut t (bodyOf Try.f33) (finD gtys g33res kk) p s
def g33J8s (x0 x1:Nat) (x2:List Nat) (x3 x4:Int) (x5:Nat) (x6:List Nat):St:=⟨[(3,(sL 3000 none x0 1)),(5,(u64v x1)),(11,(aN .u64 4 x2)),(12,(i6 x3)),(15,(i6 x4))],[(3000,⟨[.nums .u8 x5 x6],5,2⟩)]⟩
def g33J8 {R:Type} (A:Ar) (n:Nat) (kk:AV→Heap→Option R) (lg33L4:Nat→List Nat→Int→Nat→List Nat→Option R) (lg33L7:Nat→Nat→List Nat→Int→Int→Nat→List Nat→Option R) (x0 x1:Nat) (x2:List Nat) (x3 x4:Int) (x5:Nat) (x6:List Nat):Option R :=
 match A.neg (A.ib .mul .i64 8 x4) with
 | true=>none
 | false=>match A.eq x0 (x5+0) with
  | true=>match A.le ((x6++([A.n2n .u8 (A.nsh .shr .u64 x1 (A.toN (A.ib .mul .i64 8 x4)))].take 1)).length) 140737488355328 with
   | true=>lg33L7 ((x6++([A.n2n .u8 (A.nsh .shr .u64 x1 (A.toN (A.ib .mul .i64 8 x4)))].take 1)).length) x1 x2 x3 (A.ib .add .i64 x4 1) ((x6++([A.n2n .u8 (A.nsh .shr .u64 x1 (A.toN (A.ib .mul .i64 8 x4)))].take 1)).length) (x6++([A.n2n .u8 (A.nsh .shr .u64 x1 (A.toN (A.ib .mul .i64 8 x4)))].take 1))
   | false=>none
  | false=>none
def g33L7s (x0 x1:Nat) (x2:List Nat) (x3 x4:Int) (x5:Nat) (x6:List Nat):St:=⟨[(3,(sL 3000 none x0 1)),(5,(u64v x1)),(11,(aN .u64 4 x2)),(12,(i6 x3)),(15,(i6 x4))],[(3000,⟨[.nums .u8 x5 x6],5,2⟩)]⟩
def g33L7 {R:Type} (A:Ar) (n:Nat) (kk:AV→Heap→Option R) (lg33L4:Nat→List Nat→Int→Nat→List Nat→Option R):Nat→Nat→Nat→List Nat→Int→Int→Nat→List Nat→Option R
 | 0,_,_,_,_,_,_,_=>none
 | m+1,x0,x1,x2,x3,x4,x5,x6=>match A.ic .lss x4 8 with
 | true=>g33J8 A n kk lg33L4 (g33L7 A n kk lg33L4 m) x0 x1 x2 x3 x4 x5 x6
 | false=>lg33L4 x0 x2 (A.ib .add .i64 x3 1) x5 x6
def g33J5s (x0:Nat) (x1:List Nat) (x2:Int) (x3:Nat) (x4:List Nat):St:=⟨[(3,(sL 3000 none x0 1)),(11,(aN .u64 4 x1)),(12,(i6 x2))],[(3000,⟨[.nums .u8 x3 x4],5,2⟩)]⟩
def g33J5 {R:Type} (A:Ar) (n:Nat) (kk:AV→Heap→Option R) (lg33L4:Nat→List Nat→Int→Nat→List Nat→Option R) (x0:Nat) (x1:List Nat) (x2:Int) (x3:Nat) (x4:List Nat):Option R :=
 match A.neg x2 with
 | true=>none
 | false=>match A.lt (A.toN x2) 4 with
  | true=>g33L7 A n kk lg33L4 n x0 (x1.getD (A.toN x2) 0) x1 x2 0 x3 x4
  | false=>none
def g33L4s (x0:Nat) (x1:List Nat) (x2:Int) (x3:Nat) (x4:List Nat):St:=⟨[(3,(sL 3000 none x0 1)),(11,(aN .u64 4 x1)),(12,(i6 x2))],[(3000,⟨[.nums .u8 x3 x4],5,2⟩)]⟩
def g33L4 {R:Type} (A:Ar) (n:Nat) (kk:AV→Heap→Option R)  : Nat→Nat→List Nat→Int→Nat→List Nat→Option R
 | 0,_,_,_,_,_=>none
 | m+1,x0,x1,x2,x3,x4=>match A.ic .lss x2 4 with
 | true=>g33J5 A n kk (g33L4 A n kk  m) x0 x1 x2 x3 x4
 | false=>kk (tS (x4.take x0)) [(3000,⟨[.nums .u8 x3 x4],5,2⟩)]
def g33 {R:Type} (A:Ar) (n:Nat) (kk:AV→Heap→Option R) (a:List Nat):Option R :=
 match g55ok A a with
 | true=>match g56ok A (g55r0 A a) with
  | true=>match A.le 0 32 with
   | true=>match A.le 32 140737488355328 with
    | true=>g33L4 A n kk  n 0 (g56r0 A (g55r0 A a)) 0 0 (List.replicate 0 0)
    | false=>none
   | false=>none
  | false=>none
 | false=>none
section
variable {R:Type} {A:Ar} {n:Nat} {kk:AV→Heap→Option R} {tb:Nat→List Bool→St→Option R} (st:Stp (g33N A kk) tb)
include st
theorem g33J8_go {lg33L4:Nat→List Nat→Int→Nat→List Nat→Option R} {lg33L7:Nat→Nat→List Nat→Int→Int→Nat→List Nat→Option R} (hg33L4:∀ (x0:Nat) (x1:List Nat) (x2:Int) (x3:Nat) (x4:List Nat),Prs (fun k=>tb k (pth 244) (g33L4s x0 x1 x2 x3 x4)) (lg33L4 x0 x1 x2 x3 x4)) (hg33L7:∀ (x0 x1:Nat) (x2:List Nat) (x3 x4:Int) (x5:Nat) (x6:List Nat),Prs (fun k=>tb k (pth 62668) (g33L7s x0 x1 x2 x3 x4 x5 x6)) (lg33L7 x0 x1 x2 x3 x4 x5 x6)) {x0:Nat} {x1:Nat} {x2:List Nat} {x3:Int} {x4:Int} {x5:Nat} {x6:List Nat}:Prs (fun k=>tb k (pth 250675) (g33J8s x0 x1 x2 x3 x4 x5 x6)) (g33J8 A n kk lg33L4 lg33L7 x0 x1 x2 x3 x4 x5 x6):=by
  unfold g33J8
  exact st.g (pc (SxY06api _ pn (SxY06api _ (SxY06api _ (hg33L7 _ _ _ _ _ _ _) pn) pn)) (by kernel_rfl))
theorem g33L7_go {lg33L4:Nat→List Nat→Int→Nat→List Nat→Option R} (hg33L4:∀ (x0:Nat) (x1:List Nat) (x2:Int) (x3:Nat) (x4:List Nat),Prs (fun k=>tb k (pth 244) (g33L4s x0 x1 x2 x3 x4)) (lg33L4 x0 x1 x2 x3 x4)) (m:Nat):∀ (x0 x1:Nat) (x2:List Nat) (x3 x4:Int) (x5:Nat) (x6:List Nat),Prs (fun k=>tb k (pth 62668) (g33L7s x0 x1 x2 x3 x4 x5 x6)) (g33L7 A n kk lg33L4 m x0 x1 x2 x3 x4 x5 x6):=by
  induction m with
  | zero=>intro x0 x1 x2 x3 x4 x5 x6; exact pn0
  | succ m ih =>
    intro x0 x1 x2 x3 x4 x5 x6; rw [g33L7]
    exact st.g (pc (SxY06api _ (g33J8_go st hg33L4 ih) (hg33L4 _ _ _ _ _)) (by kernel_rfl))
theorem g33J5_go {lg33L4:Nat→List Nat→Int→Nat→List Nat→Option R} (hg33L4:∀ (x0:Nat) (x1:List Nat) (x2:Int) (x3:Nat) (x4:List Nat),Prs (fun k=>tb k (pth 244) (g33L4s x0 x1 x2 x3 x4)) (lg33L4 x0 x1 x2 x3 x4)) {x0:Nat} {x1:List Nat} {x2:Int} {x3:Nat} {x4:List Nat}:Prs (fun k=>tb k (pth 979) (g33J5s x0 x1 x2 x3 x4)) (g33J5 A n kk lg33L4 x0 x1 x2 x3 x4):=by
  unfold g33J5
  exact st.g (pc (SxY06api _ pn (SxY06api _ (g33L7_go st hg33L4 n _ _ _ _ _ _ _) pn)) (by kernel_rfl))
theorem g33L4_go (m:Nat):∀ (x0:Nat) (x1:List Nat) (x2:Int) (x3:Nat) (x4:List Nat),Prs (fun k=>tb k (pth 244) (g33L4s x0 x1 x2 x3 x4)) (g33L4 A n kk m x0 x1 x2 x3 x4):=by
  induction m with
  | zero=>intro x0 x1 x2 x3 x4; exact pn0
  | succ m ih =>
    intro x0 x1 x2 x3 x4; rw [g33L4]
    exact st.g (pc (SxY06api _ (g33J5_go st ih) (pf _)) (by kernel_rfl))
theorem g33_go {a:List Nat}:Prs (fun k=>funN A gtys (g33O A) g33an g33cut (bodyOf Try.f33) g33res [(aN .u64 4 a)] [] kk (tb k)) (g33 A n kk a):=by
  unfold g33
  exact pc (SxY06api _ (SxY06api _ (SxY06api _ (SxY06api _ (g33L4_go st n _ _ _ _ _) pn) pn) pn) pn) (by kernel_rfl)
end
def g33is (o:Option AV):Bool:=match o with
 | some (.v (.cell (.str _)))=>true
 | _=>false
def g33g0 (o:Option AV):List Nat:=match o with
 | some (.v (.cell (.str x)))=>x
 | _=>[]
theorem g33is_spec {o:Option AV} (h:g33is o=true):o=some (.v (.cell (.str (g33g0 o)))):=by
  unfold g33is at h
  split at h
  · rfl
  · cases h
def g33v (A:Ar) (a:List Nat):Option AV:=g33 A (100000) (fun v _=>some v) a
def g33ok (A:Ar) (a:List Nat):Bool:=g33is (g33v A a)
def g33r0 (A:Ar) (a:List Nat):List Nat:=g33g0 (g33v A a)
theorem g33ok_spec {A:Ar} {a} (h:g33ok A a=true):g33v A a=some (.v (.cell (.str (g33r0 A a)))):=g33is_spec h
def g33o (A:Ar) (args:List AV):Option (Bool × AV):=match args with
 | [.v (.agg [.nums .u64 n0 a])]=>some (Nat.beq n0 4&&(g33ok A a),.v (.cell (.str (g33r0 A a))))
 | _=>none
theorem g33o_sound:∀ args v,g33o realA args=some (true,v)→Fn1 Try.prog 33 args v:=by
  intro args v h
  unfold g33o at h
  split at h
  · rename_i n0 a
    simp only [Option.some.injEq,Prod.mk.injEq] at h
    obtain ⟨hc,h⟩:=h
    subst h
    · skip
      simp only [Bool.and_eq_true] at hc
      have en0:=beq_true hc.1
      subst en0
      replace hc:=hc.2
      exact fn1_ofG mixed gtysOK g33O_sound g33O_det (an:=g33an) (cut:=g33cut) Try.func33 (c:=bodyOf Try.f33) rfl (by kernel_rfl) Try.call33 (Nat.le_of_ble_eq_true rfl) (fun b=>rfl) (fun _=>(show g33v realA a=_ from g33ok_spec hc)) fun _ st=>g33_go st
  · cases h
attribute [local irreducible] g33ok g33r0
def g49O (A:Ar):Orc:=orcOf []
theorem g49O_sound:OSound Try.prog (g49O realA):=orc_sound fun f g hm args v hv=>by
  cases hm
theorem g49O_det:ODet (g49O realA):=orc_det _
def g49an:Ann:=[(0,([0,1],[])),(1,([0,1],[])),(2,([0,1,6],[])),(3,([0,1,6,7],[])),(4,([0,1,6,7,8],[])),(5,([0,1,6,7,8,9],[])),(6,([0,1,6,7,8,9,10],[])),(7,([0,1,6,7,9,11],[])),(8,([0,1,6,7,9,11,12],[])),(9,([0,1,6,7,9,12,13],[])),(10,([0,1,7,9,12,13],[])),(11,([0,1,4],[]))]
def g49res:List ResultVar:=[.tmp 4,.tmp 5]
def g49cut:List Nat:=[]
noncomputable def g49N {R:Type} (A:Ar) (kk:AV→Heap→Option R) (t:List Bool→St→Option R) (p:List Bool) (s:St):Option R:=nodeN A gtys (g49O A) g49an g49cut t (bodyOf Try.f49) (finD gtys g49res kk) p s
def g49 {R:Type} (A:Ar) (n:Nat) (kk:AV→Heap→Option R) (a b:Nat):Option R :=
 kk (.tup [(.cell (.nat .u64 (A.nb .add .u64 (A.nb .add .u64 (A.nb .mul .u64 (A.nsh .shr .u64 a 32) (A.nsh .shr .u64 b 32)) (A.nsh .shr .u64 (A.nb .add .u64 (A.nb .mul .u64 (A.nsh .shr .u64 a 32) (A.nb .and .u64 b 4294967295)) (A.nsh .shr .u64 (A.nb .mul .u64 (A.nb .and .u64 a 4294967295) (A.nb .and .u64 b 4294967295)) 32)) 32)) (A.nsh .shr .u64 (A.nb .add .u64 (A.nb .and .u64 (A.nb .add .u64 (A.nb .mul .u64 (A.nsh .shr .u64 a 32) (A.nb .and .u64 b 4294967295)) (A.nsh .shr .u64 (A.nb .mul .u64 (A.nb .and .u64 a 4294967295) (A.nb .and .u64 b 4294967295)) 32)) 4294967295) (A.nb .mul .u64 (A.nb .and .u64 a 4294967295) (A.nsh .shr .u64 b 32))) 32)))),(.cell (.nat .u64 (A.nb .mul .u64 a b)))]) []
section
variable {R:Type} {A:Ar} {n:Nat} {kk:AV→Heap→Option R} {tb:Nat→List Bool→St→Option R} (st:Stp (g49N A kk) tb)
include st
theorem g49_go {a:Nat} {b:Nat}:Prs (fun k=>funN A gtys (g49O A) g49an g49cut (bodyOf Try.f49) g49res [(u64v a),(u64v b)] [] kk (tb k)) (g49 A n kk a b):=by
  unfold g49
  exact pc (pf _) (by kernel_rfl)
end
def g49is (o:Option AV):Bool:=match o with
 | some (.tup [.cell (.nat .u64 _),.cell (.nat .u64 _)])=>true
 | _=>false
def g49g0 (o:Option AV):Nat:=match o with
 | some (.tup [.cell (.nat .u64 x),.cell (.nat .u64 _)])=>x
 | _=>0
def g49g1 (o:Option AV):Nat:=match o with
 | some (.tup [.cell (.nat .u64 _),.cell (.nat .u64 x)])=>x
 | _=>0
theorem g49is_spec {o:Option AV} (h:g49is o=true):o=some (.tup [.cell (.nat .u64 (g49g0 o)),.cell (.nat .u64 (g49g1 o))]):=by
  unfold g49is at h
  split at h
  · rfl
  · cases h
def g49v (A:Ar) (a b:Nat):Option AV:=g49 A (100000) (fun v _=>some v) a b
def g49ok (A:Ar) (a b:Nat):Bool:=g49is (g49v A a b)
def g49r0 (A:Ar) (a b:Nat):Nat:=g49g0 (g49v A a b)
def g49r1 (A:Ar) (a b:Nat):Nat:=g49g1 (g49v A a b)
theorem g49ok_spec {A:Ar} {a b} (h:g49ok A a b=true):g49v A a b=some (.tup [.cell (.nat .u64 (g49r0 A a b)),.cell (.nat .u64 (g49r1 A a b))]):=g49is_spec h
def g49o (A:Ar) (args:List AV):Option (Bool × AV):=match args with
 | [.v (.cell (.nat .u64 a)),.v (.cell (.nat .u64 b))]=>some (g49ok A a b,.tup [.cell (.nat .u64 (g49r0 A a b)),.cell (.nat .u64 (g49r1 A a b))])
 | _=>none
theorem g49o_sound:∀ args v,g49o realA args=some (true,v)→Fn1 Try.prog 49 args v:=by
  intro args v h
  unfold g49o at h
  split at h
  · rename_i a b
    simp only [Option.some.injEq,Prod.mk.injEq] at h
    obtain ⟨hc,h⟩:=h
    subst h
    · skip
      exact fn1_ofG mixed gtysOK g49O_sound g49O_det (an:=g49an) (cut:=g49cut) Try.func49 (c:=bodyOf Try.f49) rfl (by kernel_rfl) Try.call49 (Nat.le_of_ble_eq_true rfl) (fun b=>rfl) (fun _=>(show g49v realA a b=_ from g49ok_spec hc)) fun _ st=>g49_go st
  · cases h
attribute [local irreducible] g49ok g49r0 g49r1
def g70o (A:Ar):=add64o
theorem g70o_sound:∀ args v,g70o realA args=some (true,v)→Fn1 Try.prog 70 args v:=add64o_sound Try.func70 (by kernel_rfl) (by kernel_rfl) (by kernel_rfl) (by kernel_rfl)
def g68O (A:Ar):Orc:=orcOf []
theorem g68O_sound:OSound Try.prog (g68O realA):=orc_sound fun f g hm args v hv=>by
  cases hm
theorem g68O_det:ODet (g68O realA):=orc_det _
def g68an:Ann:=[(0,([0],[])),(1,([1],[1000]))]
def g68res:List ResultVar:=[.tmp 2]
def g68cut:List Nat:=[]
noncomputable def g68N {R:Type} (A:Ar) (kk:AV→Heap→Option R) (t:List Bool→St→Option R) (p:List Bool) (s:St):Option R:=nodeN A gtys (g68O A) g68an g68cut t (bodyOf Try.f68) (finD gtys g68res kk) p s
def g68 {R:Type} (A:Ar) (n:Nat) (kk:AV→Heap→Option R) (a:List Nat):Option R :=
 kk (u64v (A.nb .or .u64 (A.nsh .shl .u64 (a.getD 0 0) 13) (A.nsh .shr .u64 (a.getD 1 0) 51))) [(1000,(bU 2 a 102))]
section
variable {R:Type} {A:Ar} {n:Nat} {kk:AV→Heap→Option R} {tb:Nat→List Bool→St→Option R} (st:Stp (g68N A kk) tb)
include st
theorem g68_go {a:List Nat}:Prs (fun k=>funN A gtys (g68O A) g68an g68cut (bodyOf Try.f68) g68res [(aN .u64 2 a)] [] kk (tb k)) (g68 A n kk a):=by
  unfold g68
  exact pc (pf _) (by kernel_rfl)
end
def g68is (o:Option AV):Bool:=match o with
 | some (.v (.cell (.nat .u64 _)))=>true
 | _=>false
def g68g0 (o:Option AV):Nat:=match o with
 | some (.v (.cell (.nat .u64 x)))=>x
 | _=>0
theorem g68is_spec {o:Option AV} (h:g68is o=true):o=some (.v (.cell (.nat .u64 (g68g0 o)))):=by
  unfold g68is at h
  split at h
  · rfl
  · cases h
def g68v (A:Ar) (a:List Nat):Option AV:=g68 A (100000) (fun v _=>some v) a
def g68ok (A:Ar) (a:List Nat):Bool:=g68is (g68v A a)
def g68r0 (A:Ar) (a:List Nat):Nat:=g68g0 (g68v A a)
theorem g68ok_spec {A:Ar} {a} (h:g68ok A a=true):g68v A a=some (.v (.cell (.nat .u64 (g68r0 A a)))):=g68is_spec h
def g68o (A:Ar) (args:List AV):Option (Bool × AV):=match args with
 | [.v (.agg [.nums .u64 n0 a])]=>some (Nat.beq n0 2&&(g68ok A a),.v (.cell (.nat .u64 (g68r0 A a))))
 | _=>none
theorem g68o_sound:∀ args v,g68o realA args=some (true,v)→Fn1 Try.prog 68 args v:=by
  intro args v h
  unfold g68o at h
  split at h
  · rename_i n0 a
    simp only [Option.some.injEq,Prod.mk.injEq] at h
    obtain ⟨hc,h⟩:=h
    subst h
    · skip
      simp only [Bool.and_eq_true] at hc
      have en0:=beq_true hc.1
      subst en0
      replace hc:=hc.2
      exact fn1_ofG mixed gtysOK g68O_sound g68O_det (an:=g68an) (cut:=g68cut) Try.func68 (c:=bodyOf Try.f68) rfl (by kernel_rfl) Try.call68 (Nat.le_of_ble_eq_true rfl) (fun b=>rfl) (fun _=>(show g68v realA a=_ from g68ok_spec hc)) fun _ st=>g68_go st
  · cases h
attribute [local irreducible] g68ok g68r0
def g66O (A:Ar):Orc:=orcOf [(49,g49o A),(70,g70o A)]
theorem g66O_sound:OSound Try.prog (g66O realA):=orc_sound fun f g hm args v hv=>by
  simp only [List.mem_cons,List.not_mem_nil,or_false,Prod.mk.injEq] at hm
  rcases hm with ⟨rfl,rfl⟩ | ⟨rfl,rfl⟩
  · exact g49o_sound _ _ hv
  · exact g70o_sound _ _ hv
theorem g66O_det:ODet (g66O realA):=orc_det _
def g66an:Ann:=[(0,([0,1,2],[0])),(1,([0,6,7],[0])),(2,([0,6,7],[0])),(3,([0,6,8],[0]))]
def g66res:List ResultVar:=[]
def g66cut:List Nat:=[]
noncomputable def g66N {R:Type} (A:Ar) (kk:AV→Heap→Option R) (t:List Bool→St→Option R) (p:List Bool) (s:St):Option R:=nodeN A gtys (g66O A) g66an g66cut t (bodyOf Try.f66) (finD gtys g66res kk) p s
def g66 {R:Type} (A:Ar) (n:Nat) (kk:AV→Heap→Option R) (x0 x1 x2:Nat) (x3:List Nat):Option R :=
 match g49ok A x1 x2 with
 | true=>match carryok (x3.getD (x0+1) 0) (g49r1 A x1 x2) 0 with
  | true=>match carryok ((x3.set (x0+1) (add64a (x3.getD (x0+1) 0) (g49r1 A x1 x2) 0)).getD (x0+0) 0) (g49r0 A x1 x2) (add64b (x3.getD (x0+1) 0) (g49r1 A x1 x2) 0) with
   | true=>kk (.tup []) [(0,(bU 10 ((x3.set (x0+1) (add64a (x3.getD (x0+1) 0) (g49r1 A x1 x2) 0)).set (x0+0) (add64a ((x3.set (x0+1) (add64a (x3.getD (x0+1) 0) (g49r1 A x1 x2) 0)).getD (x0+0) 0) (g49r0 A x1 x2) (add64b (x3.getD (x0+1) 0) (g49r1 A x1 x2) 0))) 103))]
   | false=>none
  | false=>none
 | false=>none
section
variable {R:Type} {A:Ar} {n:Nat} {kk:AV→Heap→Option R} {tb:Nat→List Bool→St→Option R} (st:Stp (g66N A kk) tb)
include st
theorem g66_go {x0:Nat} {x1:Nat} {x2:Nat} {x3:List Nat}:Prs (fun k=>funN A gtys (g66O A) g66an g66cut (bodyOf Try.f66) g66res [(.v (.cell (.ptr 0 0 (some ⟨x0,2,10,0,0,0⟩)))),(u64v x1),(u64v x2)] [(0,(bU 10 x3 103))] kk (tb k)) (g66 A n kk x0 x1 x2 x3):=by
  unfold g66
  exact pc (SxY06api _ (SxY06api _ (SxY06api _ (pf _) pn) pn) pn) (by kernel_rfl)
end
def g66is (o:Option (AV × Heap)):Bool:=match o with
 | some (.tup [],[(n0,⟨[.nums .u64 n1 _],n2,n3⟩)])=>Nat.beq n0 0&&(Nat.beq n1 10&&(Nat.beq n2 103&&(Nat.beq n3 1)))
 | _=>false
def g66g0 (o:Option (AV × Heap)):List Nat:=match o with
 | some (.tup [],[(_,⟨[.nums .u64 _ x],_,_⟩)])=>x
 | _=>[]
theorem g66is_spec {o:Option (AV × Heap)} (h:g66is o=true):o=some ((.tup []),[(0,(bU 10 (g66g0 o) 103))]):=by
  unfold g66is at h
  split at h
  · rename_i n0 n1 z2 n2 n3
    simp only [Bool.and_eq_true] at h
    have en0:=beq_true h.1
    subst en0
    replace h:=h.2
    have en1:=beq_true h.1
    subst en1
    replace h:=h.2
    have en2:=beq_true h.1
    subst en2
    replace h:=h.2
    have en3:=beq_true h
    subst en3
    rfl
  · cases h
def g66v (A:Ar) (x0 x1 x2:Nat) (x3:List Nat):Option (AV × Heap):=g66 A (100000) (outH [0] none) x0 x1 x2 x3
def g66ok (A:Ar) (x0 x1 x2:Nat) (x3:List Nat):Bool:=g66is (g66v A x0 x1 x2 x3)
def g66r0 (A:Ar) (x0 x1 x2:Nat) (x3:List Nat):List Nat:=g66g0 (g66v A x0 x1 x2 x3)
theorem g66ok_spec {A:Ar} {x0 x1 x2 x3} (h:g66ok A x0 x1 x2 x3=true):g66v A x0 x1 x2 x3=some ((.tup []),[(0,(bU 10 (g66r0 A x0 x1 x2 x3) 103))]):=g66is_spec h
def g66o (A:Ar) (args:List AV) (h:Heap):Option (Bool × AV × Heap):=match args,h with
 | [.v (.cell (.ptr n0 n1 (some ⟨x0,n2,n3,n4,n5,n6⟩))),.v (.cell (.nat .u64 x1)),.v (.cell (.nat .u64 x2))],[(n7,⟨[.nums .u64 n8 x3],n9,n10⟩)]=>match Nat.beq n0 0&&(Nat.beq n1 0&&(Nat.beq n2 2&&(Nat.beq n3 10&&(Nat.beq n4 0&&(Nat.beq n5 0&&(Nat.beq n6 0&&(Nat.beq n7 0&&(Nat.beq n8 10&&(Nat.beq n9 103&&(Nat.beq n10 1)))))))))) with
  | true=>some (g66ok A x0 x1 x2 x3,(.tup []),[(0,(bU 10 (g66r0 A x0 x1 x2 x3) 103))])
  | false=>none
 | _,_=>none
theorem g66o_sound:∀ args h v h',g66o realA args h=some (true,v,h')→FnH Try.prog 66 args h v h':=by
  intro args h v h' hh
  unfold g66o at hh
  split at hh
  · rename_i n0 n1 x0 n2 n3 n4 n5 n6 x1 x2 n7 n8 x3 n9 n10
    split at hh
    case h_2=>cases hh
    rename_i hc0
    simp only [Option.some.injEq,Prod.mk.injEq] at hh
    obtain ⟨hc,hv,hh⟩:=hh
    subst hv
    subst hh
    simp only [Bool.and_eq_true] at hc0
    have en0:=beq_true hc0.1
    subst en0
    replace hc0:=hc0.2
    have en1:=beq_true hc0.1
    subst en1
    replace hc0:=hc0.2
    have en2:=beq_true hc0.1
    subst en2
    replace hc0:=hc0.2
    have en3:=beq_true hc0.1
    subst en3
    replace hc0:=hc0.2
    have en4:=beq_true hc0.1
    subst en4
    replace hc0:=hc0.2
    have en5:=beq_true hc0.1
    subst en5
    replace hc0:=hc0.2
    have en6:=beq_true hc0.1
    subst en6
    replace hc0:=hc0.2
    have en7:=beq_true hc0.1
    subst en7
    replace hc0:=hc0.2
    have en8:=beq_true hc0.1
    subst en8
    replace hc0:=hc0.2
    have en9:=beq_true hc0.1
    subst en9
    replace hc0:=hc0.2
    have en10:=beq_true hc0
    subst en10
    exact fnh_ofG mixed gtysOK g66O_sound g66O_det (an:=g66an) (cut:=g66cut) Try.func66 (c:=bodyOf Try.f66) rfl (by kernel_rfl) Try.call66 (Nat.le_of_ble_eq_true rfl) (pins:=[0]) (nilr:=none) (fun _=>(show g66v realA x0 x1 x2 x3=_ from g66ok_spec hc)) fun _ st=>g66_go st
  · cases hh
attribute [local irreducible] g66ok g66r0
def g67O (A:Ar):Orc:=orcOf [(70,g70o A)]
theorem g67O_sound:OSound Try.prog (g67O realA):=orc_sound fun f g hm args v hv=>by
  simp only [List.mem_cons,List.not_mem_nil,or_false,Prod.mk.injEq] at hm
  rcases hm with ⟨rfl,rfl⟩
  · exact g70o_sound _ _ hv
theorem g67O_det:ODet (g67O realA):=orc_det _
def g67an:Ann:=[(0,([0,1],[0])),(1,([0,1],[0])),(2,([0,4],[0]))]
def g67res:List ResultVar:=[]
def g67cut:List Nat:=[]
noncomputable def g67N {R:Type} (A:Ar) (kk:AV→Heap→Option R) (t:List Bool→St→Option R) (p:List Bool) (s:St):Option R:=nodeN A gtys (g67O A) g67an g67cut t (bodyOf Try.f67) (finD gtys g67res kk) p s
def g67 {R:Type} (A:Ar) (n:Nat) (kk:AV→Heap→Option R) (x0 x1:Nat) (x2:List Nat):Option R :=
 match carryok (x2.getD (x0+1) 0) x1 0 with
 | true=>kk (.tup []) [(0,(bU 10 ((x2.set (x0+1) (add64a (x2.getD (x0+1) 0) x1 0)).set (x0+0) (A.nb .add .u64 ((x2.set (x0+1) (add64a (x2.getD (x0+1) 0) x1 0)).getD (x0+0) 0) (add64b (x2.getD (x0+1) 0) x1 0))) 103))]
 | false=>none
section
variable {R:Type} {A:Ar} {n:Nat} {kk:AV→Heap→Option R} {tb:Nat→List Bool→St→Option R} (st:Stp (g67N A kk) tb)
include st
theorem g67_go {x0:Nat} {x1:Nat} {x2:List Nat}:Prs (fun k=>funN A gtys (g67O A) g67an g67cut (bodyOf Try.f67) g67res [(.v (.cell (.ptr 0 0 (some ⟨x0,2,10,0,0,0⟩)))),(u64v x1)] [(0,(bU 10 x2 103))] kk (tb k)) (g67 A n kk x0 x1 x2):=by
  unfold g67
  exact pc (SxY06api _ (pf _) pn) (by kernel_rfl)
end
def g67is (o:Option (AV × Heap)):Bool:=match o with
 | some (.tup [],[(n0,⟨[.nums .u64 n1 _],n2,n3⟩)])=>Nat.beq n0 0&&(Nat.beq n1 10&&(Nat.beq n2 103&&(Nat.beq n3 1)))
 | _=>false
def g67g0 (o:Option (AV × Heap)):List Nat:=match o with
 | some (.tup [],[(_,⟨[.nums .u64 _ x],_,_⟩)])=>x
 | _=>[]
theorem g67is_spec {o:Option (AV × Heap)} (h:g67is o=true):o=some ((.tup []),[(0,(bU 10 (g67g0 o) 103))]):=by
  unfold g67is at h
  split at h
  · rename_i n0 n1 z2 n2 n3
    simp only [Bool.and_eq_true] at h
    have en0:=beq_true h.1
    subst en0
    replace h:=h.2
    have en1:=beq_true h.1
    subst en1
    replace h:=h.2
    have en2:=beq_true h.1
    subst en2
    replace h:=h.2
    have en3:=beq_true h
    subst en3
    rfl
  · cases h
def g67v (A:Ar) (x0 x1:Nat) (x2:List Nat):Option (AV × Heap):=g67 A (100000) (outH [0] none) x0 x1 x2
def g67ok (A:Ar) (x0 x1:Nat) (x2:List Nat):Bool:=g67is (g67v A x0 x1 x2)
def g67r0 (A:Ar) (x0 x1:Nat) (x2:List Nat):List Nat:=g67g0 (g67v A x0 x1 x2)
theorem g67ok_spec {A:Ar} {x0 x1 x2} (h:g67ok A x0 x1 x2=true):g67v A x0 x1 x2=some ((.tup []),[(0,(bU 10 (g67r0 A x0 x1 x2) 103))]):=g67is_spec h
def g67o (A:Ar) (args:List AV) (h:Heap):Option (Bool × AV × Heap):=match args,h with
 | [.v (.cell (.ptr n0 n1 (some ⟨x0,n2,n3,n4,n5,n6⟩))),.v (.cell (.nat .u64 x1))],[(n7,⟨[.nums .u64 n8 x2],n9,n10⟩)]=>match Nat.beq n0 0&&(Nat.beq n1 0&&(Nat.beq n2 2&&(Nat.beq n3 10&&(Nat.beq n4 0&&(Nat.beq n5 0&&(Nat.beq n6 0&&(Nat.beq n7 0&&(Nat.beq n8 10&&(Nat.beq n9 103&&(Nat.beq n10 1)))))))))) with
  | true=>some (g67ok A x0 x1 x2,(.tup []),[(0,(bU 10 (g67r0 A x0 x1 x2) 103))])
  | false=>none
 | _,_=>none
theorem g67o_sound:∀ args h v h',g67o realA args h=some (true,v,h')→FnH Try.prog 67 args h v h':=by
  intro args h v h' hh
  unfold g67o at hh
  split at hh
  · rename_i n0 n1 x0 n2 n3 n4 n5 n6 x1 n7 n8 x2 n9 n10
    split at hh
    case h_2=>cases hh
    rename_i hc0
    simp only [Option.some.injEq,Prod.mk.injEq] at hh
    obtain ⟨hc,hv,hh⟩:=hh
    subst hv
    subst hh
    simp only [Bool.and_eq_true] at hc0
    have en0:=beq_true hc0.1
    subst en0
    replace hc0:=hc0.2
    have en1:=beq_true hc0.1
    subst en1
    replace hc0:=hc0.2
    have en2:=beq_true hc0.1
    subst en2
    replace hc0:=hc0.2
    have en3:=beq_true hc0.1
    subst en3
    replace hc0:=hc0.2
    have en4:=beq_true hc0.1
    subst en4
    replace hc0:=hc0.2
    have en5:=beq_true hc0.1
    subst en5
    replace hc0:=hc0.2
    have en6:=beq_true hc0.1
    subst en6
    replace hc0:=hc0.2
    have en7:=beq_true hc0.1
    subst en7
    replace hc0:=hc0.2
    have en8:=beq_true hc0.1
    subst en8
    replace hc0:=hc0.2
    have en9:=beq_true hc0.1
    subst en9
    replace hc0:=hc0.2
    have en10:=beq_true hc0
    subst en10
    exact fnh_ofG mixed gtysOK g67O_sound g67O_det (an:=g67an) (cut:=g67cut) Try.func67 (c:=bodyOf Try.f67) rfl (by kernel_rfl) Try.call67 (Nat.le_of_ble_eq_true rfl) (pins:=[0]) (nilr:=none) (fun _=>(show g67v realA x0 x1 x2=_ from g67ok_spec hc)) fun _ st=>g67_go st
  · cases hh
attribute [local irreducible] g67ok g67r0
def g57O (A:Ar):Orc:=orcH [(68,g68o A),(65,g65o A)] [(66,⟨[],none,(g66o A)⟩),(67,⟨[],none,(g67o A)⟩)]
theorem g57O_sound:OSound Try.prog (g57O realA):=orcH_sound (fun f g hm args v hv=>by
    simp only [List.mem_cons,List.not_mem_nil,or_false,Prod.mk.injEq] at hm
    rcases hm with ⟨rfl,rfl⟩ | ⟨rfl,rfl⟩
    · exact g68o_sound _ _ hv
    · exact g65o_sound _ _ hv) (fun f e hm args h v h' hv=>by
    simp only [List.mem_cons,List.not_mem_nil,or_false,Prod.mk.injEq] at hm
    rcases hm with ⟨rfl,rfl⟩ | ⟨rfl,rfl⟩
    · exact g66o_sound _ _ _ _ hv
    · exact g67o_sound _ _ _ _ hv)
theorem g57O_det:ODet (g57O realA):=orcH_det _ _
def g57an:Ann:=[(0,([0,1],[])),(1,([2,3,4],[1000,1001,1002])),(2,([2,3,4,5],[1000,1001,1002,2000])),(3,([3,4,5,14,15],[1001,1002,2000])),(4,([3,4,5,14,15],[1001,1002,2000])),(5,([3,4,5,6,7,14,15],[1001,1002,2000])),(6,([3,4,5,6,7,14,15,19,20],[1001,1002,2000])),(7,([3,4,5,6,7,14,15,19,20],[1001,1002,2000])),(8,([3,4,5,6,7,8,9,14,15,19,20],[1001,1002,2000])),(9,([3,4,5,6,7,9,10,14,15,19,20],[1001,1002,2000])),(10,([3,4,5,6,7,9,10,14,15,19,20],[1001,1002,2000])),(11,([3,4,5,6,7,9,10,14,15,19,20],[1001,1002,2000])),(12,([3,4,5,6,7,14,15,19,20],[1001,1002,2000])),(13,([3,4,5,14,15],[1001,1002,2000])),(14,([4,5],[1002,2000])),(15,([4,5,11],[1002,2000,15000])),(16,([4,5,11,12],[1002,2000,15000])),(17,([4,5,11,12,40],[1002,2000,15000])),(18,([4,5,11,12,40],[1002,2000,15000])),(19,([4,5,11,12,13,40],[1002,2000,15000])),(20,([4,5,11,13,40],[1002,2000,15000])),(21,([4,5,11,12,40],[1002,2000,15000])),(22,([4,11,12],[1002,15000])),(23,([4,11],[1002,15000]))]
def g57res:List ResultVar:=[.cell 4 88]
def g57cut:List Nat:=[4,7,11,14,18,22]
noncomputable def g57N {R:Type} (A:Ar) (kk:AV→Heap→Option R) (t:List Bool→St→Option R) (p:List Bool) (s:St):Option R:=nodeN A gtys (g57O A) g57an g57cut t (bodyOf Try.f57) (finD gtys g57res kk) p s
def g57J11s (x0:Int) (x1 x2:Nat) (x3:Int) (x4:List Nat) (x5:Int) (x6:List Nat) (x7:Int) (x8 x9 x10:List Nat):St:=⟨[(3,(pT 1001 0)),(4,(pT 1002 0)),(5,(pT 2000 0)),(6,(i6 x0)),(7,(u64v x1)),(9,(u64v x2)),(10,(i6 x3)),(14,(aN .u64 5 x4)),(15,(i6 x5)),(19,(aN .u64 5 x6)),(20,(i6 x7))],[(1001,(bU 5 x8 88)),(1002,(bU 5 x9 88)),(2000,(bU 10 x10 103))]⟩
def g57J11 {R:Type} (A:Ar) (n:Nat) (kk:AV→Heap→Option R) (lg57L3:List Nat→Int→List Nat→List Nat→List Nat→Option R) (lg57L6:Int→Nat→List Nat→Int→List Nat→Int→List Nat→List Nat→List Nat→Option R) (x0:Int) (x1 x2:Nat) (x3:Int) (x4:List Nat) (x5:Int) (x6:List Nat) (x7:Int) (x8 x9 x10:List Nat):Option R :=
 match A.neg x3 with
 | true=>none
 | false=>match A.lt (A.toN x3) 5 with
  | true=>match g66ok A ((A.toN x3)*2) x1 x2 x10 with
   | true=>lg57L6 x0 x1 x4 x5 x6 (A.ib .add .i64 x7 1) x8 x9 (g66r0 A ((A.toN x3)*2) x1 x2 x10)
   | false=>none
  | false=>none
def g57J7s (x0:Int) (x1:Nat) (x2:List Nat) (x3:Int) (x4:List Nat) (x5:Int) (x6 x7 x8:List Nat):St:=⟨[(3,(pT 1001 0)),(4,(pT 1002 0)),(5,(pT 2000 0)),(6,(i6 x0)),(7,(u64v x1)),(14,(aN .u64 5 x2)),(15,(i6 x3)),(19,(aN .u64 5 x4)),(20,(i6 x5))],[(1001,(bU 5 x6 88)),(1002,(bU 5 x7 88)),(2000,(bU 10 x8 103))]⟩
def g57J7 {R:Type} (A:Ar) (n:Nat) (kk:AV→Heap→Option R) (lg57L3:List Nat→Int→List Nat→List Nat→List Nat→Option R) (lg57L6:Int→Nat→List Nat→Int→List Nat→Int→List Nat→List Nat→List Nat→Option R) (x0:Int) (x1:Nat) (x2:List Nat) (x3:Int) (x4:List Nat) (x5:Int) (x6 x7 x8:List Nat):Option R :=
 match A.neg x5 with
 | true=>none
 | false=>match A.lt (A.toN x5) 5 with
  | true=>match A.ic .geq (A.ib .add .i64 x0 x5) 5 with
   | true=>g57J11 A n kk lg57L3 lg57L6 x0 x1 (A.nb .mul .u64 (x4.getD (A.toN x5) 0) 19) (A.ib .sub .i64 (A.ib .add .i64 x0 x5) 5) x2 x3 x4 x5 x6 x7 x8
   | false=>g57J11 A n kk lg57L3 lg57L6 x0 x1 (x4.getD (A.toN x5) 0) (A.ib .add .i64 x0 x5) x2 x3 x4 x5 x6 x7 x8
  | false=>none
def g57L6s (x0:Int) (x1:Nat) (x2:List Nat) (x3:Int) (x4:List Nat) (x5:Int) (x6 x7 x8:List Nat):St:=⟨[(3,(pT 1001 0)),(4,(pT 1002 0)),(5,(pT 2000 0)),(6,(i6 x0)),(7,(u64v x1)),(14,(aN .u64 5 x2)),(15,(i6 x3)),(19,(aN .u64 5 x4)),(20,(i6 x5))],[(1001,(bU 5 x6 88)),(1002,(bU 5 x7 88)),(2000,(bU 10 x8 103))]⟩
def g57L6 {R:Type} (A:Ar) (n:Nat) (kk:AV→Heap→Option R) (lg57L3:List Nat→Int→List Nat→List Nat→List Nat→Option R):Nat→Int→Nat→List Nat→Int→List Nat→Int→List Nat→List Nat→List Nat→Option R
 | 0,_,_,_,_,_,_,_,_,_=>none
 | m+1,x0,x1,x2,x3,x4,x5,x6,x7,x8=>match A.ic .lss x5 5 with
 | true=>g57J7 A n kk lg57L3 (g57L6 A n kk lg57L3 m) x0 x1 x2 x3 x4 x5 x6 x7 x8
 | false=>lg57L3 x2 (A.ib .add .i64 x3 1) x6 x7 x8
def g57J4s (x0:List Nat) (x1:Int) (x2 x3 x4:List Nat):St:=⟨[(3,(pT 1001 0)),(4,(pT 1002 0)),(5,(pT 2000 0)),(14,(aN .u64 5 x0)),(15,(i6 x1))],[(1001,(bU 5 x2 88)),(1002,(bU 5 x3 88)),(2000,(bU 10 x4 103))]⟩
def g57J4 {R:Type} (A:Ar) (n:Nat) (kk:AV→Heap→Option R) (lg57L3:List Nat→Int→List Nat→List Nat→List Nat→Option R) (x0:List Nat) (x1:Int) (x2 x3 x4:List Nat):Option R :=
 match A.neg x1 with
 | true=>none
 | false=>match A.lt (A.toN x1) 5 with
  | true=>g57L6 A n kk lg57L3 n x1 (x0.getD (A.toN x1) 0) x0 x1 x2 0 x2 x3 x4
  | false=>none
def g57J18s (x0:Nat) (x1:Int) (x2 x3 x4:List Nat):St:=⟨[(4,(pT 1002 0)),(5,(pT 2000 0)),(11,(pT 15000 0)),(12,(u64v x0)),(40,(i6 x1))],[(1002,(bU 5 x2 88)),(2000,(bU 10 x3 103)),(15000,(bU 5 x4 88))]⟩
def g57J18 {R:Type} (A:Ar) (n:Nat) (kk:AV→Heap→Option R) (lg57L17:Nat→Int→List Nat→List Nat→List Nat→Option R) (x0:Nat) (x1:Int) (x2 x3 x4:List Nat):Option R :=
 match A.neg x1 with
 | true=>none
 | false=>match A.lt (A.toN x1) 5 with
  | true=>match g67ok A ((A.toN x1)*2) x0 x3 with
   | true=>match A.neg x1 with
    | true=>none
    | false=>match A.lt (A.toN x1) 5 with
     | true=>match A.neg x1 with
      | true=>none
      | false=>match A.lt (A.toN x1) 5 with
       | true=>match g68ok A (((g67r0 A ((A.toN x1)*2) x0 x3).drop ((A.toN x1)*2)).take 2) with
        | true=>match A.neg x1 with
         | true=>none
         | false=>match A.lt (A.toN x1) 5 with
          | true=>lg57L17 (g68r0 A (((g67r0 A ((A.toN x1)*2) x0 x3).drop ((A.toN x1)*2)).take 2)) (A.ib .add .i64 x1 1) x2 (g67r0 A ((A.toN x1)*2) x0 x3) (x4.set (A.toN x1) (A.nb .and .u64 ((g67r0 A ((A.toN x1)*2) x0 x3).getD (((A.toN x1)*2)+1) 0) 2251799813685247))
          | false=>none
        | false=>none
       | false=>none
     | false=>none
   | false=>none
  | false=>none
def g57J22s (x0:Nat) (x1 x2:List Nat):St:=⟨[(4,(pT 1002 0)),(11,(pT 15000 0)),(12,(u64v x0))],[(1002,(bU 5 x1 88)),(15000,(bU 5 x2 88))]⟩
def g57J22 {R:Type} (A:Ar) (n:Nat) (kk:AV→Heap→Option R)  (x0:Nat) (x1 x2:List Nat):Option R :=
 match g65ok A (x2.set 0 (A.nb .add .u64 (x2.getD 0 0) (A.nb .mul .u64 x0 19))) with
 | true=>kk (aN .u64 5 (g65r0 A (x2.set 0 (A.nb .add .u64 (x2.getD 0 0) (A.nb .mul .u64 x0 19))))) [(1002,(bU 5 (g65r0 A (x2.set 0 (A.nb .add .u64 (x2.getD 0 0) (A.nb .mul .u64 x0 19)))) 88)),(15000,(bU 5 (x2.set 0 (A.nb .add .u64 (x2.getD 0 0) (A.nb .mul .u64 x0 19))) 88))]
 | false=>none
def g57L17s (x0:Nat) (x1:Int) (x2 x3 x4:List Nat):St:=⟨[(4,(pT 1002 0)),(5,(pT 2000 0)),(11,(pT 15000 0)),(12,(u64v x0)),(40,(i6 x1))],[(1002,(bU 5 x2 88)),(2000,(bU 10 x3 103)),(15000,(bU 5 x4 88))]⟩
def g57L17 {R:Type} (A:Ar) (n:Nat) (kk:AV→Heap→Option R)  : Nat→Nat→Int→List Nat→List Nat→List Nat→Option R
 | 0,_,_,_,_,_=>none
 | m+1,x0,x1,x2,x3,x4=>match A.ic .lss x1 5 with
 | true=>g57J18 A n kk (g57L17 A n kk  m) x0 x1 x2 x3 x4
 | false=>g57J22 A n kk  x0 x2 x4
def g57J14s (x0 x1:List Nat):St:=⟨[(4,(pT 1002 0)),(5,(pT 2000 0))],[(1002,(bU 5 x0 88)),(2000,(bU 10 x1 103))]⟩
def g57J14 {R:Type} (A:Ar) (n:Nat) (kk:AV→Heap→Option R)  (x0 x1:List Nat):Option R :=
 g57L17 A n kk  n 0 0 x0 x1 [0,0,0,0,0]
def g57L3s (x0:List Nat) (x1:Int) (x2 x3 x4:List Nat):St:=⟨[(3,(pT 1001 0)),(4,(pT 1002 0)),(5,(pT 2000 0)),(14,(aN .u64 5 x0)),(15,(i6 x1))],[(1001,(bU 5 x2 88)),(1002,(bU 5 x3 88)),(2000,(bU 10 x4 103))]⟩
def g57L3 {R:Type} (A:Ar) (n:Nat) (kk:AV→Heap→Option R)  : Nat→List Nat→Int→List Nat→List Nat→List Nat→Option R
 | 0,_,_,_,_,_=>none
 | m+1,x0,x1,x2,x3,x4=>match A.ic .lss x1 5 with
 | true=>g57J4 A n kk (g57L3 A n kk  m) x0 x1 x2 x3 x4
 | false=>g57J14 A n kk  x3 x4
def g57 {R:Type} (A:Ar) (n:Nat) (kk:AV→Heap→Option R) (a b:List Nat):Option R :=
 g57L3 A n kk  n a 0 b [0,0,0,0,0] [0,0,0,0,0,0,0,0,0,0]
section
variable {R:Type} {A:Ar} {n:Nat} {kk:AV→Heap→Option R} {tb:Nat→List Bool→St→Option R} (st:Stp (g57N A kk) tb)
include st
theorem g57J11_go {lg57L3:List Nat→Int→List Nat→List Nat→List Nat→Option R} {lg57L6:Int→Nat→List Nat→Int→List Nat→Int→List Nat→List Nat→List Nat→Option R} (hg57L3:∀ (x0:List Nat) (x1:Int) (x2 x3 x4:List Nat),Prs (fun k=>tb k (pth 116) (g57L3s x0 x1 x2 x3 x4)) (lg57L3 x0 x1 x2 x3 x4)) (hg57L6:∀ (x0:Int) (x1:Nat) (x2:List Nat) (x3:Int) (x4:List Nat) (x5:Int) (x6 x7 x8:List Nat),Prs (fun k=>tb k (pth 29900) (g57L6s x0 x1 x2 x3 x4 x5 x6 x7 x8)) (lg57L6 x0 x1 x2 x3 x4 x5 x6 x7 x8)) {x0:Int} {x1:Nat} {x2:Nat} {x3:Int} {x4:List Nat} {x5:Int} {x6:List Nat} {x7:Int} {x8:List Nat} {x9:List Nat} {x10:List Nat}:Prs (fun k=>tb k (pth 3827303) (g57J11s x0 x1 x2 x3 x4 x5 x6 x7 x8 x9 x10)) (g57J11 A n kk lg57L3 lg57L6 x0 x1 x2 x3 x4 x5 x6 x7 x8 x9 x10):=by
  unfold g57J11
  exact st.g (pc (SxY06api _ pn (SxY06api _ (SxY06api _ (hg57L6 _ _ _ _ _ _ _ _ _) pn) pn)) (by kernel_rfl))
theorem g57J7_go {lg57L3:List Nat→Int→List Nat→List Nat→List Nat→Option R} {lg57L6:Int→Nat→List Nat→Int→List Nat→Int→List Nat→List Nat→List Nat→Option R} (hg57L3:∀ (x0:List Nat) (x1:Int) (x2 x3 x4:List Nat),Prs (fun k=>tb k (pth 116) (g57L3s x0 x1 x2 x3 x4)) (lg57L3 x0 x1 x2 x3 x4)) (hg57L6:∀ (x0:Int) (x1:Nat) (x2:List Nat) (x3:Int) (x4:List Nat) (x5:Int) (x6 x7 x8:List Nat),Prs (fun k=>tb k (pth 29900) (g57L6s x0 x1 x2 x3 x4 x5 x6 x7 x8)) (lg57L6 x0 x1 x2 x3 x4 x5 x6 x7 x8)) {x0:Int} {x1:Nat} {x2:List Nat} {x3:Int} {x4:List Nat} {x5:Int} {x6:List Nat} {x7:List Nat} {x8:List Nat}:Prs (fun k=>tb k (pth 119603) (g57J7s x0 x1 x2 x3 x4 x5 x6 x7 x8)) (g57J7 A n kk lg57L3 lg57L6 x0 x1 x2 x3 x4 x5 x6 x7 x8):=by
  unfold g57J7
  exact st.g (pc (SxY06api _ pn (SxY06api _ (SxY06api _ (g57J11_go st hg57L3 hg57L6) (g57J11_go st hg57L3 hg57L6)) pn)) (by kernel_rfl))
theorem g57L6_go {lg57L3:List Nat→Int→List Nat→List Nat→List Nat→Option R} (hg57L3:∀ (x0:List Nat) (x1:Int) (x2 x3 x4:List Nat),Prs (fun k=>tb k (pth 116) (g57L3s x0 x1 x2 x3 x4)) (lg57L3 x0 x1 x2 x3 x4)) (m:Nat):∀ (x0:Int) (x1:Nat) (x2:List Nat) (x3:Int) (x4:List Nat) (x5:Int) (x6 x7 x8:List Nat),Prs (fun k=>tb k (pth 29900) (g57L6s x0 x1 x2 x3 x4 x5 x6 x7 x8)) (g57L6 A n kk lg57L3 m x0 x1 x2 x3 x4 x5 x6 x7 x8):=by
  induction m with
  | zero=>intro x0 x1 x2 x3 x4 x5 x6 x7 x8; exact pn0
  | succ m ih =>
    intro x0 x1 x2 x3 x4 x5 x6 x7 x8; rw [g57L6]
    exact st.g (pc (SxY06api _ (g57J7_go st hg57L3 ih) (hg57L3 _ _ _ _ _)) (by kernel_rfl))
theorem g57J4_go {lg57L3:List Nat→Int→List Nat→List Nat→List Nat→Option R} (hg57L3:∀ (x0:List Nat) (x1:Int) (x2 x3 x4:List Nat),Prs (fun k=>tb k (pth 116) (g57L3s x0 x1 x2 x3 x4)) (lg57L3 x0 x1 x2 x3 x4)) {x0:List Nat} {x1:Int} {x2:List Nat} {x3:List Nat} {x4:List Nat}:Prs (fun k=>tb k (pth 467) (g57J4s x0 x1 x2 x3 x4)) (g57J4 A n kk lg57L3 x0 x1 x2 x3 x4):=by
  unfold g57J4
  exact st.g (pc (SxY06api _ pn (SxY06api _ (g57L6_go st hg57L3 n _ _ _ _ _ _ _ _ _) pn)) (by kernel_rfl))
theorem g57J18_go {lg57L17:Nat→Int→List Nat→List Nat→List Nat→Option R} (hg57L17:∀ (x0:Nat) (x1:Int) (x2 x3 x4:List Nat),Prs (fun k=>tb k (pth 1012) (g57L17s x0 x1 x2 x3 x4)) (lg57L17 x0 x1 x2 x3 x4)) {x0:Nat} {x1:Int} {x2:List Nat} {x3:List Nat} {x4:List Nat}:Prs (fun k=>tb k (pth 4051) (g57J18s x0 x1 x2 x3 x4)) (g57J18 A n kk lg57L17 x0 x1 x2 x3 x4):=by
  unfold g57J18
  exact st.g (pc (SxY06api _ pn (SxY06api _ (SxY06api _ (SxY06api _ pn (SxY06api _ (SxY06api _ pn (SxY06api _ (SxY06api _ (SxY06api _ pn (SxY06api _ (hg57L17 _ _ _ _ _) pn)) pn) pn)) pn)) pn) pn)) (by kernel_rfl))
theorem g57J22_go {x0:Nat} {x1:List Nat} {x2:List Nat}:Prs (fun k=>tb k (pth 127) (g57J22s x0 x1 x2)) (g57J22 A n kk x0 x1 x2):=by
  unfold g57J22
  exact st.g (pc (SxY06api _ (pf _) pn) (by kernel_rfl))
theorem g57L17_go (m:Nat):∀ (x0:Nat) (x1:Int) (x2 x3 x4:List Nat),Prs (fun k=>tb k (pth 1012) (g57L17s x0 x1 x2 x3 x4)) (g57L17 A n kk m x0 x1 x2 x3 x4):=by
  induction m with
  | zero=>intro x0 x1 x2 x3 x4; exact pn0
  | succ m ih =>
    intro x0 x1 x2 x3 x4; rw [g57L17]
    exact st.g (pc (SxY06api _ (g57J18_go st ih) (g57J22_go st)) (by kernel_rfl))
theorem g57J14_go {x0:List Nat} {x1:List Nat}:Prs (fun k=>tb k (pth 15) (g57J14s x0 x1)) (g57J14 A n kk x0 x1):=by
  unfold g57J14
  exact st.g (pc (g57L17_go st n _ _ _ _ _) (by kernel_rfl))
theorem g57L3_go (m:Nat):∀ (x0:List Nat) (x1:Int) (x2 x3 x4:List Nat),Prs (fun k=>tb k (pth 116) (g57L3s x0 x1 x2 x3 x4)) (g57L3 A n kk m x0 x1 x2 x3 x4):=by
  induction m with
  | zero=>intro x0 x1 x2 x3 x4; exact pn0
  | succ m ih =>
    intro x0 x1 x2 x3 x4; rw [g57L3]
    exact st.g (pc (SxY06api _ (g57J4_go st ih) (g57J14_go st)) (by kernel_rfl))
theorem g57_go {a:List Nat} {b:List Nat}:Prs (fun k=>funN A gtys (g57O A) g57an g57cut (bodyOf Try.f57) g57res [(aN .u64 5 a),(aN .u64 5 b)] [] kk (tb k)) (g57 A n kk a b):=by
  unfold g57
  exact pc (g57L3_go st n _ _ _ _ _) (by kernel_rfl)
end
def g57is (o:Option AV):Bool:=match o with
 | some (aN .u64 5 _)=>true
 | _=>false
def g57g0 (o:Option AV):List Nat:=match o with
 | some (aN .u64 5 x)=>x
 | _=>[]
theorem g57is_spec {o:Option AV} (h:g57is o=true):o=some (aN .u64 5 (g57g0 o)):=by
  unfold g57is at h
  split at h
  · rfl
  · cases h
def g57v (A:Ar) (a b:List Nat):Option AV:=g57 A (100000) (fun v _=>some v) a b
def g57ok (A:Ar) (a b:List Nat):Bool:=g57is (g57v A a b)
def g57r0 (A:Ar) (a b:List Nat):List Nat:=g57g0 (g57v A a b)
theorem g57ok_spec {A:Ar} {a b} (h:g57ok A a b=true):g57v A a b=some (aN .u64 5 (g57r0 A a b)):=g57is_spec h
def g57o (A:Ar) (args:List AV):Option (Bool × AV):=match args with
 | [.v (.agg [.nums .u64 n0 a]),.v (.agg [.nums .u64 n1 b])]=>some (Nat.beq n0 5&&(Nat.beq n1 5&&(g57ok A a b)),.v (.agg [.nums .u64 5 (g57r0 A a b)]))
 | _=>none
theorem g57o_sound:∀ args v,g57o realA args=some (true,v)→Fn1 Try.prog 57 args v:=by
  intro args v h
  unfold g57o at h
  split at h
  · rename_i n0 a n1 b
    simp only [Option.some.injEq,Prod.mk.injEq] at h
    obtain ⟨hc,h⟩:=h
    subst h
    · skip
      simp only [Bool.and_eq_true] at hc
      have en0:=beq_true hc.1
      subst en0
      replace hc:=hc.2
      have en1:=beq_true hc.1
      subst en1
      replace hc:=hc.2
      exact fn1_ofG mixed gtysOK g57O_sound g57O_det (an:=g57an) (cut:=g57cut) Try.func57 (c:=bodyOf Try.f57) rfl (by kernel_rfl) Try.call57 (Nat.le_of_ble_eq_true rfl) (fun b=>rfl) (fun _=>(show g57v realA a b=_ from g57ok_spec hc)) fun _ st=>g57_go st
  · cases h
attribute [local irreducible] g57ok g57r0
def g41O (A:Ar):Orc:=orcOf [(55,g55o A),(57,g57o A),(56,g56o A)]
theorem g41O_sound:OSound Try.prog (g41O realA):=orc_sound fun f g hm args v hv=>by
  simp only [List.mem_cons,List.not_mem_nil,or_false,Prod.mk.injEq] at hm
  rcases hm with ⟨rfl,rfl⟩ | ⟨rfl,rfl⟩ | ⟨rfl,rfl⟩
  · exact g55o_sound _ _ hv
  · exact g57o_sound _ _ hv
  · exact g56o_sound _ _ hv
theorem g41O_det:ODet (g41O realA):=orc_det _
def g41an:Ann:=[(0,([0,1],[])),(1,([2,3,4],[1000,1001,1002]))]
def g41res:List ResultVar:=[.cell 4 40]
def g41cut:List Nat:=[]
noncomputable def g41N {R:Type} (A:Ar) (kk:AV→Heap→Option R) (t:List Bool→St→Option R) (p:List Bool) (s:St):Option R:=nodeN A gtys (g41O A) g41an g41cut t (bodyOf Try.f41) (finD gtys g41res kk) p s
def g41 {R:Type} (A:Ar) (n:Nat) (kk:AV→Heap→Option R) (a b:List Nat):Option R :=
 match g55ok A a with
 | true=>match g55ok A b with
  | true=>match g57ok A (g55r0 A a) (g55r0 A b) with
   | true=>match g56ok A (g57r0 A (g55r0 A a) (g55r0 A b)) with
    | true=>kk (aN .u64 4 (g56r0 A (g57r0 A (g55r0 A a) (g55r0 A b)))) [(1000,(bU 4 a 40)),(1001,(bU 4 b 40)),(1002,(bU 4 (g56r0 A (g57r0 A (g55r0 A a) (g55r0 A b))) 40))]
    | false=>none
   | false=>none
  | false=>none
 | false=>none
section
variable {R:Type} {A:Ar} {n:Nat} {kk:AV→Heap→Option R} {tb:Nat→List Bool→St→Option R} (st:Stp (g41N A kk) tb)
include st
theorem g41_go {a:List Nat} {b:List Nat}:Prs (fun k=>funN A gtys (g41O A) g41an g41cut (bodyOf Try.f41) g41res [(aN .u64 4 a),(aN .u64 4 b)] [] kk (tb k)) (g41 A n kk a b):=by
  unfold g41
  exact pc (SxY06api _ (SxY06api _ (SxY06api _ (SxY06api _ (pf _) pn) pn) pn) pn) (by kernel_rfl)
end
def g41is (o:Option AV):Bool:=match o with
 | some (aN .u64 4 _)=>true
 | _=>false
def g41g0 (o:Option AV):List Nat:=match o with
 | some (aN .u64 4 x)=>x
 | _=>[]
theorem g41is_spec {o:Option AV} (h:g41is o=true):o=some (aN .u64 4 (g41g0 o)):=by
  unfold g41is at h
  split at h
  · rfl
  · cases h
def g41v (A:Ar) (a b:List Nat):Option AV:=g41 A (100000) (fun v _=>some v) a b
def g41ok (A:Ar) (a b:List Nat):Bool:=g41is (g41v A a b)
def g41r0 (A:Ar) (a b:List Nat):List Nat:=g41g0 (g41v A a b)
theorem g41ok_spec {A:Ar} {a b} (h:g41ok A a b=true):g41v A a b=some (aN .u64 4 (g41r0 A a b)):=g41is_spec h
def g41o (A:Ar) (args:List AV):Option (Bool × AV):=match args with
 | [.v (.agg [.nums .u64 n0 a]),.v (.agg [.nums .u64 n1 b])]=>some (Nat.beq n0 4&&(Nat.beq n1 4&&(g41ok A a b)),.v (.agg [.nums .u64 4 (g41r0 A a b)]))
 | _=>none
theorem g41o_sound:∀ args v,g41o realA args=some (true,v)→Fn1 Try.prog 41 args v:=by
  intro args v h
  unfold g41o at h
  split at h
  · rename_i n0 a n1 b
    simp only [Option.some.injEq,Prod.mk.injEq] at h
    obtain ⟨hc,h⟩:=h
    subst h
    · skip
      simp only [Bool.and_eq_true] at hc
      have en0:=beq_true hc.1
      subst en0
      replace hc:=hc.2
      have en1:=beq_true hc.1
      subst en1
      replace hc:=hc.2
      exact fn1_ofG mixed gtysOK g41O_sound g41O_det (an:=g41an) (cut:=g41cut) Try.func41 (c:=bodyOf Try.f41) rfl (by kernel_rfl) Try.call41 (Nat.le_of_ble_eq_true rfl) (fun b=>rfl) (fun _=>(show g41v realA a b=_ from g41ok_spec hc)) fun _ st=>g41_go st
  · cases h
attribute [local irreducible] g41ok g41r0
def g69O (A:Ar):Orc:=orcOf [(57,g57o A)]
theorem g69O_sound:OSound Try.prog (g69O realA):=orc_sound fun f g hm args v hv=>by
  simp only [List.mem_cons,List.not_mem_nil,or_false,Prod.mk.injEq] at hm
  rcases hm with ⟨rfl,rfl⟩
  · exact g57o_sound _ _ hv
theorem g69O_det:ODet (g69O realA):=orc_det _
def g69an:Ann:=[(0,([0,1],[])),(1,([2,3,4],[1000,1001,1002])),(2,([2,3,4,5],[1000,1001,1002,2001])),(3,([2,3,4,5,9,10],[1000,1001,1002,2001])),(4,([2,3,4,5,9,10],[1000,1001,1002,2001])),(5,([2,3,4,5,6,7,9,10],[1000,1001,1002,2001])),(6,([2,3,4,5,6,7,9,10,14],[1000,1001,1002,2001])),(7,([2,3,4,5,6,7,9,10,14],[1000,1001,1002,2001])),(8,([2,3,4,5,6,7,9,10,14],[1000,1001,1002,2001])),(9,([2,3,4,5,6,7,9,10,14],[1000,1001,1002,2001])),(10,([2,3,4,5,6,7,9,10,14],[1000,1001,1002,2001])),(11,([2,3,4,5,6,7,9,10,14],[1000,1001,1002,2001])),(12,([2,3,4,5,9,10],[1000,1001,1002,2001])),(13,([4,5],[1002,2001]))]
def g69res:List ResultVar:=[.cell 4 88]
def g69cut:List Nat:=[4,7,8,10]
noncomputable def g69N {R:Type} (A:Ar) (kk:AV→Heap→Option R) (t:List Bool→St→Option R) (p:List Bool) (s:St):Option R:=nodeN A gtys (g69O A) g69an g69cut t (bodyOf Try.f69) (finD gtys g69res kk) p s
def g69J10s (x0:Int) (x1:Nat) (x2:List Nat) (x3 x4:Int) (x5 x6:List Nat) (x7 x8:List Nat):St:=⟨[(2,(pT 1000 0)),(3,(pT 1001 0)),(4,(pT 1002 0)),(5,(pT 2001 0)),(6,(i6 x0)),(7,(u64v x1)),(9,(aN .u64 4 x2)),(10,(i6 x3)),(14,(i6 x4))],[(1000,(bU 5 x5 88)),(1001,(bU 4 x6 39)),(1002,(bU 5 x7 88)),(2001,(bU 5 x8 88))]⟩
def g69J10 {R:Type} (A:Ar) (n:Nat) (kk:AV→Heap→Option R) (lg69L3:List Nat→Int→List Nat→List Nat→List Nat→List Nat→Option R) (lg69L6:Int→Nat→List Nat→Int→Int→List Nat→List Nat→List Nat→List Nat→Option R) (x0:Int) (x1:Nat) (x2:List Nat) (x3 x4:Int) (x5 x6:List Nat) (x7 x8:List Nat):Option R :=
 match g57ok A x5 x5 with
 | true=>lg69L6 x0 (A.nsh .shr .u64 x1 1) x2 x3 (A.ib .add .i64 x4 1) (g57r0 A x5 x5) x6 x7 x8
 | false=>none
def g69J8s (x0:Int) (x1:Nat) (x2:List Nat) (x3 x4:Int) (x5 x6:List Nat) (x7 x8:List Nat):St:=⟨[(2,(pT 1000 0)),(3,(pT 1001 0)),(4,(pT 1002 0)),(5,(pT 2001 0)),(6,(i6 x0)),(7,(u64v x1)),(9,(aN .u64 4 x2)),(10,(i6 x3)),(14,(i6 x4))],[(1000,(bU 5 x5 88)),(1001,(bU 4 x6 39)),(1002,(bU 5 x7 88)),(2001,(bU 5 x8 88))]⟩
def g69J8 {R:Type} (A:Ar) (n:Nat) (kk:AV→Heap→Option R) (lg69L3:List Nat→Int→List Nat→List Nat→List Nat→List Nat→Option R) (lg69L6:Int→Nat→List Nat→Int→Int→List Nat→List Nat→List Nat→List Nat→Option R) (x0:Int) (x1:Nat) (x2:List Nat) (x3 x4:Int) (x5 x6:List Nat) (x7 x8:List Nat):Option R :=
 match A.nc .neq (A.nb .and .u64 x1 1) 0 with
 | true=>match g57ok A x8 x5 with
  | true=>g69J10 A n kk lg69L3 lg69L6 x0 x1 x2 x3 x4 x5 x6 x7 (g57r0 A x8 x5)
  | false=>none
 | false=>g69J10 A n kk lg69L3 lg69L6 x0 x1 x2 x3 x4 x5 x6 x7 x8
def g69J7s (x0:Int) (x1:Nat) (x2:List Nat) (x3 x4:Int) (x5 x6:List Nat) (x7 x8:List Nat):St:=⟨[(2,(pT 1000 0)),(3,(pT 1001 0)),(4,(pT 1002 0)),(5,(pT 2001 0)),(6,(i6 x0)),(7,(u64v x1)),(9,(aN .u64 4 x2)),(10,(i6 x3)),(14,(i6 x4))],[(1000,(bU 5 x5 88)),(1001,(bU 4 x6 39)),(1002,(bU 5 x7 88)),(2001,(bU 5 x8 88))]⟩
def g69J7 {R:Type} (A:Ar) (n:Nat) (kk:AV→Heap→Option R) (lg69L3:List Nat→Int→List Nat→List Nat→List Nat→List Nat→Option R) (lg69L6:Int→Nat→List Nat→Int→Int→List Nat→List Nat→List Nat→List Nat→Option R) (x0:Int) (x1:Nat) (x2:List Nat) (x3 x4:Int) (x5 x6:List Nat) (x7 x8:List Nat):Option R :=
 match A.nc .eql x1 0 with
 | true=>match A.nc .eql (x6.getD 3 0) 0 with
  | true=>match A.ic .eql x0 3 with
   | true=>kk (aN .u64 5 x8) [(1002,(bU 5 x8 88)),(2001,(bU 5 x8 88))]
   | false=>g69J8 A n kk lg69L3 lg69L6 x0 x1 x2 x3 x4 x5 x6 x7 x8
  | false=>g69J8 A n kk lg69L3 lg69L6 x0 x1 x2 x3 x4 x5 x6 x7 x8
 | false=>g69J8 A n kk lg69L3 lg69L6 x0 x1 x2 x3 x4 x5 x6 x7 x8
def g69L6s (x0:Int) (x1:Nat) (x2:List Nat) (x3 x4:Int) (x5 x6:List Nat) (x7 x8:List Nat):St:=⟨[(2,(pT 1000 0)),(3,(pT 1001 0)),(4,(pT 1002 0)),(5,(pT 2001 0)),(6,(i6 x0)),(7,(u64v x1)),(9,(aN .u64 4 x2)),(10,(i6 x3)),(14,(i6 x4))],[(1000,(bU 5 x5 88)),(1001,(bU 4 x6 39)),(1002,(bU 5 x7 88)),(2001,(bU 5 x8 88))]⟩
def g69L6 {R:Type} (A:Ar) (n:Nat) (kk:AV→Heap→Option R) (lg69L3:List Nat→Int→List Nat→List Nat→List Nat→List Nat→Option R):Nat→Int→Nat→List Nat→Int→Int→List Nat→List Nat→List Nat→List Nat→Option R
 | 0,_,_,_,_,_,_,_,_,_=>none
 | m+1,x0,x1,x2,x3,x4,x5,x6,x7,x8=>match A.ic .lss x4 64 with
 | true=>g69J7 A n kk lg69L3 (g69L6 A n kk lg69L3 m) x0 x1 x2 x3 x4 x5 x6 x7 x8
 | false=>lg69L3 x2 (A.ib .add .i64 x3 1) x5 x6 x7 x8
def g69J4s (x0:List Nat) (x1:Int) (x2 x3:List Nat) (x4 x5:List Nat):St:=⟨[(2,(pT 1000 0)),(3,(pT 1001 0)),(4,(pT 1002 0)),(5,(pT 2001 0)),(9,(aN .u64 4 x0)),(10,(i6 x1))],[(1000,(bU 5 x2 88)),(1001,(bU 4 x3 39)),(1002,(bU 5 x4 88)),(2001,(bU 5 x5 88))]⟩
def g69J4 {R:Type} (A:Ar) (n:Nat) (kk:AV→Heap→Option R) (lg69L3:List Nat→Int→List Nat→List Nat→List Nat→List Nat→Option R) (x0:List Nat) (x1:Int) (x2 x3:List Nat) (x4 x5:List Nat):Option R :=
 match A.neg x1 with
 | true=>none
 | false=>match A.lt (A.toN x1) 4 with
  | true=>g69L6 A n kk lg69L3 n x1 (x0.getD (A.toN x1) 0) x0 x1 0 x2 x3 x4 x5
  | false=>none
def g69L3s (x0:List Nat) (x1:Int) (x2 x3:List Nat) (x4 x5:List Nat):St:=⟨[(2,(pT 1000 0)),(3,(pT 1001 0)),(4,(pT 1002 0)),(5,(pT 2001 0)),(9,(aN .u64 4 x0)),(10,(i6 x1))],[(1000,(bU 5 x2 88)),(1001,(bU 4 x3 39)),(1002,(bU 5 x4 88)),(2001,(bU 5 x5 88))]⟩
def g69L3 {R:Type} (A:Ar) (n:Nat) (kk:AV→Heap→Option R)  : Nat→List Nat→Int→List Nat→List Nat→List Nat→List Nat→Option R
 | 0,_,_,_,_,_,_=>none
 | m+1,x0,x1,x2,x3,x4,x5=>match A.ic .lss x1 4 with
 | true=>g69J4 A n kk (g69L3 A n kk  m) x0 x1 x2 x3 x4 x5
 | false=>kk (aN .u64 5 x5) [(1002,(bU 5 x5 88)),(2001,(bU 5 x5 88))]
def g69 {R:Type} (A:Ar) (n:Nat) (kk:AV→Heap→Option R) (a b:List Nat):Option R :=
 g69L3 A n kk  n b 0 a b [0,0,0,0,0] ([0,0,0,0,0].set 0 1)
section
variable {R:Type} {A:Ar} {n:Nat} {kk:AV→Heap→Option R} {tb:Nat→List Bool→St→Option R} (st:Stp (g69N A kk) tb)
include st
theorem g69J10_go {lg69L3:List Nat→Int→List Nat→List Nat→List Nat→List Nat→Option R} {lg69L6:Int→Nat→List Nat→Int→Int→List Nat→List Nat→List Nat→List Nat→Option R} (hg69L3:∀ (x0:List Nat) (x1:Int) (x2 x3:List Nat) (x4 x5:List Nat),Prs (fun k=>tb k (pth 436) (g69L3s x0 x1 x2 x3 x4 x5)) (lg69L3 x0 x1 x2 x3 x4 x5)) (hg69L6:∀ (x0:Int) (x1:Nat) (x2:List Nat) (x3 x4:Int) (x5 x6:List Nat) (x7 x8:List Nat),Prs (fun k=>tb k (pth 111820) (g69L6s x0 x1 x2 x3 x4 x5 x6 x7 x8)) (lg69L6 x0 x1 x2 x3 x4 x5 x6 x7 x8)) {x0:Int} {x1:Nat} {x2:List Nat} {x3:Int} {x4:Int} {x5:List Nat} {x6:List Nat} {x7:List Nat} {x8:List Nat}:Prs (fun k=>tb k (pth 7156531) (g69J10s x0 x1 x2 x3 x4 x5 x6 x7 x8)) (g69J10 A n kk lg69L3 lg69L6 x0 x1 x2 x3 x4 x5 x6 x7 x8):=by
  unfold g69J10
  exact st.g (pc (SxY06api _ (hg69L6 _ _ _ _ _ _ _ _ _) pn) (by kernel_rfl))
theorem g69J8_go {lg69L3:List Nat→Int→List Nat→List Nat→List Nat→List Nat→Option R} {lg69L6:Int→Nat→List Nat→Int→Int→List Nat→List Nat→List Nat→List Nat→Option R} (hg69L3:∀ (x0:List Nat) (x1:Int) (x2 x3:List Nat) (x4 x5:List Nat),Prs (fun k=>tb k (pth 436) (g69L3s x0 x1 x2 x3 x4 x5)) (lg69L3 x0 x1 x2 x3 x4 x5)) (hg69L6:∀ (x0:Int) (x1:Nat) (x2:List Nat) (x3 x4:Int) (x5 x6:List Nat) (x7 x8:List Nat),Prs (fun k=>tb k (pth 111820) (g69L6s x0 x1 x2 x3 x4 x5 x6 x7 x8)) (lg69L6 x0 x1 x2 x3 x4 x5 x6 x7 x8)) {x0:Int} {x1:Nat} {x2:List Nat} {x3:Int} {x4:Int} {x5:List Nat} {x6:List Nat} {x7:List Nat} {x8:List Nat}:Prs (fun k=>tb k (pth 3578265) (g69J8s x0 x1 x2 x3 x4 x5 x6 x7 x8)) (g69J8 A n kk lg69L3 lg69L6 x0 x1 x2 x3 x4 x5 x6 x7 x8):=by
  unfold g69J8
  exact st.g (pc (SxY06api _ (SxY06api _ (g69J10_go st hg69L3 hg69L6) pn) (g69J10_go st hg69L3 hg69L6)) (by kernel_rfl))
theorem g69J7_go {lg69L3:List Nat→Int→List Nat→List Nat→List Nat→List Nat→Option R} {lg69L6:Int→Nat→List Nat→Int→Int→List Nat→List Nat→List Nat→List Nat→Option R} (hg69L3:∀ (x0:List Nat) (x1:Int) (x2 x3:List Nat) (x4 x5:List Nat),Prs (fun k=>tb k (pth 436) (g69L3s x0 x1 x2 x3 x4 x5)) (lg69L3 x0 x1 x2 x3 x4 x5)) (hg69L6:∀ (x0:Int) (x1:Nat) (x2:List Nat) (x3 x4:Int) (x5 x6:List Nat) (x7 x8:List Nat),Prs (fun k=>tb k (pth 111820) (g69L6s x0 x1 x2 x3 x4 x5 x6 x7 x8)) (lg69L6 x0 x1 x2 x3 x4 x5 x6 x7 x8)) {x0:Int} {x1:Nat} {x2:List Nat} {x3:Int} {x4:Int} {x5:List Nat} {x6:List Nat} {x7:List Nat} {x8:List Nat}:Prs (fun k=>tb k (pth 447283) (g69J7s x0 x1 x2 x3 x4 x5 x6 x7 x8)) (g69J7 A n kk lg69L3 lg69L6 x0 x1 x2 x3 x4 x5 x6 x7 x8):=by
  unfold g69J7
  exact st.g (pc (SxY06api _ (SxY06api _ (SxY06api _ (pf _) (g69J8_go st hg69L3 hg69L6)) (g69J8_go st hg69L3 hg69L6)) (g69J8_go st hg69L3 hg69L6)) (by kernel_rfl))
theorem g69L6_go {lg69L3:List Nat→Int→List Nat→List Nat→List Nat→List Nat→Option R} (hg69L3:∀ (x0:List Nat) (x1:Int) (x2 x3:List Nat) (x4 x5:List Nat),Prs (fun k=>tb k (pth 436) (g69L3s x0 x1 x2 x3 x4 x5)) (lg69L3 x0 x1 x2 x3 x4 x5)) (m:Nat):∀ (x0:Int) (x1:Nat) (x2:List Nat) (x3 x4:Int) (x5 x6:List Nat) (x7 x8:List Nat),Prs (fun k=>tb k (pth 111820) (g69L6s x0 x1 x2 x3 x4 x5 x6 x7 x8)) (g69L6 A n kk lg69L3 m x0 x1 x2 x3 x4 x5 x6 x7 x8):=by
  induction m with
  | zero=>intro x0 x1 x2 x3 x4 x5 x6 x7 x8; exact pn0
  | succ m ih =>
    intro x0 x1 x2 x3 x4 x5 x6 x7 x8; rw [g69L6]
    exact st.g (pc (SxY06api _ (g69J7_go st hg69L3 ih) (hg69L3 _ _ _ _ _ _)) (by kernel_rfl))
theorem g69J4_go {lg69L3:List Nat→Int→List Nat→List Nat→List Nat→List Nat→Option R} (hg69L3:∀ (x0:List Nat) (x1:Int) (x2 x3:List Nat) (x4 x5:List Nat),Prs (fun k=>tb k (pth 436) (g69L3s x0 x1 x2 x3 x4 x5)) (lg69L3 x0 x1 x2 x3 x4 x5)) {x0:List Nat} {x1:Int} {x2:List Nat} {x3:List Nat} {x4:List Nat} {x5:List Nat}:Prs (fun k=>tb k (pth 1747) (g69J4s x0 x1 x2 x3 x4 x5)) (g69J4 A n kk lg69L3 x0 x1 x2 x3 x4 x5):=by
  unfold g69J4
  exact st.g (pc (SxY06api _ pn (SxY06api _ (g69L6_go st hg69L3 n _ _ _ _ _ _ _ _ _) pn)) (by kernel_rfl))
theorem g69L3_go (m:Nat):∀ (x0:List Nat) (x1:Int) (x2 x3:List Nat) (x4 x5:List Nat),Prs (fun k=>tb k (pth 436) (g69L3s x0 x1 x2 x3 x4 x5)) (g69L3 A n kk m x0 x1 x2 x3 x4 x5):=by
  induction m with
  | zero=>intro x0 x1 x2 x3 x4 x5; exact pn0
  | succ m ih =>
    intro x0 x1 x2 x3 x4 x5; rw [g69L3]
    exact st.g (pc (SxY06api _ (g69J4_go st ih) (pf _)) (by kernel_rfl))
theorem g69_go {a:List Nat} {b:List Nat}:Prs (fun k=>funN A gtys (g69O A) g69an g69cut (bodyOf Try.f69) g69res [(aN .u64 5 a),(aN .u64 4 b)] [] kk (tb k)) (g69 A n kk a b):=by
  unfold g69
  exact pc (g69L3_go st n _ _ _ _ _ _) (by kernel_rfl)
end
def g69is (o:Option AV):Bool:=match o with
 | some (aN .u64 5 _)=>true
 | _=>false
def g69g0 (o:Option AV):List Nat:=match o with
 | some (aN .u64 5 x)=>x
 | _=>[]
theorem g69is_spec {o:Option AV} (h:g69is o=true):o=some (aN .u64 5 (g69g0 o)):=by
  unfold g69is at h
  split at h
  · rfl
  · cases h
def g69v (A:Ar) (a b:List Nat):Option AV:=g69 A (100000) (fun v _=>some v) a b
def g69ok (A:Ar) (a b:List Nat):Bool:=g69is (g69v A a b)
def g69r0 (A:Ar) (a b:List Nat):List Nat:=g69g0 (g69v A a b)
theorem g69ok_spec {A:Ar} {a b} (h:g69ok A a b=true):g69v A a b=some (aN .u64 5 (g69r0 A a b)):=g69is_spec h
def g69o (A:Ar) (args:List AV):Option (Bool × AV):=match args with
 | [.v (.agg [.nums .u64 n0 a]),.v (.agg [.nums .u64 n1 b])]=>some (Nat.beq n0 5&&(Nat.beq n1 4&&(g69ok A a b)),.v (.agg [.nums .u64 5 (g69r0 A a b)]))
 | _=>none
theorem g69o_sound:∀ args v,g69o realA args=some (true,v)→Fn1 Try.prog 69 args v:=by
  intro args v h
  unfold g69o at h
  split at h
  · rename_i n0 a n1 b
    simp only [Option.some.injEq,Prod.mk.injEq] at h
    obtain ⟨hc,h⟩:=h
    subst h
    · skip
      simp only [Bool.and_eq_true] at hc
      have en0:=beq_true hc.1
      subst en0
      replace hc:=hc.2
      have en1:=beq_true hc.1
      subst en1
      replace hc:=hc.2
      exact fn1_ofG mixed gtysOK g69O_sound g69O_det (an:=g69an) (cut:=g69cut) Try.func69 (c:=bodyOf Try.f69) rfl (by kernel_rfl) Try.call69 (Nat.le_of_ble_eq_true rfl) (fun b=>rfl) (fun _=>(show g69v realA a b=_ from g69ok_spec hc)) fun _ st=>g69_go st
  · cases h
attribute [local irreducible] g69ok g69r0
def g58O (A:Ar):Orc:=orcOf [(55,g55o A),(69,g69o A),(56,g56o A)]
theorem g58O_sound:OSound Try.prog (g58O realA):=orc_sound fun f g hm args v hv=>by
  simp only [List.mem_cons,List.not_mem_nil,or_false,Prod.mk.injEq] at hm
  rcases hm with ⟨rfl,rfl⟩ | ⟨rfl,rfl⟩ | ⟨rfl,rfl⟩
  · exact g55o_sound _ _ hv
  · exact g69o_sound _ _ hv
  · exact g56o_sound _ _ hv
theorem g58O_det:ODet (g58O realA):=orc_det _
def g58an:Ann:=[(0,([0,1],[])),(1,([2,3,4],[1000,1001,1002]))]
def g58res:List ResultVar:=[.cell 4 40]
def g58cut:List Nat:=[]
noncomputable def g58N {R:Type} (A:Ar) (kk:AV→Heap→Option R) (t:List Bool→St→Option R) (p:List Bool) (s:St):Option R:=nodeN A gtys (g58O A) g58an g58cut t (bodyOf Try.f58) (finD gtys g58res kk) p s
def g58 {R:Type} (A:Ar) (n:Nat) (kk:AV→Heap→Option R) (a b:List Nat):Option R :=
 match g55ok A a with
 | true=>match g69ok A (g55r0 A a) b with
  | true=>match g56ok A (g69r0 A (g55r0 A a) b) with
   | true=>kk (aN .u64 4 (g56r0 A (g69r0 A (g55r0 A a) b))) [(1000,(bU 4 a 40)),(1001,(bU 4 b 39)),(1002,(bU 4 (g56r0 A (g69r0 A (g55r0 A a) b)) 40))]
   | false=>none
  | false=>none
 | false=>none
section
variable {R:Type} {A:Ar} {n:Nat} {kk:AV→Heap→Option R} {tb:Nat→List Bool→St→Option R} (st:Stp (g58N A kk) tb)
include st
theorem g58_go {a:List Nat} {b:List Nat}:Prs (fun k=>funN A gtys (g58O A) g58an g58cut (bodyOf Try.f58) g58res [(aN .u64 4 a),(aN .u64 4 b)] [] kk (tb k)) (g58 A n kk a b):=by
  unfold g58
  exact pc (SxY06api _ (SxY06api _ (SxY06api _ (pf _) pn) pn) pn) (by kernel_rfl)
end
def g58is (o:Option AV):Bool:=match o with
 | some (aN .u64 4 _)=>true
 | _=>false
def g58g0 (o:Option AV):List Nat:=match o with
 | some (aN .u64 4 x)=>x
 | _=>[]
theorem g58is_spec {o:Option AV} (h:g58is o=true):o=some (aN .u64 4 (g58g0 o)):=by
  unfold g58is at h
  split at h
  · rfl
  · cases h
def g58v (A:Ar) (a b:List Nat):Option AV:=g58 A (100000) (fun v _=>some v) a b
def g58ok (A:Ar) (a b:List Nat):Bool:=g58is (g58v A a b)
def g58r0 (A:Ar) (a b:List Nat):List Nat:=g58g0 (g58v A a b)
theorem g58ok_spec {A:Ar} {a b} (h:g58ok A a b=true):g58v A a b=some (aN .u64 4 (g58r0 A a b)):=g58is_spec h
def g58o (A:Ar) (args:List AV):Option (Bool × AV):=match args with
 | [.v (.agg [.nums .u64 n0 a]),.v (.agg [.nums .u64 n1 b])]=>some (Nat.beq n0 4&&(Nat.beq n1 4&&(g58ok A a b)),.v (.agg [.nums .u64 4 (g58r0 A a b)]))
 | _=>none
theorem g58o_sound:∀ args v,g58o realA args=some (true,v)→Fn1 Try.prog 58 args v:=by
  intro args v h
  unfold g58o at h
  split at h
  · rename_i n0 a n1 b
    simp only [Option.some.injEq,Prod.mk.injEq] at h
    obtain ⟨hc,h⟩:=h
    subst h
    · skip
      simp only [Bool.and_eq_true] at hc
      have en0:=beq_true hc.1
      subst en0
      replace hc:=hc.2
      have en1:=beq_true hc.1
      subst en1
      replace hc:=hc.2
      exact fn1_ofG mixed gtysOK g58O_sound g58O_det (an:=g58an) (cut:=g58cut) Try.func58 (c:=bodyOf Try.f58) rfl (by kernel_rfl) Try.call58 (Nat.le_of_ble_eq_true rfl) (fun b=>rfl) (fun _=>(show g58v realA a b=_ from g58ok_spec hc)) fun _ st=>g58_go st
  · cases h
attribute [local irreducible] g58ok g58r0
def g34O (A:Ar):Orc:=orcOf [(55,g55o A),(56,g56o A)]
theorem g34O_sound:OSound Try.prog (g34O realA):=orc_sound fun f g hm args v hv=>by
  simp only [List.mem_cons,List.not_mem_nil,or_false,Prod.mk.injEq] at hm
  rcases hm with ⟨rfl,rfl⟩ | ⟨rfl,rfl⟩
  · exact g55o_sound _ _ hv
  · exact g56o_sound _ _ hv
theorem g34O_det:ODet (g34O realA):=orc_det _
def g34an:Ann:=[(0,([0],[])),(1,([1],[1000]))]
def g34res:List ResultVar:=[.tmp 2]
def g34cut:List Nat:=[]
noncomputable def g34N {R:Type} (A:Ar) (kk:AV→Heap→Option R) (t:List Bool→St→Option R) (p:List Bool) (s:St):Option R:=nodeN A gtys (g34O A) g34an g34cut t (bodyOf Try.f34) (finD gtys g34res kk) p s
def g34 {R:Type} (A:Ar) (n:Nat) (kk:AV→Heap→Option R) (a:List Nat):Option R :=
 match g55ok A a with
 | true=>match g56ok A (g55r0 A a) with
  | true=>kk (bO (A.nc .neq (A.nb .and .u64 ((g56r0 A (g55r0 A a)).getD 0 0) 1) 0)) [(1000,(bU 4 a 40))]
  | false=>none
 | false=>none
section
variable {R:Type} {A:Ar} {n:Nat} {kk:AV→Heap→Option R} {tb:Nat→List Bool→St→Option R} (st:Stp (g34N A kk) tb)
include st
theorem g34_go {a:List Nat}:Prs (fun k=>funN A gtys (g34O A) g34an g34cut (bodyOf Try.f34) g34res [(aN .u64 4 a)] [] kk (tb k)) (g34 A n kk a):=by
  unfold g34
  exact pc (SxY06api _ (SxY06api _ (pf _) pn) pn) (by kernel_rfl)
end
def g34is (o:Option AV):Bool:=match o with
 | some (.v (.cell (.bool _)))=>true
 | _=>false
def g34g0 (o:Option AV):Bool:=match o with
 | some (.v (.cell (.bool x)))=>x
 | _=>false
theorem g34is_spec {o:Option AV} (h:g34is o=true):o=some (.v (.cell (.bool (g34g0 o)))):=by
  unfold g34is at h
  split at h
  · rfl
  · cases h
def g34v (A:Ar) (a:List Nat):Option AV:=g34 A (100000) (fun v _=>some v) a
def g34ok (A:Ar) (a:List Nat):Bool:=g34is (g34v A a)
def g34r0 (A:Ar) (a:List Nat):Bool:=g34g0 (g34v A a)
theorem g34ok_spec {A:Ar} {a} (h:g34ok A a=true):g34v A a=some (.v (.cell (.bool (g34r0 A a)))):=g34is_spec h
def g34o (A:Ar) (args:List AV):Option (Bool × AV):=match args with
 | [.v (.agg [.nums .u64 n0 a])]=>some (Nat.beq n0 4&&(g34ok A a),.v (.cell (.bool (g34r0 A a))))
 | _=>none
theorem g34o_sound:∀ args v,g34o realA args=some (true,v)→Fn1 Try.prog 34 args v:=by
  intro args v h
  unfold g34o at h
  split at h
  · rename_i n0 a
    simp only [Option.some.injEq,Prod.mk.injEq] at h
    obtain ⟨hc,h⟩:=h
    subst h
    · skip
      simp only [Bool.and_eq_true] at hc
      have en0:=beq_true hc.1
      subst en0
      replace hc:=hc.2
      exact fn1_ofG mixed gtysOK g34O_sound g34O_det (an:=g34an) (cut:=g34cut) Try.func34 (c:=bodyOf Try.f34) rfl (by kernel_rfl) Try.call34 (Nat.le_of_ble_eq_true rfl) (fun b=>rfl) (fun _=>(show g34v realA a=_ from g34ok_spec hc)) fun _ st=>g34_go st
  · cases h
attribute [local irreducible] g34ok g34r0
def g51O (A:Ar):Orc:=orcOf [(41,g41o A),(58,g58o A),(55,g55o A),(56,g56o A),(31,g31o A),(42,g42o A),(34,g34o A)]
theorem g51O_sound:OSound Try.prog (g51O realA):=orc_sound fun f g hm args v hv=>by
  simp only [List.mem_cons,List.not_mem_nil,or_false,Prod.mk.injEq] at hm
  rcases hm with ⟨rfl,rfl⟩ | ⟨rfl,rfl⟩ | ⟨rfl,rfl⟩ | ⟨rfl,rfl⟩ | ⟨rfl,rfl⟩ | ⟨rfl,rfl⟩ | ⟨rfl,rfl⟩
  · exact g41o_sound _ _ hv
  · exact g58o_sound _ _ hv
  · exact g55o_sound _ _ hv
  · exact g56o_sound _ _ hv
  · exact g31o_sound _ _ hv
  · exact g42o_sound _ _ hv
  · exact g34o_sound _ _ hv
theorem g51O_det:ODet (g51O realA):=orc_det _
def g51an:Ann:=[(0,([0,1],[])),(1,([2,3,4],[1000,1001,1002])),(2,([2,3,4,6],[1000,1001,1002,2005])),(3,([2,3,4,6,7],[1000,1001,1002,2005,3005])),(4,([2,3,4,8],[1000,1001,1002,4009])),(5,([3,4,8,9],[1001,1002,4009,5003])),(6,([4],[1002])),(7,([4,8,9,36],[1002,4009,5003])),(8,([4,8,9,36],[1002,4009,5003])),(9,([4,8],[1002,4009])),(10,([4,8],[1002,4009])),(11,([4,8],[1002,4009])),(12,([4,8],[1002,4009]))]
def g51res:List ResultVar:=[.cell 4 40,.tmp 5]
def g51cut:List Nat:=[10]
noncomputable def g51N {R:Type} (A:Ar) (kk:AV→Heap→Option R) (t:List Bool→St→Option R) (p:List Bool) (s:St):Option R:=nodeN A gtys (g51O A) g51an g51cut t (bodyOf Try.f51) (finD gtys g51res kk) p s
def g51J10s (x0 x1:List Nat):St:=⟨[(4,(pT 1002 0)),(8,(pT 4009 0))],[(1002,(bU 4 x0 40)),(4009,(bU 4 x1 40))]⟩
def g51J10 {R:Type} (A:Ar) (n:Nat) (kk:AV→Heap→Option R)  (x0 x1:List Nat):Option R :=
 match g34ok A x1 with
 | true=>match g34r0 A x1 with
  | true=>match g31ok A x1 with
   | true=>kk (.tup [(.agg [.nums .u64 4 (g31r0 A x1)]),(.cell (.bool true))]) [(1002,(bU 4 (g31r0 A x1) 40)),(4009,(bU 4 (g31r0 A x1) 40))]
   | false=>none
  | false=>kk (.tup [(.agg [.nums .u64 4 x1]),(.cell (.bool true))]) [(1002,(bU 4 x1 40)),(4009,(bU 4 x1 40))]
 | false=>none
def g51 {R:Type} (A:Ar) (n:Nat) (kk:AV→Heap→Option R) (a b:List Nat):Option R :=
 match g41ok A b b with
 | true=>match g41ok A b (g41r0 A b b) with
  | true=>match g41ok A (g41r0 A b (g41r0 A b b)) (g41r0 A b (g41r0 A b b)) with
   | true=>match g41ok A b (g41r0 A (g41r0 A b (g41r0 A b b)) (g41r0 A b (g41r0 A b b))) with
    | true=>match g41ok A a (g41r0 A b (g41r0 A b b)) with
     | true=>match g41ok A a (g41r0 A b (g41r0 A (g41r0 A b (g41r0 A b b)) (g41r0 A b (g41r0 A b b)))) with
      | true=>match g58ok A (g41r0 A a (g41r0 A b (g41r0 A (g41r0 A b (g41r0 A b b)) (g41r0 A b (g41r0 A b b))))) (((([0,0,0,0].set 0 18446744073709551613).set 1 18446744073709551615).set 2 18446744073709551615).set 3 1152921504606846975) with
       | true=>match g41ok A (g41r0 A a (g41r0 A b (g41r0 A b b))) (g58r0 A (g41r0 A a (g41r0 A b (g41r0 A (g41r0 A b (g41r0 A b b)) (g41r0 A b (g41r0 A b b))))) (((([0,0,0,0].set 0 18446744073709551613).set 1 18446744073709551615).set 2 18446744073709551615).set 3 1152921504606846975)) with
        | true=>match g55ok A a with
         | true=>match g56ok A (g55r0 A a) with
          | true=>match g41ok A (g41r0 A (g41r0 A a (g41r0 A b (g41r0 A b b))) (g58r0 A (g41r0 A a (g41r0 A b (g41r0 A (g41r0 A b (g41r0 A b b)) (g41r0 A b (g41r0 A b b))))) (((([0,0,0,0].set 0 18446744073709551613).set 1 18446744073709551615).set 2 18446744073709551615).set 3 1152921504606846975))) (g41r0 A (g41r0 A a (g41r0 A b (g41r0 A b b))) (g58r0 A (g41r0 A a (g41r0 A b (g41r0 A (g41r0 A b (g41r0 A b b)) (g41r0 A b (g41r0 A b b))))) (((([0,0,0,0].set 0 18446744073709551613).set 1 18446744073709551615).set 2 18446744073709551615).set 3 1152921504606846975))) with
           | true=>match g41ok A b (g41r0 A (g41r0 A (g41r0 A a (g41r0 A b (g41r0 A b b))) (g58r0 A (g41r0 A a (g41r0 A b (g41r0 A (g41r0 A b (g41r0 A b b)) (g41r0 A b (g41r0 A b b))))) (((([0,0,0,0].set 0 18446744073709551613).set 1 18446744073709551615).set 2 18446744073709551615).set 3 1152921504606846975))) (g41r0 A (g41r0 A a (g41r0 A b (g41r0 A b b))) (g58r0 A (g41r0 A a (g41r0 A b (g41r0 A (g41r0 A b (g41r0 A b b)) (g41r0 A b (g41r0 A b b))))) (((([0,0,0,0].set 0 18446744073709551613).set 1 18446744073709551615).set 2 18446744073709551615).set 3 1152921504606846975)))) with
            | true=>match (A.lq (g41r0 A b (g41r0 A (g41r0 A (g41r0 A a (g41r0 A b (g41r0 A b b))) (g58r0 A (g41r0 A a (g41r0 A b (g41r0 A (g41r0 A b (g41r0 A b b)) (g41r0 A b (g41r0 A b b))))) (((([0,0,0,0].set 0 18446744073709551613).set 1 18446744073709551615).set 2 18446744073709551615).set 3 1152921504606846975))) (g41r0 A (g41r0 A a (g41r0 A b (g41r0 A b b))) (g58r0 A (g41r0 A a (g41r0 A b (g41r0 A (g41r0 A b (g41r0 A b b)) (g41r0 A b (g41r0 A b b))))) (((([0,0,0,0].set 0 18446744073709551613).set 1 18446744073709551615).set 2 18446744073709551615).set 3 1152921504606846975))))) (g56r0 A (g55r0 A a)))&&true with
             | true=>g51J10 A n kk  [0,0,0,0] (g41r0 A (g41r0 A a (g41r0 A b (g41r0 A b b))) (g58r0 A (g41r0 A a (g41r0 A b (g41r0 A (g41r0 A b (g41r0 A b b)) (g41r0 A b (g41r0 A b b))))) (((([0,0,0,0].set 0 18446744073709551613).set 1 18446744073709551615).set 2 18446744073709551615).set 3 1152921504606846975)))
             | false=>match g31ok A (g56r0 A (g55r0 A a)) with
              | true=>match (A.lq (g41r0 A b (g41r0 A (g41r0 A (g41r0 A a (g41r0 A b (g41r0 A b b))) (g58r0 A (g41r0 A a (g41r0 A b (g41r0 A (g41r0 A b (g41r0 A b b)) (g41r0 A b (g41r0 A b b))))) (((([0,0,0,0].set 0 18446744073709551613).set 1 18446744073709551615).set 2 18446744073709551615).set 3 1152921504606846975))) (g41r0 A (g41r0 A a (g41r0 A b (g41r0 A b b))) (g58r0 A (g41r0 A a (g41r0 A b (g41r0 A (g41r0 A b (g41r0 A b b)) (g41r0 A b (g41r0 A b b))))) (((([0,0,0,0].set 0 18446744073709551613).set 1 18446744073709551615).set 2 18446744073709551615).set 3 1152921504606846975))))) (g31r0 A (g56r0 A (g55r0 A a))))&&true with
               | true=>match g42ok A 2 with
                | true=>match g58ok A (g42r0 A 2) (((([0,0,0,0].set 0 18446744073709551611).set 1 18446744073709551615).set 2 18446744073709551615).set 3 2305843009213693951) with
                 | true=>match g41ok A (g41r0 A (g41r0 A a (g41r0 A b (g41r0 A b b))) (g58r0 A (g41r0 A a (g41r0 A b (g41r0 A (g41r0 A b (g41r0 A b b)) (g41r0 A b (g41r0 A b b))))) (((([0,0,0,0].set 0 18446744073709551613).set 1 18446744073709551615).set 2 18446744073709551615).set 3 1152921504606846975))) (g58r0 A (g42r0 A 2) (((([0,0,0,0].set 0 18446744073709551611).set 1 18446744073709551615).set 2 18446744073709551615).set 3 2305843009213693951)) with
                  | true=>g51J10 A n kk  [0,0,0,0] (g41r0 A (g41r0 A (g41r0 A a (g41r0 A b (g41r0 A b b))) (g58r0 A (g41r0 A a (g41r0 A b (g41r0 A (g41r0 A b (g41r0 A b b)) (g41r0 A b (g41r0 A b b))))) (((([0,0,0,0].set 0 18446744073709551613).set 1 18446744073709551615).set 2 18446744073709551615).set 3 1152921504606846975))) (g58r0 A (g42r0 A 2) (((([0,0,0,0].set 0 18446744073709551611).set 1 18446744073709551615).set 2 18446744073709551615).set 3 2305843009213693951)))
                  | false=>none
                 | false=>none
                | false=>none
               | false=>kk (.tup [(.agg [.nums .u64 4 [0,0,0,0]]),(.cell (.bool false))]) [(1002,(bU 4 [0,0,0,0] 40))]
              | false=>none
            | false=>none
           | false=>none
          | false=>none
         | false=>none
        | false=>none
       | false=>none
      | false=>none
     | false=>none
    | false=>none
   | false=>none
  | false=>none
 | false=>none
section
variable {R:Type} {A:Ar} {n:Nat} {kk:AV→Heap→Option R} {tb:Nat→List Bool→St→Option R} (st:Stp (g51N A kk) tb)
include st
theorem g51J10_go {x0:List Nat} {x1:List Nat}:Prs (fun k=>tb k (pth 127) (g51J10s x0 x1)) (g51J10 A n kk x0 x1):=by
  unfold g51J10
  exact st.g (pc (SxY06api _ (SxY06api _ (SxY06api _ (pf _) pn) (pf _)) pn) (by kernel_rfl))
theorem g51_go {a:List Nat} {b:List Nat}:Prs (fun k=>funN A gtys (g51O A) g51an g51cut (bodyOf Try.f51) g51res [(aN .u64 4 a),(aN .u64 4 b)] [] kk (tb k)) (g51 A n kk a b):=by
  unfold g51
  exact pc (SxY06api _ (SxY06api _ (SxY06api _ (SxY06api _ (SxY06api _ (SxY06api _ (SxY06api _ (SxY06api _ (SxY06api _ (SxY06api _ (SxY06api _ (SxY06api _ (SxY06api _ (g51J10_go st) (SxY06api _ (SxY06api _ (SxY06api _ (SxY06api _ (SxY06api _ (g51J10_go st) pn) pn) pn) (pf _)) pn)) pn) pn) pn) pn) pn) pn) pn) pn) pn) pn) pn) pn) (by kernel_rfl)
end
def g51is (o:Option AV):Bool:=match o with
 | some (.tup [.agg [.nums .u64 4 _],.cell (.bool _)])=>true
 | _=>false
def g51g0 (o:Option AV):List Nat:=match o with
 | some (.tup [.agg [.nums .u64 4 x],.cell (.bool _)])=>x
 | _=>[]
def g51g1 (o:Option AV):Bool:=match o with
 | some (.tup [.agg [.nums .u64 4 _],.cell (.bool x)])=>x
 | _=>false
theorem g51is_spec {o:Option AV} (h:g51is o=true):o=some (.tup [.agg [.nums .u64 4 (g51g0 o)],.cell (.bool (g51g1 o))]):=by
  unfold g51is at h
  split at h
  · rfl
  · cases h
def g51v (A:Ar) (a b:List Nat):Option AV:=g51 A (100000) (fun v _=>some v) a b
def g51ok (A:Ar) (a b:List Nat):Bool:=g51is (g51v A a b)
def g51r0 (A:Ar) (a b:List Nat):List Nat:=g51g0 (g51v A a b)
def g51r1 (A:Ar) (a b:List Nat):Bool:=g51g1 (g51v A a b)
theorem g51ok_spec {A:Ar} {a b} (h:g51ok A a b=true):g51v A a b=some (.tup [.agg [.nums .u64 4 (g51r0 A a b)],.cell (.bool (g51r1 A a b))]):=g51is_spec h
def g51o (A:Ar) (args:List AV):Option (Bool × AV):=match args with
 | [.v (.agg [.nums .u64 n0 a]),.v (.agg [.nums .u64 n1 b])]=>some (Nat.beq n0 4&&(Nat.beq n1 4&&(g51ok A a b)),.tup [.agg [.nums .u64 4 (g51r0 A a b)],.cell (.bool (g51r1 A a b))])
 | _=>none
theorem g51o_sound:∀ args v,g51o realA args=some (true,v)→Fn1 Try.prog 51 args v:=by
  intro args v h
  unfold g51o at h
  split at h
  · rename_i n0 a n1 b
    simp only [Option.some.injEq,Prod.mk.injEq] at h
    obtain ⟨hc,h⟩:=h
    subst h
    · skip
      simp only [Bool.and_eq_true] at hc
      have en0:=beq_true hc.1
      subst en0
      replace hc:=hc.2
      have en1:=beq_true hc.1
      subst en1
      replace hc:=hc.2
      exact fn1_ofG mixed gtysOK g51O_sound g51O_det (an:=g51an) (cut:=g51cut) Try.func51 (c:=bodyOf Try.f51) rfl (by kernel_rfl) Try.call51 (Nat.le_of_ble_eq_true rfl) (fun b=>rfl) (fun _=>(show g51v realA a b=_ from g51ok_spec hc)) fun _ st=>g51_go st
  · cases h
attribute [local irreducible] g51ok g51r0 g51r1
def g50O (A:Ar):Orc:=orcOf [(55,g55o A),(56,g56o A)]
theorem g50O_sound:OSound Try.prog (g50O realA):=orc_sound fun f g hm args v hv=>by
  simp only [List.mem_cons,List.not_mem_nil,or_false,Prod.mk.injEq] at hm
  rcases hm with ⟨rfl,rfl⟩ | ⟨rfl,rfl⟩
  · exact g55o_sound _ _ hv
  · exact g56o_sound _ _ hv
theorem g50O_det:ODet (g50O realA):=orc_det _
def g50an:Ann:=[(0,([0],[])),(1,([1],[1000]))]
def g50res:List ResultVar:=[.tmp 2]
def g50cut:List Nat:=[]
noncomputable def g50N {R:Type} (A:Ar) (kk:AV→Heap→Option R) (t:List Bool→St→Option R) (p:List Bool) (s:St):Option R:=nodeN A gtys (g50O A) g50an g50cut t (bodyOf Try.f50) (finD gtys g50res kk) p s
def g50 {R:Type} (A:Ar) (n:Nat) (kk:AV→Heap→Option R) (a:List Nat):Option R :=
 match g55ok A a with
 | true=>match g56ok A (g55r0 A a) with
  | true=>kk (bO ((A.lq (g56r0 A (g55r0 A a)) a)&&true)) [(1000,(bU 4 a 40))]
  | false=>none
 | false=>none
section
variable {R:Type} {A:Ar} {n:Nat} {kk:AV→Heap→Option R} {tb:Nat→List Bool→St→Option R} (st:Stp (g50N A kk) tb)
include st
theorem g50_go {a:List Nat}:Prs (fun k=>funN A gtys (g50O A) g50an g50cut (bodyOf Try.f50) g50res [(aN .u64 4 a)] [] kk (tb k)) (g50 A n kk a):=by
  unfold g50
  exact pc (SxY06api _ (SxY06api _ (pf _) pn) pn) (by kernel_rfl)
end
def g50is (o:Option AV):Bool:=match o with
 | some (.v (.cell (.bool _)))=>true
 | _=>false
def g50g0 (o:Option AV):Bool:=match o with
 | some (.v (.cell (.bool x)))=>x
 | _=>false
theorem g50is_spec {o:Option AV} (h:g50is o=true):o=some (.v (.cell (.bool (g50g0 o)))):=by
  unfold g50is at h
  split at h
  · rfl
  · cases h
def g50v (A:Ar) (a:List Nat):Option AV:=g50 A (100000) (fun v _=>some v) a
def g50ok (A:Ar) (a:List Nat):Bool:=g50is (g50v A a)
def g50r0 (A:Ar) (a:List Nat):Bool:=g50g0 (g50v A a)
theorem g50ok_spec {A:Ar} {a} (h:g50ok A a=true):g50v A a=some (.v (.cell (.bool (g50r0 A a)))):=g50is_spec h
def g50o (A:Ar) (args:List AV):Option (Bool × AV):=match args with
 | [.v (.agg [.nums .u64 n0 a])]=>some (Nat.beq n0 4&&(g50ok A a),.v (.cell (.bool (g50r0 A a))))
 | _=>none
theorem g50o_sound:∀ args v,g50o realA args=some (true,v)→Fn1 Try.prog 50 args v:=by
  intro args v h
  unfold g50o at h
  split at h
  · rename_i n0 a
    simp only [Option.some.injEq,Prod.mk.injEq] at h
    obtain ⟨hc,h⟩:=h
    subst h
    · skip
      simp only [Bool.and_eq_true] at hc
      have en0:=beq_true hc.1
      subst en0
      replace hc:=hc.2
      exact fn1_ofG mixed gtysOK g50O_sound g50O_det (an:=g50an) (cut:=g50cut) Try.func50 (c:=bodyOf Try.f50) rfl (by kernel_rfl) Try.call50 (Nat.le_of_ble_eq_true rfl) (fun b=>rfl) (fun _=>(show g50v realA a=_ from g50ok_spec hc)) fun _ st=>g50_go st
  · cases h
attribute [local irreducible] g50ok g50r0
end Go.Sx
