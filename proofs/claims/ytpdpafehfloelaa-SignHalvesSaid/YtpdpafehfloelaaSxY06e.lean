import Derived.Test.YtpdpafehfloelaaSxY06p
import Derived.Test.YtpdpafehfloelaaSxY06c
import Derived.Test.YtpdpafehfloelaaSxY06s
namespace Go.Sx
set_option linter.unusedSectionVars false
open Go.Proofs
set_option linter.unusedVariables false
set_option maxRecDepth 100000
theorem SxY06gpi {R:Type} (c:Bool) {f1 f2:Nat→Option R} {a1 a2:Option R} (h1:Prs f1 a1) (h2:Prs f2 a2):Prs (fun k=>match c with | true=>f1 k | false=>f2 k) (match c with | true=>a1 | false=>a2):=by cases c <;> assumption
attribute [local irreducible] g17ok g17r0 g17r1 g17r2 g18ok g18r0 g19ok g19r0 g19r1 g20ok g20r0 g20r1 g21ok g21r0 g21r1 g22ok g22r0 g22r1 g27ok g27r0 g15ok g15r0 g16ok g16r0 g24ok g24r0 g25ok g25r0 g25r1 g26ok g26r0 g26r1 g26r2 g26r3 g26r4 g26r5 g28ok g28r0 g28r1 g28r2 g28r3 g28r4 g28r5 g28r6 g23ok g23r0
def g14O (A:Ar):Orc:=orcOf [(21,g21o A),(20,g20o A),(18,g18o A)]
theorem g14O_sound:OSound Try.prog (g14O realA):=orc_sound fun f g hm args v hv=>by
  simp only [List.mem_cons,List.not_mem_nil,or_false,Prod.mk.injEq] at hm
  rcases hm with ⟨rfl,rfl⟩ | ⟨rfl,rfl⟩ | ⟨rfl,rfl⟩
  · exact g21o_sound _ _ hv
  · exact g20o_sound _ _ hv
  · exact g18o_sound _ _ hv
theorem g14O_det:ODet (g14O realA):=orc_det _
def g14an:Ann:=[(0,([0],[])),(1,([0],[])),(2,([3],[]))]
def g14res:List ResultVar:=[.tmp 2]
def g14cut:List Nat:=[]
noncomputable def g14N {R:Type} (A:Ar) (kk:AV→Heap→Option R) (t:List Bool→St→Option R) (p:List Bool) (s:St):Option R:=nodeN A gtys (g14O A) g14an g14cut t (bodyOf Try.f14) (finD gtys g14res kk) p s
def g14 {R:Type} (A:Ar) (n:Nat) (kk:AV→Heap→Option R) (a:List Nat):Option R :=
 match g21ok A with
 | true=>match g20ok A a (g21r0 A) (g21r1 A) with
  | true=>match g18ok A (g20r0 A a (g21r0 A) (g21r1 A)) (g20r1 A a (g21r0 A) (g21r1 A)) with
   | true=>kk (tS (g18r0 A (g20r0 A a (g21r0 A) (g21r1 A)) (g20r1 A a (g21r0 A) (g21r1 A)))) []
   | false=>none
  | false=>none
 | false=>none
section
variable {R:Type} {A:Ar} {n:Nat} {kk:AV→Heap→Option R} {tb:Nat→List Bool→St→Option R} (st:Stp (g14N A kk) tb)
include st
theorem g14_go {a:List Nat}:Prs (fun k=>funN A gtys (g14O A) g14an g14cut (bodyOf Try.f14) g14res [(tS a)] [] kk (tb k)) (g14 A n kk a):=by
  unfold g14
  exact pc (SxY06gpi _ (SxY06gpi _ (SxY06gpi _ (pf _) pn) pn) pn) (by kernel_rfl)
end
def g14is (o:Option AV):Bool:=match o with
 | some (.v (.cell (.str _)))=>true
 | _=>false
def g14g0 (o:Option AV):List Nat:=match o with
 | some (.v (.cell (.str x)))=>x
 | _=>[]
theorem g14is_spec {o:Option AV} (h:g14is o=true):o=some (.v (.cell (.str (g14g0 o)))):=by
  unfold g14is at h
  split at h
  · rfl
  · cases h
def g14v (A:Ar) (a:List Nat):Option AV:=g14 A (100000) (fun v _=>some v) a
def g14ok (A:Ar) (a:List Nat):Bool:=g14is (g14v A a)
def g14r0 (A:Ar) (a:List Nat):List Nat:=g14g0 (g14v A a)
theorem g14ok_spec {A:Ar} {a} (h:g14ok A a=true):g14v A a=some (.v (.cell (.str (g14r0 A a)))):=g14is_spec h
def g14o (A:Ar) (args:List AV):Option (Bool × AV):=match args with
 | [.v (.cell (.str a))]=>some (g14ok A a,.v (.cell (.str (g14r0 A a))))
 | _=>none
theorem g14o_sound:∀ args v,g14o realA args=some (true,v)→Fn1 Try.prog 14 args v:=by
  intro args v h
  unfold g14o at h
  split at h
  · rename_i a
    simp only [Option.some.injEq,Prod.mk.injEq] at h
    obtain ⟨hc,h⟩:=h
    subst h
    · skip
      exact fn1_ofG mixed gtysOK g14O_sound g14O_det (an:=g14an) (cut:=g14cut) Try.func14 (c:=bodyOf Try.f14) rfl (by kernel_rfl) Try.call14 (Nat.le_of_ble_eq_true rfl) (fun b=>rfl) (fun _=>(show g14v realA a=_ from g14ok_spec hc)) fun _ st=>g14_go st
  · cases h
attribute [local irreducible] g14ok g14r0
def g12O (A:Ar):Orc:=orcOf [(23,g23o A),(24,g24o A),(14,g14o A)]
theorem g12O_sound:OSound Try.prog (g12O realA):=orc_sound fun f g hm args v hv=>by
  simp only [List.mem_cons,List.not_mem_nil,or_false,Prod.mk.injEq] at hm
  rcases hm with ⟨rfl,rfl⟩ | ⟨rfl,rfl⟩ | ⟨rfl,rfl⟩
  · exact g23o_sound _ _ hv
  · exact g24o_sound _ _ hv
  · exact g14o_sound _ _ hv
theorem g12O_det:ODet (g12O realA):=orc_det _
def g12an:Ann:=[(0,([0],[])),(1,([0,2],[1000])),(2,([2],[1000])),(3,([0,2],[1000])),(4,([2,4],[1000])),(5,([2,4,5],[1000]))]
def g12res:List ResultVar:=[.cell 2 33,.tmp 3]
def g12cut:List Nat:=[3]
noncomputable def g12N {R:Type} (A:Ar) (kk:AV→Heap→Option R) (t:List Bool→St→Option R) (p:List Bool) (s:St):Option R:=nodeN A gtys (g12O A) g12an g12cut t (bodyOf Try.f12) (finD gtys g12res kk) p s
def g12J3s (x0 x1:List Nat) (x2 x3:List Nat):St:=⟨[(0,(tS x0)),(2,(pT 1000 0))],[(1000,⟨[.one (.str x1),.one (.str x2),.one (.str x3)],33,1⟩)]⟩
def g12J3 {R:Type} (A:Ar) (n:Nat) (kk:AV→Heap→Option R)  (x0 x1:List Nat) (x2 x3:List Nat):Option R :=
 match g23ok A x0 with
 | true=>match A.le 32 ((g23r0 A x0).length) with
  | true=>match g24ok A (((g23r0 A x0).take 32).drop 0) with
   | true=>match A.le 32 ((g23r0 A x0).length) with
    | true=>match g14ok A (g24r0 A (((g23r0 A x0).take 32).drop 0)) with
     | true=>kk (.tup [(.agg [.one (.str (g24r0 A (((g23r0 A x0).take 32).drop 0))),.one (.str (((g23r0 A x0).take ((g23r0 A x0).length)).drop 32)),.one (.str (g14r0 A (g24r0 A (((g23r0 A x0).take 32).drop 0))))]),(.cell (.bool true))]) [(1000,⟨[.one (.str (g24r0 A (((g23r0 A x0).take 32).drop 0))),.one (.str (((g23r0 A x0).take ((g23r0 A x0).length)).drop 32)),.one (.str (g14r0 A (g24r0 A (((g23r0 A x0).take 32).drop 0))))],33,1⟩)]
     | false=>none
    | false=>none
   | false=>none
  | false=>none
 | false=>none
def g12 {R:Type} (A:Ar) (n:Nat) (kk:AV→Heap→Option R) (a:List Nat):Option R :=
 match A.ic .neq (A.ofN a.length) 32 with
 | true=>kk (.tup [(.agg [.one (.str []),.one (.str []),.one (.str [])]),(.cell (.bool false))]) [(1000,⟨[.one (.str []),.one (.str []),.one (.str [])],33,1⟩)]
 | false=>g12J3 A n kk  a [] [] []
section
variable {R:Type} {A:Ar} {n:Nat} {kk:AV→Heap→Option R} {tb:Nat→List Bool→St→Option R} (st:Stp (g12N A kk) tb)
include st
theorem g12J3_go {x0:List Nat} {x1:List Nat} {x2:List Nat} {x3:List Nat}:Prs (fun k=>tb k (pth 7) (g12J3s x0 x1 x2 x3)) (g12J3 A n kk x0 x1 x2 x3):=by
  unfold g12J3
  exact st.g (pc (SxY06gpi _ (SxY06gpi _ (SxY06gpi _ (SxY06gpi _ (SxY06gpi _ (pf _) pn) pn) pn) pn) pn) (by kernel_rfl))
theorem g12_go {a:List Nat}:Prs (fun k=>funN A gtys (g12O A) g12an g12cut (bodyOf Try.f12) g12res [(tS a)] [] kk (tb k)) (g12 A n kk a):=by
  unfold g12
  exact pc (SxY06gpi _ (pf _) (g12J3_go st)) (by kernel_rfl)
end
def g12is (o:Option AV):Bool:=match o with
 | some (.tup [.agg [.one (.str _),.one (.str _),.one (.str _)],.cell (.bool _)])=>true
 | _=>false
def g12g0 (o:Option AV):List Nat:=match o with
 | some (.tup [.agg [.one (.str x),.one (.str _),.one (.str _)],.cell (.bool _)])=>x
 | _=>[]
def g12g1 (o:Option AV):List Nat:=match o with
 | some (.tup [.agg [.one (.str _),.one (.str x),.one (.str _)],.cell (.bool _)])=>x
 | _=>[]
def g12g2 (o:Option AV):List Nat:=match o with
 | some (.tup [.agg [.one (.str _),.one (.str _),.one (.str x)],.cell (.bool _)])=>x
 | _=>[]
def g12g3 (o:Option AV):Bool:=match o with
 | some (.tup [.agg [.one (.str _),.one (.str _),.one (.str _)],.cell (.bool x)])=>x
 | _=>false
theorem g12is_spec {o:Option AV} (h:g12is o=true):o=some (.tup [.agg [.one (.str (g12g0 o)),.one (.str (g12g1 o)),.one (.str (g12g2 o))],.cell (.bool (g12g3 o))]):=by
  unfold g12is at h
  split at h
  · rfl
  · cases h
def g12v (A:Ar) (a:List Nat):Option AV:=g12 A (100000) (fun v _=>some v) a
def g12ok (A:Ar) (a:List Nat):Bool:=g12is (g12v A a)
def g12r0 (A:Ar) (a:List Nat):List Nat:=g12g0 (g12v A a)
def g12r1 (A:Ar) (a:List Nat):List Nat:=g12g1 (g12v A a)
def g12r2 (A:Ar) (a:List Nat):List Nat:=g12g2 (g12v A a)
def g12r3 (A:Ar) (a:List Nat):Bool:=g12g3 (g12v A a)
theorem g12ok_spec {A:Ar} {a} (h:g12ok A a=true):g12v A a=some (.tup [.agg [.one (.str (g12r0 A a)),.one (.str (g12r1 A a)),.one (.str (g12r2 A a))],.cell (.bool (g12r3 A a))]):=g12is_spec h
def g12o (A:Ar) (args:List AV):Option (Bool × AV):=match args with
 | [.v (.cell (.str a))]=>some (g12ok A a,.tup [.agg [.one (.str (g12r0 A a)),.one (.str (g12r1 A a)),.one (.str (g12r2 A a))],.cell (.bool (g12r3 A a))])
 | _=>none
theorem g12o_sound:∀ args v,g12o realA args=some (true,v)→Fn1 Try.prog 12 args v:=by
  intro args v h
  unfold g12o at h
  split at h
  · rename_i a
    simp only [Option.some.injEq,Prod.mk.injEq] at h
    obtain ⟨hc,h⟩:=h
    subst h
    · skip
      exact fn1_ofG mixed gtysOK g12O_sound g12O_det (an:=g12an) (cut:=g12cut) Try.func12 (c:=bodyOf Try.f12) rfl (by kernel_rfl) Try.call12 (Nat.le_of_ble_eq_true rfl) (fun b=>rfl) (fun _=>(show g12v realA a=_ from g12ok_spec hc)) fun _ st=>g12_go st
  · cases h
attribute [local irreducible] g12ok g12r0 g12r1 g12r2 g12r3
def g8O (A:Ar):Orc:=orcOf [(12,g12o A)]
theorem g8O_sound:OSound Try.prog (g8O realA):=orc_sound fun f g hm args v hv=>by
  simp only [List.mem_cons,List.not_mem_nil,or_false,Prod.mk.injEq] at hm
  rcases hm with ⟨rfl,rfl⟩
  · exact g12o_sound _ _ hv
theorem g8O_det:ODet (g8O realA):=orc_det _
def g8an:Ann:=[(0,([0],[])),(1,([0],[])),(2,([4,5],[2005]))]
def g8res:List ResultVar:=[.tmp 2,.tmp 3]
def g8cut:List Nat:=[]
noncomputable def g8N {R:Type} (A:Ar) (kk:AV→Heap→Option R) (t:List Bool→St→Option R) (p:List Bool) (s:St):Option R:=nodeN A gtys (g8O A) g8an g8cut t (bodyOf Try.f8) (finD gtys g8res kk) p s
def g8 {R:Type} (A:Ar) (n:Nat) (kk:AV→Heap→Option R) (a:List Nat):Option R :=
 match g12ok A a with
 | true=>kk (.tup [(.cell (.str (g12r2 A a))),(.cell (.bool (g12r3 A a)))]) [(2005,⟨[.one (.str (g12r0 A a)),.one (.str (g12r1 A a)),.one (.str (g12r2 A a))],33,1⟩)]
 | false=>none
section
variable {R:Type} {A:Ar} {n:Nat} {kk:AV→Heap→Option R} {tb:Nat→List Bool→St→Option R} (st:Stp (g8N A kk) tb)
include st
theorem g8_go {a:List Nat}:Prs (fun k=>funN A gtys (g8O A) g8an g8cut (bodyOf Try.f8) g8res [(tS a)] [] kk (tb k)) (g8 A n kk a):=by
  unfold g8
  exact pc (SxY06gpi _ (pf _) pn) (by kernel_rfl)
end
def g8is (o:Option AV):Bool:=match o with
 | some (.tup [.cell (.str _),.cell (.bool _)])=>true
 | _=>false
def g8g0 (o:Option AV):List Nat:=match o with
 | some (.tup [.cell (.str x),.cell (.bool _)])=>x
 | _=>[]
def g8g1 (o:Option AV):Bool:=match o with
 | some (.tup [.cell (.str _),.cell (.bool x)])=>x
 | _=>false
theorem g8is_spec {o:Option AV} (h:g8is o=true):o=some (.tup [.cell (.str (g8g0 o)),.cell (.bool (g8g1 o))]):=by
  unfold g8is at h
  split at h
  · rfl
  · cases h
def g8v (A:Ar) (a:List Nat):Option AV:=g8 A (100000) (fun v _=>some v) a
def g8ok (A:Ar) (a:List Nat):Bool:=g8is (g8v A a)
def g8r0 (A:Ar) (a:List Nat):List Nat:=g8g0 (g8v A a)
def g8r1 (A:Ar) (a:List Nat):Bool:=g8g1 (g8v A a)
theorem g8ok_spec {A:Ar} {a} (h:g8ok A a=true):g8v A a=some (.tup [.cell (.str (g8r0 A a)),.cell (.bool (g8r1 A a))]):=g8is_spec h
def g8o (A:Ar) (args:List AV):Option (Bool × AV):=match args with
 | [.v (.cell (.str a))]=>some (g8ok A a,.tup [.cell (.str (g8r0 A a)),.cell (.bool (g8r1 A a))])
 | _=>none
theorem g8o_sound:∀ args v,g8o realA args=some (true,v)→Fn1 Try.prog 8 args v:=by
  intro args v h
  unfold g8o at h
  split at h
  · rename_i a
    simp only [Option.some.injEq,Prod.mk.injEq] at h
    obtain ⟨hc,h⟩:=h
    subst h
    · skip
      exact fn1_ofG mixed gtysOK g8O_sound g8O_det (an:=g8an) (cut:=g8cut) Try.func8 (c:=bodyOf Try.f8) rfl (by kernel_rfl) Try.call8 (Nat.le_of_ble_eq_true rfl) (fun b=>rfl) (fun _=>(show g8v realA a=_ from g8ok_spec hc)) fun _ st=>g8_go st
  · cases h
attribute [local irreducible] g8ok g8r0 g8r1
def g13O (A:Ar):Orc:=orcN [(25,(1,1,⟨[.nums .u8 0 []],5,2⟩))] (orcH [(27,g27o A)] [(25,⟨[],none,(g25o A)⟩),(26,⟨[0,1],(some (0,1,1,⟨[.nums .u8 0 []],5,2⟩)),(hoN [501,600] (ho2 (g26o A) (g26a_o A)))⟩),(28,⟨[],none,(hoN [1] (g28o A))⟩)])
theorem g13O_sound:OSound Try.prog (g13O realA):=orcN_sound <| orcH_sound (fun f g hm args v hv=>by
    simp only [List.mem_cons,List.not_mem_nil,or_false,Prod.mk.injEq] at hm
    rcases hm with ⟨rfl,rfl⟩
    · exact g27o_sound _ _ hv) (fun f e hm args h v h' hv=>by
    simp only [List.mem_cons,List.not_mem_nil,or_false,Prod.mk.injEq] at hm
    rcases hm with ⟨rfl,rfl⟩ | ⟨rfl,rfl⟩ | ⟨rfl,rfl⟩
    · exact g25o_sound _ _ _ _ hv
    · exact (hoN_sound (ho2_sound g26o_sound g26a_o_sound)) _ _ _ _ hv
    · exact (hoN_sound g28o_sound) _ _ _ _ hv)
theorem g13O_det:ODet (g13O realA):=orcN_det <| orcH_det _ _
def g13an:Ann:=[(0,([0],[0])),(1,([0],[0])),(2,([0,3],[0,2000,2500])),(3,([3,7,8,9],[0,2000,2500])),(4,([3,7,8,9],[0,2000,2500])),(5,([3,5,7,8,9],[0,2000,2500])),(6,([3,7,8,9],[0,2000,2500])),(7,([3],[0,2000,2500]))]
def g13res:List ResultVar:=[.tmp 2]
def g13cut:List Nat:=[4]
noncomputable def g13N {R:Type} (A:Ar) (kk:AV→Heap→Option R) (t:List Bool→St→Option R) (p:List Bool) (s:St):Option R:=nodeN A gtys (g13O A) g13an g13cut t (bodyOf Try.f13) (finD gtys g13res kk) p s
def g13J4as (x0:Nat) (x1 x2:Int) (x3:Nat) (x4:List (List Nat)) (x5:List Nat) (x6 x7:Nat) (x8:Int) (x9:Nat) (x10:List Nat):St:=⟨[(3,(pT 2000 0)),(7,(sL 0 none x0 1)),(8,(i6 x1)),(9,(i6 x2))],[(0,⟨[.strs x3 x4],9,2⟩),(2000,⟨[.nums .u64 88 x5,.one (.sl 2500 (some x6) x7 1),.one (.int .i64 x8)],76,1⟩),(2500,⟨[.nums .u8 x9 x10],5,2⟩)]⟩
def g13J4a {R:Type} (A:Ar) (n:Nat) (kk:AV→Heap→Option R) (lg13L3a:Nat→Int→Int→Nat→List (List Nat)→List Nat→Nat→Nat→Int→Nat→List Nat→Option R) (x0:Nat) (x1 x2:Int) (x3:Nat) (x4:List (List Nat)) (x5:List Nat) (x6 x7:Nat) (x8:Int) (x9:Nat) (x10:List Nat):Option R :=
 match A.neg x2 with
 | true=>none
 | false=>match A.lt (A.toN x2) x0 with
  | true=>match g26ok A (x4.getD (A.toN x2) []) x5 x6 x7 x8 x9 x10 with
   | true=>lg13L3a x0 x1 (A.ib .add .i64 x2 1) x3 x4 (g26r0 A (x4.getD (A.toN x2) []) x5 x6 x7 x8 x9 x10) (g26r1 A (x4.getD (A.toN x2) []) x5 x6 x7 x8 x9 x10) (g26r2 A (x4.getD (A.toN x2) []) x5 x6 x7 x8 x9 x10) (g26r3 A (x4.getD (A.toN x2) []) x5 x6 x7 x8 x9 x10) (g26r4 A (x4.getD (A.toN x2) []) x5 x6 x7 x8 x9 x10) (g26r5 A (x4.getD (A.toN x2) []) x5 x6 x7 x8 x9 x10)
   | false=>none
  | false=>none
def g13L3as (x0:Nat) (x1 x2:Int) (x3:Nat) (x4:List (List Nat)) (x5:List Nat) (x6 x7:Nat) (x8:Int) (x9:Nat) (x10:List Nat):St:=⟨[(3,(pT 2000 0)),(7,(sL 0 none x0 1)),(8,(i6 x1)),(9,(i6 x2))],[(0,⟨[.strs x3 x4],9,2⟩),(2000,⟨[.nums .u64 88 x5,.one (.sl 2500 (some x6) x7 1),.one (.int .i64 x8)],76,1⟩),(2500,⟨[.nums .u8 x9 x10],5,2⟩)]⟩
def g13L3a {R:Type} (A:Ar) (n:Nat) (kk:AV→Heap→Option R)  : Nat→Nat→Int→Int→Nat→List (List Nat)→List Nat→Nat→Nat→Int→Nat→List Nat→Option R
 | 0,_,_,_,_,_,_,_,_,_,_,_=>none
 | m+1,x0,x1,x2,x3,x4,x5,x6,x7,x8,x9,x10=>match A.ic .lss x2 x1 with
 | true=>g13J4a A n kk (g13L3a A n kk  m) x0 x1 x2 x3 x4 x5 x6 x7 x8 x9 x10
 | false=>match g28ok A x5 x6 x7 x8 x9 x10 with
  | true=>match g27ok A (g28r0 A x5 x6 x7 x8 x9 x10) with
   | true=>kk (tS (g27r0 A (g28r0 A x5 x6 x7 x8 x9 x10))) [(0,⟨[.strs x3 x4],9,2⟩),(2000,⟨[.nums .u64 88 (g28r1 A x5 x6 x7 x8 x9 x10),.one (.sl 2500 (some (g28r2 A x5 x6 x7 x8 x9 x10)) (g28r3 A x5 x6 x7 x8 x9 x10) 1),.one (.int .i64 (g28r4 A x5 x6 x7 x8 x9 x10))],76,1⟩),(2500,⟨[.nums .u8 (g28r5 A x5 x6 x7 x8 x9 x10) (g28r6 A x5 x6 x7 x8 x9 x10)],5,2⟩)]
   | false=>none
  | false=>none
def g13J4s (x0:Nat) (x1 x2:Int) (x3:Nat) (x4:List (List Nat)) (x5:List Nat) (x6:Nat) (x7:Int) (x8:Nat) (x9:List Nat):St:=⟨[(3,(pT 2000 0)),(7,(sL 0 none x0 1)),(8,(i6 x1)),(9,(i6 x2))],[(0,⟨[.strs x3 x4],9,2⟩),(2000,⟨[.nums .u64 88 x5,.one (.sl 2500 none x6 1),.one (.int .i64 x7)],76,1⟩),(2500,⟨[.nums .u8 x8 x9],5,2⟩)]⟩
def g13J4 {R:Type} (A:Ar) (n:Nat) (kk:AV→Heap→Option R) (lg13L3a:Nat→Int→Int→Nat→List (List Nat)→List Nat→Nat→Nat→Int→Nat→List Nat→Option R) (x0:Nat) (x1 x2:Int) (x3:Nat) (x4:List (List Nat)) (x5:List Nat) (x6:Nat) (x7:Int) (x8:Nat) (x9:List Nat):Option R :=
 match A.neg x2 with
 | true=>none
 | false=>match A.lt (A.toN x2) x0 with
  | true=>match g26ok A (x4.getD (A.toN x2) []) x5 0 x6 x7 x8 x9 with
   | true=>lg13L3a x0 x1 (A.ib .add .i64 x2 1) x3 x4 (g26r0 A (x4.getD (A.toN x2) []) x5 0 x6 x7 x8 x9) (g26r1 A (x4.getD (A.toN x2) []) x5 0 x6 x7 x8 x9) (g26r2 A (x4.getD (A.toN x2) []) x5 0 x6 x7 x8 x9) (g26r3 A (x4.getD (A.toN x2) []) x5 0 x6 x7 x8 x9) (g26r4 A (x4.getD (A.toN x2) []) x5 0 x6 x7 x8 x9) (g26r5 A (x4.getD (A.toN x2) []) x5 0 x6 x7 x8 x9)
   | false=>none
  | false=>none
def g13L3s (x0:Nat) (x1 x2:Int) (x3:Nat) (x4:List (List Nat)) (x5:List Nat) (x6:Nat) (x7:Int) (x8:Nat) (x9:List Nat):St:=⟨[(3,(pT 2000 0)),(7,(sL 0 none x0 1)),(8,(i6 x1)),(9,(i6 x2))],[(0,⟨[.strs x3 x4],9,2⟩),(2000,⟨[.nums .u64 88 x5,.one (.sl 2500 none x6 1),.one (.int .i64 x7)],76,1⟩),(2500,⟨[.nums .u8 x8 x9],5,2⟩)]⟩
def g13L3 {R:Type} (A:Ar) (n:Nat) (kk:AV→Heap→Option R)  : Nat→Nat→Int→Int→Nat→List (List Nat)→List Nat→Nat→Int→Nat→List Nat→Option R
 | 0,_,_,_,_,_,_,_,_,_,_=>none
 | m+1,x0,x1,x2,x3,x4,x5,x6,x7,x8,x9=>match A.ic .lss x2 x1 with
 | true=>g13J4 A n kk (g13L3a A n kk  m) x0 x1 x2 x3 x4 x5 x6 x7 x8 x9
 | false=>match g28ok A x5 0 x6 x7 x8 x9 with
  | true=>match g27ok A (g28r0 A x5 0 x6 x7 x8 x9) with
   | true=>kk (tS (g27r0 A (g28r0 A x5 0 x6 x7 x8 x9))) [(0,⟨[.strs x3 x4],9,2⟩),(2000,⟨[.nums .u64 88 (g28r1 A x5 0 x6 x7 x8 x9),.one (.sl 2500 (some (g28r2 A x5 0 x6 x7 x8 x9)) (g28r3 A x5 0 x6 x7 x8 x9) 1),.one (.int .i64 (g28r4 A x5 0 x6 x7 x8 x9))],76,1⟩),(2500,⟨[.nums .u8 (g28r5 A x5 0 x6 x7 x8 x9) (g28r6 A x5 0 x6 x7 x8 x9)],5,2⟩)]
   | false=>none
  | false=>none
def g13 {R:Type} (A:Ar) (n:Nat) (kk:AV→Heap→Option R) (x0 x1:Nat) (x2:List (List Nat)):Option R :=
 match g25ok A with
 | true=>g13L3 A n kk  n x0 (A.ofN x0) 0 x1 x2 (g25r0 A) 0 (g25r1 A) 0 []
 | false=>none
section
variable {R:Type} {A:Ar} {n:Nat} {kk:AV→Heap→Option R} {tb:Nat→List Bool→St→Option R} (st:Stp (g13N A kk) tb)
include st
theorem g13J4a_go {lg13L3a:Nat→Int→Int→Nat→List (List Nat)→List Nat→Nat→Nat→Int→Nat→List Nat→Option R} (hg13L3a:∀ (x0:Nat) (x1 x2:Int) (x3:Nat) (x4:List (List Nat)) (x5:List Nat) (x6 x7:Nat) (x8:Int) (x9:Nat) (x10:List Nat),Prs (fun k=>tb k (pth 116) (g13L3as x0 x1 x2 x3 x4 x5 x6 x7 x8 x9 x10)) (lg13L3a x0 x1 x2 x3 x4 x5 x6 x7 x8 x9 x10)) {x0:Nat} {x1:Int} {x2:Int} {x3:Nat} {x4:List (List Nat)} {x5:List Nat} {x6:Nat} {x7:Nat} {x8:Int} {x9:Nat} {x10:List Nat}:Prs (fun k=>tb k (pth 467) (g13J4as x0 x1 x2 x3 x4 x5 x6 x7 x8 x9 x10)) (g13J4a A n kk lg13L3a x0 x1 x2 x3 x4 x5 x6 x7 x8 x9 x10):=by
  unfold g13J4a
  exact st.g (pc (SxY06gpi _ pn (SxY06gpi _ (SxY06gpi _ (hg13L3a _ _ _ _ _ _ _ _ _ _ _) pn) pn)) (by kernel_rfl))
theorem g13L3a_go (m:Nat):∀ (x0:Nat) (x1 x2:Int) (x3:Nat) (x4:List (List Nat)) (x5:List Nat) (x6 x7:Nat) (x8:Int) (x9:Nat) (x10:List Nat),Prs (fun k=>tb k (pth 116) (g13L3as x0 x1 x2 x3 x4 x5 x6 x7 x8 x9 x10)) (g13L3a A n kk m x0 x1 x2 x3 x4 x5 x6 x7 x8 x9 x10):=by
  induction m with
  | zero=>intro x0 x1 x2 x3 x4 x5 x6 x7 x8 x9 x10; exact pn0
  | succ m ih =>
    intro x0 x1 x2 x3 x4 x5 x6 x7 x8 x9 x10; rw [g13L3a]
    exact st.g (pc (SxY06gpi _ (g13J4a_go st ih) (SxY06gpi _ (SxY06gpi _ (pf _) pn) pn)) (by kernel_rfl))
theorem g13J4_go {lg13L3a:Nat→Int→Int→Nat→List (List Nat)→List Nat→Nat→Nat→Int→Nat→List Nat→Option R} (hg13L3a:∀ (x0:Nat) (x1 x2:Int) (x3:Nat) (x4:List (List Nat)) (x5:List Nat) (x6 x7:Nat) (x8:Int) (x9:Nat) (x10:List Nat),Prs (fun k=>tb k (pth 116) (g13L3as x0 x1 x2 x3 x4 x5 x6 x7 x8 x9 x10)) (lg13L3a x0 x1 x2 x3 x4 x5 x6 x7 x8 x9 x10)) {x0:Nat} {x1:Int} {x2:Int} {x3:Nat} {x4:List (List Nat)} {x5:List Nat} {x6:Nat} {x7:Int} {x8:Nat} {x9:List Nat}:Prs (fun k=>tb k (pth 467) (g13J4s x0 x1 x2 x3 x4 x5 x6 x7 x8 x9)) (g13J4 A n kk lg13L3a x0 x1 x2 x3 x4 x5 x6 x7 x8 x9):=by
  unfold g13J4
  exact st.g (pc (SxY06gpi _ pn (SxY06gpi _ (SxY06gpi _ (hg13L3a _ _ _ _ _ _ _ _ _ _ _) pn) pn)) (by kernel_rfl))
theorem g13L3_go (m:Nat):∀ (x0:Nat) (x1 x2:Int) (x3:Nat) (x4:List (List Nat)) (x5:List Nat) (x6:Nat) (x7:Int) (x8:Nat) (x9:List Nat),Prs (fun k=>tb k (pth 116) (g13L3s x0 x1 x2 x3 x4 x5 x6 x7 x8 x9)) (g13L3 A n kk m x0 x1 x2 x3 x4 x5 x6 x7 x8 x9):=by
  induction m with
  | zero=>intro x0 x1 x2 x3 x4 x5 x6 x7 x8 x9; exact pn0
  | succ m ih =>
    intro x0 x1 x2 x3 x4 x5 x6 x7 x8 x9; rw [g13L3]
    exact st.g (pc (SxY06gpi _ (g13J4_go st (g13L3a_go st m)) (SxY06gpi _ (SxY06gpi _ (pf _) pn) pn)) (by kernel_rfl))
theorem g13_go {x0:Nat} {x1:Nat} {x2:List (List Nat)}:Prs (fun k=>funN A gtys (g13O A) g13an g13cut (bodyOf Try.f13) g13res [(sL 0 none x0 1)] [(0,⟨[.strs x1 x2],9,2⟩)] kk (tb k)) (g13 A n kk x0 x1 x2):=by
  unfold g13
  exact pc (SxY06gpi _ (g13L3_go st n _ _ _ _ _ _ _ _ _ _) pn) (by kernel_rfl)
end
def g13is (o:Option (AV × Heap)):Bool:=match o with
 | some (.v (.cell (.str _)),[(n0,⟨[.strs _ _],n1,n2⟩)])=>Nat.beq n0 0&&(Nat.beq n1 9&&(Nat.beq n2 2))
 | _=>false
def g13g0 (o:Option (AV × Heap)):List Nat:=match o with
 | some (.v (.cell (.str x)),[(_,⟨[.strs _ _],_,_⟩)])=>x
 | _=>[]
def g13g1 (o:Option (AV × Heap)):Nat:=match o with
 | some (.v (.cell (.str _)),[(_,⟨[.strs x _],_,_⟩)])=>x
 | _=>0
def g13g2 (o:Option (AV × Heap)):List (List Nat):=match o with
 | some (.v (.cell (.str _)),[(_,⟨[.strs _ x],_,_⟩)])=>x
 | _=>[]
theorem g13is_spec {o:Option (AV × Heap)} (h:g13is o=true):o=some ((tS (g13g0 o)),[(0,⟨[.strs (g13g1 o) (g13g2 o)],9,2⟩)]):=by
  unfold g13is at h
  split at h
  · rename_i z0 n0 z2 z3 n1 n2
    simp only [Bool.and_eq_true] at h
    have en0:=beq_true h.1
    subst en0
    replace h:=h.2
    have en1:=beq_true h.1
    subst en1
    replace h:=h.2
    have en2:=beq_true h
    subst en2
    rfl
  · cases h
def g13v (A:Ar) (x0 x1:Nat) (x2:List (List Nat)):Option (AV × Heap):=g13 A (100000) (outH [0] none) x0 x1 x2
def g13ok (A:Ar) (x0 x1:Nat) (x2:List (List Nat)):Bool:=g13is (g13v A x0 x1 x2)
def g13r0 (A:Ar) (x0 x1:Nat) (x2:List (List Nat)):List Nat:=g13g0 (g13v A x0 x1 x2)
def g13r1 (A:Ar) (x0 x1:Nat) (x2:List (List Nat)):Nat:=g13g1 (g13v A x0 x1 x2)
def g13r2 (A:Ar) (x0 x1:Nat) (x2:List (List Nat)):List (List Nat):=g13g2 (g13v A x0 x1 x2)
theorem g13ok_spec {A:Ar} {x0 x1 x2} (h:g13ok A x0 x1 x2=true):g13v A x0 x1 x2=some ((tS (g13r0 A x0 x1 x2)),[(0,⟨[.strs (g13r1 A x0 x1 x2) (g13r2 A x0 x1 x2)],9,2⟩)]):=g13is_spec h
def g13o (A:Ar) (args:List AV) (h:Heap):Option (Bool × AV × Heap):=match args,h with
 | [.v (.cell (.sl n0 none x0 n1))],[(n2,⟨[.strs x1 x2],n3,n4⟩)]=>match Nat.beq n0 0&&(Nat.beq n1 1&&(Nat.beq n2 0&&(Nat.beq n3 9&&(Nat.beq n4 2)))) with
  | true=>some (g13ok A x0 x1 x2,(tS (g13r0 A x0 x1 x2)),[(0,⟨[.strs (g13r1 A x0 x1 x2) (g13r2 A x0 x1 x2)],9,2⟩)])
  | false=>none
 | _,_=>none
theorem g13o_sound:∀ args h v h',g13o realA args h=some (true,v,h')→FnH Try.prog 13 args h v h':=by
  intro args h v h' hh
  unfold g13o at hh
  split at hh
  · rename_i n0 x0 n1 n2 x1 x2 n3 n4
    split at hh
    case h_2=>cases hh
    rename_i hc0
    simp only [Option.some.injEq,Prod.mk.injEq] at hh
    obtain ⟨hc,hv,hh⟩:=hh
    subst hv
    subst hh
    simp only [Bool.and_eq_true] at hc0
    have en0:=beq_true hc0.1
    subst en0
    replace hc0:=hc0.2
    have en1:=beq_true hc0.1
    subst en1
    replace hc0:=hc0.2
    have en2:=beq_true hc0.1
    subst en2
    replace hc0:=hc0.2
    have en3:=beq_true hc0.1
    subst en3
    replace hc0:=hc0.2
    have en4:=beq_true hc0
    subst en4
    exact fnh_ofG mixed gtysOK g13O_sound g13O_det (an:=g13an) (cut:=g13cut) Try.func13 (c:=bodyOf Try.f13) rfl (by kernel_rfl) Try.call13 (Nat.le_of_ble_eq_true rfl) (pins:=[0]) (nilr:=none) (fun _=>(show g13v realA x0 x1 x2=_ from g13ok_spec hc)) fun _ st=>g13_go st
  · cases hh
attribute [local irreducible] g13ok g13r0 g13r1 g13r2
def g9O (A:Ar):Orc:=orcH [(12,g12o A),(14,g14o A),(15,g15o A)] [(13,⟨[],none,(g13o A)⟩)]
theorem g9O_sound:OSound Try.prog (g9O realA):=orcH_sound (fun f g hm args v hv=>by
    simp only [List.mem_cons,List.not_mem_nil,or_false,Prod.mk.injEq] at hm
    rcases hm with ⟨rfl,rfl⟩ | ⟨rfl,rfl⟩ | ⟨rfl,rfl⟩
    · exact g12o_sound _ _ hv
    · exact g14o_sound _ _ hv
    · exact g15o_sound _ _ hv) (fun f e hm args h v h' hv=>by
    simp only [List.mem_cons,List.not_mem_nil,or_false,Prod.mk.injEq] at hm
    rcases hm with ⟨rfl,rfl⟩
    · exact g13o_sound _ _ _ _ hv)
theorem g9O_det:ODet (g9O realA):=orcH_det _ _
def g9an:Ann:=[(0,([0,1],[])),(1,([0,1],[])),(2,([1,6,7],[2005])),(3,([],[])),(4,([1,6],[2005])),(5,([1,6,8],[2005])),(6,([1,6,8,9],[2005]))]
def g9res:List ResultVar:=[.tmp 4,.tmp 5]
def g9cut:List Nat:=[4]
noncomputable def g9N {R:Type} (A:Ar) (kk:AV→Heap→Option R) (t:List Bool→St→Option R) (p:List Bool) (s:St):Option R:=nodeN A gtys (g9O A) g9an g9cut t (bodyOf Try.f9) (finD gtys g9res kk) p s
def g9J4s (x0 x1:List Nat) (x2 x3:List Nat):St:=⟨[(1,(tS x0)),(6,(pT 2005 0))],[(2005,⟨[.one (.str x1),.one (.str x2),.one (.str x3)],33,1⟩)]⟩
def g9J4 {R:Type} (A:Ar) (n:Nat) (kk:AV→Heap→Option R)  (x0 x1:List Nat) (x2 x3:List Nat):Option R :=
 match g13ok A 2 2 [x2,x0] with
 | true=>match g14ok A (g13r0 A 2 2 [x2,x0]) with
  | true=>match g13ok A 3 3 [g14r0 A (g13r0 A 2 2 [x2,x0]),x3,x0] with
   | true=>match g15ok A (g13r0 A 3 3 [g14r0 A (g13r0 A 2 2 [x2,x0]),x3,x0]) x1 (g13r0 A 2 2 [x2,x0]) with
    | true=>match A.le ((g14r0 A (g13r0 A 2 2 [x2,x0])).length+(g15r0 A (g13r0 A 3 3 [g14r0 A (g13r0 A 2 2 [x2,x0]),x3,x0]) x1 (g13r0 A 2 2 [x2,x0])).length) 9223372036854775807 with
     | true=>kk (.tup [(.cell (.str ((g14r0 A (g13r0 A 2 2 [x2,x0]))++(g15r0 A (g13r0 A 3 3 [g14r0 A (g13r0 A 2 2 [x2,x0]),x3,x0]) x1 (g13r0 A 2 2 [x2,x0]))))),(.cell (.bool true))]) [(2005,⟨[.one (.str x1),.one (.str x2),.one (.str x3)],33,1⟩),(7005,⟨[.strs (g13r1 A 3 3 [g14r0 A (g13r0 A 2 2 [x2,x0]),x3,x0]) (g13r2 A 3 3 [g14r0 A (g13r0 A 2 2 [x2,x0]),x3,x0])],9,2⟩)]
     | false=>none
    | false=>none
   | false=>none
  | false=>none
 | false=>none
def g9 {R:Type} (A:Ar) (n:Nat) (kk:AV→Heap→Option R) (a b:List Nat):Option R :=
 match g12ok A a with
 | true=>match !(g12r3 A a) with
  | true=>kk (.tup [(.cell (.str [])),(.cell (.bool false))]) []
  | false=>g9J4 A n kk  b (g12r0 A a) (g12r1 A a) (g12r2 A a)
 | false=>none
section
variable {R:Type} {A:Ar} {n:Nat} {kk:AV→Heap→Option R} {tb:Nat→List Bool→St→Option R} (st:Stp (g9N A kk) tb)
include st
theorem g9J4_go {x0:List Nat} {x1:List Nat} {x2:List Nat} {x3:List Nat}:Prs (fun k=>tb k (pth 15) (g9J4s x0 x1 x2 x3)) (g9J4 A n kk x0 x1 x2 x3):=by
  unfold g9J4
  exact st.g (pc (SxY06gpi _ (SxY06gpi _ (SxY06gpi _ (SxY06gpi _ (SxY06gpi _ (pf _) pn) pn) pn) pn) pn) (by kernel_rfl))
theorem g9_go {a:List Nat} {b:List Nat}:Prs (fun k=>funN A gtys (g9O A) g9an g9cut (bodyOf Try.f9) g9res [(tS a),(tS b)] [] kk (tb k)) (g9 A n kk a b):=by
  unfold g9
  exact pc (SxY06gpi _ (SxY06gpi _ (pf _) (g9J4_go st)) pn) (by kernel_rfl)
end
def g9is (o:Option AV):Bool:=match o with
 | some (.tup [.cell (.str _),.cell (.bool _)])=>true
 | _=>false
def g9g0 (o:Option AV):List Nat:=match o with
 | some (.tup [.cell (.str x),.cell (.bool _)])=>x
 | _=>[]
def g9g1 (o:Option AV):Bool:=match o with
 | some (.tup [.cell (.str _),.cell (.bool x)])=>x
 | _=>false
theorem g9is_spec {o:Option AV} (h:g9is o=true):o=some (.tup [.cell (.str (g9g0 o)),.cell (.bool (g9g1 o))]):=by
  unfold g9is at h
  split at h
  · rfl
  · cases h
def g9v (A:Ar) (a b:List Nat):Option AV:=g9 A (100000) (fun v _=>some v) a b
def g9ok (A:Ar) (a b:List Nat):Bool:=g9is (g9v A a b)
def g9r0 (A:Ar) (a b:List Nat):List Nat:=g9g0 (g9v A a b)
def g9r1 (A:Ar) (a b:List Nat):Bool:=g9g1 (g9v A a b)
theorem g9ok_spec {A:Ar} {a b} (h:g9ok A a b=true):g9v A a b=some (.tup [.cell (.str (g9r0 A a b)),.cell (.bool (g9r1 A a b))]):=g9is_spec h
def g9o (A:Ar) (args:List AV):Option (Bool × AV):=match args with
 | [.v (.cell (.str a)),.v (.cell (.str b))]=>some (g9ok A a b,.tup [.cell (.str (g9r0 A a b)),.cell (.bool (g9r1 A a b))])
 | _=>none
theorem g9o_sound:∀ args v,g9o realA args=some (true,v)→Fn1 Try.prog 9 args v:=by
  intro args v h
  unfold g9o at h
  split at h
  · rename_i a b
    simp only [Option.some.injEq,Prod.mk.injEq] at h
    obtain ⟨hc,h⟩:=h
    subst h
    · skip
      exact fn1_ofG mixed gtysOK g9O_sound g9O_det (an:=g9an) (cut:=g9cut) Try.func9 (c:=bodyOf Try.f9) rfl (by kernel_rfl) Try.call9 (Nat.le_of_ble_eq_true rfl) (fun b=>rfl) (fun _=>(show g9v realA a b=_ from g9ok_spec hc)) fun _ st=>g9_go st
  · cases h
attribute [local irreducible] g9ok g9r0 g9r1
def g10O (A:Ar):Orc:=orcH [(16,g16o A),(17,g17o A),(21,g21o A),(20,g20o A),(22,g22o A),(19,g19o A),(18,g18o A)] [(13,⟨[],none,(g13o A)⟩)]
theorem g10O_sound:OSound Try.prog (g10O realA):=orcH_sound (fun f g hm args v hv=>by
    simp only [List.mem_cons,List.not_mem_nil,or_false,Prod.mk.injEq] at hm
    rcases hm with ⟨rfl,rfl⟩ | ⟨rfl,rfl⟩ | ⟨rfl,rfl⟩ | ⟨rfl,rfl⟩ | ⟨rfl,rfl⟩ | ⟨rfl,rfl⟩ | ⟨rfl,rfl⟩
    · exact g16o_sound _ _ hv
    · exact g17o_sound _ _ hv
    · exact g21o_sound _ _ hv
    · exact g20o_sound _ _ hv
    · exact g22o_sound _ _ hv
    · exact g19o_sound _ _ hv
    · exact g18o_sound _ _ hv) (fun f e hm args h v h' hv=>by
    simp only [List.mem_cons,List.not_mem_nil,or_false,Prod.mk.injEq] at hm
    rcases hm with ⟨rfl,rfl⟩
    · exact g13o_sound _ _ _ _ hv)
theorem g10O_det:ODet (g10O realA):=orcH_det _ _
def g10an:Ann:=[(0,([0,1,2],[])),(1,([0,1,2],[])),(2,([],[])),(3,([0,1,2],[])),(4,([0,1,2,7,8],[4005])),(5,([],[])),(6,([0,1,2,7],[4005])),(7,([2,7,9],[4005])),(8,([2,10],[]))]
def g10res:List ResultVar:=[.tmp 6]
def g10cut:List Nat:=[3,6]
abbrev g10t2 (A:Ar) (x0 x1:List Nat) (x2 x3 x4:List Nat):List Nat:=g19r0 A (g20r0 A ((x2.take x2.length).drop 32) (g21r0 A) (g21r1 A)) (g20r1 A ((x2.take x2.length).drop 32) (g21r0 A) (g21r1 A)) (g20r0 A (g13r0 A 3 3 [(x2.take 32).drop 0,x0,x1]) (g22r0 A x3 x4) (g22r1 A x3 x4)) (g20r1 A (g13r0 A 3 3 [(x2.take 32).drop 0,x0,x1]) (g22r0 A x3 x4) (g22r1 A x3 x4))
abbrev g10t3 (A:Ar) (x0 x1:List Nat) (x2 x3 x4:List Nat):List Nat:=g19r1 A (g20r0 A ((x2.take x2.length).drop 32) (g21r0 A) (g21r1 A)) (g20r1 A ((x2.take x2.length).drop 32) (g21r0 A) (g21r1 A)) (g20r0 A (g13r0 A 3 3 [(x2.take 32).drop 0,x0,x1]) (g22r0 A x3 x4) (g22r1 A x3 x4)) (g20r1 A (g13r0 A 3 3 [(x2.take 32).drop 0,x0,x1]) (g22r0 A x3 x4) (g22r1 A x3 x4))
noncomputable def g10N {R:Type} (A:Ar) (kk:AV→Heap→Option R) (t:List Bool→St→Option R) (p:List Bool) (s:St):Option R:=nodeN A gtys (g10O A) g10an g10cut t (bodyOf Try.f10) (finD gtys g10res kk) p s
def g10J6s (x0 x1:List Nat) (x2 x3 x4:List Nat):St:=⟨[(0,(tS x0)),(1,(tS x1)),(2,(tS x2)),(7,(pT 4005 0))],[(4005,⟨[.nums .u64 4 x3,.nums .u64 4 x4],42,1⟩)]⟩
def g10J6 {R:Type} (A:Ar) (n:Nat) (kk:AV→Heap→Option R)  (x0 x1:List Nat) (x2 x3 x4:List Nat):Option R :=
 match A.le 32 x2.length with
 | true=>match g13ok A 3 3 [(x2.take 32).drop 0,x0,x1] with
  | true=>match A.le 32 x2.length with
   | true=>match g21ok A with
    | true=>match g20ok A ((x2.take x2.length).drop 32) (g21r0 A) (g21r1 A) with
     | true=>match g22ok A x3 x4 with
      | true=>match g20ok A (g13r0 A 3 3 [(x2.take 32).drop 0,x0,x1]) (g22r0 A x3 x4) (g22r1 A x3 x4) with
       | true=>match g19ok A (g20r0 A ((x2.take x2.length).drop 32) (g21r0 A) (g21r1 A)) (g20r1 A ((x2.take x2.length).drop 32) (g21r0 A) (g21r1 A)) (g20r0 A (g13r0 A 3 3 [(x2.take 32).drop 0,x0,x1]) (g22r0 A x3 x4) (g22r1 A x3 x4)) (g20r1 A (g13r0 A 3 3 [(x2.take 32).drop 0,x0,x1]) (g22r0 A x3 x4) (g22r1 A x3 x4)) with
        | true=>match g18ok A (g10t2 A x0 x1 x2 x3 x4) (g10t3 A x0 x1 x2 x3 x4) with
         | true=>match A.le 32 x2.length with
          | true=>kk (bO (A.sc .eql (g18r0 A (g10t2 A x0 x1 x2 x3 x4) (g10t3 A x0 x1 x2 x3 x4)) ((x2.take 32).drop 0))) []
          | false=>none
         | false=>none
        | false=>none
       | false=>none
      | false=>none
     | false=>none
    | false=>none
   | false=>none
  | false=>none
 | false=>none
def g10J3s (x0 x1 x2:List Nat):St:=⟨[(0,(tS x0)),(1,(tS x1)),(2,(tS x2))],[]⟩
def g10J3 {R:Type} (A:Ar) (n:Nat) (kk:AV→Heap→Option R)  (x0 x1 x2:List Nat):Option R :=
 match g17ok A x0 with
 | true=>match !(g17r2 A x0) with
  | true=>kk (bO false) []
  | false=>g10J6 A n kk  x0 x1 x2 (g17r0 A x0) (g17r1 A x0)
 | false=>none
def g10 {R:Type} (A:Ar) (n:Nat) (kk:AV→Heap→Option R) (a b c:List Nat):Option R :=
 match A.ic .neq (A.ofN c.length) 64 with
 | true=>kk (bO false) []
 | false=>match A.le 32 c.length with
  | true=>match g16ok A ((c.take c.length).drop 32) with
   | true=>match !(g16r0 A ((c.take c.length).drop 32)) with
    | true=>kk (bO false) []
    | false=>g10J3 A n kk  a b c
   | false=>none
  | false=>none
section
variable {R:Type} {A:Ar} {n:Nat} {kk:AV→Heap→Option R} {tb:Nat→List Bool→St→Option R} (st:Stp (g10N A kk) tb)
include st
theorem g10J6_go {x0:List Nat} {x1:List Nat} {x2:List Nat} {x3:List Nat} {x4:List Nat}:Prs (fun k=>tb k (pth 31) (g10J6s x0 x1 x2 x3 x4)) (g10J6 A n kk x0 x1 x2 x3 x4):=by
  unfold g10J6
  exact st.g (pc (SxY06gpi _ (SxY06gpi _ (SxY06gpi _ (SxY06gpi _ (SxY06gpi _ (SxY06gpi _ (SxY06gpi _ (SxY06gpi _ (SxY06gpi _ (SxY06gpi _ (pf _) pn) pn) pn) pn) pn) pn) pn) pn) pn) pn) (by kernel_rfl))
theorem g10J3_go {x0:List Nat} {x1:List Nat} {x2:List Nat}:Prs (fun k=>tb k (pth 7) (g10J3s x0 x1 x2)) (g10J3 A n kk x0 x1 x2):=by
  unfold g10J3
  exact st.g (pc (SxY06gpi _ (SxY06gpi _ (pf _) (g10J6_go st)) pn) (by kernel_rfl))
theorem g10_go {a:List Nat} {b:List Nat} {c:List Nat}:Prs (fun k=>funN A gtys (g10O A) g10an g10cut (bodyOf Try.f10) g10res [(tS a),(tS b),(tS c)] [] kk (tb k)) (g10 A n kk a b c):=by
  unfold g10
  exact pc (SxY06gpi _ (pf _) (SxY06gpi _ (SxY06gpi _ (SxY06gpi _ (pf _) (g10J3_go st)) pn) pn)) (by kernel_rfl)
end
def g10is (o:Option AV):Bool:=match o with
 | some (.v (.cell (.bool _)))=>true
 | _=>false
def g10g0 (o:Option AV):Bool:=match o with
 | some (.v (.cell (.bool x)))=>x
 | _=>false
theorem g10is_spec {o:Option AV} (h:g10is o=true):o=some (.v (.cell (.bool (g10g0 o)))):=by
  unfold g10is at h
  split at h
  · rfl
  · cases h
def g10v (A:Ar) (a b c:List Nat):Option AV:=g10 A (100000) (fun v _=>some v) a b c
def g10ok (A:Ar) (a b c:List Nat):Bool:=g10is (g10v A a b c)
def g10r0 (A:Ar) (a b c:List Nat):Bool:=g10g0 (g10v A a b c)
theorem g10ok_spec {A:Ar} {a b c} (h:g10ok A a b c=true):g10v A a b c=some (.v (.cell (.bool (g10r0 A a b c)))):=g10is_spec h
def g10o (A:Ar) (args:List AV):Option (Bool × AV):=match args with
 | [.v (.cell (.str a)),.v (.cell (.str b)),.v (.cell (.str c))]=>some (g10ok A a b c,.v (.cell (.bool (g10r0 A a b c))))
 | _=>none
theorem g10o_sound:∀ args v,g10o realA args=some (true,v)→Fn1 Try.prog 10 args v:=by
  intro args v h
  unfold g10o at h
  split at h
  · rename_i a b c
    simp only [Option.some.injEq,Prod.mk.injEq] at h
    obtain ⟨hc,h⟩:=h
    subst h
    · skip
      exact fn1_ofG mixed gtysOK g10O_sound g10O_det (an:=g10an) (cut:=g10cut) Try.func10 (c:=bodyOf Try.f10) rfl (by kernel_rfl) Try.call10 (Nat.le_of_ble_eq_true rfl) (fun b=>rfl) (fun _=>(show g10v realA a b c=_ from g10ok_spec hc)) fun _ st=>g10_go st
  · cases h
attribute [local irreducible] g10ok g10r0
end Go.Sx
namespace Go.Sx
set_option linter.unusedSectionVars false
open Go.Proofs
set_option linter.unusedVariables false
set_option maxRecDepth 100000
theorem SxY06epi {R:Type} (c:Bool) {f1 f2:Nat→Option R} {a1 a2:Option R} (h1:Prs f1 a1) (h2:Prs f2 a2):Prs (fun k=>match c with | true=>f1 k | false=>f2 k) (match c with | true=>a1 | false=>a2):=by cases c <;> assumption
attribute [local irreducible] g8ok g8r0 g8r1 g9ok g9r0 g9r1
def g11O (A:Ar):Orc:=orcOf []
theorem g11O_sound:OSound Try.prog (g11O realA):=orc_sound fun f g hm args v hv=>by
  cases hm
theorem g11O_det:ODet (g11O realA):=orc_det _
def g11an:Ann:=[(0,([0],[])),(1,([0],[])),(2,([0,3],[2000])),(3,([0,3,4],[2000])),(4,([0,3,4],[2000])),(5,([0,3,4],[2000])),(6,([0,3,4,5],[2000])),(7,([0,3,4,5,6],[2000])),(8,([0,3,4,5,6],[2000])),(9,([0,3,4,5,6],[2000])),(10,([0,3,4,5,6,7],[2000])),(11,([0,3,4,5,6,7],[2000])),(12,([0,3,4,5,6,7],[2000])),(13,([0,3,4,5],[2000])),(14,([3],[2000]))]
def g11res:List ResultVar:=[.tmp 2]
def g11cut:List Nat:=[5,9,12,13]
noncomputable def g11N {R:Type} (A:Ar) (kk:AV→Heap→Option R) (t:List Bool→St→Option R) (p:List Bool) (s:St):Option R:=nodeN A gtys (g11O A) g11an g11cut t (bodyOf Try.f11) (finD gtys g11res kk) p s
def g11J12s (x0:List Nat) (x1:Nat) (x2 x3:Int) (x4 x5:Int) (x6:Nat) (x7:List Nat):St:=⟨[(0,(tS x0)),(3,(sL 2000 none x1 1)),(4,(i6 x2)),(5,(i6 x3)),(6,(i6 x4)),(7,(i6 x5))],[(2000,⟨[.nums .u8 x6 x7],5,2⟩)]⟩
def g11J12 {R:Type} (A:Ar) (n:Nat) (kk:AV→Heap→Option R) (lg11L7:List Nat→Nat→Int→Int→Int→Nat→List Nat→Option R) (x0:List Nat) (x1:Nat) (x2 x3:Int) (x4 x5:Int) (x6:Nat) (x7:List Nat):Option R :=
 lg11L7 x0 x1 x2 (A.ib .sub .i64 (A.ib .add .i64 (A.ib .mul .i64 16 x3) x5) 48) (A.ib .add .i64 x4 1) x6 x7
def g11J9s (x0:List Nat) (x1:Nat) (x2 x3 x4:Int) (x5:Nat) (x6:List Nat):St:=⟨[(0,(tS x0)),(3,(sL 2000 none x1 1)),(4,(i6 x2)),(5,(i6 x3)),(6,(i6 x4))],[(2000,⟨[.nums .u8 x5 x6],5,2⟩)]⟩
def g11J9 {R:Type} (A:Ar) (n:Nat) (kk:AV→Heap→Option R) (lg11L7:List Nat→Nat→Int→Int→Int→Nat→List Nat→Option R) (x0:List Nat) (x1:Nat) (x2 x3 x4:Int) (x5:Nat) (x6:List Nat):Option R :=
 match A.neg (A.ib .add .i64 x2 x4) with
 | true=>none
 | false=>match A.lt (A.toN (A.ib .add .i64 x2 x4)) x0.length with
  | true=>match A.ic .geq (A.ofN (x0.getD (A.toN (A.ib .add .i64 x2 x4)) 0)) 97 with
   | true=>g11J12 A n kk lg11L7 x0 x1 x2 x3 x4 (A.ib .add .i64 (A.ib .add .i64 (A.ib .sub .i64 (A.ofN (x0.getD (A.toN (A.ib .add .i64 x2 x4)) 0)) 97) 10) 48) x5 x6
   | false=>g11J12 A n kk lg11L7 x0 x1 x2 x3 x4 (A.ofN (x0.getD (A.toN (A.ib .add .i64 x2 x4)) 0)) x5 x6
  | false=>none
def g11J13s (x0:List Nat) (x1:Nat) (x2 x3:Int) (x4:Nat) (x5:List Nat):St:=⟨[(0,(tS x0)),(3,(sL 2000 none x1 1)),(4,(i6 x2)),(5,(i6 x3))],[(2000,⟨[.nums .u8 x4 x5],5,2⟩)]⟩
def g11J13 {R:Type} (A:Ar) (n:Nat) (kk:AV→Heap→Option R) (lg11L3:List Nat→Nat→Int→Nat→List Nat→Option R) (x0:List Nat) (x1:Nat) (x2 x3:Int) (x4:Nat) (x5:List Nat):Option R :=
 match A.eq x1 (x4+0) with
 | true=>match A.le ((x5++([A.i2n .u8 x3].take 1)).length) 140737488355328 with
  | true=>lg11L3 x0 ((x5++([A.i2n .u8 x3].take 1)).length) (A.ib .add .i64 x2 2) ((x5++([A.i2n .u8 x3].take 1)).length) (x5++([A.i2n .u8 x3].take 1))
  | false=>none
 | false=>none
def g11L7s (x0:List Nat) (x1:Nat) (x2 x3 x4:Int) (x5:Nat) (x6:List Nat):St:=⟨[(0,(tS x0)),(3,(sL 2000 none x1 1)),(4,(i6 x2)),(5,(i6 x3)),(6,(i6 x4))],[(2000,⟨[.nums .u8 x5 x6],5,2⟩)]⟩
def g11L7 {R:Type} (A:Ar) (n:Nat) (kk:AV→Heap→Option R) (lg11L3:List Nat→Nat→Int→Nat→List Nat→Option R):Nat→List Nat→Nat→Int→Int→Int→Nat→List Nat→Option R
 | 0,_,_,_,_,_,_,_=>none
 | m+1,x0,x1,x2,x3,x4,x5,x6=>match A.ic .lss x4 2 with
 | true=>g11J9 A n kk (g11L7 A n kk lg11L3 m) x0 x1 x2 x3 x4 x5 x6
 | false=>g11J13 A n kk lg11L3 x0 x1 x2 x3 x5 x6
def g11J5s (x0:List Nat) (x1:Nat) (x2:Int) (x3:Nat) (x4:List Nat):St:=⟨[(0,(tS x0)),(3,(sL 2000 none x1 1)),(4,(i6 x2))],[(2000,⟨[.nums .u8 x3 x4],5,2⟩)]⟩
def g11J5 {R:Type} (A:Ar) (n:Nat) (kk:AV→Heap→Option R) (lg11L3:List Nat→Nat→Int→Nat→List Nat→Option R) (x0:List Nat) (x1:Nat) (x2:Int) (x3:Nat) (x4:List Nat):Option R :=
 g11L7 A n kk lg11L3 n x0 x1 x2 0 0 x3 x4
def g11L3s (x0:List Nat) (x1:Nat) (x2:Int) (x3:Nat) (x4:List Nat):St:=⟨[(0,(tS x0)),(3,(sL 2000 none x1 1)),(4,(i6 x2))],[(2000,⟨[.nums .u8 x3 x4],5,2⟩)]⟩
def g11L3 {R:Type} (A:Ar) (n:Nat) (kk:AV→Heap→Option R)  : Nat→List Nat→Nat→Int→Nat→List Nat→Option R
 | 0,_,_,_,_,_=>none
 | m+1,x0,x1,x2,x3,x4=>match A.ic .lss (A.ib .add .i64 x2 1) (A.ofN x0.length) with
 | true=>g11J5 A n kk (g11L3 A n kk  m) x0 x1 x2 x3 x4
 | false=>kk (tS (x4.take x1)) [(2000,⟨[.nums .u8 x3 x4],5,2⟩)]
def g11 {R:Type} (A:Ar) (n:Nat) (kk:AV→Heap→Option R) (a:List Nat):Option R :=
 g11L3 A n kk  n a 0 0 0 []
section
variable {R:Type} {A:Ar} {n:Nat} {kk:AV→Heap→Option R} {tb:Nat→List Bool→St→Option R} (st:Stp (g11N A kk) tb)
include st
theorem g11J12_go {lg11L7:List Nat→Nat→Int→Int→Int→Nat→List Nat→Option R} (hg11L7:∀ (x0:List Nat) (x1:Nat) (x2 x3 x4:Int) (x5:Nat) (x6:List Nat),Prs (fun k=>tb k (pth 29844) (g11L7s x0 x1 x2 x3 x4 x5 x6)) (lg11L7 x0 x1 x2 x3 x4 x5 x6)) {x0:List Nat} {x1:Nat} {x2:Int} {x3:Int} {x4:Int} {x5:Int} {x6:Nat} {x7:List Nat}:Prs (fun k=>tb k (pth 955027) (g11J12s x0 x1 x2 x3 x4 x5 x6 x7)) (g11J12 A n kk lg11L7 x0 x1 x2 x3 x4 x5 x6 x7):=by
  unfold g11J12
  exact st.g (pc (hg11L7 _ _ _ _ _ _ _) (by kernel_rfl))
theorem g11J9_go {lg11L7:List Nat→Nat→Int→Int→Int→Nat→List Nat→Option R} (hg11L7:∀ (x0:List Nat) (x1:Nat) (x2 x3 x4:Int) (x5:Nat) (x6:List Nat),Prs (fun k=>tb k (pth 29844) (g11L7s x0 x1 x2 x3 x4 x5 x6)) (lg11L7 x0 x1 x2 x3 x4 x5 x6)) {x0:List Nat} {x1:Nat} {x2:Int} {x3:Int} {x4:Int} {x5:Nat} {x6:List Nat}:Prs (fun k=>tb k (pth 59689) (g11J9s x0 x1 x2 x3 x4 x5 x6)) (g11J9 A n kk lg11L7 x0 x1 x2 x3 x4 x5 x6):=by
  unfold g11J9
  exact st.g (pc (SxY06epi _ pn (SxY06epi _ (SxY06epi _ (g11J12_go st hg11L7) (g11J12_go st hg11L7)) pn)) (by kernel_rfl))
theorem g11J13_go {lg11L3:List Nat→Nat→Int→Nat→List Nat→Option R} (hg11L3:∀ (x0:List Nat) (x1:Nat) (x2:Int) (x3:Nat) (x4:List Nat),Prs (fun k=>tb k (pth 116) (g11L3s x0 x1 x2 x3 x4)) (lg11L3 x0 x1 x2 x3 x4)) {x0:List Nat} {x1:Nat} {x2:Int} {x3:Int} {x4:Nat} {x5:List Nat}:Prs (fun k=>tb k (pth 3731) (g11J13s x0 x1 x2 x3 x4 x5)) (g11J13 A n kk lg11L3 x0 x1 x2 x3 x4 x5):=by
  unfold g11J13
  exact st.g (pc (SxY06epi _ (SxY06epi _ (hg11L3 _ _ _ _ _) pn) pn) (by kernel_rfl))
theorem g11L7_go {lg11L3:List Nat→Nat→Int→Nat→List Nat→Option R} (hg11L3:∀ (x0:List Nat) (x1:Nat) (x2:Int) (x3:Nat) (x4:List Nat),Prs (fun k=>tb k (pth 116) (g11L3s x0 x1 x2 x3 x4)) (lg11L3 x0 x1 x2 x3 x4)) (m:Nat):∀ (x0:List Nat) (x1:Nat) (x2 x3 x4:Int) (x5:Nat) (x6:List Nat),Prs (fun k=>tb k (pth 29844) (g11L7s x0 x1 x2 x3 x4 x5 x6)) (g11L7 A n kk lg11L3 m x0 x1 x2 x3 x4 x5 x6):=by
  induction m with
  | zero=>intro x0 x1 x2 x3 x4 x5 x6; exact pn0
  | succ m ih =>
    intro x0 x1 x2 x3 x4 x5 x6; rw [g11L7]
    exact st.g (pc (SxY06epi _ (g11J9_go st ih) (g11J13_go st hg11L3)) (by kernel_rfl))
theorem g11J5_go {lg11L3:List Nat→Nat→Int→Nat→List Nat→Option R} (hg11L3:∀ (x0:List Nat) (x1:Nat) (x2:Int) (x3:Nat) (x4:List Nat),Prs (fun k=>tb k (pth 116) (g11L3s x0 x1 x2 x3 x4)) (lg11L3 x0 x1 x2 x3 x4)) {x0:List Nat} {x1:Nat} {x2:Int} {x3:Nat} {x4:List Nat}:Prs (fun k=>tb k (pth 233) (g11J5s x0 x1 x2 x3 x4)) (g11J5 A n kk lg11L3 x0 x1 x2 x3 x4):=by
  unfold g11J5
  exact st.g (pc (g11L7_go st hg11L3 n _ _ _ _ _ _ _) (by kernel_rfl))
theorem g11L3_go (m:Nat):∀ (x0:List Nat) (x1:Nat) (x2:Int) (x3:Nat) (x4:List Nat),Prs (fun k=>tb k (pth 116) (g11L3s x0 x1 x2 x3 x4)) (g11L3 A n kk m x0 x1 x2 x3 x4):=by
  induction m with
  | zero=>intro x0 x1 x2 x3 x4; exact pn0
  | succ m ih =>
    intro x0 x1 x2 x3 x4; rw [g11L3]
    exact st.g (pc (SxY06epi _ (g11J5_go st ih) (pf _)) (by kernel_rfl))
theorem g11_go {a:List Nat}:Prs (fun k=>funN A gtys (g11O A) g11an g11cut (bodyOf Try.f11) g11res [(tS a)] [] kk (tb k)) (g11 A n kk a):=by
  unfold g11
  exact pc (g11L3_go st n _ _ _ _ _) (by kernel_rfl)
end
def g11is (o:Option AV):Bool:=match o with
 | some (.v (.cell (.str _)))=>true
 | _=>false
def g11g0 (o:Option AV):List Nat:=match o with
 | some (.v (.cell (.str x)))=>x
 | _=>[]
theorem g11is_spec {o:Option AV} (h:g11is o=true):o=some (.v (.cell (.str (g11g0 o)))):=by
  unfold g11is at h
  split at h
  · rfl
  · cases h
def g11v (A:Ar) (a:List Nat):Option AV:=g11 A (100000) (fun v _=>some v) a
def g11ok (A:Ar) (a:List Nat):Bool:=g11is (g11v A a)
def g11r0 (A:Ar) (a:List Nat):List Nat:=g11g0 (g11v A a)
theorem g11ok_spec {A:Ar} {a} (h:g11ok A a=true):g11v A a=some (.v (.cell (.str (g11r0 A a)))):=g11is_spec h
def g11o (A:Ar) (args:List AV):Option (Bool × AV):=match args with
 | [.v (.cell (.str a))]=>some (g11ok A a,.v (.cell (.str (g11r0 A a))))
 | _=>none
theorem g11o_sound:∀ args v,g11o realA args=some (true,v)→Fn1 Try.prog 11 args v:=by
  intro args v h
  unfold g11o at h
  split at h
  · rename_i a
    simp only [Option.some.injEq,Prod.mk.injEq] at h
    obtain ⟨hc,h⟩:=h
    subst h
    · skip
      exact fn1_ofG mixed gtysOK g11O_sound g11O_det (an:=g11an) (cut:=g11cut) Try.func11 (c:=bodyOf Try.f11) rfl (by kernel_rfl) Try.call11 (Nat.le_of_ble_eq_true rfl) (fun b=>rfl) (fun _=>(show g11v realA a=_ from g11ok_spec hc)) fun _ st=>g11_go st
  · cases h
attribute [local irreducible] g11ok g11r0
def g7O (A:Ar):Orc:=orcOf []
theorem g7O_sound:OSound Try.prog (g7O realA):=orc_sound fun f g hm args v hv=>by
  cases hm
theorem g7O_det:ODet (g7O realA):=orc_det _
def g7an:Ann:=[(0,([0],[])),(1,([0],[])),(2,([0,3],[2000])),(3,([0,3,4],[2000])),(4,([0,3,4],[2000])),(5,([0,3,4],[2000])),(6,([3],[2000]))]
def g7res:List ResultVar:=[.tmp 2]
def g7cut:List Nat:=[5]
noncomputable def g7N {R:Type} (A:Ar) (kk:AV→Heap→Option R) (t:List Bool→St→Option R) (p:List Bool) (s:St):Option R:=nodeN A gtys (g7O A) g7an g7cut t (bodyOf Try.f7) (finD gtys g7res kk) p s
def g7J5s (x0:List Nat) (x1:Nat) (x2:Int) (x3:Nat) (x4:List Nat):St:=⟨[(0,(tS x0)),(3,(sL 2000 none x1 1)),(4,(i6 x2))],[(2000,⟨[.nums .u8 x3 x4],5,2⟩)]⟩
def g7J5 {R:Type} (A:Ar) (n:Nat) (kk:AV→Heap→Option R) (lg7L3:List Nat→Nat→Int→Nat→List Nat→Option R) (x0:List Nat) (x1:Nat) (x2:Int) (x3:Nat) (x4:List Nat):Option R :=
 match A.neg x2 with
 | true=>none
 | false=>match A.lt (A.toN x2) x0.length with
  | true=>match A.neg x2 with
   | true=>none
   | false=>match A.lt (A.toN x2) x1 with
    | true=>lg7L3 x0 x1 (A.ib .add .i64 x2 1) x3 (x4.set (A.toN x2) (x0.getD (A.toN x2) 0))
    | false=>none
  | false=>none
def g7L3s (x0:List Nat) (x1:Nat) (x2:Int) (x3:Nat) (x4:List Nat):St:=⟨[(0,(tS x0)),(3,(sL 2000 none x1 1)),(4,(i6 x2))],[(2000,⟨[.nums .u8 x3 x4],5,2⟩)]⟩
def g7L3 {R:Type} (A:Ar) (n:Nat) (kk:AV→Heap→Option R)  : Nat→List Nat→Nat→Int→Nat→List Nat→Option R
 | 0,_,_,_,_,_=>none
 | m+1,x0,x1,x2,x3,x4=>match A.ic .lss x2 32 with
 | true=>match A.ic .lss x2 (A.ofN x0.length) with
  | true=>g7J5 A n kk (g7L3 A n kk  m) x0 x1 x2 x3 x4
  | false=>kk (tS (x4.take x1)) [(2000,⟨[.nums .u8 x3 x4],5,2⟩)]
 | false=>kk (tS (x4.take x1)) [(2000,⟨[.nums .u8 x3 x4],5,2⟩)]
def g7 {R:Type} (A:Ar) (n:Nat) (kk:AV→Heap→Option R) (a:List Nat):Option R :=
 match A.le 32 32 with
 | true=>match A.le 32 140737488355328 with
  | true=>g7L3 A n kk  n a 32 0 32 (List.replicate 32 0)
  | false=>none
 | false=>none
section
variable {R:Type} {A:Ar} {n:Nat} {kk:AV→Heap→Option R} {tb:Nat→List Bool→St→Option R} (st:Stp (g7N A kk) tb)
include st
theorem g7J5_go {lg7L3:List Nat→Nat→Int→Nat→List Nat→Option R} (hg7L3:∀ (x0:List Nat) (x1:Nat) (x2:Int) (x3:Nat) (x4:List Nat),Prs (fun k=>tb k (pth 116) (g7L3s x0 x1 x2 x3 x4)) (lg7L3 x0 x1 x2 x3 x4)) {x0:List Nat} {x1:Nat} {x2:Int} {x3:Nat} {x4:List Nat}:Prs (fun k=>tb k (pth 233) (g7J5s x0 x1 x2 x3 x4)) (g7J5 A n kk lg7L3 x0 x1 x2 x3 x4):=by
  unfold g7J5
  exact st.g (pc (SxY06epi _ pn (SxY06epi _ (SxY06epi _ pn (SxY06epi _ (hg7L3 _ _ _ _ _) pn)) pn)) (by kernel_rfl))
theorem g7L3_go (m:Nat):∀ (x0:List Nat) (x1:Nat) (x2:Int) (x3:Nat) (x4:List Nat),Prs (fun k=>tb k (pth 116) (g7L3s x0 x1 x2 x3 x4)) (g7L3 A n kk m x0 x1 x2 x3 x4):=by
  induction m with
  | zero=>intro x0 x1 x2 x3 x4; exact pn0
  | succ m ih =>
    intro x0 x1 x2 x3 x4; rw [g7L3]
    exact st.g (pc (SxY06epi _ (SxY06epi _ (g7J5_go st ih) (pf _)) (pf _)) (by kernel_rfl))
theorem g7_go {a:List Nat}:Prs (fun k=>funN A gtys (g7O A) g7an g7cut (bodyOf Try.f7) g7res [(tS a)] [] kk (tb k)) (g7 A n kk a):=by
  unfold g7
  exact pc (SxY06epi _ (SxY06epi _ (g7L3_go st n _ _ _ _ _) pn) pn) (by kernel_rfl)
end
def g7is (o:Option AV):Bool:=match o with
 | some (.v (.cell (.str _)))=>true
 | _=>false
def g7g0 (o:Option AV):List Nat:=match o with
 | some (.v (.cell (.str x)))=>x
 | _=>[]
theorem g7is_spec {o:Option AV} (h:g7is o=true):o=some (.v (.cell (.str (g7g0 o)))):=by
  unfold g7is at h
  split at h
  · rfl
  · cases h
def g7v (A:Ar) (a:List Nat):Option AV:=g7 A (100000) (fun v _=>some v) a
def g7ok (A:Ar) (a:List Nat):Bool:=g7is (g7v A a)
def g7r0 (A:Ar) (a:List Nat):List Nat:=g7g0 (g7v A a)
theorem g7ok_spec {A:Ar} {a} (h:g7ok A a=true):g7v A a=some (.v (.cell (.str (g7r0 A a)))):=g7is_spec h
def g7o (A:Ar) (args:List AV):Option (Bool × AV):=match args with
 | [.v (.cell (.str a))]=>some (g7ok A a,.v (.cell (.str (g7r0 A a))))
 | _=>none
theorem g7o_sound:∀ args v,g7o realA args=some (true,v)→Fn1 Try.prog 7 args v:=by
  intro args v h
  unfold g7o at h
  split at h
  · rename_i a
    simp only [Option.some.injEq,Prod.mk.injEq] at h
    obtain ⟨hc,h⟩:=h
    subst h
    · skip
      exact fn1_ofG mixed gtysOK g7O_sound g7O_det (an:=g7an) (cut:=g7cut) Try.func7 (c:=bodyOf Try.f7) rfl (by kernel_rfl) Try.call7 (Nat.le_of_ble_eq_true rfl) (fun b=>rfl) (fun _=>(show g7v realA a=_ from g7ok_spec hc)) fun _ st=>g7_go st
  · cases h
attribute [local irreducible] g7ok g7r0
def g6O (A:Ar):Orc:=orcOf [(11,g11o A),(8,g8o A),(9,g9o A)]
theorem g6O_sound:OSound Try.prog (g6O realA):=orc_sound fun f g hm args v hv=>by
  simp only [List.mem_cons,List.not_mem_nil,or_false,Prod.mk.injEq] at hm
  rcases hm with ⟨rfl,rfl⟩ | ⟨rfl,rfl⟩ | ⟨rfl,rfl⟩
  · exact g11o_sound _ _ hv
  · exact g8o_sound _ _ hv
  · exact g9o_sound _ _ hv
theorem g6O_det:ODet (g6O realA):=orc_det _
def g6an:Ann:=[(0,([],[])),(1,([],[])),(2,([1],[])),(3,([1,2,3],[])),(4,([2,3,4,5],[]))]
def g6res:List ResultVar:=[.tmp 0]
def g6cut:List Nat:=[]
abbrev g6t0 (A:Ar)  : List Nat:=g11r0 A [57,100,54,49,98,49,57,100,101,102,102,100,53,97,54,48,98,97,56,52,52,97,102,52,57,50,101,99,50,99,99,52,52,52,52,57,99,53,54,57,55,98,51,50,54,57,49,57,55,48,51,98,97,99,48,51,49,99,97,101,55,102,54,48]
abbrev g6t1 (A:Ar)  : List Nat:=g11r0 A [100,55,53,97,57,56,48,49,56,50,98,49,48,97,98,55,100,53,52,98,102,101,100,51,99,57,54,52,48,55,51,97,48,101,101,49,55,50,102,51,100,97,97,54,50,51,50,53,97,102,48,50,49,97,54,56,102,55,48,55,53,49,49,97]
abbrev g6t2 (A:Ar)  : List Nat:=g11r0 A [101,53,53,54,52,51,48,48,99,51,54,48,97,99,55,50,57,48,56,54,101,50,99,99,56,48,54,101,56,50,56,97,56,52,56,55,55,102,49,101,98,56,101,53,100,57,55,52,100,56,55,51,101,48,54,53,50,50,52,57,48,49,53,53,53,102,98,56,56,50,49,53,57,48,97,51,51,98,97,99,99,54,49,101,51,57,55,48,49,99,102,57,98,52,54,98,100,50,53,98,102,53,102,48,53,57,53,98,98,101,50,52,54,53,53,49,52,49,52,51,56,101,55,97,49,48,48,98]
noncomputable def g6N {R:Type} (A:Ar) (kk:AV→Heap→Option R) (t:List Bool→St→Option R) (p:List Bool) (s:St):Option R:=nodeN A gtys (g6O A) g6an g6cut t (bodyOf Try.f6) (finD gtys g6res kk) p s
def g6 {R:Type} (A:Ar) (n:Nat) (kk:AV→Heap→Option R)  : Option R :=
 match g11ok A [57,100,54,49,98,49,57,100,101,102,102,100,53,97,54,48,98,97,56,52,52,97,102,52,57,50,101,99,50,99,99,52,52,52,52,57,99,53,54,57,55,98,51,50,54,57,49,57,55,48,51,98,97,99,48,51,49,99,97,101,55,102,54,48] with
 | true=>match g8ok A (g6t0 A) with
  | true=>match g9ok A (g6t0 A) [] with
   | true=>match g11ok A [100,55,53,97,57,56,48,49,56,50,98,49,48,97,98,55,100,53,52,98,102,101,100,51,99,57,54,52,48,55,51,97,48,101,101,49,55,50,102,51,100,97,97,54,50,51,50,53,97,102,48,50,49,97,54,56,102,55,48,55,53,49,49,97] with
    | true=>match A.sc .eql (g8r0 A (g6t0 A)) (g6t1 A) with
     | true=>match g8r1 A (g6t0 A) with
      | true=>match g11ok A [101,53,53,54,52,51,48,48,99,51,54,48,97,99,55,50,57,48,56,54,101,50,99,99,56,48,54,101,56,50,56,97,56,52,56,55,55,102,49,101,98,56,101,53,100,57,55,52,100,56,55,51,101,48,54,53,50,50,52,57,48,49,53,53,53,102,98,56,56,50,49,53,57,48,97,51,51,98,97,99,99,54,49,101,51,57,55,48,49,99,102,57,98,52,54,98,100,50,53,98,102,53,102,48,53,57,53,98,98,101,50,52,54,53,53,49,52,49,52,51,56,101,55,97,49,48,48,98] with
       | true=>match A.sc .eql (g9r0 A (g6t0 A) []) (g6t2 A) with
        | true=>kk (bO (g9r1 A (g6t0 A) [])) []
        | false=>kk (bO false) []
       | false=>none
      | false=>kk (bO false) []
     | false=>kk (bO false) []
    | false=>none
   | false=>none
  | false=>none
 | false=>none
section
variable {R:Type} {A:Ar} {n:Nat} {kk:AV→Heap→Option R} {tb:Nat→List Bool→St→Option R} (st:Stp (g6N A kk) tb)
include st
theorem g6_go  : Prs (fun k=>funN A gtys (g6O A) g6an g6cut (bodyOf Try.f6) g6res [] [] kk (tb k)) (g6 A n kk ):=by
  unfold g6
  exact pc (SxY06epi _ (SxY06epi _ (SxY06epi _ (SxY06epi _ (SxY06epi _ (SxY06epi _ (SxY06epi _ (SxY06epi _ (pf _) (pf _)) pn) (pf _)) (pf _)) pn) pn) pn) pn) (by kernel_rfl)
end
def g6is (o:Option AV):Bool:=match o with
 | some (.v (.cell (.bool _)))=>true
 | _=>false
def g6g0 (o:Option AV):Bool:=match o with
 | some (.v (.cell (.bool x)))=>x
 | _=>false
theorem g6is_spec {o:Option AV} (h:g6is o=true):o=some (.v (.cell (.bool (g6g0 o)))):=by
  unfold g6is at h
  split at h
  · rfl
  · cases h
def g6v (A:Ar)  : Option AV:=g6 A (100000) (fun v _=>some v) 
def g6ok (A:Ar)  : Bool:=g6is (g6v A )
def g6r0 (A:Ar)  : Bool:=g6g0 (g6v A )
theorem g6ok_spec {A:Ar} (h:g6ok A=true):g6v A=some (.v (.cell (.bool (g6r0 A)))):=g6is_spec h
def g6o (A:Ar) (args:List AV):Option (Bool × AV):=match args with
 | []=>some (g6ok A ,.v (.cell (.bool (g6r0 A))))
 | _=>none
theorem g6o_sound:∀ args v,g6o realA args=some (true,v)→Fn1 Try.prog 6 args v:=by
  intro args v h
  unfold g6o at h
  split at h
  · simp only [Option.some.injEq,Prod.mk.injEq] at h
    obtain ⟨hc,h⟩:=h
    subst h
    · skip
      exact fn1_ofG mixed gtysOK g6O_sound g6O_det (an:=g6an) (cut:=g6cut) Try.func6 (c:=bodyOf Try.f6) rfl (by kernel_rfl) Try.call6 (Nat.le_of_ble_eq_true rfl) (fun b=>rfl) (fun _=>(show g6v realA  = _ from g6ok_spec hc)) fun _ st=>g6_go st
  · cases h
attribute [local irreducible] g6ok g6r0
end Go.Sx
