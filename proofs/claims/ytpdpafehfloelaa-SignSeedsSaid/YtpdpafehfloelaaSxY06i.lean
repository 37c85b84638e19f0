import Derived.Test.YtpdpafehfloelaaSxY06e
namespace Go.Sx
set_option linter.unusedSectionVars false
open Go.Proofs
set_option linter.unusedVariables false
set_option maxRecDepth 100000
theorem SxY06ipi {R:Type} (c:Bool) {f1 f2:Nat→Option R} {a1 a2:Option R} (h1:Prs f1 a1) (h2:Prs f2 a2):Prs (fun k=>match c with | true=>f1 k | false=>f2 k) (match c with | true=>a1 | false=>a2):=by cases c <;> assumption
attribute [local irreducible] g8ok g8r0 g8r1 g9ok g9r0 g9r1 g10ok g10r0 g6ok g6r0
def g4O (A:Ar):Orc:=orcOf [(6,g6o A),(8,g8o A),(9,g9o A),(10,g10o A)]
theorem g4O_sound:OSound Try.prog (g4O realA):=orc_sound fun f g hm args v hv=>by
  simp only [List.mem_cons,List.not_mem_nil,or_false,Prod.mk.injEq] at hm
  rcases hm with ⟨rfl,rfl⟩ | ⟨rfl,rfl⟩ | ⟨rfl,rfl⟩ | ⟨rfl,rfl⟩
  · exact g6o_sound _ _ hv
  · exact g8o_sound _ _ hv
  · exact g9o_sound _ _ hv
  · exact g10o_sound _ _ hv
theorem g4O_det:ODet (g4O realA):=orc_det _
def g4an:Ann:=[(0,([0],[])),(1,([0],[])),(2,([0,3],[])),(3,([],[])),(4,([0,3],[])),(5,([0,3],[])),(6,([0,3,4,5],[])),(7,([0,3,4,5,6,7],[])),(8,([3,4,5,6,7],[])),(9,([3,4,5,6,7],[]))]
def g4res:List ResultVar:=[.tmp 2]
def g4cut:List Nat:=[4,9]
noncomputable def g4N {R:Type} (A:Ar) (kk:AV→Heap→Option R) (t:List Bool→St→Option R) (p:List Bool) (s:St):Option R:=nodeN A gtys (g4O A) g4an g4cut t (bodyOf Try.f4) (finD gtys g4res kk) p s
def g4J9s (x0:Bool) (x1:List Nat) (x2:Bool) (x3:List Nat) (x4:Bool):St:=⟨[(3,(bO x0)),(4,(tS x1)),(5,(bO x2)),(6,(tS x3)),(7,(bO x4))],[]⟩
def g4J9 {R:Type} (A:Ar) (n:Nat) (kk:AV→Heap→Option R)  (x0:Bool) (x1:List Nat) (x2:Bool) (x3:List Nat) (x4:Bool):Option R :=
 match x0 with
 | true=>match x2 with
  | true=>match x4 with
   | true=>match g10ok A x1 [120] x3 with
    | true=>kk (bO (g10r0 A x1 [120] x3)) []
    | false=>none
   | false=>kk (bO false) []
  | false=>kk (bO false) []
 | false=>kk (bO false) []
def g4J4s (x0:List Nat) (x1:Bool):St:=⟨[(0,(tS x0)),(3,(bO x1))],[]⟩
def g4J4 {R:Type} (A:Ar) (n:Nat) (kk:AV→Heap→Option R)  (x0:List Nat) (x1:Bool):Option R :=
 match A.neg (A.mn (A.ofN x0.length) 60) with
 | true=>none
 | false=>match A.le (A.toN (A.mn (A.ofN x0.length) 60)) x0.length with
  | true=>match g8ok A ((x0.take (A.toN (A.mn (A.ofN x0.length) 60))).drop 0) with
   | true=>match g9ok A ((x0.take (A.toN (A.mn (A.ofN x0.length) 60))).drop 0) [120] with
    | true=>match A.ic .neq (A.ofN (((x0.take (A.toN (A.mn (A.ofN x0.length) 60))).drop 0).length)) 32 with
     | true=>match x1 with
      | true=>match !(g8r1 A ((x0.take (A.toN (A.mn (A.ofN x0.length) 60))).drop 0)) with
       | true=>match !(g9r1 A ((x0.take (A.toN (A.mn (A.ofN x0.length) 60))).drop 0) [120]) with
        | true=>match A.sc .eql (g8r0 A ((x0.take (A.toN (A.mn (A.ofN x0.length) 60))).drop 0)) [] with
         | true=>kk (bO (A.sc .eql (g9r0 A ((x0.take (A.toN (A.mn (A.ofN x0.length) 60))).drop 0) [120]) [])) []
         | false=>kk (bO false) []
        | false=>kk (bO false) []
       | false=>kk (bO false) []
      | false=>kk (bO false) []
     | false=>g4J9 A n kk  x1 (g8r0 A ((x0.take (A.toN (A.mn (A.ofN x0.length) 60))).drop 0)) (g8r1 A ((x0.take (A.toN (A.mn (A.ofN x0.length) 60))).drop 0)) (g9r0 A ((x0.take (A.toN (A.mn (A.ofN x0.length) 60))).drop 0) [120]) (g9r1 A ((x0.take (A.toN (A.mn (A.ofN x0.length) 60))).drop 0) [120])
    | false=>none
   | false=>none
  | false=>none
def g4 {R:Type} (A:Ar) (n:Nat) (kk:AV→Heap→Option R) (a:List Nat):Option R :=
 match g6ok A with
 | true=>match !(g6r0 A) with
  | true=>kk (bO false) []
  | false=>g4J4 A n kk  a (g6r0 A)
 | false=>none
section
variable {R:Type} {A:Ar} {n:Nat} {kk:AV→Heap→Option R} {tb:Nat→List Bool→St→Option R} (st:Stp (g4N A kk) tb)
include st
theorem g4J9_go {x0:Bool} {x1:List Nat} {x2:Bool} {x3:List Nat} {x4:Bool}:Prs (fun k=>tb k (pth 255) (g4J9s x0 x1 x2 x3 x4)) (g4J9 A n kk x0 x1 x2 x3 x4):=by
  unfold g4J9
  exact st.g (pc (SxY06ipi _ (SxY06ipi _ (SxY06ipi _ (SxY06ipi _ (pf _) pn) (pf _)) (pf _)) (pf _)) (by kernel_rfl))
theorem g4J4_go {x0:List Nat} {x1:Bool}:Prs (fun k=>tb k (pth 15) (g4J4s x0 x1)) (g4J4 A n kk x0 x1):=by
  unfold g4J4
  exact st.g (pc (SxY06ipi _ pn (SxY06ipi _ (SxY06ipi _ (SxY06ipi _ (SxY06ipi _ (SxY06ipi _ (SxY06ipi _ (SxY06ipi _ (SxY06ipi _ (pf _) (pf _)) (pf _)) (pf _)) (pf _)) (g4J9_go st)) pn) pn) pn)) (by kernel_rfl))
theorem g4_go {a:List Nat}:Prs (fun k=>funN A gtys (g4O A) g4an g4cut (bodyOf Try.f4) g4res [(tS a)] [] kk (tb k)) (g4 A n kk a):=by
  unfold g4
  exact pc (SxY06ipi _ (SxY06ipi _ (pf _) (g4J4_go st)) pn) (by kernel_rfl)
end
def g4is (o:Option AV):Bool:=match o with
 | some (.v (.cell (.bool _)))=>true
 | _=>false
def g4g0 (o:Option AV):Bool:=match o with
 | some (.v (.cell (.bool x)))=>x
 | _=>false
theorem g4is_spec {o:Option AV} (h:g4is o=true):o=some (.v (.cell (.bool (g4g0 o)))):=by
  unfold g4is at h
  split at h
  · rfl
  · cases h
def g4v (A:Ar) (a:List Nat):Option AV:=g4 A (100000) (fun v _=>some v) a
def g4ok (A:Ar) (a:List Nat):Bool:=g4is (g4v A a)
def g4r0 (A:Ar) (a:List Nat):Bool:=g4g0 (g4v A a)
theorem g4ok_spec {A:Ar} {a} (h:g4ok A a=true):g4v A a=some (.v (.cell (.bool (g4r0 A a)))):=g4is_spec h
def g4o (A:Ar) (args:List AV):Option (Bool × AV):=match args with
 | [.v (.cell (.str a))]=>some (g4ok A a,.v (.cell (.bool (g4r0 A a))))
 | _=>none
theorem g4o_sound:∀ args v,g4o realA args=some (true,v)→Fn1 Try.prog 4 args v:=by
  intro args v h
  unfold g4o at h
  split at h
  · rename_i a
    simp only [Option.some.injEq,Prod.mk.injEq] at h
    obtain ⟨hc,h⟩:=h
    subst h
    · skip
      exact fn1_ofG mixed gtysOK g4O_sound g4O_det (an:=g4an) (cut:=g4cut) Try.func4 (c:=bodyOf Try.f4) rfl (by kernel_rfl) Try.call4 (Nat.le_of_ble_eq_true rfl) (fun b=>rfl) (fun _=>(show g4v realA a=_ from g4ok_spec hc)) fun _ st=>g4_go st
  · cases h
attribute [local irreducible] g4ok g4r0
end Go.Sx
