import Derived.Test.YtpdpafehfloelaaSxY06e
namespace Go.Sx
set_option linter.unusedSectionVars false
open Go.Proofs
set_option linter.unusedVariables false
set_option maxRecDepth 100000
theorem SxY06hpi {R:Type} (c:Bool) {f1 f2:Nat→Option R} {a1 a2:Option R} (h1:Prs f1 a1) (h2:Prs f2 a2):Prs (fun k=>match c with | true=>f1 k | false=>f2 k) (match c with | true=>a1 | false=>a2):=by cases c <;> assumption
attribute [local irreducible] g8ok g8r0 g8r1 g9ok g9r0 g9r1 g10ok g10r0 g7ok g7r0 g6ok g6r0
def g3O (A:Ar):Orc:=orcOf [(6,g6o A),(7,g7o A),(8,g8o A),(9,g9o A),(10,g10o A)]
theorem g3O_sound:OSound Try.prog (g3O realA):=orc_sound fun f g hm args v hv=>by
  simp only [List.mem_cons,List.not_mem_nil,or_false,Prod.mk.injEq] at hm
  rcases hm with ⟨rfl,rfl⟩ | ⟨rfl,rfl⟩ | ⟨rfl,rfl⟩ | ⟨rfl,rfl⟩ | ⟨rfl,rfl⟩
  · exact g6o_sound _ _ hv
  · exact g7o_sound _ _ hv
  · exact g8o_sound _ _ hv
  · exact g9o_sound _ _ hv
  · exact g10o_sound _ _ hv
theorem g3O_det:ODet (g3O realA):=orc_det _
def g3an:Ann:=[(0,([0,1,2,3],[])),(1,([0,1,2,3],[])),(2,([0,1,2,3,9],[])),(3,([],[])),(4,([0,1,2,3,9],[])),(5,([0,1,2,3,9],[])),(6,([0,1,2,3,9],[])),(7,([0,1,2,3,9,10,11],[])),(8,([0,1,2,3,9,10,11,12,13],[])),(9,([1,2,3,9,10,11,12,13,14],[])),(10,([],[])),(11,([1,2,3,9,10,12],[]))]
def g3res:List ResultVar:=[.tmp 8]
def g3cut:List Nat:=[4,11]
noncomputable def g3N {R:Type} (A:Ar) (kk:AV→Heap→Option R) (t:List Bool→St→Option R) (p:List Bool) (s:St):Option R:=nodeN A gtys (g3O A) g3an g3cut t (bodyOf Try.f3) (finD gtys g3res kk) p s
def g3J11s (x0:List Nat) (x1:Nat) (x2:List Nat) (x3:Bool) (x4 x5:List Nat):St:=⟨[(1,(tS x0)),(2,(u8v x1)),(3,(tS x2)),(9,(bO x3)),(10,(tS x4)),(12,(tS x5))],[]⟩
def g3J11 {R:Type} (A:Ar) (n:Nat) (kk:AV→Heap→Option R)  (x0:List Nat) (x1:Nat) (x2:List Nat) (x3:Bool) (x4 x5:List Nat):Option R :=
 match x3 with
 | true=>match g10ok A x4 x0 x5 with
  | true=>match g10r0 A x4 x0 x5 with
   | true=>match A.le (A.nb .rem .u8 x1 64) x5.length with
    | true=>match g10ok A x4 x0 ((x5.take (A.nb .rem .u8 x1 64)).drop 0) with
     | true=>match !(g10r0 A x4 x0 ((x5.take (A.nb .rem .u8 x1 64)).drop 0)) with
      | true=>match A.sc .eql x2 [] with
       | true=>match A.le 31 x4.length with
        | true=>match g10ok A ((x4.take 31).drop 0) x0 x5 with
         | true=>kk (bO (!(g10r0 A ((x4.take 31).drop 0) x0 x5))) []
         | false=>none
        | false=>none
       | false=>match A.le (x5.length+x2.length) 9223372036854775807 with
        | true=>match g10ok A x4 x0 (x5++x2) with
         | true=>match !(g10r0 A x4 x0 (x5++x2)) with
          | true=>match A.le 31 x4.length with
           | true=>match g10ok A ((x4.take 31).drop 0) x0 x5 with
            | true=>kk (bO (!(g10r0 A ((x4.take 31).drop 0) x0 x5))) []
            | false=>none
           | false=>none
          | false=>kk (bO false) []
         | false=>none
        | false=>none
      | false=>kk (bO false) []
     | false=>none
    | false=>none
   | false=>kk (bO false) []
  | false=>none
 | false=>kk (bO false) []
def g3J4s (x0 x1:List Nat) (x2:Nat) (x3:List Nat) (x4:Bool):St:=⟨[(0,(tS x0)),(1,(tS x1)),(2,(u8v x2)),(3,(tS x3)),(9,(bO x4))],[]⟩
def g3J4 {R:Type} (A:Ar) (n:Nat) (kk:AV→Heap→Option R)  (x0 x1:List Nat) (x2:Nat) (x3:List Nat) (x4:Bool):Option R :=
 match g7ok A x0 with
 | true=>match A.neg (A.mn (A.ofN x1.length) 300) with
  | true=>none
  | false=>match A.le (A.toN (A.mn (A.ofN x1.length) 300)) x1.length with
   | true=>match g8ok A (g7r0 A x0) with
    | true=>match g9ok A (g7r0 A x0) ((x1.take (A.toN (A.mn (A.ofN x1.length) 300))).drop 0) with
     | true=>match g9ok A (g7r0 A x0) ((x1.take (A.toN (A.mn (A.ofN x1.length) 300))).drop 0) with
      | true=>match !(g8r1 A (g7r0 A x0)) with
       | true=>kk (bO false) []
       | false=>match !(g9r1 A (g7r0 A x0) ((x1.take (A.toN (A.mn (A.ofN x1.length) 300))).drop 0)) with
        | true=>kk (bO false) []
        | false=>match A.ic .neq (A.ofN ((g8r0 A (g7r0 A x0)).length)) 32 with
         | true=>kk (bO false) []
         | false=>match A.ic .neq (A.ofN ((g9r0 A (g7r0 A x0) ((x1.take (A.toN (A.mn (A.ofN x1.length) 300))).drop 0)).length)) 64 with
          | true=>kk (bO false) []
          | false=>match A.sc .neq (g9r0 A (g7r0 A x0) ((x1.take (A.toN (A.mn (A.ofN x1.length) 300))).drop 0)) (g9r0 A (g7r0 A x0) ((x1.take (A.toN (A.mn (A.ofN x1.length) 300))).drop 0)) with
           | true=>kk (bO false) []
           | false=>g3J11 A n kk  ((x1.take (A.toN (A.mn (A.ofN x1.length) 300))).drop 0) x2 x3 x4 (g8r0 A (g7r0 A x0)) (g9r0 A (g7r0 A x0) ((x1.take (A.toN (A.mn (A.ofN x1.length) 300))).drop 0))
      | false=>none
     | false=>none
    | false=>none
   | false=>none
 | false=>none
def g3 {R:Type} (A:Ar) (n:Nat) (kk:AV→Heap→Option R) (a b:List Nat) (c:Nat) (d:List Nat):Option R :=
 match g6ok A with
 | true=>match !(g6r0 A) with
  | true=>kk (bO false) []
  | false=>g3J4 A n kk  a b c d (g6r0 A)
 | false=>none
section
variable {R:Type} {A:Ar} {n:Nat} {kk:AV→Heap→Option R} {tb:Nat→List Bool→St→Option R} (st:Stp (g3N A kk) tb)
include st
theorem g3J11_go {x0:List Nat} {x1:Nat} {x2:List Nat} {x3:Bool} {x4:List Nat} {x5:List Nat}:Prs (fun k=>tb k (pth 1023) (g3J11s x0 x1 x2 x3 x4 x5)) (g3J11 A n kk x0 x1 x2 x3 x4 x5):=by
  unfold g3J11
  exact st.g (pc (SxY06hpi _ (SxY06hpi _ (SxY06hpi _ (SxY06hpi _ (SxY06hpi _ (SxY06hpi _ (SxY06hpi _ (SxY06hpi _ (SxY06hpi _ (pf _) pn) pn) (SxY06hpi _ (SxY06hpi _ (SxY06hpi _ (SxY06hpi _ (SxY06hpi _ (pf _) pn) pn) (pf _)) pn) pn)) (pf _)) pn) pn) (pf _)) pn) (pf _)) (by kernel_rfl))
theorem g3J4_go {x0:List Nat} {x1:List Nat} {x2:Nat} {x3:List Nat} {x4:Bool}:Prs (fun k=>tb k (pth 15) (g3J4s x0 x1 x2 x3 x4)) (g3J4 A n kk x0 x1 x2 x3 x4):=by
  unfold g3J4
  exact st.g (pc (SxY06hpi _ (SxY06hpi _ pn (SxY06hpi _ (SxY06hpi _ (SxY06hpi _ (SxY06hpi _ (SxY06hpi _ (pf _) (SxY06hpi _ (pf _) (SxY06hpi _ (pf _) (SxY06hpi _ (pf _) (SxY06hpi _ (pf _) (g3J11_go st)))))) pn) pn) pn) pn)) pn) (by kernel_rfl))
theorem g3_go {a:List Nat} {b:List Nat} {c:Nat} {d:List Nat}:Prs (fun k=>funN A gtys (g3O A) g3an g3cut (bodyOf Try.f3) g3res [(tS a),(tS b),(u8v c),(tS d)] [] kk (tb k)) (g3 A n kk a b c d):=by
  unfold g3
  exact pc (SxY06hpi _ (SxY06hpi _ (pf _) (g3J4_go st)) pn) (by kernel_rfl)
end
def g3is (o:Option AV):Bool:=match o with
 | some (.v (.cell (.bool _)))=>true
 | _=>false
def g3g0 (o:Option AV):Bool:=match o with
 | some (.v (.cell (.bool x)))=>x
 | _=>false
theorem g3is_spec {o:Option AV} (h:g3is o=true):o=some (.v (.cell (.bool (g3g0 o)))):=by
  unfold g3is at h
  split at h
  · rfl
  · cases h
def g3v (A:Ar) (a b:List Nat) (c:Nat) (d:List Nat):Option AV:=g3 A (100000) (fun v _=>some v) a b c d
def g3ok (A:Ar) (a b:List Nat) (c:Nat) (d:List Nat):Bool:=g3is (g3v A a b c d)
def g3r0 (A:Ar) (a b:List Nat) (c:Nat) (d:List Nat):Bool:=g3g0 (g3v A a b c d)
theorem g3ok_spec {A:Ar} {a b c d} (h:g3ok A a b c d=true):g3v A a b c d=some (.v (.cell (.bool (g3r0 A a b c d)))):=g3is_spec h
def g3o (A:Ar) (args:List AV):Option (Bool × AV):=match args with
 | [.v (.cell (.str a)),.v (.cell (.str b)),.v (.cell (.nat .u8 c)),.v (.cell (.str d))]=>some (g3ok A a b c d,.v (.cell (.bool (g3r0 A a b c d))))
 | _=>none
theorem g3o_sound:∀ args v,g3o realA args=some (true,v)→Fn1 Try.prog 3 args v:=by
  intro args v h
  unfold g3o at h
  split at h
  · rename_i a b c d
    simp only [Option.some.injEq,Prod.mk.injEq] at h
    obtain ⟨hc,h⟩:=h
    subst h
    · skip
      exact fn1_ofG mixed gtysOK g3O_sound g3O_det (an:=g3an) (cut:=g3cut) Try.func3 (c:=bodyOf Try.f3) rfl (by kernel_rfl) Try.call3 (Nat.le_of_ble_eq_true rfl) (fun b=>rfl) (fun _=>(show g3v realA a b c d=_ from g3ok_spec hc)) fun _ st=>g3_go st
  · cases h
attribute [local irreducible] g3ok g3r0
end Go.Sx
