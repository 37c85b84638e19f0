import Derived.Test.YtpdpafehfloelaaSxY06e
namespace Go.Sx
set_option linter.unusedSectionVars false
open Go.Proofs
set_option linter.unusedVariables false
set_option maxRecDepth 100000
attribute [local irreducible] g8ok g8r0 g8r1 g9ok g9r0 g9r1 g10ok g10r0 g7ok g7r0 g6ok g6r0
def g3O (A:Ar):Orc:=orcOf [(6,g6o A),(7,g7o A),(8,g8o A),(9,g9o A),(10,g10o A)]
def g3an:Ann:=[(0,([0,1,2,3],[])),(1,([0,1,2,3],[])),(2,([0,1,2,3,9],[])),(3,([],[])),(4,([0,1,2,3,9],[])),(5,([0,1,2,3,9],[])),(6,([0,1,2,3,9],[])),(7,([0,1,2,3,9,10,11],[])),(8,([0,1,2,3,9,10,11,12,13],[])),(9,([1,2,3,9,10,11,12,13,14],[])),(10,([],[])),(11,([1,2,3,9,10,12],[]))]
def g3res:List ResultVar:=[.tmp 8]
def g3cut:List Nat:=[4,11]
noncomputable def g3N {R:Type} (A:Ar) (kk:AV→Heap→Option R) (t:List Bool→St→Option R) (p:List Bool) (s:St):Option R:=nodeN A gtys (g3O A) g3an g3cut t (bodyOf Try.f3) (finD gtys g3res kk) p s
def g3J11 {R:Type} (A:Ar) (n:Nat) (kk:AV→Heap→Option R)  (x0:List Nat) (x1:Nat) (x2:List Nat) (x3:Bool) (x4 x5:List Nat):Option R :=
 match x3 with
 | true=>match g10ok A x4 x0 x5 with
  | true=>match g10r0 A x4 x0 x5 with
   | true=>match A.le (A.nb .rem .u8 x1 64) x5.length with
    | true=>match g10ok A x4 x0 ((x5.take (A.nb .rem .u8 x1 64)).drop 0) with
     | true=>match !(g10r0 A x4 x0 ((x5.take (A.nb .rem .u8 x1 64)).drop 0)) with
      | true=>match A.sc .eql x2 [] with
       | true=>match A.le 31 x4.length with
        | true=>match g10ok A ((x4.take 31).drop 0) x0 x5 with
         | true=>kk (bO (!(g10r0 A ((x4.take 31).drop 0) x0 x5))) []
         | false=>none
        | false=>none
       | false=>match A.le (x5.length+x2.length) 9223372036854775807 with
        | true=>match g10ok A x4 x0 (x5++x2) with
         | true=>match !(g10r0 A x4 x0 (x5++x2)) with
          | true=>match A.le 31 x4.length with
           | true=>match g10ok A ((x4.take 31).drop 0) x0 x5 with
            | true=>kk (bO (!(g10r0 A ((x4.take 31).drop 0) x0 x5))) []
            | false=>none
           | false=>none
          | false=>kk (bO false) []
         | false=>none
        | false=>none
      | false=>kk (bO false) []
     | false=>none
    | false=>none
   | false=>kk (bO false) []
  | false=>none
 | false=>kk (bO false) []
def g3J4 {R:Type} (A:Ar) (n:Nat) (kk:AV→Heap→Option R)  (x0 x1:List Nat) (x2:Nat) (x3:List Nat) (x4:Bool):Option R :=
 match g7ok A x0 with
 | true=>match A.neg (A.mn (A.ofN x1.length) 300) with
  | true=>none
  | false=>match A.le (A.toN (A.mn (A.ofN x1.length) 300)) x1.length with
   | true=>match g8ok A (g7r0 A x0) with
    | true=>match g9ok A (g7r0 A x0) ((x1.take (A.toN (A.mn (A.ofN x1.length) 300))).drop 0) with
     | true=>match g9ok A (g7r0 A x0) ((x1.take (A.toN (A.mn (A.ofN x1.length) 300))).drop 0) with
      | true=>match !(g8r1 A (g7r0 A x0)) with
       | true=>kk (bO false) []
       | false=>match !(g9r1 A (g7r0 A x0) ((x1.take (A.toN (A.mn (A.ofN x1.length) 300))).drop 0)) with
        | true=>kk (bO false) []
        | false=>match A.ic .neq (A.ofN ((g8r0 A (g7r0 A x0)).length)) 32 with
         | true=>kk (bO false) []
         | false=>match A.ic .neq (A.ofN ((g9r0 A (g7r0 A x0) ((x1.take (A.toN (A.mn (A.ofN x1.length) 300))).drop 0)).length)) 64 with
          | true=>kk (bO false) []
          | false=>match A.sc .neq (g9r0 A (g7r0 A x0) ((x1.take (A.toN (A.mn (A.ofN x1.length) 300))).drop 0)) (g9r0 A (g7r0 A x0) ((x1.take (A.toN (A.mn (A.ofN x1.length) 300))).drop 0)) with
           | true=>kk (bO false) []
           | false=>g3J11 A n kk  ((x1.take (A.toN (A.mn (A.ofN x1.length) 300))).drop 0) x2 x3 x4 (g8r0 A (g7r0 A x0)) (g9r0 A (g7r0 A x0) ((x1.take (A.toN (A.mn (A.ofN x1.length) 300))).drop 0))
      | false=>none
     | false=>none
    | false=>none
   | false=>none
 | false=>none
def g3 {R:Type} (A:Ar) (n:Nat) (kk:AV→Heap→Option R) (a b:List Nat) (c:Nat) (d:List Nat):Option R :=
 match g6ok A with
 | true=>match !(g6r0 A) with
  | true=>kk (bO false) []
  | false=>g3J4 A n kk  a b c d (g6r0 A)
 | false=>none
section
variable {R:Type} {A:Ar} {n:Nat} {kk:AV→Heap→Option R} {tb:Nat→List Bool→St→Option R} (st:Stp (g3N A kk) tb)
include st
end
def g3is (o:Option AV):Bool:=match o with
 | some (.v (.cell (.bool _)))=>true
 | _=>false
def g3g0 (o:Option AV):Bool:=match o with
 | some (.v (.cell (.bool x)))=>x
 | _=>false
def g3v (A:Ar) (a b:List Nat) (c:Nat) (d:List Nat):Option AV:=g3 A (100000) (fun v _=>some v) a b c d
def g3ok (A:Ar) (a b:List Nat) (c:Nat) (d:List Nat):Bool:=g3is (g3v A a b c d)
def g3r0 (A:Ar) (a b:List Nat) (c:Nat) (d:List Nat):Bool:=g3g0 (g3v A a b c d)
attribute [local irreducible] g3ok g3r0
end Go.Sx
