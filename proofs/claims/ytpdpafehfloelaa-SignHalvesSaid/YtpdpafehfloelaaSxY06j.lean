import Derived.Test.YtpdpafehfloelaaSxY06e
namespace Go.Sx
set_option linter.unusedSectionVars false
open Go.Proofs
set_option linter.unusedVariables false
set_option maxRecDepth 100000
theorem SxY06jpi {R:Type} (c:Bool) {f1 f2:Nat→Option R} {a1 a2:Option R} (h1:Prs f1 a1) (h2:Prs f2 a2):Prs (fun k=>match c with | true=>f1 k | false=>f2 k) (match c with | true=>a1 | false=>a2):=by cases c <;> assumption
attribute [local irreducible] g8ok g8r0 g8r1 g9ok g9r0 g9r1 g10ok g10r0 g11ok g11r0 g7ok g7r0 g6ok g6r0
def g5O (A:Ar):Orc:=orcOf [(6,g6o A),(7,g7o A),(8,g8o A),(9,g9o A),(11,g11o A),(10,g10o A)]
theorem g5O_sound:OSound Try.prog (g5O realA):=orc_sound fun f g hm args v hv=>by
  simp only [List.mem_cons,List.not_mem_nil,or_false,Prod.mk.injEq] at hm
  rcases hm with ⟨rfl,rfl⟩ | ⟨rfl,rfl⟩ | ⟨rfl,rfl⟩ | ⟨rfl,rfl⟩ | ⟨rfl,rfl⟩ | ⟨rfl,rfl⟩
  · exact g6o_sound _ _ hv
  · exact g7o_sound _ _ hv
  · exact g8o_sound _ _ hv
  · exact g9o_sound _ _ hv
  · exact g11o_sound _ _ hv
  · exact g10o_sound _ _ hv
theorem g5O_det:ODet (g5O realA):=orc_det _
def g5an:Ann:=[(0,([0,1],[])),(1,([0,1],[])),(2,([0,1,5],[])),(3,([],[])),(4,([0,1,5],[])),(5,([0,1,5],[])),(6,([0,1,5],[])),(7,([0,1,5,6,7],[])),(8,([1,5,6,7,8,9],[])),(9,([],[])),(10,([1,5,6,8],[])),(11,([1,5,6,8,10],[])),(12,([1,5,6,8,10,11],[12001])),(13,([1,5,6,8,10,11,12],[12001])),(14,([1,5,6,8,10,11,12,13],[12001])),(15,([1,5,6,8,10,11,12,13],[12001])),(16,([1,5,6,8,10,11,12,13],[12001])),(17,([1,5,6,8,10,11,13,14],[12001])),(18,([1,5,6,8,10,11,13,14],[12001])),(19,([1,5,6,8,11,12],[12001]))]
def g5res:List ResultVar:=[.tmp 4]
def g5cut:List Nat:=[4,10,16,19]
abbrev g5t0 (A:Ar)  : List Nat:=g11r0 A [101,100,100,51,102,53,53,99,49,97,54,51,49,50,53,56,100,54,57,99,102,55,97,50,100,101,102,57,100,101,49,52,48,48,48,48,48,48,48,48,48,48,48,48,48,48,48,48,48,48,48,48,48,48,48,48,48,48,48,48,48,48,49,48]
noncomputable def g5N {R:Type} (A:Ar) (kk:AV→Heap→Option R) (t:List Bool→St→Option R) (p:List Bool) (s:St):Option R:=nodeN A gtys (g5O A) g5an g5cut t (bodyOf Try.f5) (finD gtys g5res kk) p s
def g5J16s (x0:List Nat) (x1:Bool) (x2 x3 x4:List Nat) (x5:Nat) (x6 x7:Int) (x8:Nat) (x9:List Nat):St:=⟨[(1,(tS x0)),(5,(bO x1)),(6,(tS x2)),(8,(tS x3)),(10,(tS x4)),(11,(sL 12001 none x5 1)),(12,(i6 x6)),(13,(i6 x7))],[(12001,⟨[.nums .u8 x8 x9],5,1⟩)]⟩
def g5J16 {R:Type} (A:Ar) (n:Nat) (kk:AV→Heap→Option R) (lg5L14:List Nat→Bool→List Nat→List Nat→List Nat→Nat→Int→Int→Nat→List Nat→Option R) (x0:List Nat) (x1:Bool) (x2 x3 x4:List Nat) (x5:Nat) (x6 x7:Int) (x8:Nat) (x9:List Nat):Option R :=
 match A.neg (A.ib .add .i64 32 x7) with
 | true=>none
 | false=>match A.lt (A.toN (A.ib .add .i64 32 x7)) x5 with
  | true=>match A.neg x7 with
   | true=>none
   | false=>match A.lt (A.toN x7) x4.length with
    | true=>match A.neg (A.ib .add .i64 32 x7) with
     | true=>none
     | false=>match A.lt (A.toN (A.ib .add .i64 32 x7)) x5 with
      | true=>lg5L14 x0 x1 x2 x3 x4 x5 (A.ib .quo .i64 (A.ib .add .i64 (A.ib .add .i64 (A.ofN (x9.getD (A.toN (A.ib .add .i64 32 x7)) 0)) (A.ofN (x4.getD (A.toN x7) 0))) x6) 256) (A.ib .add .i64 x7 1) x8 (x9.set (A.toN (A.ib .add .i64 32 x7)) (A.i2n .u8 (A.ib .add .i64 (A.ib .add .i64 (A.ofN (x9.getD (A.toN (A.ib .add .i64 32 x7)) 0)) (A.ofN (x4.getD (A.toN x7) 0))) x6)))
      | false=>none
    | false=>none
  | false=>none
def g5J19s (x0:List Nat) (x1:Bool) (x2 x3:List Nat) (x4:Nat) (x5:Int) (x6:Nat) (x7:List Nat):St:=⟨[(1,(tS x0)),(5,(bO x1)),(6,(tS x2)),(8,(tS x3)),(11,(sL 12001 none x4 1)),(12,(i6 x5))],[(12001,⟨[.nums .u8 x6 x7],5,1⟩)]⟩
def g5J19 {R:Type} (A:Ar) (n:Nat) (kk:AV→Heap→Option R)  (x0:List Nat) (x1:Bool) (x2 x3:List Nat) (x4:Nat) (x5:Int) (x6:Nat) (x7:List Nat):Option R :=
 match x1 with
 | true=>match A.ic .eql x5 0 with
  | true=>match g10ok A x2 x0 (x7.take x4) with
   | true=>match !(g10r0 A x2 x0 (x7.take x4)) with
    | true=>match g10ok A x2 x0 x3 with
     | true=>kk (bO (g10r0 A x2 x0 x3)) [(12001,⟨[.nums .u8 x6 x7],5,1⟩)]
     | false=>none
    | false=>kk (bO false) [(12001,⟨[.nums .u8 x6 x7],5,1⟩)]
   | false=>none
  | false=>kk (bO false) [(12001,⟨[.nums .u8 x6 x7],5,1⟩)]
 | false=>kk (bO false) [(12001,⟨[.nums .u8 x6 x7],5,1⟩)]
def g5L14s (x0:List Nat) (x1:Bool) (x2 x3 x4:List Nat) (x5:Nat) (x6 x7:Int) (x8:Nat) (x9:List Nat):St:=⟨[(1,(tS x0)),(5,(bO x1)),(6,(tS x2)),(8,(tS x3)),(10,(tS x4)),(11,(sL 12001 none x5 1)),(12,(i6 x6)),(13,(i6 x7))],[(12001,⟨[.nums .u8 x8 x9],5,1⟩)]⟩
def g5L14 {R:Type} (A:Ar) (n:Nat) (kk:AV→Heap→Option R)  : Nat→List Nat→Bool→List Nat→List Nat→List Nat→Nat→Int→Int→Nat→List Nat→Option R
 | 0,_,_,_,_,_,_,_,_,_,_=>none
 | m+1,x0,x1,x2,x3,x4,x5,x6,x7,x8,x9=>match A.ic .lss x7 32 with
 | true=>g5J16 A n kk (g5L14 A n kk  m) x0 x1 x2 x3 x4 x5 x6 x7 x8 x9
 | false=>g5J19 A n kk  x0 x1 x2 x3 x5 x6 x8 x9
def g5J10s (x0:List Nat) (x1:Bool) (x2 x3:List Nat):St:=⟨[(1,(tS x0)),(5,(bO x1)),(6,(tS x2)),(8,(tS x3))],[]⟩
def g5J10 {R:Type} (A:Ar) (n:Nat) (kk:AV→Heap→Option R)  (x0:List Nat) (x1:Bool) (x2 x3:List Nat):Option R :=
 match g11ok A [101,100,100,51,102,53,53,99,49,97,54,51,49,50,53,56,100,54,57,99,102,55,97,50,100,101,102,57,100,101,49,52,48,48,48,48,48,48,48,48,48,48,48,48,48,48,48,48,48,48,48,48,48,48,48,48,48,48,48,48,48,48,49,48] with
 | true=>match A.le x3.length 9223372036854775807 with
  | true=>g5L14 A n kk  n x0 x1 x2 x3 (g5t0 A) x3.length 0 0 x3.length x3
  | false=>none
 | false=>none
def g5J4s (x0 x1:List Nat) (x2:Bool):St:=⟨[(0,(tS x0)),(1,(tS x1)),(5,(bO x2))],[]⟩
def g5J4 {R:Type} (A:Ar) (n:Nat) (kk:AV→Heap→Option R)  (x0 x1:List Nat) (x2:Bool):Option R :=
 match g7ok A x0 with
 | true=>match A.neg (A.mn (A.ofN x1.length) 100) with
  | true=>none
  | false=>match A.le (A.toN (A.mn (A.ofN x1.length) 100)) x1.length with
   | true=>match g8ok A (g7r0 A x0) with
    | true=>match g9ok A (g7r0 A x0) ((x1.take (A.toN (A.mn (A.ofN x1.length) 100))).drop 0) with
     | true=>match !(g8r1 A (g7r0 A x0)) with
      | true=>kk (bO false) []
      | false=>match !(g9r1 A (g7r0 A x0) ((x1.take (A.toN (A.mn (A.ofN x1.length) 100))).drop 0)) with
       | true=>kk (bO false) []
       | false=>match A.ic .neq (A.ofN ((g9r0 A (g7r0 A x0) ((x1.take (A.toN (A.mn (A.ofN x1.length) 100))).drop 0)).length)) 64 with
        | true=>kk (bO false) []
        | false=>g5J10 A n kk  ((x1.take (A.toN (A.mn (A.ofN x1.length) 100))).drop 0) x2 (g8r0 A (g7r0 A x0)) (g9r0 A (g7r0 A x0) ((x1.take (A.toN (A.mn (A.ofN x1.length) 100))).drop 0))
     | false=>none
    | false=>none
   | false=>none
 | false=>none
def g5 {R:Type} (A:Ar) (n:Nat) (kk:AV→Heap→Option R) (a b:List Nat):Option R :=
 match g6ok A with
 | true=>match !(g6r0 A) with
  | true=>kk (bO false) []
  | false=>g5J4 A n kk  a b (g6r0 A)
 | false=>none
section
variable {R:Type} {A:Ar} {n:Nat} {kk:AV→Heap→Option R} {tb:Nat→List Bool→St→Option R} (st:Stp (g5N A kk) tb)
include st
theorem g5J16_go {lg5L14:List Nat→Bool→List Nat→List Nat→List Nat→Nat→Int→Int→Nat→List Nat→Option R} (hg5L14:∀ (x0:List Nat) (x1:Bool) (x2 x3 x4:List Nat) (x5:Nat) (x6 x7:Int) (x8:Nat) (x9:List Nat),Prs (fun k=>tb k (pth 65524) (g5L14s x0 x1 x2 x3 x4 x5 x6 x7 x8 x9)) (lg5L14 x0 x1 x2 x3 x4 x5 x6 x7 x8 x9)) {x0:List Nat} {x1:Bool} {x2:List Nat} {x3:List Nat} {x4:List Nat} {x5:Nat} {x6:Int} {x7:Int} {x8:Nat} {x9:List Nat}:Prs (fun k=>tb k (pth 131049) (g5J16s x0 x1 x2 x3 x4 x5 x6 x7 x8 x9)) (g5J16 A n kk lg5L14 x0 x1 x2 x3 x4 x5 x6 x7 x8 x9):=by
  unfold g5J16
  exact st.g (pc (SxY06jpi _ pn (SxY06jpi _ (SxY06jpi _ pn (SxY06jpi _ (SxY06jpi _ pn (SxY06jpi _ (hg5L14 _ _ _ _ _ _ _ _ _ _) pn)) pn)) pn)) (by kernel_rfl))
theorem g5J19_go {x0:List Nat} {x1:Bool} {x2:List Nat} {x3:List Nat} {x4:Nat} {x5:Int} {x6:Nat} {x7:List Nat}:Prs (fun k=>tb k (pth 8191) (g5J19s x0 x1 x2 x3 x4 x5 x6 x7)) (g5J19 A n kk x0 x1 x2 x3 x4 x5 x6 x7):=by
  unfold g5J19
  exact st.g (pc (SxY06jpi _ (SxY06jpi _ (SxY06jpi _ (SxY06jpi _ (SxY06jpi _ (pf _) pn) (pf _)) pn) (pf _)) (pf _)) (by kernel_rfl))
theorem g5L14_go (m:Nat):∀ (x0:List Nat) (x1:Bool) (x2 x3 x4:List Nat) (x5:Nat) (x6 x7:Int) (x8:Nat) (x9:List Nat),Prs (fun k=>tb k (pth 65524) (g5L14s x0 x1 x2 x3 x4 x5 x6 x7 x8 x9)) (g5L14 A n kk m x0 x1 x2 x3 x4 x5 x6 x7 x8 x9):=by
  induction m with
  | zero=>intro x0 x1 x2 x3 x4 x5 x6 x7 x8 x9; exact pn0
  | succ m ih =>
    intro x0 x1 x2 x3 x4 x5 x6 x7 x8 x9; rw [g5L14]
    exact st.g (pc (SxY06jpi _ (g5J16_go st ih) (g5J19_go st)) (by kernel_rfl))
theorem g5J10_go {x0:List Nat} {x1:Bool} {x2:List Nat} {x3:List Nat}:Prs (fun k=>tb k (pth 511) (g5J10s x0 x1 x2 x3)) (g5J10 A n kk x0 x1 x2 x3):=by
  unfold g5J10
  exact st.g (pc (SxY06jpi _ (SxY06jpi _ (g5L14_go st n _ _ _ _ _ _ _ _ _ _) pn) pn) (by kernel_rfl))
theorem g5J4_go {x0:List Nat} {x1:List Nat} {x2:Bool}:Prs (fun k=>tb k (pth 15) (g5J4s x0 x1 x2)) (g5J4 A n kk x0 x1 x2):=by
  unfold g5J4
  exact st.g (pc (SxY06jpi _ (SxY06jpi _ pn (SxY06jpi _ (SxY06jpi _ (SxY06jpi _ (SxY06jpi _ (pf _) (SxY06jpi _ (pf _) (SxY06jpi _ (pf _) (g5J10_go st)))) pn) pn) pn)) pn) (by kernel_rfl))
theorem g5_go {a:List Nat} {b:List Nat}:Prs (fun k=>funN A gtys (g5O A) g5an g5cut (bodyOf Try.f5) g5res [(tS a),(tS b)] [] kk (tb k)) (g5 A n kk a b):=by
  unfold g5
  exact pc (SxY06jpi _ (SxY06jpi _ (pf _) (g5J4_go st)) pn) (by kernel_rfl)
end
def g5is (o:Option AV):Bool:=match o with
 | some (.v (.cell (.bool _)))=>true
 | _=>false
def g5g0 (o:Option AV):Bool:=match o with
 | some (.v (.cell (.bool x)))=>x
 | _=>false
theorem g5is_spec {o:Option AV} (h:g5is o=true):o=some (.v (.cell (.bool (g5g0 o)))):=by
  unfold g5is at h
  split at h
  · rfl
  · cases h
def g5v (A:Ar) (a b:List Nat):Option AV:=g5 A (100000) (fun v _=>some v) a b
def g5ok (A:Ar) (a b:List Nat):Bool:=g5is (g5v A a b)
def g5r0 (A:Ar) (a b:List Nat):Bool:=g5g0 (g5v A a b)
theorem g5ok_spec {A:Ar} {a b} (h:g5ok A a b=true):g5v A a b=some (.v (.cell (.bool (g5r0 A a b)))):=g5is_spec h
def g5o (A:Ar) (args:List AV):Option (Bool × AV):=match args with
 | [.v (.cell (.str a)),.v (.cell (.str b))]=>some (g5ok A a b,.v (.cell (.bool (g5r0 A a b))))
 | _=>none
theorem g5o_sound:∀ args v,g5o realA args=some (true,v)→Fn1 Try.prog 5 args v:=by
  intro args v h
  unfold g5o at h
  split at h
  · rename_i a b
    simp only [Option.some.injEq,Prod.mk.injEq] at h
    obtain ⟨hc,h⟩:=h
    subst h
    · skip
      exact fn1_ofG mixed gtysOK g5O_sound g5O_det (an:=g5an) (cut:=g5cut) Try.func5 (c:=bodyOf Try.f5) rfl (by kernel_rfl) Try.call5 (Nat.le_of_ble_eq_true rfl) (fun b=>rfl) (fun _=>(show g5v realA a b=_ from g5ok_spec hc)) fun _ st=>g5_go st
  · cases h
attribute [local irreducible] g5ok g5r0
end Go.Sx
