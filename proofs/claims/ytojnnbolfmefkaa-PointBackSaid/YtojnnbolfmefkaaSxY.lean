import Derived.Test.YtojnnbolfmefkaaSxB
namespace Go.Sx

def roHeap : Heap → Heap
  | [] => []
  | (b, x) :: r => (b, ⟨x.segs, x.ty, 0⟩) :: roHeap r

def consNb (sid : Nat) (nb : Option Blk) (h : Heap) : Heap :=
  match nb with
  | none => h
  | some x => (sid, x) :: h

def nbMen (nb : Option Blk) (b : Nat) : Bool :=
  match nb with
  | none => false
  | some x => anyB (Seg.mentions b) x.segs

def menOk (base mask : Nat) (v : AV) (nb : Option Blk) : List Nat → Bool
  | [] => true
  | i :: r => match v.mentions (base + i) || nbMen nb (base + i) with
    | true => mask.testBit i && menOk base mask v nb r
    | false => menOk base mask v nb r

def allLt (p : Nat → Bool) : Nat → Bool
  | 0 => true
  | n + 1 => p n && allLt p n

def maskOf (tab : List Nat) : List Edge → Nat
  | [] => 0
  | e :: r => match Region.binds .any e with
    | true => (2 ^ e.on ||| tab.getD e.on 0) ||| maskOf tab r
    | false => maskOf tab r

def afterLt (j : Nat) : List Edge → Bool
  | [] => true
  | e :: r => match Region.binds .any e with
    | true => Nat.blt e.on j && afterLt j r
    | false => afterLt j r

def tabOf : List Nat → List Oper → List Nat
  | tab, [] => tab
  | tab, o :: r => tabOf (tab ++ [maskOf tab o.after.toList]) r

def isMove (o : Oper) : Bool :=
  match o.op, o.guard with
  | .move _, none => true
  | .extract _ _, none => true
  | _, _ => false

def notSel (o : Oper) : Bool :=
  match o.op with
  | .select _ _ => false
  | _ => true

def edgeOn (i : Nat) : List Edge → Bool
  | [] => false
  | e :: r => (Region.binds .any e && Nat.beq e.on i) || edgeOn i r

def freeOp (ops : Array Oper) (tab : List Nat) (i : Nat) : Bool :=
  match ops.toList[i]? with
  | some oi => isMove oi && allLt (fun j => match ops.toList[j]? with
    | some oj => notSel oj && (Nat.beq j i || ((tab.getD i 0).testBit j || (edgeOn i oj.after.toList || oi.apart ops oj)))
    | none => true) ops.size
  | none => false

def barrier (ops : Array Oper) (tab : List Nat) (n i : Nat) : Bool :=
  allLt (fun j => match Nat.blt j i with
    | true => match (tab.getD i 0).testBit j with
      | true => true
      | false => freeOp ops tab j
    | false => match Nat.beq j i with
      | true => true
      | false => (tab.getD j 0).testBit i) n

def dstIs (o : Oper) (t : Nat) : Bool :=
  match o.dst with
  | some d => Nat.beq d t
  | none => false

def readOk (ops : List Oper) (tab : List Nat) (n i t : Nat) : Bool :=
  allLt (fun j => match ops[j]? with
    | some oj => match dstIs oj t with
      | true => match Nat.blt j i with
        | true => (tab.getD i 0).testBit j
        | false => Nat.blt i j && (tab.getD j 0).testBit i
      | false => true
    | none => true) n

def allL {α : Type} (p : α → Bool) : List α → Bool
  | [] => true
  | x :: r => p x && allL p r

def drawOk (ops : Array Oper) (tab : List Nat) : Bool :=
  allLt (fun i => match ops.toList[i]? with
    | some o => Nat.beq (tab.getD i 0) (maskOf tab o.after.toList) && (afterLt i o.after.toList && (allL (readOk ops.toList tab ops.size i) (o.looksAt ops) && (match o.dst with
      | some d => allLt (fun j => match Nat.beq j i with
        | true => true
        | false => match ops.toList[j]? with
          | some oj => !dstIs oj d
          | none => true) ops.size
      | none => true)))
    | none => true) ops.size

section
variable {R : Type} (A : Ar) (T : Tys) (O : Orc)

def notMen (sid : Nat) (v : AV) (k : AV → Option Blk → Option R) : Option R :=
  match v.mentions sid with
  | true => none
  | false => k v none

def lightD (ops : Array Oper) (sid : Nat) (o : Oper) (s : St) (he : Heap) (k : AV → Option Blk → Option R) : Option R :=
  wantD ops.toList o ⟨pick s.sl (o.looksAt ops), roHeap he⟩ fun b => match b with
    | false => k (.v (.cell .un)) none
    | true => opE A T O sid o (ev ⟨pick s.sl (o.looksAt ops), roHeap he⟩) (roHeap he) (freshIn sid s) fun v h' mv => match mv with
      | [] => match h' with
        | [] => notMen sid v k
        | (b, blk) :: _ => match Nat.beq b sid with
          | true => match blk.own, freshIn sid s with
            | _ + 1, true => k v (some blk)
            | _, _ => none
          | false => notMen sid v k
      | _ => none

def heL (base mask : Nat) : List Nat → Heap → Heap → Heap
  | [], _, he => he
  | m :: r, h, he => match mask.testBit m with
    | true => match lk (base + m) h with
      | some x => (base + m, x) :: heL base mask r h he
      | none => heL base mask r h he
    | false => heL base mask r h he

def drawD (ops : Array Oper) (tab : List Nat) (base : Nat) : Nat → List Oper → St → Heap → List Nat → (St → Option R) → Option R
  | _, [], s, _, _, k => k s
  | i, o :: r, s, he, grp, k => match barrier ops tab ops.size i with
    | true => wantD ops.toList o s fun b => match b with
      | true => opD A T O (base + i) o s fun v h mv => match pinOk mv with
        | true => force (isG ops.toList o.dst ops.toList) v fun v => drawD ops tab base (i + 1) r (put ⟨invals mv s.sl, s.hp⟩ o.dst v h) h [] k
        | false => none
      | false => drawD ops tab base (i + 1) r (put s o.dst (.v (.cell .un)) s.hp) s.hp [] k
    | false => lightD A T O ops (base + i) o s (heL base (tab.getD i 0) grp s.hp he) fun v nb => match menOk base (tab.getD i 0) v nb grp with
      | true => force (isG ops.toList o.dst ops.toList) v fun v => drawD ops tab base (i + 1) r (put s o.dst v (consNb (base + i) nb s.hp)) he (i :: grp) k
      | false => none

end
end Go.Sx
