import Derived.Test.YtkomlijabeedpaaDoorSxB
namespace Go.Sx

def roHeap : Heap → Heap
  | [] => []
  | (b, x) :: r => (b, ⟨x.segs, x.ty, 0⟩) :: roHeap r

def consNb (sid : Nat) (nb : Option Blk) (h : Heap) : Heap :=
  match nb with
  | none => h
  | some x => (sid, x) :: h

def nbMen (nb : Option Blk) (b : Nat) : Bool :=
  match nb with
  | none => false
  | some x => anyB (Seg.mentions b) x.segs

def menOk (base mask : Nat) (v : AV) (nb : Option Blk) : List Nat → Bool
  | [] => true
  | i :: r => match v.mentions (base + i) || nbMen nb (base + i) with
    | true => mask.testBit i && menOk base mask v nb r
    | false => menOk base mask v nb r

def allLt (p : Nat → Bool) : Nat → Bool
  | 0 => true
  | n + 1 => p n && allLt p n

def maskOf (tab : List Nat) : List Edge → Nat
  | [] => 0
  | e :: r => match Region.binds .any e with
    | true => (2 ^ e.on ||| tab.getD e.on 0) ||| maskOf tab r
    | false => maskOf tab r

def afterLt (j : Nat) : List Edge → Bool
  | [] => true
  | e :: r => match Region.binds .any e with
    | true => Nat.blt e.on j && afterLt j r
    | false => afterLt j r

def tabOf : List Nat → List Oper → List Nat
  | tab, [] => tab
  | tab, o :: r => tabOf (tab ++ [maskOf tab o.after.toList]) r

def isMove (o : Oper) : Bool :=
  match o.op, o.guard with
  | .move _, none => true
  | .extract _ _, none => true
  | _, _ => false

def notSel (o : Oper) : Bool :=
  match o.op with
  | .select _ _ => false
  | _ => true

def edgeOn (i : Nat) : List Edge → Bool
  | [] => false
  | e :: r => (Region.binds .any e && Nat.beq e.on i) || edgeOn i r

def freeOp (ops : Array Oper) (tab : List Nat) (i : Nat) : Bool :=
  match ops.toList[i]? with
  | some oi => isMove oi && allLt (fun j => match ops.toList[j]? with
    | some oj => notSel oj && (Nat.beq j i || ((tab.getD i 0).testBit j || (edgeOn i oj.after.toList || oi.apart ops oj)))
    | none => true) ops.size
  | none => false

def wall (ops : Array Oper) (tab : List Nat) (n i : Nat) : Bool :=
  allLt (fun j => match Nat.blt j i with
    | true => match (tab.getD i 0).testBit j with
      | true => true
      | false => freeOp ops tab j
    | false => match Nat.beq j i with
      | true => true
      | false => (tab.getD j 0).testBit i) n

def early (tab : List Nat) (i j : Nat) : Bool := Nat.blt i j && !(tab.getD j 0).testBit i

def isCall (o : Oper) : Bool :=
  match o.op with
  | .call _ => true
  | _ => false

def callAt (ops : Array Oper) (i : Nat) : Bool :=
  match ops.toList[i]? with
  | some o => isCall o
  | none => false

def calm (o : Oper) : Bool :=
  match o.op with
  | .move _ => true
  | .load _ _ => true
  | .fieldAddr _ _ _ => true
  | .field _ _ _ => true
  | .indexAddr _ _ _ => true
  | .index _ _ _ => true
  | .extract _ _ => true
  | .binOp _ _ _ _ _ => true
  | .unOp _ _ _ => true
  | .convert _ _ _ => true
  | _ => false

def calmAt (ops : Array Oper) (i : Nat) : Bool :=
  match ops.toList[i]? with
  | some o => calm o
  | none => false

def gate (ops : Array Oper) (tab : List Nat) (n i : Nat) : Bool :=
  callAt ops i && allLt (fun j => match Nat.blt j i with
    | true => match (tab.getD i 0).testBit j with
      | true => true
      | false => freeOp ops tab j
    | false => match Nat.beq j i with
      | true => true
      | false => match (tab.getD j 0).testBit i with
        | true => true
        | false => calmAt ops j && allLt (fun m => match (tab.getD j 0).testBit m with
          | true => Nat.blt m i || early tab i m
          | false => true) n) n

def near (ops : Array Oper) (tab : List Nat) (n i : Nat) : Bool :=
  allLt (fun j => match early tab i j with
    | true => allLt (fun b => match Nat.blt i b && Nat.ble b j with
      | true => !(wall ops tab n b || gate ops tab n b)
      | false => true) n
    | false => true) n

def gated (ops : Array Oper) (tab : List Nat) (n i : Nat) : Bool :=
  !(wall ops tab n i) && (gate ops tab n i && near ops tab n i)

def barrier (ops : Array Oper) (tab : List Nat) (n i : Nat) : Bool :=
  wall ops tab n i || gated ops tab n i

def dstIs (o : Oper) (t : Nat) : Bool :=
  match o.dst with
  | some d => Nat.beq d t
  | none => false

def readOk (ops : List Oper) (tab : List Nat) (n i t : Nat) : Bool :=
  allLt (fun j => match ops[j]? with
    | some oj => match dstIs oj t with
      | true => match Nat.blt j i with
        | true => (tab.getD i 0).testBit j
        | false => Nat.blt i j && (tab.getD j 0).testBit i
      | false => true
    | none => true) n

def allL {α : Type} (p : α → Bool) : List α → Bool
  | [] => true
  | x :: r => p x && allL p r

def drawOk (ops : Array Oper) (tab : List Nat) : Bool :=
  allLt (fun i => match ops.toList[i]? with
    | some o => Nat.beq (tab.getD i 0) (maskOf tab o.after.toList) && (afterLt i o.after.toList && (allL (readOk ops.toList tab ops.size i) (o.looksAt ops) && (match o.dst with
      | some d => allLt (fun j => match Nat.beq j i with
        | true => true
        | false => match ops.toList[j]? with
          | some oj => !dstIs oj d
          | none => true) ops.size
      | none => true)))
    | none => true) ops.size

section
variable {R : Type} (A : Ar) (T : Tys) (O : Orc)

def notMen (sid : Nat) (v : AV) (k : AV → Option Blk → Option R) : Option R :=
  match v.mentions sid with
  | true => none
  | false => k v none

def lightD (ops : Array Oper) (sid : Nat) (o : Oper) (s : St) (he : Heap) (k : AV → Option Blk → Option R) : Option R :=
  wantD ops.toList o ⟨pick s.sl (o.looksAt ops), roHeap he⟩ fun b => match b with
    | false => k (.v (.cell .un)) none
    | true => opE A T O.noYl sid o (ev ⟨pick s.sl (o.looksAt ops), roHeap he⟩) (roHeap he) (freshIn sid s) fun v h' mv => match mv with
      | [] => match h' with
        | [] => notMen sid v k
        | (b, blk) :: _ => match Nat.beq b sid with
          | true => match blk.own, freshIn sid s with
            | _ + 1, true => k v (some blk)
            | _, _ => none
          | false => notMen sid v k
      | _ => none

def heL (base mask : Nat) : List Nat → Heap → Heap → Heap
  | [], _, he => he
  | m :: r, h, he => match mask.testBit m with
    | true => match lk (base + m) h with
      | some x => (base + m, x) :: heL base mask r h he
      | none => heL base mask r h he
    | false => heL base mask r h he

def anyLt (p : Nat → Bool) : Nat → Bool
  | 0 => false
  | n + 1 => p n || anyLt p n

def looksB (ops : List Oper) (opsA : Array Oper) (tab : List Nat) (i : Nat) (sl : Slots) (b : Nat) : Bool :=
  anyLt (fun j => match early tab i j with
    | true => match ops[j]? with
      | some oj => anyB (fun t => match lk t sl with
        | some v => v.mentions b
        | none => false) (oj.looksAt opsA)
      | none => false
    | false => false) opsA.size

def inGrp (base : Nat) (b : Nat) : List Nat → Bool
  | [] => false
  | m :: r => Nat.beq b (base + m) || inGrp base b r

def cutH (p : Nat → Bool) : Heap → Heap × Heap
  | [] => ([], [])
  | (b, x) :: r => match p b with
    | true => ((b, x) :: (cutH p r).1, (cutH p r).2)
    | false => ((cutH p r).1, (b, x) :: (cutH p r).2)

def cutA (ops : Array Oper) (tab : List Nat) (base i : Nat) (grp : List Nat) (s : St) : Heap × Heap :=
  cutH (fun b => looksB ops.toList ops tab i s.sl b && !(inGrp base b grp)) s.hp

def ownAll : Heap → Bool
  | [] => true
  | (_, x) :: r => match x.own with
    | 0 => false
    | _ + 1 => ownAll r

def oldOrOwn (h : Heap) : Heap → Bool
  | [] => true
  | (b, x) :: r => (match x.own with
    | 0 => match lk b h with
      | some _ => true
      | none => false
    | _ + 1 => true) && oldOrOwn h r

def lkNone {α : Type} (t : Nat) (s : List (Nat × α)) : Bool :=
  match lk t s with
  | some _ => false
  | none => true

def dstFree (ops : List Oper) (n : Nat) (tab : List Nat) (i : Nat) (sl : Slots) : Bool :=
  allLt (fun j => match early tab i j with
    | true => match ops[j]? with
      | some oj => match oj.dst with
        | some d => lkNone d sl
        | none => true
      | none => true
    | false => true) n

structure Gt where
  i : Nat
  e : Heap
  bad : List Nat

def noBad (v : AV) : List Nat → Bool
  | [] => true
  | b :: r => !(v.mentions b) && noBad v r

def hcall (ops : Array Oper) (i : Nat) (s : St) : Bool :=
  match ops.toList[i]? with
  | some o => anyB (fun t => match lk t s.sl with
    | some v => anyB (fun p : Nat × Blk => v.mentions p.1) s.hp
    | none => false) (o.looksAt ops)
  | none => false

def gatedS (ops : Array Oper) (tab : List Nat) (n i : Nat) (s : St) : Bool := gated ops tab n i && hcall ops i s

def drawD (ops : Array Oper) (tab : List Nat) (base : Nat) : Nat → List Oper → St → Heap → List Nat → Option Gt → (St → Option R) → Option R
  | _, [], s, _, _, _, k => k s
  | i, o :: r, s, he, grp, g, k => match wall ops tab ops.size i with
    | true => wantD ops.toList o s fun b => match b with
      | true => opD A T O (base + i) o s fun v h mv => match pinOk mv with
        | true => force (isG ops.toList o.dst ops.toList) v fun v => drawD ops tab base (i + 1) r (put ⟨invals mv s.sl, s.hp⟩ o.dst v h) h [] none k
        | false => none
      | false => drawD ops tab base (i + 1) r (put s o.dst (.v (.cell .un)) s.hp) s.hp [] none k
    | false => match gatedS ops tab ops.size i s with
      | true => match dstFree ops.toList ops.size tab i s.sl && (freshIn (base + i) s && ownAll (cutA ops tab base i grp s).1) with
        | true => wantD ops.toList o s fun b => match b with
          | true => opD A T O (base + i) o ⟨s.sl, (cutA ops tab base i grp s).2⟩ fun v h mv => match mv with
            | [] => match oldOrOwn (cutA ops tab base i grp s).2 h with
              | true => force (isG ops.toList o.dst ops.toList) v fun v => drawD ops tab base (i + 1) r (put s o.dst v ((cutA ops tab base i grp s).1 ++ h)) ((cutA ops tab base i grp s).1 ++ h) [] (some ⟨i, (cutA ops tab base i grp s).1, (base + i) :: grp.map (base + ·)⟩) k
              | false => none
            | _ => none
          | false => drawD ops tab base (i + 1) r (put s o.dst (.v (.cell .un)) s.hp) s.hp [] (some ⟨i, (cutA ops tab base i grp s).1, (base + i) :: grp.map (base + ·)⟩) k
        | false => none
      | false => match (match g with
          | some g => early tab g.i i
          | none => false) with
        | true => match g with
          | some g => lightD A T O ops (base + i) o s g.e fun v nb => match nb with
            | none => match noBad v g.bad && menOk base (tab.getD i 0) v none grp with
              | true => force (isG ops.toList o.dst ops.toList) v fun v => drawD ops tab base (i + 1) r (put s o.dst v s.hp) he (i :: grp) (some g) k
              | false => none
            | some _ => none
          | none => none
        | false => lightD A T O ops (base + i) o s (heL base (tab.getD i 0) grp s.hp he) fun v nb => match menOk base (tab.getD i 0) v nb grp with
          | true => force (isG ops.toList o.dst ops.toList) v fun v => drawD ops tab base (i + 1) r (put s o.dst v (consNb (base + i) nb s.hp)) he (i :: grp) g k
          | false => none

end
end Go.Sx
