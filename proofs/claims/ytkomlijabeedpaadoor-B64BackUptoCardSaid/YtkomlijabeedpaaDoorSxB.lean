import Derived.Test.YtkomlijabeedpaaDoorSxA
namespace Go.Sx

inductive Ex where
  | normal
  | exit (i : Nat)
  | ret

abbrev GL (α : Type) := List (Bool × Option α)
def caseG {α R : Type} : GL α → (α → Option R) → Option R
  | [], _ => none
  | (b, o) :: r, k => match b with
    | true => match o with
      | some a => k a
      | none => none
    | false => caseG r k
def pickG {α : Type} : GL α → Option α
  | [] => none
  | (b, o) :: r => match b with
    | true => o
    | false => pickG r
def mapG {α β : Type} (f : α → Option β) : GL α → GL β
  | [] => []
  | (b, o) :: r => (b, match o with
    | some a => f a
    | none => none) :: mapG f r
theorem caseG_eq {α R : Type} {l : GL α} {k : α → Option R} : caseG l k = match pickG l with
  | some a => k a
  | none => none := by
  induction l with
  | nil => rfl
  | cons p r ih =>
    obtain ⟨b, o⟩ := p
    cases b with
    | true => cases o <;> rfl
    | false => exact ih
theorem pickG_map {α β : Type} {f : α → Option β} {l : GL α} : pickG (mapG f l) = match pickG l with
  | some a => f a
  | none => none := by
  induction l with
  | nil => rfl
  | cons p r ih =>
    obtain ⟨b, o⟩ := p
    cases b with
    | true => cases o <;> rfl
    | false => exact ih

structure Orc where
  run : {R : Type} → FuncId → Nat → List AV → Heap → (AV → Heap → List Nat → Option R) → Option R
  ylg : List AV → Heap → GL (Bool × Heap) := fun _ _ => []
  rngg : Nat → AV → Slots → Heap → GL (Ex × Heap) := fun _ _ _ _ => []
  tk : Bool := false
  pb : Nat := 500
  nx : Option (Nat × List Nat) := none   -- a string's iterator: its slot, the string
def Orc.noYl (O : Orc) : Orc := { O with ylg := fun _ _ => [] }
def Orc.yl (O : Orc) (vs : List AV) (h : Heap) : Option (Bool × Heap) := pickG (O.ylg vs h)
def Orc.rng (O : Orc) (i : Nat) (v : AV) (sl : Slots) (h : Heap) : Option (Ex × Heap) := pickG (O.rngg i v sl h)

section
variable {R : Type} (A : Ar) (T : Tys) (O : Orc)

def plainT : TK → Bool
  | .int _ => true
  | .bool => true
  | .string => true
  | _ => false

def idxD (e : Operand → Option AV) (x : Operand) (n : Nat) (k : Nat → Option R) : Option R :=
  match x with
  | .const (.int _ (.ofNat j)) => match Nat.blt j n with
    | true => k j
    | false => none
  | x => match e x with
    | some (.v (.cell (.int _ i))) => match A.neg i with
      | true => none
      | false => match A.lt (A.toN i) n with
        | true => k (A.toN i)
        | false => none
    | some (.v (.cell (.nat _ j))) => match A.lt j n with
      | true => k j
      | false => none
    | _ => none

def boundD (e : Operand → Option AV) (x : Option Operand) (d n : Nat) (k : Nat → Option R) : Option R :=
  match x with
  | none => k d
  | some (.const (.int _ (.ofNat j))) => match j with
    | 0 => k 0
    | j => match A.le j n with
      | true => k j
      | false => none
  | some x => match e x with
    | some (.v (.cell (.int _ i))) => match A.neg i with
      | true => none
      | false => match A.le (A.toN i) n with
        | true => k (A.toN i)
        | false => none
    | some (.v (.cell (.nat _ j))) => match A.le j n with
      | true => k j
      | false => none
    | _ => none

def countD (e : Operand → Option AV) (x : Operand) (k : Nat → Option R) : Option R :=
  match x with
  | .const (.int _ (.ofNat j)) => k j
  | x => match e x with
    | some (.v (.cell (.int _ i))) => match A.neg i with
      | true => none
      | false => k (A.toN i)
    | some (.v (.cell (.nat _ j))) => k j
    | _ => none

def bitsOf : IntKind → Nat
  | .i8 | .u8 => 8
  | .i16 | .u16 => 16
  | .i32 | .u32 => 32
  | .i64 | .u64 => 64

def unsig : IntKind → Bool
  | .u8 | .u16 | .u32 | .u64 => true
  | _ => false

def maxOf : IntKind → Nat
  | .u8 => 255 | .u16 => 65535 | .u32 => 4294967295 | _ => 18446744073709551615

def rowOf : List Col → Nat → List Seg
  | [], _ => []
  | c :: q, r => .one (c.cell r) :: rowOf q r

def loadE (h : Heap) (T : Tys) (t : TypeId) : AV → Option V1
  | .v (.cell (.ptr b o i)) => match lk b h, T t with
    | some blk, some ty => match ty.tk with
      | .struct | .array => match i with
        | none => match getRange blk.segs o ty.size with
          | some q => some (.agg q)
          | none => none
        | some x => match Nat.ble ty.size x.z with
          | false => none
          | true => match blk.segs with
            | [.recs _ cols] => match Nat.beq x.rz cols.length && (Nat.beq x.f 0 && Nat.beq ty.size cols.length) with
              | true => some (.agg (rowOf cols x.r))
              | false => none
            | segs => match spot segs o x.j x.m with
              | some (.nums k _ l, r) => some (.agg [.nums k ty.size ((l.drop r).take ty.size)])
              | some (.ints k _ l, r) => some (.agg [.ints k ty.size ((l.drop r).take ty.size)])
              | _ => none
      | .other => none
      | _ => match i with
        | none => match getCell blk.segs o with
          | some c => some (.cell c)
          | none => none
        | some x => match Nat.ble 1 x.z with
          | false => none
          | true => match blk.segs with
            | [.recs _ cols] => match Nat.beq x.rz cols.length && Nat.blt x.f cols.length with
              | true => some (.cell (colsCell cols x.f x.r))
              | false => none
            | segs => match spot segs o x.j x.m with
              | some (sg, r) => some (.cell (sg.cell r))
              | none => none
    | _, _ => none
  | _ => none

def storeE (h : Heap) (T : Tys) (t : TypeId) : AV → AV → Option Heap
  | .v (.cell (.ptr b o i)), .v x => match x.ok with
   | false => none
   | true => match lk b h, T t with
    | some ⟨_, _, 0⟩, _ => none
    | some blk, some ty => match Nat.beq (segsLen x.segs) ty.size with
      | false => none
      | true => match i with
        | none => match x.segs with
          | [] => none
          | y :: ys => match setRange blk.segs o (y :: ys) with
            | some q => some (hset b ⟨q, blk.ty, blk.own⟩ h)
            | none => none
        | some ix => match Nat.ble ty.size ix.z with
          | false => none
          | true => match spot blk.segs o ix.j ix.m, x.segs with
          | some (sg, r), [.one c] => match sg.setC r c with
            | some sg' => some (hset b ⟨relay blk.segs o sg', blk.ty, blk.own⟩ h)
            | none => none
          | some (.nums k n l, r), [.nums k' m l'] => match kindEq k k' with
            | true => some (hset b ⟨relay blk.segs o (.nums k n (l.take r ++ (l' ++ l.drop (r + m)))), blk.ty, blk.own⟩ h)
            | false => none
          | _, _ => none
    | _, _ => none
  | _, _ => none

def eqCell (A : Ar) : Cell → Cell → Option Bool
  | .bool a, .bool b => some (a == b)
  | .int k a, .int k' b => match kindEq k k' with
    | true => some (A.ic .eql a b)
    | false => none
  | .nat k a, .nat k' b => match kindEq k k' with
    | true => some (A.nc .eql a b)
    | false => none
  | .str a, .str b => some (A.sc .eql a b)
  | _, _ => none

def eqSegs (A : Ar) : List Seg → List Seg → Option Bool
  | [], [] => some true
  | .one a :: r, .one b :: q => match eqCell A a b with
    | some c => match eqSegs A r q with
      | some d => some (c && d)
      | none => none
    | none => none
  | .nums k n a :: r, .nums k' m b :: q => match kindEq k k' && Nat.beq n m with
    | true => match eqSegs A r q with
      | some d => some (A.lq a b && d)
      | none => none
    | false => none
  | _, _ => none

def binE (op : BinOp) : V1 → V1 → Option Cell
  | .cell (.nat k a), .cell (.nat k' b) => match kindEq k k' with
    | true => match op with
      | .add | .sub | .mul | .and | .or | .xor | .andNot => some (.nat k (A.nb op k a b))
      | .eql | .neq | .lss | .leq | .gtr | .geq => some (.bool (A.nc op a b))
      | _ => none
    | false => none
  | .cell (.int k a), .cell (.int k' b) => match kindEq k k' with
    | true => match op with
      | .add | .sub | .mul | .and | .or | .xor | .andNot => some (.int k (A.ib op k a b))
      | .eql | .neq | .lss | .leq | .gtr | .geq => some (.bool (A.ic op a b))
      | _ => none
    | false => none
  | .cell (.bool a), .cell (.bool b) => match op with
    | .eql => some (.bool (a == b))
    | .neq => some (.bool (!(a == b)))
    | _ => none
  | .cell (.str a), .cell (.str b) => match op with
    | .eql | .neq | .lss | .leq | .gtr | .geq => some (.bool (A.sc op a b))
    | _ => none
  | .cell (.ptr _ _ _), .cell .nilp => match op with
    | .eql => some (.bool false)
    | .neq => some (.bool true)
    | _ => none
  | .cell .nilp, .cell .nilp => match op with
    | .eql => some (.bool true)
    | .neq => some (.bool false)
    | _ => none
  | .agg a, .agg b => match op with
    | .eql => match eqSegs A a b with
      | some c => some (.bool c)
      | none => none
    | .neq => match eqSegs A a b with
      | some c => some (.bool (!c))
      | none => none
    | _ => none
  | _, _ => none

def posLit : Operand → Bool
  | .const (.int _ (.ofNat (_ + 1))) => true
  | _ => false

def binD (op : BinOp) (e : Operand → Option AV) (x y : Operand) (k : Cell → Option R) : Option R :=
  match op with
  | .shl | .shr => match e x with
    | some (.v (.cell (.nat kd a))) => countD A e y fun c => k (.nat kd (A.nsh op kd a c))
    | some (.v (.cell (.int kd a))) => countD A e y fun c => k (.int kd (A.ish op kd a c))
    | _ => none
  | .quo | .rem => match e x, e y with
    | some (.v (.cell (.nat kd a))), some (.v (.cell (.nat kd' b))) => match kindEq kd kd' with
      | true => match posLit y with
        | true => k (.nat kd (A.nb op kd a b))
        | false => match A.eq b 0 with
          | true => none
          | false => k (.nat kd (A.nb op kd a b))
      | false => none
    | some (.v (.cell (.int kd a))), some (.v (.cell (.int kd' b))) => match kindEq kd kd' with
      | true => match posLit y with
        | true => k (.int kd (A.ib op kd a b))
        | false => match A.ic .eql b 0 with
          | true => none
          | false => k (.int kd (A.ib op kd a b))
      | false => none
    | _, _ => none
  | .add => match e x, e y with
    | some (.v (.cell (.str a))), some (.v (.cell (.str b))) => match A.le (a.length + b.length) 9223372036854775807 with
      | true => k (.str (a ++ b))
      | false => none
    | some (.v a), some (.v b) => match binE A op a b with
      | some c => k c
      | none => none
    | _, _ => none
  | op => match e x, e y with
    | some (.v a), some (.v b) => match binE A op a b with
      | some c => k c
      | none => none
    | _, _ => none

def unE (op : UnOp) : Cell → Option Cell
  | .bool b => match op with
    | .not => some (.bool (!b))
    | _ => none
  | .int k n => match op with
    | .neg => some (.int k (A.ib .sub k 0 n))
    | _ => none
  | .nat k n => match op with
    | .neg => some (.nat k (A.nb .sub k 0 n))
    | .xor => some (.nat k (A.nb .xor k (maxOf k) n))
    | _ => none
  | _ => none

def convE (k' : IntKind) : Cell → Option Cell
  | .nat k a => match unsig k' with
    | true => match Nat.ble (bitsOf k) (bitsOf k') with
      | true => some (.nat k' a)
      | false => some (.nat k' (A.n2n k' a))
    | false => match Nat.blt (bitsOf k) (bitsOf k') with
      | true => some (.int k' (A.ofN a))
      | false => some (.int k' (A.n2i k' a))
  | .int _ i => match unsig k' with
    | true => some (.nat k' (A.i2n k' i))
    | false => some (.int k' (A.i2i k' i))
  | _ => none

def sliceSeg (h : Heap) : Cell → Option Seg
  | .sl b o n z => match lk b h with
    | some blk => match blk.segs with
      | [.nums k _ l] => match z, o with
        | 1, none => some (.nums k n (l.take n))
        | 1, some o => some (.nums k n ((l.drop o).take n))
        | _, _ => none
      | [.ints k _ l] => match z, o with
        | 1, none => some (.ints k n (l.take n))
        | 1, some o => some (.ints k n ((l.drop o).take n))
        | _, _ => none
      | [.strs _ l] => match z, o with
        | 1, none => some (.strs n (l.take n))
        | 1, some o => some (.strs n ((l.drop o).take n))
        | _, _ => none
      | _ => none
    | none => none
  | .str s => some (.nums .u8 s.length s)
  | _ => none

inductive KD where
  | int (k : IntKind) | bool | str
def KD.eqb : KD → KD → Bool
  | .int k, .int k' => kindEq k k'
  | .bool, .bool => true
  | .str, .str => true
  | _, _ => false
def repKD : Nat → List KD → List KD
  | 0, _ => []
  | n + 1, l => l ++ repKD n l
def flT (f : TypeId → Option (List KD)) : List (Nat × Nat) → Option (List KD)
  | [] => some []
  | (_, t) :: r => match f t with
    | some l => match flT f r with
      | some q => some (l ++ q)
      | none => none
    | none => none
def kdsT (T : Tys) : Nat → TypeId → Option (List KD)
  | 0, _ => none
  | m + 1, t => match T t with
    | some ty => match ty.tk with
      | .int k => some [.int k]
      | .bool => some [.bool]
      | .string => some [.str]
      | .array => match kdsT T m ty.elem with
        | some l => some (repKD ty.len l)
        | none => none
      | .struct => flT (kdsT T m) ty.flds
      | _ => none
    | none => none
def emptyCol : KD → Col
  | .int k => match unsig k with
    | true => .nums k []
    | false => .ints k []
  | .bool => .bools []
  | .str => .strs []
def emptyCols : List KD → List Col
  | [] => []
  | k :: r => emptyCol k :: emptyCols r
def emptyRow (T : Tys) (t : TypeId) (te : Ty) : List Seg :=
  match te.tk with
  | .struct => match kdsT T 6 t with
    | some (a :: b :: l) => [.recs 0 (emptyCols (a :: b :: l))]
    | _ => []
  | tk => emptySegs tk
def colAdd : Col → Cell → Option Col
  | .nums k l, .nat k' x => match kindEq k k' with
    | true => some (.nums k (l ++ [x]))
    | false => none
  | .ints k l, .int k' x => match kindEq k k' with
    | true => some (.ints k (l ++ [x]))
    | false => none
  | .strs l, .str x => some (.strs (l ++ [x]))
  | .bools l, .bool x => some (.bools (l ++ [x]))
  | _, _ => none
def colsAdd : List Col → List Seg → Option (List Col)
  | [], [] => some []
  | c :: q, .one x :: r => match colAdd c x with
    | some c' => match colsAdd q r with
      | some q' => some (c' :: q')
      | none => none
    | none => none
  | _, _ => none
def srcOf (h : Heap) (z : Nat) (x : Cell) : Option (List Seg × Nat) :=
  match z with
  | 1 => match sliceSeg h x with
    | some sg => some ([sg], sg.len)
    | none => none
  | z => match x with
    | .sl b none 1 z' => match Nat.beq z' z, lk b h with
      | true, some blk => match Nat.beq (segsLen blk.segs) z with
        | true => some (blk.segs, 1)
        | false => none
      | _, _ => none
    | _ => none
def joinRow (segs : List Seg) (o : Option Nat) (z : Nat) (src : List Seg) : Option (List Seg × Nat) :=
  match z, src with
  | 1, [sg] => joinSegs segs o (some sg)
  | z, src => match segs, o with
    | [.recs n cols], none => match Nat.beq cols.length z, colsAdd cols src with
      | true, some cols' => some ([.recs (n + 1) cols'], n + 1)
      | _, _ => none
    | _, _ => none
def appendD (T : Tys) (t : TypeId) (h : Heap) (a x : AV) (k : AV → Heap → List Nat → Option R) : Option R :=
  match a, x with
  | .v (.cell (.sl b o n z)), .v (.cell xc) => match lk b h, T t with
    | some ⟨segs, ty, 2⟩, some tt => match T tt.elem with
      | some te => match Nat.beq ty tt.elem && (Nat.beq te.size z && (Nat.ble 1 z && Nat.ble 1 te.bytes)) with
        | true => match A.eq (addZ o (mulZ n z)) (segsLen segs) with
          | true => match srcOf h z xc with
            | some (src, _) => match joinRow segs o z src with
              | some (segs', n') => match A.le (mulZ n' te.bytes) 140737488355328 with
                | true => k (.v (.cell (.sl b none n' z))) ((b, ⟨segs', ty, 2⟩) :: hdel b h) [b]
                | false => none
              | none => none
            | none => none
          | false => none
        | false => none
      | none => none
    | _, _ => none
  | _, _ => none

def appendN (T : Tys) (sid : Nat) (fr : Bool) (t : TypeId) (h : Heap) (x : AV) (k : AV → Heap → List Nat → Option R) : Option R :=
  match fr with
  | true => match T t with
    | some tt => match T tt.elem with
      | some te => appendD A T t ((sid, ⟨emptyRow T tt.elem te, tt.elem, 2⟩) :: h) (.v (.cell (.sl sid none 0 te.size))) x (fun v h' mv => match mv with
        | [m] => match Nat.beq m sid with
          | true => k v h' []
          | false => none
        | _ => none)
      | none => none
    | none => none
  | false => none

def builtinD (b : Builtin) (e : Operand → Option AV) (sid : Nat) (fr : Bool) (hp : Heap) (args : List Operand) (types : List TypeId) (k : AV → Heap → List Nat → Option R) : Option R :=
  match b with
  | .len => match args, types with
    | [x], t :: _ => match T t, e x with
      | some ty, some (.v (.cell (.str l))) => match ty.tk with
        | .string => k (.v (.cell (.int .i64 (A.ofN l.length)))) hp []
        | _ => none
      | some ty, some (.v (.cell (.sl _ _ n _))) => match ty.tk with
        | .slice => k (.v (.cell (.int .i64 (A.ofN n)))) hp []
        | _ => none
      | some ty, some (.v (.cell .nils)) => match ty.tk with
        | .slice => k (.v (.cell (.int .i64 (A.ofN 0)))) hp []
        | _ => none
      | _, _ => none
    | _, _ => none
  | .min => match args with
    | [x, y] => match e x, e y with
      | some (.v (.cell (.int .i64 a))), some (.v (.cell (.int .i64 b))) => k (.v (.cell (.int .i64 (A.mn a b)))) hp []
      | _, _ => none
    | _ => none
  | .max => match args with
    | [x, y] => match e x, e y with
      | some (.v (.cell (.int .i64 a))), some (.v (.cell (.int .i64 b))) => k (.v (.cell (.int .i64 (A.mx a b)))) hp []
      | _, _ => none
    | _ => none
  | .append => match args, types with
    | [x, y], [t, t'] => match e x, e y, T t, T t' with
      | some a, some c, some ty, some ty' => match ty.tk with
        | .slice => match ty'.tk with
          | .slice | .string => match a with
            | .v (.cell .nils) => appendN A T sid fr t hp c k
            | a => appendD A T t hp a c k
          | _ => none
        | _ => none
      | _, _, _, _ => none
    | _, _ => none
  | _ => none

def v1s : List AV → Option (List V1)
  | [] => some []
  | .v x :: r => match v1s r with
    | some l => some (x :: l)
    | none => none
  | _ :: _ => none

def partsOf (e : Operand → Option AV) : List (Nat × Operand) → Option (List (Nat × V1))
  | [] => some []
  | (i, x) :: r => match e x with
    | some (.v v) => match v.ok with
      | true => match partsOf e r with
        | some l => some ((i, v) :: l)
        | none => none
      | false => none
    | _ => none

def inOrder : Nat → List (Nat × V1) → Option (List V1)
  | _, [] => some []
  | i, (j, v) :: r => match Nat.beq i j with
    | true => match inOrder (i + 1) r with
      | some l => some (v :: l)
      | none => none
    | false => none

def buildE (T : Tys) (ty : Ty) : List Seg → List (Nat × V1) → Option (List Seg)
  | segs, [] => some segs
  | segs, (i, v) :: r => match ty.tk with
    | .struct => match lk2 i ty.flds with
      | some (off, ft) => match T ft with
        | some fty => match Nat.beq (segsLen v.segs) fty.size && Nat.ble 1 fty.size with
          | true => match setRange segs off v.segs with
            | some q => buildE T ty q r
            | none => none
          | false => none
        | none => none
      | none => none
    | .array => match T ty.elem with
      | some ety => match Nat.beq (segsLen v.segs) ety.size && Nat.ble 1 ety.size with
        | true => match setRange segs (i * ety.size) v.segs with
          | some q => buildE T ty q r
          | none => none
        | false => none
      | none => none
    | _ => none
where
  lk2 : Nat → List (Nat × Nat) → Option (Nat × Nat)
    | _, [] => none
    | 0, x :: _ => some x
    | i + 1, _ :: r => lk2 i r

def isAggT : TK → Bool
  | .struct => true
  | .array => true
  | _ => false

def fieldOf (ty : Ty) (f : Nat) : Option (Nat × Nat) :=
  match ty.tk with
  | .struct => buildE.lk2 f ty.flds
  | _ => none

def dropKD (k : KD) : Nat → List KD → Option (List KD)
  | 0, l => some l
  | n + 1, x :: l => match x.eqb k with
    | true => dropKD k n l
    | false => none
  | _ + 1, [] => none
def fitSegs : List KD → List Seg → Bool
  | [], [] => true
  | l, .nums k n _ :: r => match dropKD (.int k) n l with
    | some q => fitSegs q r
    | none => false
  | x :: l, .one c :: r => match c with
    | .nat k _ => x.eqb (.int k) && fitSegs l r
    | .int k _ => x.eqb (.int k) && fitSegs l r
    | .bool _ => x.eqb .bool && fitSegs l r
    | .str _ => x.eqb .str && fitSegs l r
    | _ => false
  | _, _ => false
def kindsOk (T : Tys) (t : TypeId) (q : List Seg) : Bool :=
  match kdsT T 6 t with
  | some l => fitSegs l q
  | none => false
def eqAsk (T : Tys) (t : TypeId) (op : BinOp) : Option AV → Bool
  | some (.v (.agg q)) => match T t with
    | some ty => match op with
      | .eql | .neq => ty.eqok && kindsOk T t q
      | _ => true
    | none => false
  | some (.v (.cell (.bool _))) => match T t with
    | some ty => match ty.tk with
      | .bool => true
      | _ => false
    | none => false
  | some (.v (.cell (.ptr _ _ _))) => match T t with
    | some ty => match ty.tk with
      | .ptr => true
      | _ => false
    | none => false
  | some (.v (.cell .nilp)) => match T t with
    | some ty => match ty.tk with
      | .ptr => true
      | _ => false
    | none => false
  | _ => true

def allSize (z : Nat) : List V1 → Bool
  | [] => true
  | v :: r => Nat.beq (segsLen v.segs) z && allSize z r

def vAV : List V1 → List AV → List AV
  | [], l => l
  | x :: r, l => .v x :: vAV r l

def Cell.big : Cell → List Nat
  | .ptr b _ _ => match Nat.ble 500 b with
    | true => [b]
    | false => []
  | .sl b _ _ _ => match Nat.ble 500 b with
    | true => [b]
    | false => []
  | _ => []
def segsBig : List Seg → List Nat
  | [] => []
  | .one c :: r => c.big ++ segsBig r
  | _ :: r => segsBig r
def mvOf : Heap → List Nat
  | [] => []
  | (b, x) :: r => match Nat.ble 500 b with
    | true => b :: (segsBig x.segs ++ mvOf r)
    | false => segsBig x.segs ++ mvOf r

def newBlk (sid : Nat) (hp : Heap) (fr : Bool) (blk : Blk) (k : AV → Heap → List Nat → Option R) (v : AV) : Option R :=
  match fr with
  | true => k v ((sid, blk) :: hp) []
  | false => none

def opE (sid : Nat) (o : Oper) (e : Operand → Option AV) (hp : Heap) (fr : Bool) (k : AV → Heap → List Nat → Option R) : Option R :=
  match o.op with
  | .move x | .assign x => match x with
    | .const (.slice none 0 0) => match T o.type with
      | some ty => match T ty.elem with
        | some te => newBlk sid hp fr ⟨emptyRow T ty.elem te, ty.elem, 2⟩ k (.v (.cell (.sl sid none 0 te.size)))
        | none => none
      | none => none
    | x => match e x with
      | some v => k v hp []
      | none => none
  | .pick c a b => match e c with
    | some (.v (.cell (.bool t))) => match t with
      | true => match e a with
        | some v => k v hp []
        | none => none
      | false => match e b with
        | some v => k v hp []
        | none => none
    | _ => none
  | .alloc t => match T t with
    | some ty => newBlk sid hp fr ⟨ty.zero.segs, t, 1⟩ k (.v (.cell (.ptr sid 0 none)))
    | none => none
  | .box t x => match e x, T t with
    | some (.v v), some _ => match v.ok with
      | true => newBlk sid hp fr ⟨v.segs, t, 1⟩ k (.v (.cell (.ptr sid 0 none)))
      | false => none
    | _, _ => none
  | .build t parts => match T t with
    | some ty => match isAggT ty.tk with
      | true => match partsOf e parts.toList with
        | some ps => match buildE T ty ty.zero.segs ps with
          | some q => k (.v (.agg q)) hp []
          | none => none
        | none => none
      | false => none
    | none => none
  | .buildSlice t n parts => match T t with
    | some ty => match ty.tk, T ty.elem with
      | .slice, some te => match partsOf e parts.toList with
        | some ps => match inOrder 0 ps with
          | some vs => match Nat.beq n vs.length && (Nat.ble (n * te.size) 16777216 && (Nat.ble 1 te.size && allSize te.size vs)) with
            | true => match rowSegs te.tk n vs with
              | some q => match Nat.beq (segsLen q) (n * te.size) with
                | true => newBlk sid hp fr ⟨q, ty.elem, 2⟩ k (.v (.cell (.sl sid none n te.size)))
                | false => none
              | none => none
            | false => none
          | none => none
        | none => none
      | _, _ => none
    | none => none
  | .load t a => match e a with
    | some p => match loadE hp T t p with
      | some v => k (.v v) hp []
      | none => none
    | none => none
  | .store t a x => match e a, e x with
    | some p, some v => match storeE hp T t p v with
      | some h => k (.v (.cell .un)) h []
      | none => none
    | _, _ => none
  | .nilCheck x => match e x with
    | some (.v (.cell (.ptr b o i))) => k (.v (.cell (.ptr b o i))) hp []
    | _ => none
  | .binOp op t x y _ => match eqAsk T t op (e x) with
    | true => binD A op e x y fun c => k (.v (.cell c)) hp []
    | false => none
  | .unOp op _ x => match e x with
    | some (.v (.cell c)) => match unE A op c with
      | some d => k (.v (.cell d)) hp []
      | none => none
    | _ => none
  | .convert sr d x => match T d, e x, T sr with
    | some ty, some (.v (.cell c)), some ts => match ty.tk with
      | .int k' => match convE A k' c with
        | some d => k (.v (.cell d)) hp []
        | none => none
      | .string => match c with
        | .str l => k (.v (.cell (.str l))) hp []
        | .int _ i => k (.v (.cell (.str (runeS i)))) hp []
        | .nils => match ts.tk, T ts.elem with
          | .slice, some te => match te.tk with
            | .int .u8 => k (.v (.cell (.str []))) hp []
            | _ => none
          | _, _ => none
        | .sl b o n z => match ts.tk, T ts.elem, sliceSeg hp (.sl b o n z) with
          | .slice, some te, some (.nums .u8 _ l) => match te.tk with
            | .int .u8 => k (.v (.cell (.str l))) hp []
            | _ => none
          | _, _, _ => none
        | _ => none
      | .slice => match c, T ty.elem with
        | .str l, some te => match te.tk with
          | .int .u8 => match A.le l.length 9223372036854775807 with
            | true => newBlk sid hp fr ⟨[.nums .u8 l.length l], ty.elem, 1⟩ k (.v (.cell (.sl sid none l.length 1)))
            | false => none
          | _ => none
        | _, _ => none
      | _ => none
    | _, _, _ => none
  | .makeSlice t l c => match T t with
    | some ⟨.slice, _, _, _, _, _, el, _⟩ => match T el with
      | some te => countD A e l fun n => countD A e c fun m => match A.le n m with
        | true => match Nat.ble 1 te.bytes && A.le (mulZ m te.bytes) 140737488355328 with
          | true => match zeroRow te.zero n with
            | some q => newBlk sid hp fr ⟨q, el, 2⟩ k (.v (.cell (.sl sid none n 1)))
            | none => none
          | false => none
        | false => none
      | none => none
    | _ => none
  | .slice t x lo hi mx => match mx with
    | some _ => none
    | none => match e x, T t with
      | some (.v (.cell (.str l))), some ⟨.string, _, _, _, _, _, _, _⟩ =>
        boundD A e hi l.length l.length fun b => boundD A e lo 0 b fun a => k (.v (.cell (.str ((l.take b).drop a)))) hp []
      | some (.v (.cell (.sl b o n z))), some ⟨.slice, _, _, _, _, _, el, _⟩ => match T el with
       | none => none
       | some te => match Nat.beq te.size z with
        | false => none
        | true => boundD A e hi n n fun h => match lo with
          | none => k (.v (.cell (.sl b o h z))) hp []
          | some _ => boundD A e lo 0 h fun l => k (.v (.cell (.sl b (addO o (mulZ l z)) (h - l) z))) hp []
      | some (.v (.cell .nils)), some ⟨.slice, _, _, _, _, _, el, _⟩ => match T el with
        | none => none
        | some _ => boundD A e hi 0 0 fun h => boundD A e lo 0 h fun _ => k (.v (.cell .nils)) hp []
      | some (.v (.cell (.ptr b 0 none))), some ty => match ty.tk, lk b hp, T ty.elem with
        | .array, some ⟨[sg], _, _⟩, some te => match Nat.beq sg.len ty.len && (Nat.beq te.size 1 && Nat.ble ty.len 9223372036854775807) with
          | true => boundD A e hi ty.len ty.len fun h => match lo with
            | none => k (.v (.cell (.sl b none h 1))) hp []
            | some _ => boundD A e lo 0 h fun l => k (.v (.cell (.sl b (some l) (h - l) 1))) hp []
          | false => none
        | _, _, _ => none
      | _, _ => none
  | .fieldAddr t x f => match e x, T t with
    | some (.v (.cell (.ptr b o i))), some ty => match fieldOf ty f with
      | some (off, ft) => match T ft with
        | some fty => match fty.size with
          | 0 => none
          | _ => match i with
            | none => k (.v (.cell (.ptr b (o + off) none))) hp []
            | some x => match Nat.ble (off + fty.size) x.z with
              | true => k (.v (.cell (.ptr b o (some ⟨x.j + off, fty.size, x.m, x.r, x.f + off, x.rz⟩)))) hp []
              | false => none
        | none => none
      | none => none
    | _, _ => none
  | .field t x f => match e x, T t with
    | some (.v (.agg q)), some ty => match fieldOf ty f with
      | some (off, ft) => match T ft with
        | some fty => match fty.tk with
          | .struct | .array => match getRange q off fty.size with
            | some p => k (.v (.agg p)) hp []
            | none => none
          | .other => none
          | _ => match getCell q off with
            | some c => k (.v (.cell c)) hp []
            | none => none
        | none => none
      | none => none
    | _, _ => none
  | .indexAddr t x ix => match T t, e x with
    | some ty, some (.v (.cell (.ptr b o i))) => match ty.tk, T ty.elem with
      | .array, some te => match ix with
        | .const (.int _ (.ofNat j)) => match Nat.blt j ty.len, i with
          | true, none => k (.v (.cell (.ptr b (o + j * te.size) none))) hp []
          | true, some x => match Nat.ble (j * te.size + te.size) x.z with
            | true => k (.v (.cell (.ptr b o (some ⟨x.j + j * te.size, te.size, x.m, x.r, x.f + j * te.size, x.rz⟩)))) hp []
            | false => none
          | false, _ => none
        | ix => match i with
          | none => match lk b hp with
            | some blk => match Nat.ble (o + ty.len * te.size) (segsLen blk.segs) with
              | true => idxD A e ix ty.len fun j => k (.v (.cell (.ptr b o (some ⟨mulZ j te.size, te.size, ty.len * te.size, 0, 0, 0⟩)))) hp []
              | false => none
            | none => none
          | some x => match Nat.ble (ty.len * te.size) x.z with
            | true => idxD A e ix ty.len fun j => k (.v (.cell (.ptr b o (some ⟨x.j + mulZ j te.size, te.size, x.m, 0, 0, 0⟩)))) hp []
            | false => none
      | _, _ => none
    | some ty, some (.v (.cell (.sl b o n z))) => match ty.tk with
      | .slice => match T ty.elem with
        | some te => match Nat.beq te.size z with
          | true => idxD A e ix n fun j => match o with
            | none => k (.v (.cell (.ptr b 0 (some ⟨mulZ j z, z, mulZ n z, j, 0, z⟩)))) hp []
            | some o => k (.v (.cell (.ptr b 0 (some ⟨o + mulZ j z, z, o + mulZ n z, 0, 0, 0⟩)))) hp []
          | false => none
        | none => none
      | _ => none
    | _, _ => none
  | .index t x ix => match T t, e x with
    | some ⟨.string, _, _, _, _, _, _, _⟩, some (.v (.cell (.str l))) => idxD A e ix l.length fun j => k (.v (.cell (.nat .u8 (l.getD j 0)))) hp []
    | some ⟨.array, _, _, _, _, n, el, _⟩, some (.v (.agg [s])) => match T el with
      | some te => match plainT te.tk && (Nat.beq te.size 1 && Nat.beq s.len n) with
        | true => idxD A e ix n fun j => k (.v (.cell (s.cell j))) hp []
        | false => none
      | none => none
    | _, _ => none
  | .extract x i => match e x with
    | some (.tup l) => match l[i]? with
      | some v => k (.v v) hp []
      | none => none
    | _ => none
  | .makeFunc fn xs ys => match fn with
    | .func f => match evs e xs.toList, evs e ys.toList with
      | some a, some c => match v1s a, v1s c with
        | some a, some c => k (.fn f a c) hp []
        | _, _ => none
      | _, _ => none
    | _ => none
  | .call c => match c.callee with
    | .builtin b => builtinD A T b e sid fr hp c.args.toList c.argTypes.toList k
    | .value (.func f) => match evs e c.args.toList with
      | some vs => match fr with
        | true => O.run f sid vs hp k
        | false => none
      | none => none
    | .value (.tmp t) => match e (.tmp t), evs e c.args.toList with
      | some (.fn f a q), some vs => match fr with
        | true => O.run f sid (vAV a (vs ++ vAV q [])) hp k
        | false => none
      | some (.yld b), some vs => match Nat.beq b 449 with
        | true => caseG (O.ylg vs hp) fun p => match p with
          | (true, h') => k (.v (.cell (.bool true))) h' (mvOf h')
          | (false, _) => none
        | false => none
      | _, _ => none
    | _ => none
  | _ => none

def opD (sid : Nat) (o : Oper) (s : St) (k : AV → Heap → List Nat → Option R) : Option R :=
  opE A T O sid o (ev s) s.hp (freshIn sid s) k

def wantD (ops : List Oper) (o : Oper) (s : St) (k : Bool → Option R) : Option R :=
  match o.guard with
  | none => k true
  | some (j, want) => match ops[j]? with
    | some oj => match oj.dst with
      | some d => match lk d s.sl with
        | some (.v (.cell (.bool b))) => match b with
          | true => k want
          | false => k (!want)
        | some (.v (.cell .un)) => k false
        | _ => none
      | none => none
    | none => none

def pinOk : List Nat → Bool
  | [] => true
  | b :: r => Nat.ble 500 b && pinOk r

def isG (all : List Oper) (d : Option Nat) : List Oper → Bool
  | [] => false
  | o :: r => match o.guard with
    | none => isG all d r
    | some (j, _) => match all[j]? with
      | some oj => match d, oj.dst with
        | some a, some b => match Nat.beq a b with
          | true => true
          | false => isG all d r
        | _, _ => isG all d r
      | none => isG all d r

def force {R : Type} (g : Bool) (v : AV) (k : AV → Option R) : Option R :=
  match g with
  | false => k v
  | true => match v with
    | .v (.cell (.bool b)) => match b with
      | true => k (.v (.cell (.bool true)))
      | false => k (.v (.cell (.bool false)))
    | v => k v

theorem force_eq {R : Type} (g : Bool) (v : AV) (k : AV → Option R) : force g v k = k v := by
  unfold force
  split
  · rfl
  · split
    · split <;> rfl
    · rfl

def opsD (ops : List Oper) : Nat → List Oper → St → (St → Option R) → Option R
  | _, [], s, k => k s
  | sid, o :: r, s, k => wantD ops o s fun b => match b with
    | true => opD A T O sid o s fun v h mv => match pinOk mv with
      | true => force (isG ops o.dst ops) v fun v => opsD ops (sid + 1) r (put ⟨invals mv s.sl, s.hp⟩ o.dst v h) k
      | false => none
    | false => opsD ops (sid + 1) r (put s o.dst (.v (.cell .un)) s.hp) k

end

def pick {α : Type} (s : List (Nat × α)) : List Nat → List (Nat × α)
  | [] => []
  | t :: r => match lk t s with
    | some v => (t, v) :: pick s r
    | none => pick s r

end Go.Sx
