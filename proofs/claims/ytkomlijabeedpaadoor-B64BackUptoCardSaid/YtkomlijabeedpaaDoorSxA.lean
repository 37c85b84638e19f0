import Derived.Orders
namespace Go.Sx

structure Ix where
  j : Nat
  z : Nat
  m : Nat
  r : Nat
  f : Nat
  rz : Nat

inductive Cell where
  | top
  | un
  | bool (b : Bool)
  | int (k : IntKind) (n : Int)
  | nat (k : IntKind) (n : Nat)
  | str (s : List Nat)
  | nilp
  | nils
  | ptr (b o : Nat) (i : Option Ix)
  | sl (b : Nat) (o : Option Nat) (n z : Nat)

inductive Col where
  | nums (k : IntKind) (l : List Nat)
  | ints (k : IntKind) (l : List Int)
  | strs (l : List (List Nat))
  | bools (l : List Bool)

inductive Seg where
  | one (c : Cell)
  | nums (k : IntKind) (len : Nat) (l : List Nat)
  | ints (k : IntKind) (len : Nat) (l : List Int)
  | strs (len : Nat) (l : List (List Nat))
  | recs (n : Nat) (cols : List Col)

inductive V1 where
  | cell (x : Cell)
  | agg (l : List Seg)

inductive AV where
  | v (x : V1)
  | tup (l : List V1)
  | fn (f : Nat) (a c : List V1)
  | yld (b : Nat)   -- a loop's yield; b stands for the loop's record

structure Blk where
  segs : List Seg
  ty : TypeId
  own : Nat        -- 0: read alone; 1: may be written; 2: may be appended to, too

abbrev Slots := List (Nat × AV)
abbrev Heap := List (Nat × Blk)
structure St where
  sl : Slots
  hp : Heap

structure Ar where
  lt : Nat → Nat → Bool
  le : Nat → Nat → Bool
  eq : Nat → Nat → Bool
  nb : BinOp → IntKind → Nat → Nat → Nat
  nsh : BinOp → IntKind → Nat → Nat → Nat
  nc : BinOp → Nat → Nat → Bool
  ib : BinOp → IntKind → Int → Int → Int
  ish : BinOp → IntKind → Int → Nat → Int
  ic : BinOp → Int → Int → Bool
  neg : Int → Bool
  toN : Int → Nat
  ofN : Nat → Int
  n2n : IntKind → Nat → Nat
  n2i : IntKind → Nat → Int
  i2n : IntKind → Int → Nat
  i2i : IntKind → Int → Int
  sc : BinOp → List Nat → List Nat → Bool
  lq : List Nat → List Nat → Bool
  mn : Int → Int → Int
  mx : Int → Int → Int

inductive TK where
  | int (k : IntKind) | bool | string | ptr | slice | array | struct | other

structure Ty where
  tk : TK
  size : Nat
  bytes : Nat
  zero : V1
  flds : List (Nat × Nat)   -- offset, type
  len : Nat
  elem : TypeId
  eqok : Bool       -- '==' on it goes cell by cell

abbrev Tys := TypeId → Option Ty

def lk {α : Type} (t : Nat) : List (Nat × α) → Option α
  | [] => none
  | (i, v) :: r => match Nat.beq i t with
    | true => some v
    | false => lk t r

def hset (b : Nat) (x : Blk) : Heap → Heap
  | [] => [(b, x)]
  | (i, v) :: r => match Nat.beq i b with
    | true => (i, x) :: r
    | false => (i, v) :: hset b x r

def Seg.len : Seg → Nat
  | .one _ => 1
  | .nums _ n _ => n
  | .ints _ n _ => n
  | .strs n _ => n
  | .recs n cols => n * cols.length

def Col.cell : Col → Nat → Cell
  | .nums k l, j => .nat k (l.getD j 0)
  | .ints k l, j => .int k (l.getD j 0)
  | .strs l, j => .str (l.getD j [])
  | .bools l, j => .bool (l.getD j false)

def colsCell : List Col → Nat → Nat → Cell
  | [], _, _ => .top
  | c :: _, 0, r => c.cell r
  | _ :: q, f + 1, r => colsCell q f r

def Seg.cell : Seg → Nat → Cell
  | .one c, _ => c
  | .nums k _ l, j => .nat k (l.getD j 0)
  | .ints k _ l, j => .int k (l.getD j 0)
  | .strs _ l, j => .str (l.getD j [])
  | .recs _ cols, j => colsCell cols (j % cols.length) (j / cols.length)

def segsLen : List Seg → Nat
  | [] => 0
  | s :: r => s.len + segsLen r

def V1.segs : V1 → List Seg
  | .cell x => [.one x]
  | .agg l => l

def getCell : List Seg → Nat → Option Cell
  | [], _ => none
  | s :: r, o => match Nat.blt o s.len with
    | true => some (s.cell o)
    | false => getCell r (o - s.len)

def Seg.part : Seg → Nat → Nat → Option Seg
  | .one c, _, _ => some (.one c)
  | .nums k _ l, o, m => some (.nums k m ((l.drop o).take m))
  | .ints k _ l, o, m => some (.ints k m ((l.drop o).take m))
  | .strs _ l, o, m => some (.strs m ((l.drop o).take m))
  | .recs _ _, _, _ => none

def getRange : List Seg → Nat → Nat → Option (List Seg)
  | _, _, 0 => some []
  | [], _, _ + 1 => none
  | s :: r, o, m + 1 => match Nat.ble s.len o with
    | true => getRange r (o - s.len) (m + 1)
    | false => match o with
      | 0 => match Nat.ble s.len (m + 1) with
        | true => match getRange r 0 (m + 1 - s.len) with
          | some q => some (s :: q)
          | none => none
        | false => match s.part 0 (m + 1) with
          | some q => some [q]
          | none => none
      | o' + 1 => match Nat.ble (o' + 1 + (m + 1)) s.len with
        | true => match s.part (o' + 1) (m + 1) with
          | some q => some [q]
          | none => none
        | false => none

def kindEq : IntKind → IntKind → Bool
  | .i8, .i8 => true | .i16, .i16 => true | .i32, .i32 => true | .i64, .i64 => true
  | .u8, .u8 => true | .u16, .u16 => true | .u32, .u32 => true | .u64, .u64 => true
  | _, _ => false

def Seg.setC : Seg → Nat → Cell → Option Seg
  | .one _, _, c => some (.one c)
  | .nums k n l, o, .nat k' x => match kindEq k k' with
    | true => some (.nums k n (l.set o x))
    | false => none
  | .ints k n l, o, .int k' x => match kindEq k k' with
    | true => some (.ints k n (l.set o x))
    | false => none
  | .strs n l, o, .str x => some (.strs n (l.set o x))
  | _, _, _ => none

def Seg.splice : Seg → Nat → Seg → Option Seg
  | s, o, .one c => s.setC o c
  | .nums k n l, o, .nums k' m l' => match kindEq k k' with
    | true => some (.nums k n (l.take o ++ (l' ++ l.drop (o + m))))
    | false => none
  | .ints k n l, o, .ints k' m l' => match kindEq k k' with
    | true => some (.ints k n (l.take o ++ (l' ++ l.drop (o + m))))
    | false => none
  | _, _, _ => none

def Seg.isOne : Seg → Bool
  | .one _ => true
  | _ => false

def setOne : List Seg → Nat → Seg → Option (List Seg)
  | [], _, _ => none
  | s :: r, o, x => match Nat.ble s.len o with
    | true => match setOne r (o - s.len) x with
      | some q => some (s :: q)
      | none => none
    | false => match (Nat.beq o 0 && Nat.beq s.len x.len) && !(x.isOne && !s.isOne) with
      | true => some (x :: r)
      | false => match Nat.ble (o + x.len) s.len with
        | true => match s.splice o x with
          | some q => some (q :: r)
          | none => none
        | false => none

def setRange : List Seg → Nat → List Seg → Option (List Seg)
  | s, _, [] => some s
  | s, o, x :: xs => match setOne s o x with
    | some s' => setRange s' (o + x.len) xs
    | none => none

def locate : List Seg → Nat → Option (Seg × Nat)
  | [], _ => none
  | s :: r, o => match o with
    | 0 => some (s, 0)
    | o' + 1 => match Nat.ble s.len (o' + 1) with
      | true => locate r (o' + 1 - s.len)
      | false => some (s, o' + 1)

def relay : List Seg → Nat → Seg → List Seg
  | [], _, _ => []
  | s :: r, o, x => match o with
    | 0 => x :: r
    | o' + 1 => match Nat.ble s.len (o' + 1) with
      | true => s :: relay r (o' + 1 - s.len) x
      | false => x :: r

def spot (segs : List Seg) (o j m : Nat) : Option (Seg × Nat) :=
  match segs with
  | [s] => match o with
    | 0 => some (s, j)
    | o' + 1 => some (s, o' + 1 + j)
  | segs => match locate segs o with
    | some (s, r) => match Nat.ble (r + m) s.len with
      | true => match r with
        | 0 => some (s, j)
        | r' + 1 => some (s, r' + 1 + j)
      | false => none
    | none => none

def Cell.mentions (b : Nat) : Cell → Bool
  | .ptr c _ _ => Nat.beq c b
  | .sl c _ _ _ => Nat.beq c b
  | _ => false

def Seg.mentions (b : Nat) : Seg → Bool
  | .one c => c.mentions b
  | .nums _ _ _ => false
  | .ints _ _ _ => false
  | .strs _ _ => false
  | .recs _ _ => false

def anyB {α : Type} (p : α → Bool) : List α → Bool
  | [] => false
  | x :: r => match p x with
    | true => true
    | false => anyB p r

def V1.mentions (b : Nat) : V1 → Bool
  | .cell x => x.mentions b
  | .agg l => anyB (Seg.mentions b) l

def V1.ok : V1 → Bool
  | .cell .top => false
  | .cell .un => false
  | _ => true

def AV.mentions (b : Nat) : AV → Bool
  | .v x => x.mentions b
  | .tup l => anyB (V1.mentions b) l
  | .fn _ a c => match anyB (V1.mentions b) a with
    | true => true
    | false => anyB (V1.mentions b) c
  | .yld c => Nat.beq c b

def inval (b : Nat) : Slots → Slots
  | [] => []
  | (t, v) :: r => match v.mentions b with
    | true => (t, .v (.cell .top)) :: inval b r
    | false => (t, v) :: inval b r

def invals : List Nat → Slots → Slots
  | [], s => s
  | b :: r, s => invals r (inval b s)

def heapFree (b : Nat) : Heap → Bool
  | [] => true
  | (_, x) :: r => match anyB (Seg.mentions b) x.segs with
    | true => false
    | false => heapFree b r

def Seg.inval (b : Nat) : Seg → Seg
  | .one c => match c.mentions b with
    | true => .one .top
    | false => .one c
  | s => s

def segsInval (b : Nat) : List Seg → List Seg
  | [] => []
  | s :: r => s.inval b :: segsInval b r

def hdel (b : Nat) : Heap → Heap
  | [] => []
  | (i, x) :: r => match Nat.beq i b with
    | true => hdel b r
    | false => (i, ⟨segsInval b x.segs, x.ty, x.own⟩) :: hdel b r

def freshIn (b : Nat) (s : St) : Bool :=
  match lk b s.hp with
  | some _ => false
  | none => match heapFree b s.hp with
    | false => false
    | true => match anyB (fun p : Nat × AV => p.2.mentions b) s.sl with
      | true => false
      | false => true

def natsOf (s : ByteArray) : List Nat := s.data.toList.map UInt8.toNat

def runeS (i : Int) : List Nat := natsOf (Utf8.encode i)

def ofVal : Value → Option Cell
  | .bool b => some (.bool b)
  | .int .u8 (.ofNat n) => match Nat.blt n 256 with
    | true => some (.nat .u8 n)
    | false => none
  | .int .u16 (.ofNat n) => match Nat.blt n 65536 with
    | true => some (.nat .u16 n)
    | false => none
  | .int .u32 (.ofNat n) => match Nat.blt n 4294967296 with
    | true => some (.nat .u32 n)
    | false => none
  | .int .u64 (.ofNat n) => match Nat.blt n 18446744073709551616 with
    | true => some (.nat .u64 n)
    | false => none
  | .int .i8 n => some (.int .i8 n)
  | .int .i16 n => some (.int .i16 n)
  | .int .i32 n => some (.int .i32 n)
  | .int .i64 n => some (.int .i64 n)
  | .string s => some (.str (natsOf s))
  | .pointer none => some .nilp
  | .slice none 0 0 => some .nils
  | .nilFunc => some .top
  | .nilIface => some .top
  | _ => none

def ev (s : St) : Operand → Option AV
  | .tmp t => lk t s.sl
  | .const v => match ofVal v with
    | some c => some (.v (.cell c))
    | none => none
  | _ => none

def evs (e : Operand → Option AV) : List Operand → Option (List AV)
  | [] => some []
  | x :: r => match e x with
    | some v => match evs e r with
      | some q => some (v :: q)
      | none => none
    | none => none

def put (s : St) (dst : Option Nat) (v : AV) (h : Heap) : St :=
  match dst with
  | some d => ⟨(d, v) :: s.sl, h⟩
  | none => ⟨s.sl, h⟩

def addO : Option Nat → Nat → Option Nat
  | none, n => some n
  | some o, n => some (o + n)

def offO : Option Nat → Nat
  | none => 0
  | some o => o

def mulZ (n z : Nat) : Nat := match z with
  | 1 => n
  | z => n * z

def addZ (o : Option Nat) (n : Nat) : Nat := match o with
  | none => n
  | some o => o + n

def isNums : List Cell → IntKind → Option (List Nat)
  | [], _ => some []
  | .nat k x :: r, k' => match kindEq k k' with
    | true => match isNums r k' with
      | some l => some (x :: l)
      | none => none
    | false => none
  | _ :: _, _ => none

def isInts : List Cell → IntKind → Option (List Int)
  | [], _ => some []
  | .int k x :: r, k' => match kindEq k k' with
    | true => match isInts r k' with
      | some l => some (x :: l)
      | none => none
    | false => none
  | _ :: _, _ => none

def isStrs : List Cell → Option (List (List Nat))
  | [] => some []
  | .str x :: r => match isStrs r with
    | some l => some (x :: l)
    | none => none
  | _ :: _ => none

def scalars : List V1 → Option (List Cell)
  | [] => some []
  | .cell c :: r => match scalars r with
    | some l => some (c :: l)
    | none => none
  | _ :: _ => none

def concatSegs : List V1 → List Seg
  | [] => []
  | x :: r => x.segs ++ concatSegs r

def rowSegs (tk : TK) (n : Nat) (l : List V1) : Option (List Seg) :=
  match tk with
  | .int k => match scalars l with
    | some cs => match k with
      | .u8 | .u16 | .u32 | .u64 => match isNums cs k with
        | some xs => some [.nums k n xs]
        | none => none
      | _ => match isInts cs k with
        | some xs => some [.ints k n xs]
        | none => none
    | none => none
  | .string => match scalars l with
    | some cs => match isStrs cs with
      | some xs => some [.strs n xs]
      | none => none
    | none => none
  | _ => some (concatSegs l)

def emptySegs (tk : TK) : List Seg :=
  match tk with
  | .int k => match k with
    | .u8 | .u16 | .u32 | .u64 => [.nums k 0 []]
    | _ => [.ints k 0 []]
  | .string => [.strs 0 []]
  | _ => []

def zeroRow (z : V1) (n : Nat) : Option (List Seg) :=
  match z with
  | .cell (.nat k x) => some [.nums k n (List.replicate n x)]
  | .cell (.int k x) => some [.ints k n (List.replicate n x)]
  | .cell (.str x) => some [.strs n (List.replicate n x)]
  | _ => none

def joinSegs : List Seg → Option Nat → Option Seg → Option (List Seg × Nat)
  | [.nums k _ l], o, some (.nums k' _ l') => match kindEq k k' with
    | true => match o with
      | none => some ([.nums k (l ++ l').length (l ++ l')], (l ++ l').length)
      | some o => some ([.nums k (l.drop o ++ l').length (l.drop o ++ l')], (l.drop o ++ l').length)
    | false => none
  | [.ints k _ l], o, some (.ints k' _ l') => match kindEq k k' with
    | true => match o with
      | none => some ([.ints k (l ++ l').length (l ++ l')], (l ++ l').length)
      | some o => some ([.ints k (l.drop o ++ l').length (l.drop o ++ l')], (l.drop o ++ l').length)
    | false => none
  | [.strs _ l], o, some (.strs _ l') => match o with
      | none => some ([.strs (l ++ l').length (l ++ l')], (l ++ l').length)
      | some o => some ([.strs (l.drop o ++ l').length (l.drop o ++ l')], (l.drop o ++ l').length)
  | _, _, _ => none

end Go.Sx
