import Derived.Test.YtkomlijabeedpaaDoorSxK2
namespace Go.Sx
def pthGo : Nat → Nat → List Bool
  | 0, _ => []
  | f + 1, n => match Nat.ble n 1 with
    | true => []
    | false => (Nat.beq (n % 2) 1) :: pthGo f (n / 2)
def pth (n : Nat) : List Bool := pthGo 200 n
abbrev i6 (x : Int) : AV := .v (.cell (.int .i64 x))
abbrev u8v (x : Nat) : AV := .v (.cell (.nat .u8 x))
abbrev tS (x : List Nat) : AV := .v (.cell (.str x))
abbrev bO (x : Bool) : AV := .v (.cell (.bool x))
abbrev sL (b : Nat) (o : Option Nat) (n z : Nat) : AV := .v (.cell (.sl b o n z))
abbrev pT (b o : Nat) : AV := .v (.cell (.ptr b o none))
@[match_pattern] abbrev aN (k : IntKind) (n : Nat) (x : List Nat) : AV := .v (.agg [.nums k n x])
@[match_pattern] abbrev bU (n : Nat) (x : List Nat) (t : Nat) : Blk := ⟨[.nums .u64 n x], t, 1⟩
@[match_pattern] abbrev bW (n : Nat) (x : List Nat) (t : Nat) : Blk := ⟨[.nums .u32 n x], t, 1⟩
@[match_pattern] abbrev bB (n : Nat) (x : List Nat) (t : Nat) : Blk := ⟨[.nums .u8 n x], t, 1⟩
@[match_pattern] abbrev uN : AV := .v (.cell .un)
end Go.Sx
