import Derived.Test.YtkomlijabeedpaaDoorSxY
import Derived.Test.YtkomlijabeedpaaDoorSxR
namespace Go.Sx

abbrev Ann := List (Nat × (List Nat × List Nat))

def keep (an : Ann) (id : Nat) (s : St) : St :=
  match lk id an with
  | some (ls, bs) => ⟨pick s.sl ls, pick s.hp bs⟩
  | none => s

abbrev seqC {R : Type} (f : St → Option R) (K : Ex → St → Option R) : Ex → St → Option R
  | .normal, s => f s
  | .exit i, s => K (.exit i) s
  | .ret, s => K .ret s

abbrev blockK {R : Type} (id : Nat) (K : Ex → St → Option R) : Ex → St → Option R
  | .normal, s => K .normal s
  | .exit i, s => match Nat.beq i id with
    | true => K .normal s
    | false => K (.exit i) s
  | .ret, s => K .ret s

def resOne (T : Tys) (s : St) : ResultVar → Option V1
  | .tmp t => match lk t s.sl with
    | some (.v x) => some x
    | _ => none
  | .cell a t => match lk a s.sl with
    | some p => loadE s.hp T t p
    | none => none

def resAll (T : Tys) (s : St) : List ResultVar → Option (List V1)
  | [] => some []
  | r :: q => match resOne T s r with
    | some v => match resAll T s q with
      | some l => some (v :: l)
      | none => none
    | none => none

def fnOf (s : St) : ResultVar → Option AV
  | .tmp t => match lk t s.sl with
    | some (.fn f a c) => some (.fn f a c)
    | _ => none
  | _ => none
def resE (T : Tys) (rs : List ResultVar) (s : St) : Option AV :=
  match rs with
  | [r] => match fnOf s r with
    | some v => some v
    | none => match resOne T s r with
      | some v => some (.v v)
      | none => none
  | rs => match resAll T s rs with
    | some l => some (.tup l)
    | none => none

def slotsOf : Nat → List AV → Slots
  | _, [] => []
  | i, v :: r => (i, v) :: slotsOf (i + 1) r

def finD {R : Type} (T : Tys) (rs : List ResultVar) (k : AV → Heap → Option R) : Ex → St → Option R
  | .exit _, _ => none
  | _, s => match resE T rs s with
    | some v => k v s.hp
    | none => none

def sub : Code → List Bool → Code
  | c, [] => c
  | .seq a b, d :: r => match d with
    | false => sub a r
    | true => sub b r
  | .cond _ a b, d :: r => match d with
    | false => sub a r
    | true => sub b r
  | .block _ c, _ :: r => sub c r
  | .loop c, _ :: r => sub c r
  | .scope c, _ :: r => sub c r
  | c, _ => c

def bodyOf (f : Func) : Code :=
  match f.body with
  | some c => c
  | none => .skip

def firstReg : Code → Option Nat
  | .region id _ _ => some id
  | .seq a _ => firstReg a
  | .block _ c => firstReg c
  | .loop c => firstReg c
  | .scope c => firstReg c
  | _ => none

def orcOf (tbl : List (Nat × (List AV → Option (Bool × AV)))) : Orc :=
  { run := fun f _ args h k => match lk f tbl with
    | some g => match g args with
      | some (c, v) => match c with
        | true => k v h []
        | false => none
      | none => none
    | none => none }

end Go.Sx
