import Derived.Test.YtloapdnklljaoaaSxY
import Derived.Test.YtloapdnklljaoaaSxR
namespace Go.Sx

inductive Ex where
  | normal
  | exit (i : Nat)
  | ret

abbrev Ann := List (Nat × (List Nat × List Nat))

def keep (an : Ann) (id : Nat) (s : St) : St :=
  match lk id an with
  | some (ls, bs) => ⟨pick s.sl ls, pick s.hp bs⟩
  | none => s

abbrev seqC {R : Type} (f : St → Option R) (K : Ex → St → Option R) : Ex → St → Option R
  | .normal, s => f s
  | .exit i, s => K (.exit i) s
  | .ret, s => K .ret s

abbrev blockK {R : Type} (id : Nat) (K : Ex → St → Option R) : Ex → St → Option R
  | .normal, s => K .normal s
  | .exit i, s => match Nat.beq i id with
    | true => K .normal s
    | false => K (.exit i) s
  | .ret, s => K .ret s

def loopD {R : Type} (body : (Ex → St → Option R) → St → Option R) : Nat → (Ex → St → Option R) → St → Option R
  | 0, _, _ => none
  | n + 1, K, s => body (seqC (loopD body n K) K) s

def codeD {R : Type} (A : Ar) (T : Tys) (O : Orc) (an : Ann) (n : Nat) : Code → (Ex → St → Option R) → St → Option R
  | .skip, K, s => K .normal s
  | .region id ops draw, K, s => match draw with
    | false => opsD A T O ops.toList ((id + 1) * 1000) ops.toList (keep an id s) (K .normal)
    | true => match drawOk ops (tabOf [] ops.toList) with
      | true => drawD A T O ops (tabOf [] ops.toList) ((id + 1) * 1000) 0 ops.toList (keep an id s) (keep an id s).hp [] (K .normal)
      | false => none
  | .seq a b, K, s => codeD A T O an n a (seqC (codeD A T O an n b K) K) s
  | .cond c a b, K, s => match ev s c with
    | some (.v (.cell (.bool t))) => match t with
      | true => codeD A T O an n a K s
      | false => codeD A T O an n b K s
    | _ => none
  | .block id c, K, s => codeD A T O an n c (blockK id K) s
  | .loop c, K, s => loopD (fun K' s' => codeD A T O an n c K' s') n K s
  | .exit i, K, s => K (.exit i) s
  | .label _, K, s => K .normal s
  | .scope c, K, s => codeD A T O an n c K s
  | .ret, K, s => K .ret s
  | _, _, _ => none

def resOne (T : Tys) (s : St) : ResultVar → Option V1
  | .tmp t => match lk t s.sl with
    | some (.v x) => some x
    | _ => none
  | .cell a t => match lk a s.sl with
    | some p => loadE s.hp T t p
    | none => none

def resAll (T : Tys) (s : St) : List ResultVar → Option (List V1)
  | [] => some []
  | r :: q => match resOne T s r with
    | some v => match resAll T s q with
      | some l => some (v :: l)
      | none => none
    | none => none

def resE (T : Tys) (rs : List ResultVar) (s : St) : Option AV :=
  match rs with
  | [r] => match resOne T s r with
    | some v => some (.v v)
    | none => none
  | rs => match resAll T s rs with
    | some l => some (.tup l)
    | none => none

def slotsOf : Nat → List AV → Slots
  | _, [] => []
  | i, v :: r => (i, v) :: slotsOf (i + 1) r

def finD {R : Type} (T : Tys) (rs : List ResultVar) (k : AV → Heap → Option R) : Ex → St → Option R
  | .exit _, _ => none
  | _, s => match resE T rs s with
    | some v => k v s.hp
    | none => none

def funD {R : Type} (A : Ar) (T : Tys) (O : Orc) (an : Ann) (n : Nat) (c : Code) (rs : List ResultVar) (args : List AV) (h : Heap) (k : AV → Heap → Option R) : Option R :=
  codeD A T O an n c (finD T rs k) ⟨slotsOf 0 args, h⟩


def sub : Code → List Bool → Code
  | c, [] => c
  | .seq a b, d :: r => match d with
    | false => sub a r
    | true => sub b r
  | .cond _ a b, d :: r => match d with
    | false => sub a r
    | true => sub b r
  | .block _ c, _ :: r => sub c r
  | .loop c, _ :: r => sub c r
  | .scope c, _ :: r => sub c r
  | c, _ => c

def bodyOf (f : Func) : Code :=
  match f.body with
  | some c => c
  | none => .skip

def firstReg : Code → Option Nat
  | .region id _ _ => some id
  | .seq a _ => firstReg a
  | .block _ c => firstReg c
  | .loop c => firstReg c
  | .scope c => firstReg c
  | _ => none

theorem codeD_first {R : Type} {A : Ar} {T : Tys} {O : Orc} {an : Ann} {n id : Nat} {c : Code} {s s' : St} (hf : firstReg c = some id) (h : keep an id s = keep an id s') (K : Ex → St → Option R) : codeD A T O an n c K s = codeD A T O an n c K s' := by
  induction c generalizing K with
  | region i ops draw =>
    simp only [firstReg, Option.some.injEq] at hf
    subst hf
    simp only [codeD, h]
  | seq a b iha _ => exact iha hf _
  | block i c ih => exact ih hf _
  | loop c ih =>
    simp only [codeD]
    cases n with
    | zero => rfl
    | succ n => exact ih hf _
  | scope c ih => exact ih hf _
  | _ => cases hf

theorem loopD_first {R : Type} {A : Ar} {T : Tys} {O : Orc} {an : Ann} {n m id : Nat} {c : Code} {s s' : St} (hf : firstReg c = some id) (h : keep an id s = keep an id s') (K : Ex → St → Option R) :
    loopD (fun K' s'' => codeD A T O an n c K' s'') m K s = loopD (fun K' s'' => codeD A T O an n c K' s'') m K s' := by
  cases m with
  | zero => rfl
  | succ m => exact codeD_first hf h _

def orcOf (tbl : List (Nat × (List AV → Option (Bool × AV)))) : Orc :=
  ⟨fun f _ args h k => match lk f tbl with
    | some g => match g args with
      | some (c, v) => match c with
        | true => k v h []
        | false => none
      | none => none
    | none => none⟩

end Go.Sx
