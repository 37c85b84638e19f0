import Derived.Test.YtloapdnklljaoaaSxEx
namespace Go.Sx
variable {R : Type}

theorem blockK_n (id : Nat) (K : Ex → St → Option R) (s : St) : blockK id K .normal s = K .normal s := rfl
theorem blockK_hit (id : Nat) (K : Ex → St → Option R) (s : St) : blockK id K (.exit id) s = K .normal s := by
  show (match Nat.beq id id with
    | true => K .normal s
    | false => K (.exit id) s) = _
  rw [Nat.beq_refl]
theorem blockK_r (id : Nat) (K : Ex → St → Option R) (s : St) : blockK id K .ret s = K .ret s := rfl

theorem codeD_cond {A : Ar} {T : Tys} {O : Orc} {an : Ann} {n : Nat} {c : Operand} {a b : Code} {K : Ex → St → Option R} {s : St} (t : Bool) : ev s c = some (.v (.cell (.bool t))) →
    codeD A T O an n (.cond c a b) K s = (match t with
      | true => codeD A T O an n a K s
      | false => codeD A T O an n b K s) := by
  intro h
  simp only [codeD, h]
  cases t <;> rfl

end Go.Sx
