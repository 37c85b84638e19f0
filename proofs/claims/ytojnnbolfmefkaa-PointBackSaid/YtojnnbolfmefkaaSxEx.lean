import Derived.Test.YtojnnbolfmefkaaSxTc
import Derived.Laws.Externs
namespace Go.Sx

def add64a (x y c : Nat) : Nat := (x + y + c) % 18446744073709551616
def add64b (x y c : Nat) : Nat := (x + y + c) / 18446744073709551616
def carryok (x y c : Nat) : Bool := Nat.ble c 1 && (Nat.blt x 18446744073709551616 && Nat.blt y 18446744073709551616)

def add64o (args : List AV) : Option (Bool × AV) := match args with
  | [.v (.cell (.nat .u64 x)), .v (.cell (.nat .u64 y)), .v (.cell (.nat .u64 c))] => some (carryok x y c, .tup [.cell (.nat .u64 (add64a x y c)), .cell (.nat .u64 (add64b x y c))])
  | _ => none
def add64E : Array Value → Sem Value := fun args => do
  let (x, y, c) ← Extern.MathBitsCarry.three "Add64" args
  pure (Extern.MathBitsCarry.pair ((x + y + c) % Extern.MathBitsCarry.m64) ((x + y + c) / Extern.MathBitsCarry.m64))
variable {P : Program}

theorem run_add64E (x y c : Nat) (hc : c ≤ 1) (w : World) : (add64E #[.int .u64 x, .int .u64 y, .int .u64 c]).run P w = .ok (.tuple #[.int .u64 (add64a x y c : Nat), .int .u64 (add64b x y c : Nat)]) w := by
  have : c = 0 ∨ c = 1 := by omega
  rcases this with rfl | rfl <;> rfl
theorem three_args {ρ : Map} {x y c : Nat} {us : Array Value} (h : RVs ρ [.v (.cell (.nat .u64 x)), .v (.cell (.nat .u64 y)), .v (.cell (.nat .u64 c))] us.toList) : us = #[.int .u64 x, .int .u64 y, .int .u64 c] := by
  obtain ⟨h1, h2⟩ := h
  match hu : us.toList, h1 with
  | [a, b, d], _ =>
    have e1 : RV ρ (.v (.cell (.nat .u64 x))) a := h2 0 _ a rfl (by rw [hu]; rfl)
    have e2 : RV ρ (.v (.cell (.nat .u64 y))) b := h2 1 _ b rfl (by rw [hu]; rfl)
    have e3 : RV ρ (.v (.cell (.nat .u64 c))) d := h2 2 _ d rfl (by rw [hu]; rfl)
    have : us = #[a, b, d] := by apply Array.ext'; simpa using hu
    rw [this, e1.1, e2.1, e3.1]

theorem pair_out {ρ : Map} {a b : Nat} {w : World} (ha : a < 18446744073709551616) (hb : b < 18446744073709551616) :
    FnOut P ρ (.tup [.cell (.nat .u64 a), .cell (.nat .u64 b)]) w (.ok (.value (.tuple #[.int .u64 (a : Int), .int .u64 (b : Int)])) w) := by
  refine ⟨⟨_, rfl, rfl, fun i x hx => ?_⟩, Fr.refl _ _ _⟩
  rcases i with _ | _ | i
  · simp at hx; subst hx
    exact ⟨_, rfl, rfl, ha, rfl⟩
  · simp at hx; subst hx
    exact ⟨_, rfl, rfl, hb, rfl⟩
  · simp at hx

theorem add64o_sound {f : FuncId} {fn : Func} (hf : P.funcs[f]? = some fn) (hname : (fn.name == "runtime.NumGoroutine") = false) (hb : fn.body.isNone = true) (hn : Extern.findNext fn = none) (he : Extern.find fn = some add64E) :
    ∀ args v, add64o args = some (true, v) → Fn1 P f args v := by
  intro args v h
  unfold add64o at h
  split at h
  · rename_i x y c
    simp only [Option.some.injEq, Prod.mk.injEq] at h
    obtain ⟨hc, rfl⟩ := h
    · simp only [carryok, Bool.and_eq_true] at hc
      obtain ⟨h1, h2, h3⟩ := hc
      have h1 := ble_true h1
      have h2 := blt_true h2
      have h3 := blt_true h3
      intro ρ w us hvs
      rw [three_args hvs, run_callFunc_extern hf hname hb hn he, run_add64E x y c h1]
      exact pair_out (by unfold add64a; omega) (by unfold add64b; omega)
  · cases h

end Go.Sx
