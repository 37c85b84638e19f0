import Derived.Test.YtloapdnklljaoaaSxW2
import Derived.Scope
namespace Go.Sx

section
variable {P : Program} {T : Tys} {O : Orc} {N : Nat} {S : Nat → Prop} {ρ₀ : Map} {w₀ : World} {nt : Nat} {R : Type} {r : R}

theorem Rel.drew {ρ : Map} {s : St} {a : Act} {w w' : World} (h : Rel N S ρ₀ w₀ nt ρ s a w) (hh : w'.heap = w.heap) (h1 : w'.os = w.os) (h2 : w'.tape = w.tape) (h3 : w'.output = w.output) : Rel N S ρ₀ w₀ nt ρ s a w' :=
  ⟨HR_drewN h.hr hh, h.sl, h.sz, h.df, ⟨h1.trans h.fr.os, h2.trans h.fr.tape, h3.trans h.fr.output, by rw [hh]; exact h.fr.size, fun k hk hs => by rw [hh]; exact h.fr.block k hk hs⟩, h.pin⟩

end
end Go.Sx
