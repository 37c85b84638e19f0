import Derived.Test.YtcgjapkajaflpaaSxNr04d
import Derived.Test.YtcgjapkajaflpaaSxEr04
import Derived.Test.YtcgjapkajaflpaaSxR04b
namespace Go.Sx
theorem bytes_take {a : List Nat} (h : ∀ x ∈ a, x < 256) (k : Nat) : ∀ x ∈ a.take k, x < 256 := fun x hx => h x (List.mem_of_mem_take hx)
theorem clip (a : List Nat) (k : Nat) : (a.take (realA.toN (realA.mn (realA.ofN a.length) (k : Int)))).drop 0 = a.take k ∧ realA.neg (realA.mn (realA.ofN a.length) (k : Int)) = false ∧ realA.le (realA.toN (realA.mn (realA.ofN a.length) (k : Int))) a.length = true := by
  have e : realA.mn (realA.ofN a.length) (k : Int) = ((min a.length k : Nat) : Int) := by
    show (if (k : Int) < (a.length : Int) then (k : Int) else (a.length : Int)) = _
    split <;> omega
  rw [e, negN, toNN, List.drop_zero]
  refine ⟨?_, rfl, leT (by omega)⟩
  rw [Nat.min_comm, ← List.take_take, List.take_length]
def MM (x : Nat) : List Nat := le32 (x % LL)
theorem rd {s : List Nat} (hs : ∀ x ∈ s, x < 256) (hl : s.length ≤ 64) : g10ok realA s = true ∧ g10r0 realA s = MM (leval s) := by
  obtain ⟨h1, h2⟩ := reduceOk hs (by omega)
  rw [List.take_of_length_le hl] at h2
  exact ⟨h1, h2⟩
theorem scT {a b : List Nat} (h : a = b) : realA.sc .eql a b = true := show decide (a = b) = true from decide_eq_true h
theorem eqlT {a b : Int} (h : a = b) : realA.ic .eql a b = true := show decide (a = b) = true from decide_eq_true h
theorem right {s : List Nat} (hs : ∀ x ∈ s, x < 256) (hl : s.length = 32) (hv : leval s < LL) : g12ok realA s = true ∧ g12r0 realA s = true := by
  obtain ⟨h1, h2⟩ := rd hs (by omega)
  have e2 : g10r0 realA s = s := by
    rw [h2]
    unfold MM
    rw [Nat.mod_eq_of_lt hv]
    exact le32_leval hs hl
  have e : g12v realA s = some (.v (.cell (.bool true))) := by
    unfold g12v
    generalize 100000 = n
    unfold g12
    rw [eqlT (show realA.ofN s.length = 32 by rw [hl]; rfl), h1, scT e2]
  exact ⟨by unfold g12ok; rw [e]; rfl, by unfold g12r0; rw [e]; rfl⟩
end Go.Sx
