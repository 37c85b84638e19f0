import Derived.Test.YtnnepclpggbjgaaSxFq
import Derived.Test.YtnnepclpggbjgaaSxN03k
namespace Go.Sx
theorem prP : Pr PP := pr_57896044618658097711785492504343953926634992332820282019728792003956564819949
def PM : Nat := 57896044618658097711785492504343953926634992332820282019728792003956564819948
theorem PP1 : PP - 1 = PM := by decide
theorem one_mod : 1 % PP = 1 := by decide
theorem fermat {a : Nat} (h : a % PP ≠ 0) : a ^ PM % PP = 1 := by
  rw [← PP1]
  exact prP.2 a fun hd => h (Nat.mod_eq_zero_of_dvd hd)
theorem mz {x y : Nat} (h : x % PP = y % PP) (z : Nat) : x * z % PP = y * z % PP := mmod h rfl
def PT : Nat := 57896044618658097711785492504343953926634992332820282019728792003956564819947
theorem inv_mul {a : Nat} (h : a % PP ≠ 0) : a * (a ^ PT % PP) % PP = 1 := by
  rw [Nat.mul_mod_mod, Nat.mul_comm, ← Nat.pow_succ]
  exact fermat h
theorem inv_inv {a : Nat} (h : a % PP ≠ 0) : (a ^ PT) ^ PT % PP = a % PP := by
  have hf := fermat h
  have e : (a ^ PT) ^ PT = (a ^ PM) ^ (PM - 2) * a := by
    rw [← Nat.pow_mul, ← Nat.pow_mul, ← Nat.pow_succ]
    rfl
  rw [e, mz (y := 1) (by rw [powM (x' := 1) (by rw [hf, one_mod]), Nat.one_pow]), Nat.one_mul]
theorem zero_pow_mod {a : Nat} (h : a % PP = 0) {k : Nat} (hk : 0 < k) : a ^ k % PP = 0 := by
  rw [powM (x' := 0) (by rw [h]; rfl), Nat.zero_pow hk]
  rfl
-- the root
end Go.Sx
