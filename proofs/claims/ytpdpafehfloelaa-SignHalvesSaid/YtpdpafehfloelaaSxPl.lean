import Derived.Test.YtpdpafehfloelaaSxK3
import Derived.Laws.BitsLemmas
namespace Go.Sx
theorem wrap64 {x:Int} (h: -9223372036854775808≤x∧x<9223372036854775808):IntKind.wrap .i64 x=x:=by
  rw [IntKind.wrap_i64]; omega
theorem and1 (n:Nat):realA.ib .and .i64 (n:Int) 1=((n%2:Nat):Int):=by
  show IntKind.wrap .i64 ((BitVec.ofInt 64 (n:Int)&&&BitVec.ofInt 64 1).toNat:Int)=_
  have e:(BitVec.ofInt 64 (n:Int)&&&BitVec.ofInt 64 1).toNat=n%2:=by
    rw [BitVec.toNat_and]
    have h1:(BitVec.ofInt 64 1).toNat=1:=by decide
    have h2:(BitVec.ofInt 64 (n:Int)).toNat=n%2^64:=by simp [BitVec.ofInt_natCast]
    rw [h1,h2,Nat.and_one_is_mod]
    omega
  rw [e]
  exact wrap64 (by omega)
theorem getD_lt {a:List Nat} (h:∀ x ∈ a,x<256) (j:Nat):a.getD j 0<256:=by
  by_cases hj:j<a.length
  · rw [List.getD_eq_getElem?_getD,List.getElem?_eq_getElem hj]
    exact h _ (List.getElem_mem _)
  · rw [List.getD_eq_getElem?_getD,List.getElem?_eq_none (by omega)]
    exact Nat.zero_lt_succ _
end Go.Sx
