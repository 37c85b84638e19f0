import Derived.Test.YtpdpafehfloelaaSxS06a
import Derived.Test.YtpdpafehfloelaaSxY06h
import Derived.Test.YtpdpafehfloelaaSxAr
import Derived.Test.YtpdpafehfloelaaSxY06e
namespace Go.Sx
set_option linter.unusedSectionVars false
theorem sigLen (sha:List Nat→List Nat) (n pr pub t:List Nat):(sigOf sha n pr pub t).length=64:=by
  unfold sigOf
  rw [List.length_append,nb_len]
  have:(nP (rOf sha pr t) Pt.base).bytes.length=32:=encS_len _ _
  omega
section
variable {A:Ar} {sha cl:List Nat→List Nat} (h:SGK A sha cl)
include h
end
end Go.Sx
namespace Go.Sx
set_option linter.unusedSectionVars false
theorem seedLoop (N:Nat) (a:List Nat):∀ (k m i:Nat) (l:List Nat),i+k=32→l.length=32→∃ sd,sd.length=32∧g7L3 realA N (fun v _=>some v) (m+k+1) a 32 (i:Nat) 32 l=some (tS sd):=by
  intro k
  induction k with
  | zero =>
    intro m i l hi hl
    refine ⟨l,hl, ?_⟩
    rw [g7L3,ar_lss,decide_eq_false (by omega),List.take_of_length_le (by omega)]
  | succ k ih =>
    intro m i l hi hl
    rw [show m+(k+1)+1=(m+k+1)+1 by omega,g7L3,ar_lss,decide_eq_true (by omega),ar_lss,ar_ofN]
    by_cases h:(i:Int)<(a.length:Int)
    · rw [decide_eq_true h]
      have q:realA.ib .add .i64 (i:Int) 1=((i+1:Nat):Int):=(ar_add (a:=(i:Int)) (b:=1) (by omega)).trans (by omega)
      simp only []
      unfold g7J5
      simp only [ar_negN,ar_toNN,ar_lt,decide_eq_true (show i<a.length by omega),decide_eq_true (show i<32 by omega),q]
      exact ih m (i+1) _ (by omega) (by rw [List.length_set]; exact hl)
    · rw [decide_eq_false h]
      exact ⟨l,hl,by rw [List.take_of_length_le (by omega)]⟩
theorem seedE (a:List Nat):∃ sd,sd.length=32∧g7ok realA a=true∧g7r0 realA a=sd:=by
  obtain ⟨sd,h1,h2⟩:=seedLoop 100000 a 32 99967 0 (List.replicate 32 0) (by omega) (by rw [List.length_replicate])
  have e:g7v realA a=some (tS sd):=by
    unfold g7v g7
    rw [ar_le,decide_eq_true (by omega),ar_le,decide_eq_true (by omega)]
    exact h2
  exact ⟨sd,h1,(congrArg g7is e).trans rfl,(congrArg g7g0 e).trans rfl⟩
end Go.Sx
