import Derived.Test.YtpdpafehfloelaaSxS06a
import Derived.Test.YtpdpafehfloelaaSxY06i
namespace Go.Sx
set_option linter.unusedSectionVars false
section
variable {A:Ar} {sha cl:List Nat→List Nat} (h:SGK A sha cl)
include h
theorem signNo {s t:List Nat} (hl:s.length≠32):g9ok A s t=true∧g9r0 A s t=[]∧g9r1 A s t=false:=by
  refine g9of h ?_
  unfold g9v g9
  simp only [madeNo h hl,Bool.not_false]
theorem g4Shape (n:Nat) (a:List Nat) (ex:g6ok A=true∧g6r0 A=true) (i1:A.neg (A.mn (A.ofN a.length) 60)=false) (i2:A.toN (A.mn (A.ofN a.length) 60)=min a.length 60):g4 A n (fun v _=>some v) a=some (.v (.cell (.bool true))):=by
  have hle:A.le (min a.length 60) a.length=true:=by rw [h.le]; exact decide_eq_true (by omega)
  unfold g4
  simp only [ex,Bool.not_true]
  unfold g4J4
  simp only [i1,i2,hle]
  generalize (a.take (min a.length 60)).drop 0=s at *
  by_cases hl:s.length=32
  · obtain ⟨s1,s2,s3⟩:=signE h (s:=s) (t:=[120]) hl (by decide) (by decide)
    obtain ⟨p1,p2,p3⟩:=publicE h hl
    obtain ⟨hl1,hl2⟩:=h.shaL s
    have ttl:((sha s).take 32).length=32:=by rw [List.length_take]; omega
    obtain ⟨q1,q2⟩:=h.clL _ ttl (fun x hx=>hl2 x (List.mem_of_mem_take hx))
    obtain ⟨v1,v2⟩:=verE h (pr:=(sha s).drop 32) (t:=[120]) q1 q2 (by decide) (by decide)
    have x32:A.ic .neq (A.ofN s.length) 32=false:=by rw [h.neq,h.ofN,hl]; rfl
    simp only [p1,p2,p3,s1,s2,s3,x32]
    unfold g4J9
    simp only [v1,v2]
  · obtain ⟨s1,s2,s3⟩:=signNo h (s:=s) (t:=[120]) hl
    obtain ⟨p1,p2,p3⟩:=publicNo h hl
    have x32:A.ic .neq (A.ofN s.length) 32=true:=by rw [h.neq,h.ofN,decide_eq_false (by omega)]; rfl
    simp only [p1,p2,p3,s1,s2,s3,x32,Bool.not_false,h.sceq,decide_true]
end
end Go.Sx
