import Derived.Test.YtpdpafehfloelaaSxS06a
import Derived.Test.YtpdpafehfloelaaSxY06h
import Derived.Test.YtpdpafehfloelaaSxAr
import Derived.Test.YtpdpafehfloelaaSxY06e
namespace Go.Sx
set_option linter.unusedSectionVars false
theorem sigLen (sha:List Nat→List Nat) (n pr pub t:List Nat):(sigOf sha n pr pub t).length=64:=by
  unfold sigOf
  rw [List.length_append,nb_len]
  have:(nP (rOf sha pr t) Pt.base).bytes.length=32:=encS_len _ _
  omega
section
variable {A:Ar} {sha cl:List Nat→List Nat} (h:SGK A sha cl)
include h
theorem verNo {p t c:List Nat} (hp:∀ x ∈ p,x<256) (hl:p.length≠32) (hc:c.length=64) (hcb:∀ x ∈ c,x<256):g10ok A p t c=true∧g10r0 A p t c=false:=by
  refine g10of h ?_
  obtain ⟨d1,d2⟩:=h.decNo p hp hl
  have e1:((c.take c.length).drop 32).length=32:=by rw [List.take_length,List.length_drop]; omega
  obtain ⟨r1,r2⟩:=h.right ((c.take c.length).drop 32) (fun x hx=>hcb x (List.mem_of_mem_take (List.mem_of_mem_drop hx))) e1
  have hle:A.le 32 c.length=true:=by rw [h.le,hc]; rfl
  unfold g10v g10
  rw [h.neq,h.ofN,hc,decide_eq_true (by rfl)]
  rw [hc] at hle r1 r2
  simp only [Bool.not_true,hle,r1,r2]
  cases decide (leval ((c.take 64).drop 32)<LL) with
  | false=>rfl
  | true =>
    simp only [Bool.not_true]
    unfold g10J3
    simp only [d1,d2,Bool.not_false]
theorem g3Shape (n:Nat) (a b d sd:List Nat) (c k:Nat) (ex:g6ok A=true∧g6r0 A=true) (seed:g7ok A a=true∧g7r0 A a=sd) (sl:sd.length=32) (hb:∀ x ∈ b,x<256)
    (i1:A.neg (A.mn (A.ofN b.length) 300)=false) (i2:A.toN (A.mn (A.ofN b.length) 300)=min b.length 300) (hk:A.nb .rem .u8 c 64=k) (hk2:k<64) (hd:∀ s:List Nat,s.length=64→A.le (s.length+d.length) 9223372036854775807=true) (scn:∀ x:List Nat,A.sc .neq x x=false):g3 A n (fun v _=>some v) a b c d=some (.v (.cell (.bool true))):=by
  have tb:∀ x ∈ (b.take (min b.length 300)).drop 0,x<256:=fun x hx=>hb x (List.mem_of_mem_take hx)
  have tl:((b.take (min b.length 300)).drop 0).length≤1000:=by
    show (b.take (min b.length 300)).length≤1000
    rw [List.length_take]; omega
  obtain ⟨s1,s2,s3⟩:=signE h sl tb tl
  obtain ⟨p1,p2,p3⟩:=publicE h sl
  obtain ⟨hl1,hl2⟩:=h.shaL sd
  have ttl:((sha sd).take 32).length=32:=by rw [List.length_take]; omega
  obtain ⟨q1,q2⟩:=h.clL _ ttl (fun x hx=>hl2 x (List.mem_of_mem_take hx))
  obtain ⟨v1,v2⟩:=verE h (pr:=(sha sd).drop 32) q1 q2 tb tl
  have hle:A.le (min b.length 300) b.length=true:=by rw [h.le]; exact decide_eq_true (by omega)
  unfold g3
  simp only [ex,Bool.not_true]
  unfold g3J4
  simp only [seed,i1,i2,hle,p1,p2,p3,s1,s2,s3,Bool.not_true]
  have gl:=sigLen sha (cl ((sha sd).take 32)) ((sha sd).drop 32) (nP (nS (cl ((sha sd).take 32))) Pt.base).bytes ((b.take (min b.length 300)).drop 0)
  have gb:∀ x ∈ sigOf sha (cl ((sha sd).take 32)) ((sha sd).drop 32) (nP (nS (cl ((sha sd).take 32))) Pt.base).bytes ((b.take (min b.length 300)).drop 0),x<256:=by
    intro x hx
    unfold sigOf at hx
    rcases List.mem_append.1 hx with hx | hx
    · exact Pt.bytes_lt _ x hx
    · exact nb_lt _ x hx
  generalize sigOf sha (cl ((sha sd).take 32)) ((sha sd).drop 32) (nP (nS (cl ((sha sd).take 32))) Pt.base).bytes ((b.take (min b.length 300)).drop 0)=g at *
  generalize (nP (nS (cl ((sha sd).take 32))) Pt.base)=P at *
  generalize (b.take (min b.length 300)).drop 0=t at *
  have pl:P.bytes.length=32:=encS_len _ _
  have x32:A.ic .neq (A.ofN P.bytes.length) 32=false:=by rw [h.neq,h.ofN,pl]; rfl
  have x64:A.ic .neq (A.ofN g.length) 64=false:=by rw [h.neq,h.ofN,gl]; rfl
  simp only [x32,x64,scn]
  unfold g3J11
  have y1:A.le k g.length=true:=by rw [h.le,gl]; exact decide_eq_true (by omega)
  obtain ⟨w1,w2⟩:=verLen h (p:=P.bytes) (t:=t) (c:=(g.take k).drop 0) (by show (g.take k).length≠64; rw [List.length_take]; omega)
  have y2:A.le 31 P.bytes.length=true:=by rw [h.le,pl]; rfl
  obtain ⟨u1,u2⟩:=verNo h (p:=(P.bytes.take 31).drop 0) (t:=t) (c:=g) (fun x hx=>P.bytes_lt x (List.mem_of_mem_take hx)) (by show (P.bytes.take 31).length≠32; rw [List.length_take]; omega) gl gb
  simp only [v1,v2,hk,y1,w1,w2,Bool.not_false,y2,u1,u2,h.sceq]
  cases d with
  | nil=>rw [decide_eq_true rfl]
  | cons x l =>
    obtain ⟨z1,z2⟩:=verLen h (p:=P.bytes) (t:=t) (c:=g++(x::l)) (by rw [List.length_append,gl,List.length_cons]; omega)
    rw [decide_eq_false (by simp)]
    simp only [hd g gl,z1,z2,Bool.not_false]
end
end Go.Sx
namespace Go.Sx
set_option linter.unusedSectionVars false
theorem seedLoop (N:Nat) (a:List Nat):∀ (k m i:Nat) (l:List Nat),i+k=32→l.length=32→∃ sd,sd.length=32∧g7L3 realA N (fun v _=>some v) (m+k+1) a 32 (i:Nat) 32 l=some (tS sd):=by
  intro k
  induction k with
  | zero =>
    intro m i l hi hl
    refine ⟨l,hl, ?_⟩
    rw [g7L3,ar_lss,decide_eq_false (by omega),List.take_of_length_le (by omega)]
  | succ k ih =>
    intro m i l hi hl
    rw [show m+(k+1)+1=(m+k+1)+1 by omega,g7L3,ar_lss,decide_eq_true (by omega),ar_lss,ar_ofN]
    by_cases h:(i:Int)<(a.length:Int)
    · rw [decide_eq_true h]
      have q:realA.ib .add .i64 (i:Int) 1=((i+1:Nat):Int):=(ar_add (a:=(i:Int)) (b:=1) (by omega)).trans (by omega)
      simp only []
      unfold g7J5
      simp only [ar_negN,ar_toNN,ar_lt,decide_eq_true (show i<a.length by omega),decide_eq_true (show i<32 by omega),q]
      exact ih m (i+1) _ (by omega) (by rw [List.length_set]; exact hl)
    · rw [decide_eq_false h]
      exact ⟨l,hl,by rw [List.take_of_length_le (by omega)]⟩
theorem seedE (a:List Nat):∃ sd,sd.length=32∧g7ok realA a=true∧g7r0 realA a=sd:=by
  obtain ⟨sd,h1,h2⟩:=seedLoop 100000 a 32 99967 0 (List.replicate 32 0) (by omega) (by rw [List.length_replicate])
  have e:g7v realA a=some (tS sd):=by
    unfold g7v g7
    rw [ar_le,decide_eq_true (by omega),ar_le,decide_eq_true (by omega)]
    exact h2
  exact ⟨sd,h1,(congrArg g7is e).trans rfl,(congrArg g7g0 e).trans rfl⟩
end Go.Sx
