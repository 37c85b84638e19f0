import Derived.Test.YtpdpafehfloelaaSxY06c
import Derived.Test.YtpdpafehfloelaaSxY06e
namespace Go.Sx
set_option linter.unusedSectionVars false
structure SGK (A:Ar) (sha cl:List Nat→List Nat):Prop where
  shaL:∀ s,(sha s).length=64∧∀ x ∈ sha s,x<256
  clL:∀ s,s.length=32→(∀ x ∈ s,x<256)→(cl s).length=32∧∀ x ∈ cl s,x<256
  pt:PTK A
  enc:∀ p:Pt,g18ok A (fi p.x) (fi p.y)=true∧g18r0 A (fi p.x) (fi p.y)=p.bytes
  dec:∀ p:Pt,g17ok A p.bytes=true∧g17r0 A p.bytes=fi p.x∧g17r1 A p.bytes=fi p.y∧g17r2 A p.bytes=true
  decNo:∀ s:List Nat,(∀ x ∈ s,x<256)→s.length≠32→g17ok A s=true∧g17r2 A s=false
  ma:∀ a b c:List Nat,(∀ x ∈ a,x<256)→(∀ x ∈ b,x<256)→(∀ x ∈ c,x<256)→a.length=32→b.length=32→c.length=32→g15ok A a b c=true∧g15r0 A a b c=le32 ((leval a*leval b+leval c)%LL)
  right:∀ s:List Nat,(∀ x ∈ s,x<256)→s.length=32→g16ok A s=true∧g16r0 A s=decide (leval s<LL)
  clamp:∀ s:List Nat,(∀ x ∈ s,x<256)→s.length=32→g24ok A s=true∧g24r0 A s=cl s
  one:∀ s:List Nat,s.length≤1000000→g23ok A s=true∧g23r0 A s=sha s
  num:∀ l:List (List Nat),0<l.length→l.flatten.length≤1000000→l.length≤1000→(∀ s ∈ l,∀ x ∈ s,x<256)→g13ok A l.length l.length l=true∧g13r0 A l.length l.length l=le32 (leval (sha l.flatten)%LL)
  le:∀ a b,A.le a b=decide (a≤b)
  neq:∀ a b:Int,A.ic .neq a b= !(decide (a=b))
  ofN:∀ n:Nat,A.ofN n=(n:Int)
  sceq:∀ a b:List Nat,A.sc .eql a b=decide (a=b)
def nb (n:Nat):List Nat:=le32 (n%LL)
theorem LL_256:LL<256^32:=by decide
theorem nb_len (n:Nat):(nb n).length=32:=le32_length _
theorem nb_lt (n:Nat):∀ x ∈ nb n,x<256:=le32_lt _
theorem nb_val (n:Nat):leval (nb n)=n%LL:=leval_le32 _ (Nat.lt_trans (Nat.mod_lt _ (by decide)) LL_256)
theorem nS_nb (n:Nat):nS (nb n)=n%LL:=by rw [nS32 (nb_lt n) (nb_len n),nb_val]
section
variable {A:Ar} {sha cl:List Nat→List Nat} (h:SGK A sha cl)
include h
theorem g14of {s y:List Nat} (e:g14v A s=some (tS y)):g14ok A s=true∧g14r0 A s=y:=⟨by unfold g14ok; rw [e]; rfl,by unfold g14r0; rw [e]; rfl⟩
theorem bytesE {s:List Nat} (hs:s.length<9223372036854775808):g14ok A s=true∧g14r0 A s=(nP (nS s) Pt.base).bytes:=by
  refine g14of h ?_
  unfold g14v g14
  simp only [h.pt.base,h.pt.mul Pt.base s hs,h.enc]
theorem g12of {s a b c:List Nat} {t:Bool} (e:g12v A s=some (.tup [.agg [.one (.str a),.one (.str b),.one (.str c)],.cell (.bool t)])):g12ok A s=true∧g12r0 A s=a∧g12r1 A s=b∧g12r2 A s=c∧g12r3 A s=t:=⟨by unfold g12ok; rw [e]; rfl,by unfold g12r0; rw [e]; rfl,by unfold g12r1; rw [e]; rfl,by unfold g12r2; rw [e]; rfl,by unfold g12r3; rw [e]; rfl⟩
theorem madeE {s:List Nat} (hl:s.length=32):g12ok A s=true∧g12r0 A s=cl ((sha s).take 32)∧g12r1 A s=(sha s).drop 32∧g12r2 A s=(nP (nS (cl ((sha s).take 32))) Pt.base).bytes∧g12r3 A s=true:=by
  refine g12of h ?_
  obtain ⟨o1,o2⟩:=h.one s (by omega)
  obtain ⟨sl,sb⟩:=h.shaL s
  have tl:((sha s).take 32).length=32:=by rw [List.length_take]; omega
  have tb:∀ x ∈ (sha s).take 32,x<256:=fun x hx=>sb x (List.mem_of_mem_take hx)
  obtain ⟨c1,c2⟩:=h.clamp _ tb tl
  obtain ⟨q1,_⟩:=h.clL _ tl tb
  obtain ⟨b1,b2⟩:=bytesE h (s:=cl ((sha s).take 32)) (by rw [q1]; decide)
  unfold g12v g12
  rw [h.neq,h.ofN,hl,decide_eq_true (by rfl)]
  simp only [Bool.not_true]
  unfold g12J3
  have hle:A.le 32 (sha s).length=true:=by rw [h.le,sl]; rfl
  have e1:((sha s).take 32).drop 0=(sha s).take 32:=rfl
  have e2:((sha s).take (sha s).length).drop 32=(sha s).drop 32:=by rw [List.take_length]
  simp only [o1,o2,hle,e1,e2,c1,c2,b1,b2]
theorem g8of {s a:List Nat} {t:Bool} (e:g8v A s=some (.tup [.cell (.str a),.cell (.bool t)])):g8ok A s=true∧g8r0 A s=a∧g8r1 A s=t:=⟨by unfold g8ok; rw [e]; rfl,by unfold g8r0; rw [e]; rfl,by unfold g8r1; rw [e]; rfl⟩
theorem g9of {s u a:List Nat} {t:Bool} (e:g9v A s u=some (.tup [.cell (.str a),.cell (.bool t)])):g9ok A s u=true∧g9r0 A s u=a∧g9r1 A s u=t:=⟨by unfold g9ok; rw [e]; rfl,by unfold g9r0; rw [e]; rfl,by unfold g9r1; rw [e]; rfl⟩
theorem g10of {a b c:List Nat} {t:Bool} (e:g10v A a b c=some (.v (.cell (.bool t)))):g10ok A a b c=true∧g10r0 A a b c=t:=⟨by unfold g10ok; rw [e]; rfl,by unfold g10r0; rw [e]; rfl⟩
theorem publicE {s:List Nat} (hl:s.length=32):g8ok A s=true∧g8r0 A s=(nP (nS (cl ((sha s).take 32))) Pt.base).bytes∧g8r1 A s=true:=by
  refine g8of h ?_
  unfold g8v g8
  simp only [madeE h hl]
def rOf (sha:List Nat→List Nat) (p t:List Nat):Nat:=leval (sha (p++t))
def sigOf (sha:List Nat→List Nat) (n pr pub t:List Nat):List Nat :=
  (nP (rOf sha pr t) Pt.base).bytes++nb (leval (sha ((nP (rOf sha pr t) Pt.base).bytes++(pub++t)))%LL*leval n+rOf sha pr t%LL)
theorem signE {s t:List Nat} (hl:s.length=32) (ht:∀ x ∈ t,x<256) (lt:t.length≤1000):g9ok A s t=true∧g9r0 A s t=sigOf sha (cl ((sha s).take 32)) ((sha s).drop 32) (nP (nS (cl ((sha s).take 32))) Pt.base).bytes t∧g9r1 A s t=true:=by
  refine g9of h ?_
  obtain ⟨sl,sb⟩:=h.shaL s
  have tl:((sha s).take 32).length=32:=by rw [List.length_take]; omega
  have tb:∀ x ∈ (sha s).take 32,x<256:=fun x hx=>sb x (List.mem_of_mem_take hx)
  obtain ⟨q1,q2⟩:=h.clL _ tl tb
  have db:∀ x ∈ (sha s).drop 32,x<256:=fun x hx=>sb x (List.mem_of_mem_drop hx)
  have dl:((sha s).drop 32).length=32:=by rw [List.length_drop]; omega
  unfold g9v g9
  simp only [madeE h hl,Bool.not_true]
  generalize hP:(nP (nS (cl ((sha s).take 32))) Pt.base)=P at *
  generalize cl ((sha s).take 32)=n at *
  generalize (sha s).drop 32=pr at *
  have pl:P.bytes.length=32:=encS_len _ _
  have pb:=P.bytes_lt
  unfold g9J4
  have e1:[pr,t].flatten=pr++t:=by simp
  obtain ⟨n1,n2⟩:=h.num [pr,t] (by simp) (by rw [e1,List.length_append]; omega) (by simp) (fun x hx=>by
    rcases List.mem_cons.1 hx with rfl | hx
    · exact db
    · rcases List.mem_cons.1 hx with rfl | hx
      · exact ht
      · cases hx)
  rw [e1] at n2
  have n1:g13ok A 2 2 [pr,t]=true:=n1
  have n2:g13r0 A 2 2 [pr,t]=nb (rOf sha pr t):=n2
  simp only [n1,n2]
  obtain ⟨b1,b2⟩:=bytesE h (s:=nb (rOf sha pr t)) (by rw [nb_len]; decide)
  rw [nS_nb,nP_mod] at b2
  generalize hF:(nP (rOf sha pr t) Pt.base)=F at *
  have fl:F.bytes.length=32:=encS_len _ _
  simp only [b1,b2]
  have e2:[F.bytes,P.bytes,t].flatten=F.bytes++(P.bytes++t):=by simp
  obtain ⟨k1,k2⟩:=h.num [F.bytes,P.bytes,t] (by simp) (by rw [e2,List.length_append,List.length_append]; omega) (by simp) (fun x hx=>by
    rcases List.mem_cons.1 hx with rfl | hx
    · exact F.bytes_lt
    · rcases List.mem_cons.1 hx with rfl | hx
      · exact pb
      · rcases List.mem_cons.1 hx with rfl | hx
        · exact ht
        · cases hx)
  rw [e2] at k2
  have k1:g13ok A 3 3 [F.bytes,P.bytes,t]=true:=k1
  have k2:g13r0 A 3 3 [F.bytes,P.bytes,t]=nb (leval (sha (F.bytes++(P.bytes++t)))):=k2
  simp only [k1,k2]
  obtain ⟨m1,m2⟩:=h.ma (nb (leval (sha (F.bytes++(P.bytes++t))))) n (nb (rOf sha pr t)) (nb_lt _) q2 (nb_lt _) (nb_len _) q1 (nb_len _)
  rw [nb_val,nb_val] at m2
  have hle:A.le (F.bytes.length+(le32 ((leval (sha (F.bytes++(P.bytes++t)))%LL*leval n+rOf sha pr t%LL)%LL)).length) 9223372036854775807=true:=by
    rw [h.le,fl,le32_length]; rfl
  simp only [m1,m2,hle]
  unfold sigOf
  rw [hF]
  rfl
theorem verE {n pr t:List Nat} (n1:n.length=32) (n2:∀ x ∈ n,x<256) (ht:∀ x ∈ t,x<256) (lt:t.length≤1000):g10ok A (nP (nS n) Pt.base).bytes t (sigOf sha n pr (nP (nS n) Pt.base).bytes t)=true∧g10r0 A (nP (nS n) Pt.base).bytes t (sigOf sha n pr (nP (nS n) Pt.base).bytes t)=true:=by
  refine g10of h ?_
  have hN:leval n=nS n:=(nS32 n2 n1).symm
  unfold sigOf
  rw [hN]
  generalize hK:leval (sha ((nP (rOf sha pr t) Pt.base).bytes++((nP (nS n) Pt.base).bytes++t)))=K
  generalize rOf sha pr t=R at *
  generalize nS n=N at *
  generalize hF:(nP R Pt.base)=F at *
  generalize hP:(nP N Pt.base)=P at *
  have fl:F.bytes.length=32:=encS_len _ _
  have pl:P.bytes.length=32:=encS_len _ _
  have hc:(F.bytes++nb (K%LL*N+R%LL)).length=64:=by rw [List.length_append,fl,nb_len]
  have e1:((F.bytes++nb (K%LL*N+R%LL)).take (F.bytes++nb (K%LL*N+R%LL)).length).drop 32=nb (K%LL*N+R%LL):=by
    rw [List.take_length,List.drop_append_of_le_length (by omega),List.drop_of_length_le (by omega)]; rfl
  have e2:((F.bytes++nb (K%LL*N+R%LL)).take 32).drop 0=F.bytes:=by
    show (F.bytes++nb (K%LL*N+R%LL)).take 32=_
    rw [List.take_append_of_le_length (by omega),List.take_of_length_le (by omega)]
  have hle:A.le 32 (F.bytes++nb (K%LL*N+R%LL)).length=true:=by rw [h.le,hc]; rfl
  obtain ⟨r1,r2⟩:=h.right (nb (K%LL*N+R%LL)) (nb_lt _) (nb_len _)
  rw [nb_val,decide_eq_true (Nat.mod_lt _ (by decide))] at r2
  unfold g10v g10
  rw [h.neq,h.ofN,hc,decide_eq_true (by rfl)]
  have e1b:=e1
  have hleb:=hle
  rw [hc] at e1b hleb
  simp only [Bool.not_true,hleb,e1b,r1,r2]
  unfold g10J3
  simp only [h.dec,Bool.not_true]
  unfold g10J6
  have e3:[F.bytes,P.bytes,t].flatten=F.bytes++(P.bytes++t):=by simp
  obtain ⟨k1,k2⟩:=h.num [F.bytes,P.bytes,t] (by simp) (by rw [e3,List.length_append,List.length_append]; omega) (by simp) (fun x hx=>by
    rcases List.mem_cons.1 hx with rfl | hx
    · exact F.bytes_lt
    · rcases List.mem_cons.1 hx with rfl | hx
      · exact P.bytes_lt
      · rcases List.mem_cons.1 hx with rfl | hx
        · exact ht
        · cases hx)
  rw [e3,hK] at k2
  have k1:g13ok A 3 3 [F.bytes,P.bytes,t]=true:=k1
  have k2:g13r0 A 3 3 [F.bytes,P.bytes,t]=nb K:=k2
  have eq:((nP ((K%LL*N+R%LL)%LL) Pt.base).add (nP (K%LL) P.neg))=F:=by
    rw [← hP,← hF,verEq,nP_mod]
  have q1:=h.pt.mul Pt.base (nb (K%LL*N+R%LL)) (by rw [nb_len]; decide)
  have q2:=h.pt.mul P.neg (nb K) (by rw [nb_len]; decide)
  rw [nS_nb] at q1 q2
  simp only [hle,e1,e2,k1,k2,h.pt.base,q1,h.pt.neg,q2,h.pt.add,g10t2,g10t3,eq,h.enc,h.sceq,decide_true]
end
end Go.Sx
