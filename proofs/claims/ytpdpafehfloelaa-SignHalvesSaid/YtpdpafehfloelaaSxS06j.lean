import Derived.Test.YtpdpafehfloelaaSxS06d
import Derived.Test.YtpdpafehfloelaaSxS06g
import Derived.Test.YtpdpafehfloelaaSxY06j
namespace Go.Sx
set_option linter.unusedSectionVars false
theorem leval_set' {t:List Nat} {i y:Nat} (h:i<t.length):leval (t.set i y)+256^i*t.getD i 0=leval t+256^i*y:=by
  have:=S4.leval_set t i y h
  rwa [lev4,lev4] at this
theorem leval_next {o:List Nat} {i:Nat} (h:i<o.length):leval (o.take (i+1))=leval (o.take i)+256^i*o.getD i 0:=by
  have h2:o.take (i+1)=o.take i++[o.getD i 0]:=by
    rw [List.take_add_one,List.getD_eq_getElem?_getD,List.getElem?_eq_getElem h]; rfl
  rw [h2]
  have:=S4.leval_append (o.take i) [o.getD i 0]
  rw [lev4,lev4,lev4,List.length_take,Nat.min_eq_left (by omega)] at this
  rw [this]
  rfl
theorem halvesLoop (N:Nat) (x0 x2 x3 o h:List Nat) (ho:o.length=32) (hob:∀ x ∈ o,x<256) (hh:h.length=32) (S:Nat):∀ (k m i c:Nat) (t:List Nat),i+k=32→t.length=32→(∀ x ∈ t,x<256)→c≤1→leval t+256^i*c=S+leval (o.take i) →
    ∃ (c':Nat) (t':List Nat),t'.length=32∧(∀ x ∈ t',x<256)∧leval t'+256^32*c'=S+leval o∧g5L14 realA N (fun v _=>some v) (m+k+1) x0 true x2 x3 o 64 (c:Int) (i:Int) 64 (h++t)=g5J19 realA N (fun v _=>some v) x0 true x2 x3 64 (c':Int) 64 (h++t'):=by
  intro k
  induction k with
  | zero =>
    intro m i c t hi ht hb hc hv
    have e:i=32:=by omega
    subst e
    rw [List.take_of_length_le (by omega)] at hv
    refine ⟨c,t,ht,hb,hv, ?_⟩
    rw [g5L14,ar_lss,decide_eq_false (by omega)]
  | succ k ih =>
    intro m i c t hi ht hb hc hv
    have q:realA.ib .add .i64 (i:Int) 1=((i+1:Nat):Int):=(ar_add (a:=(i:Int)) (b:=1) (by omega)).trans (by omega)
    have q2:realA.ib .add .i64 32 (i:Int)=((32+i:Nat):Int):=(ar_add (a:=32) (b:=(i:Int)) (by omega)).trans (by omega)
    have g1:(h++t).getD (32+i) 0=t.getD i 0:=by
      rw [List.getD_eq_getElem?_getD,List.getElem?_append_right (by omega),hh,Nat.add_sub_cancel_left,List.getD_eq_getElem?_getD]
    have g2:∀ y,(h++t).set (32+i) y=h++t.set i y:=fun y=>by
      rw [List.set_append_right _ _ (by omega),hh,Nat.add_sub_cancel_left]
    have b1:=getD_lt256 hb i
    have b2:=getD_lt256 hob i
    have s1:realA.ib .add .i64 (realA.ib .add .i64 (realA.ofN (t.getD i 0)) (realA.ofN (o.getD i 0))) (c:Int)=((t.getD i 0+o.getD i 0+c:Nat):Int):=by
      have w:realA.ib .add .i64 ((t.getD i 0:Nat):Int) ((o.getD i 0:Nat):Int)=((t.getD i 0+o.getD i 0:Nat):Int):=(ar_add (a:=((t.getD i 0:Nat):Int)) (b:=((o.getD i 0:Nat):Int)) (by omega)).trans (by omega)
      rw [ar_ofN,ar_ofN,w,ar_add (by omega)]; omega
    have s2:realA.ib .quo .i64 ((t.getD i 0+o.getD i 0+c:Nat):Int) 256=(((t.getD i 0+o.getD i 0+c)/256:Nat):Int):=by
      rw [ar_quo (by omega) (by omega) (by omega)]; omega
    obtain ⟨c',t',r1,r2,r3,r4⟩:=ih m (i+1) ((t.getD i 0+o.getD i 0+c)/256) (t.set i ((t.getD i 0+o.getD i 0+c)%256)) (by omega) (by rw [List.length_set]; exact ht) (set_lt hb i (by omega)) (by omega) (by
      have z1:=leval_set' (t:=t) (i:=i) (y:=(t.getD i 0+o.getD i 0+c)%256) (by omega)
      have z2:=leval_next (o:=o) (i:=i) (by omega)
      rw [z2]
      generalize t.getD i 0=u at *
      generalize o.getD i 0=v at *
      have z3:256^(i+1)*((u+v+c)/256)+256^i*((u+v+c)%256)=256^i*u+256^i*v+256^i*c:=by
        rw [Nat.pow_succ,Nat.mul_assoc,← Nat.mul_add,← Nat.mul_add,← Nat.mul_add,Nat.div_add_mod]
      omega)
    refine ⟨c',t',r1,r2,r3,Eq.trans ?_ r4⟩
    rw [show m+(k+1)+1=(m+k+1)+1 by omega,g5L14,ar_lss,decide_eq_true (by omega)]
    simp only []
    unfold g5J16
    simp only [q,q2,ar_negN,ar_toNN,ar_lt,decide_eq_true (show 32+i<64 by omega),ho,decide_eq_true (show i<32 by omega),g1,g2,s1,s2,ar_i2nN]
theorem ex_ob:g11ok realA [101,100,100,51,102,53,53,99,49,97,54,51,49,50,53,56,100,54,57,99,102,55,97,50,100,101,102,57,100,101,49,52,48,48,48,48,48,48,48,48,48,48,48,48,48,48,48,48,48,48,48,48,48,48,48,48,48,48,48,48,48,48,49,48]=true∧g5t0 realA=[237,211,245,92,26,99,18,88,214,156,247,162,222,249,222,20,0,0,0,0,0,0,0,0,0,0,0,0,0,0,0,16]:=⟨by kernel_rfl,by kernel_rfl⟩
section
variable {A:Ar} {sha cl:List Nat→List Nat} (h:SGK A sha cl)
include h
theorem verBig {p t c:List Nat} (hc:c.length=64) (hb:∀ x ∈ c.drop 32,x<256) (hv:LL≤leval (c.drop 32)):g10ok A p t c=true∧g10r0 A p t c=false:=by
  refine g10of h ?_
  have e1:(c.drop 32).length=32:=by rw [List.length_drop]; omega
  obtain ⟨r1,r2⟩:=h.right (c.drop 32) hb e1
  rw [decide_eq_false (by omega)] at r2
  have hle:A.le 32 c.length=true:=by rw [h.le,hc]; rfl
  have e2:c.take 64=c:=List.take_of_length_le (by omega)
  unfold g10v g10
  rw [h.neq,h.ofN,hc,decide_eq_true (by rfl)]
  rw [hc] at hle
  simp only [Bool.not_true,hle,e2,r1,r2]
  rfl
theorem g5Shape (n:Nat) (a b sd o:List Nat) (ex:g6ok A=true∧g6r0 A=true) (seed:g7ok A a=true∧g7r0 A a=sd) (sl:sd.length=32) (hb:∀ x ∈ b,x<256)
    (i1:A.neg (A.mn (A.ofN b.length) 100)=false) (i2:A.toN (A.mn (A.ofN b.length) 100)=min b.length 100) (ob:g11ok A [101,100,100,51,102,53,53,99,49,97,54,51,49,50,53,56,100,54,57,99,102,55,97,50,100,101,102,57,100,101,49,52,48,48,48,48,48,48,48,48,48,48,48,48,48,48,48,48,48,48,48,48,48,48,48,48,48,48,48,48,48,48,49,48]=true∧g5t0 A=o)
    (eql:A.ic .eql 0 0=true)
    (loop:∀ (x0 x2 g:List Nat),g.length=64→(∀ x ∈ g,x<256)→leval (g.drop 32)<LL→∃ b':List Nat,b'.length=64∧(∀ x ∈ b'.drop 32,x<256)∧LL≤leval (b'.drop 32)∧g5L14 A n (fun v _=>some v) n x0 true x2 g o 64 0 0 64 g=g5J19 A n (fun v _=>some v) x0 true x2 g 64 0 64 b'):g5 A n (fun v _=>some v) a b=some (.v (.cell (.bool true))):=by
  have tb:∀ x ∈ (b.take (min b.length 100)).drop 0,x<256:=fun x hx=>hb x (List.mem_of_mem_take hx)
  have tl:((b.take (min b.length 100)).drop 0).length≤1000:=by
    show (b.take (min b.length 100)).length≤1000
    rw [List.length_take]; omega
  obtain ⟨s1,s2,s3⟩:=signE h sl tb tl
  obtain ⟨p1,p2,p3⟩:=publicE h sl
  obtain ⟨hl1,hl2⟩:=h.shaL sd
  have ttl:((sha sd).take 32).length=32:=by rw [List.length_take]; omega
  obtain ⟨q1,q2⟩:=h.clL _ ttl (fun x hx=>hl2 x (List.mem_of_mem_take hx))
  obtain ⟨v1,v2⟩:=verE h (pr:=(sha sd).drop 32) q1 q2 tb tl
  have hle:A.le (min b.length 100) b.length=true:=by rw [h.le]; exact decide_eq_true (by omega)
  have gl:=sigLen sha (cl ((sha sd).take 32)) ((sha sd).drop 32) (nP (nS (cl ((sha sd).take 32))) Pt.base).bytes ((b.take (min b.length 100)).drop 0)
  have gb:(∀ x ∈ sigOf sha (cl ((sha sd).take 32)) ((sha sd).drop 32) (nP (nS (cl ((sha sd).take 32))) Pt.base).bytes ((b.take (min b.length 100)).drop 0),x<256)∧leval ((sigOf sha (cl ((sha sd).take 32)) ((sha sd).drop 32) (nP (nS (cl ((sha sd).take 32))) Pt.base).bytes ((b.take (min b.length 100)).drop 0)).drop 32)<LL:=by
    unfold sigOf
    refine ⟨fun x hx=> ?_, ?_⟩
    · rcases List.mem_append.1 hx with hx | hx
      · exact Pt.bytes_lt _ x hx
      · exact nb_lt _ x hx
    · have fl:(nP (rOf sha ((sha sd).drop 32) ((b.take (min b.length 100)).drop 0)) Pt.base).bytes.length=32:=encS_len _ _
      rw [List.drop_append_of_le_length (by omega),List.drop_of_length_le (by omega),List.nil_append,nb_val]
      exact Nat.mod_lt _ (by decide)
  unfold g5
  simp only [ex,Bool.not_true]
  unfold g5J4
  simp only [seed,i1,i2,hle,p1,p2,p3,s1,s2,s3,Bool.not_true]
  generalize sigOf sha (cl ((sha sd).take 32)) ((sha sd).drop 32) (nP (nS (cl ((sha sd).take 32))) Pt.base).bytes ((b.take (min b.length 100)).drop 0)=g at *
  generalize (nP (nS (cl ((sha sd).take 32))) Pt.base)=P at *
  generalize (b.take (min b.length 100)).drop 0=t at *
  have x64:A.ic .neq (A.ofN g.length) 64=false:=by rw [h.neq,h.ofN,gl]; rfl
  have hle2:A.le 64 9223372036854775807=true:=by rw [h.le]; rfl
  simp only [x64]
  unfold g5J10
  obtain ⟨b',c1,c2,c3,c4⟩:=loop t P.bytes g gl gb.1 gb.2
  simp only [ob,gl,hle2,c4]
  unfold g5J19
  have e3:b'.take 64=b':=List.take_of_length_le (by omega)
  obtain ⟨w1,w2⟩:=verBig h (p:=P.bytes) (t:=t) c1 c2 c3
  simp only [eql,e3,w1,w2,Bool.not_false,v1,v2]
end
theorem halves (N m:Nat) (x0 x2 g:List Nat) (gl:g.length=64) (gb:∀ x ∈ g,x<256) (gv:leval (g.drop 32)<LL):∃ b':List Nat,b'.length=64∧(∀ x ∈ b'.drop 32,x<256)∧LL≤leval (b'.drop 32)∧g5L14 realA N (fun v _=>some v) (m+33) x0 true x2 g [237,211,245,92,26,99,18,88,214,156,247,162,222,249,222,20,0,0,0,0,0,0,0,0,0,0,0,0,0,0,0,16] 64 0 0 64 g=g5J19 realA N (fun v _=>some v) x0 true x2 g 64 0 64 b':=by
  have hh:(g.take 32).length=32:=by rw [List.length_take]; omega
  obtain ⟨c',t',r1,r2,r3,r4⟩:=halvesLoop N x0 x2 g [237,211,245,92,26,99,18,88,214,156,247,162,222,249,222,20,0,0,0,0,0,0,0,0,0,0,0,0,0,0,0,16] (g.take 32) rfl (by decide) hh (leval (g.drop 32)) 32 m 0 0 (g.drop 32) rfl (by rw [List.length_drop]; omega) (fun x hx=>gb x (List.mem_of_mem_drop hx)) (by omega) (by simp [leval])
  rw [List.take_append_drop] at r4
  have e:leval [237,211,245,92,26,99,18,88,214,156,247,162,222,249,222,20,0,0,0,0,0,0,0,0,0,0,0,0,0,0,0,16]=LL:=by decide
  rw [e] at r3
  have hL:LL*2<256^32:=by decide
  have hc:c'=0:=by
    rcases c' with _ | c'
    · rfl
    · have:256^32*1≤256^32*(c'+1):=Nat.mul_le_mul_left _ (by omega)
      omega
  subst hc
  have ed:(g.take 32++t').drop 32=t':=by
    rw [List.drop_append_of_le_length (by omega),List.drop_of_length_le (by omega),List.nil_append]
  refine ⟨g.take 32++t',by rw [List.length_append]; omega,by rw [ed]; exact r2,by rw [ed]; omega,r4⟩
theorem law5N (m:Nat) (a b:List Nat) (hb:∀ x ∈ b,x<256):g5 realA (m+33) (fun v _=>some v) a b=some (.v (.cell (.bool true))):=by
  obtain ⟨sd,sl,s1,s2⟩:=seedE a
  exact g5Shape sgk (m+33) a b sd _ examplesE ⟨s1,s2⟩ sl hb (by rw [ar_mn,ar_ofN,ar_neg]; exact decide_eq_false (by omega)) (by rw [ar_mn,ar_ofN,ar_toN]; omega) ex_ob (by rw [ar_eql]; rfl) (fun x0 x2 g h1 h2 h3=>halves (m+33) m x0 x2 g h1 h2 h3)
theorem law5of {A:Ar} {a b:List Nat} (e:g5v A a b=some (.v (.cell (.bool true)))):g5o A [.v (.cell (.str a)),.v (.cell (.str b))]=some (true,.v (.cell (.bool true))):=by
  simp only [g5o,g5ok,g5r0,e,g5is,g5g0]
theorem law5 (a:List Nat) (_:∀ x ∈ a,x<256) (_:a.length<2^47) (b:List Nat) (hb:∀ x ∈ b,x<256) (_:b.length<2^47) :
    g5o realA [.v (.cell (.str a)),.v (.cell (.str b))]=some (true,.v (.cell (.bool true))):=law5of (law5N 99967 a b hb)
end Go.Sx
