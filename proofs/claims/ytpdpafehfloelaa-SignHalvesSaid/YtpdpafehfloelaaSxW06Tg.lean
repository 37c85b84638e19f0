import Derived.Test.YtpdpafehfloelaaSxPl
import Derived.Test.YtpdpafehfloelaaSxY06s
import Derived.Test.YtpdpafehfloelaaSxAr
namespace Go.Sx
set_option linter.unusedSectionVars false
def dw:List Nat→Nat
  | []=>0
  | x::r=>x+18446744073709551616*dw r
def EE:Nat:=18446744073709551616
theorem dw_lt {l:List Nat} (h:∀ x ∈ l,x<18446744073709551616):dw l<EE^l.length:=by
  induction l with
  | nil=>simp [dw]
  | cons x r ih =>
    have h1:=ih fun y hy=>h y (List.mem_cons_of_mem _ hy)
    have h2:=h x (List.mem_cons_self ..)
    simp only [dw,List.length_cons,Nat.pow_succ]
    unfold EE at *
    omega
theorem dw_append (a b:List Nat):dw (a++b)=dw a+EE^a.length*dw b:=by
  induction a with
  | nil=>simp [dw]
  | cons x r ih =>
    simp only [List.cons_append,dw,ih,List.length_cons,Nat.pow_succ,EE]
    grind
theorem dw_split (l:List Nat) (k:Nat) (h:k≤l.length):dw l=dw (l.take k)+EE^k*dw (l.drop k):=by
  have e:=dw_append (l.take k) (l.drop k)
  rw [List.take_append_drop,List.length_take,Nat.min_eq_left h] at e
  exact e
theorem dw_take_succ (l:List Nat) (k:Nat) (h:k<l.length):dw (l.take (k+1))=dw (l.take k)+EE^k*l.getD k 0:=by
  have:l.take (k+1)=l.take k++[l.getD k 0]:=by
    rw [List.take_add_one,List.getD_eq_getElem?_getD,List.getElem?_eq_getElem h]
    rfl
  rw [this,dw_append,List.length_take,Nat.min_eq_left (by omega)]
  simp only [dw,Nat.mul_zero,Nat.add_zero]
theorem dw_drop (l:List Nat) (k:Nat) (h:k<l.length):dw (l.drop k)=l.getD k 0+18446744073709551616*dw (l.drop (k+1)):=by
  rw [List.drop_eq_getElem_cons h,dw,List.getD_eq_getElem?_getD,List.getElem?_eq_getElem h]
  rfl
theorem dw_set:∀ (l:List Nat) (j y:Nat),j<l.length→dw (l.set j y)+EE^j*l.getD j 0=dw l+EE^j*y:=by
  intro l
  induction l with
  | nil=>intro j y h; simp at h
  | cons x r ih =>
    intro j y h
    cases j with
    | zero=>simp [dw]; omega
    | succ j =>
      have:=ih j y (by simpa using h)
      simp only [List.set_cons_succ,dw,List.getD_cons_succ,Nat.pow_succ,EE] at this ⊢
      grind
theorem getD_ltE {l:List Nat} (h:∀ x ∈ l,x<18446744073709551616) (j:Nat):l.getD j 0<18446744073709551616:=by
  by_cases hj:j<l.length
  · rw [List.getD_eq_getElem?_getD,List.getElem?_eq_getElem hj]
    exact h _ (List.getElem_mem _)
  · rw [List.getD_eq_getElem?_getD,List.getElem?_eq_none (by omega)]
    exact Nat.zero_lt_succ _
theorem set_ltE {l:List Nat} (h:∀ x ∈ l,x<18446744073709551616) {y:Nat} (hy:y<18446744073709551616) (j:Nat):∀ x ∈ l.set j y,x<18446744073709551616:=fun x hx=>(List.mem_or_eq_of_mem_set hx).elim (h x) (fun e=>e ▸ hy)
end Go.Sx
namespace Go.Sx.S2
set_option linter.unusedSectionVars false
theorem and32 (a:Nat):a&&&4294967295=a%4294967296:=Nat.and_two_pow_sub_one_eq_mod a 32
theorem mulhi (a b:Nat) (ha:a<18446744073709551616) (hb:b<18446744073709551616) :
    (((a/4294967296*(b/4294967296))%18446744073709551616+(a/4294967296*(b%4294967296)%18446744073709551616+(a%4294967296*(b%4294967296)%18446744073709551616)/4294967296)%18446744073709551616/4294967296)%18446744073709551616 +
      ((a/4294967296*(b%4294967296)%18446744073709551616+(a%4294967296*(b%4294967296)%18446744073709551616)/4294967296)%18446744073709551616%4294967296+a%4294967296*(b/4294967296)%18446744073709551616)%18446744073709551616/4294967296)%18446744073709551616=a*b/18446744073709551616:=by
  have ea:a=a/4294967296*4294967296+a%4294967296:=by omega
  have eb:b=b/4294967296*4294967296+b%4294967296:=by omega
  have ea1:a/4294967296≤4294967295:=by omega
  have eb1:b/4294967296≤4294967295:=by omega
  have ea0:a%4294967296≤4294967295:=by omega
  have eb0:b%4294967296≤4294967295:=by omega
  generalize a/4294967296=a1 at *
  generalize b/4294967296=b1 at *
  generalize a%4294967296=a0 at *
  generalize b%4294967296=b0 at *
  have e:a*b=a1*b1*18446744073709551616+(a1*b0+a0*b1)*4294967296+a0*b0:=by subst ea; subst eb; grind
  rw [e]
  have h11:a1*b1≤4294967295*4294967295:=Nat.mul_le_mul ea1 eb1
  have h10:a1*b0≤4294967295*4294967295:=Nat.mul_le_mul ea1 eb0
  have h01:a0*b1≤4294967295*4294967295:=Nat.mul_le_mul ea0 eb1
  have h00:a0*b0≤4294967295*4294967295:=Nat.mul_le_mul ea0 eb0
  generalize a1*b1=p11 at *
  generalize a1*b0=p10 at *
  generalize a0*b1=p01 at *
  generalize a0*b0=p00 at *
  clear e ha hb ea eb ea1 eb1 ea0 eb0
  omega
theorem mul64E (a b:Nat) (ha:a<18446744073709551616) (hb:b<18446744073709551616) :
    g49v realA a b=some (.tup [.cell (.nat .u64 (a*b/18446744073709551616)),.cell (.nat .u64 (a*b%18446744073709551616))]):=by
  have h:=mulhi a b ha hb
  simp only [← and32] at h
  rw [← h]
  rfl
theorem mul64ok {a b:Nat} (ha:a<18446744073709551616) (hb:b<18446744073709551616):g49ok realA a b=true:=by unfold g49ok; rw [mul64E a b ha hb]; rfl
theorem mul64r0 {a b:Nat} (ha:a<18446744073709551616) (hb:b<18446744073709551616):g49r0 realA a b=a*b/18446744073709551616:=by unfold g49r0; rw [mul64E a b ha hb]; rfl
theorem mul64r1 {a b:Nat} (ha:a<18446744073709551616) (hb:b<18446744073709551616):g49r1 realA a b=a*b%18446744073709551616:=by unfold g49r1; rw [mul64E a b ha hb]; rfl
theorem carryT {x y c:Nat} (hc:c≤1) (hx:x<18446744073709551616) (hy:y<18446744073709551616):carryok x y c=true:=by
  simp [carryok,hc,hx,hy]

abbrev B64:Nat:=18446744073709551616
theorem pw64 (k:IntKind) (h:k= .u64):2^bitsOf k=B64:=by subst h; rfl
def N6 (l:List Nat):Prop:=l.length=6∧∀ x ∈ l,x<B64
theorem N6.get {l:List Nat} (h:N6 l) (j:Nat):l.getD j 0<B64:=getD_ltE h.2 j
theorem N6.set {l:List Nat} (h:N6 l) {y:Nat} (hy:y<B64) (j:Nat):N6 (l.set j y):=⟨by rw [List.length_set]; exact h.1,set_ltE h.2 hy j⟩
theorem N6.lt {l:List Nat} (h:N6 l):dw l<EE^6:=by have:=dw_lt h.2; rw [h.1] at this; exact this
theorem digit {o x b c:Nat} (ho:o<B64) (hx:x<B64) (hb:b<B64) (hc:c<B64) :
    (x*b/B64+(o+x*b%B64+0)/B64)%B64+((o+x*b%B64+0)%B64+c+0)/B64<B64 ∧
    ((o+x*b%B64+0)%B64+c+0)%B64+B64*(((x*b/B64+(o+x*b%B64+0)/B64)%B64+((o+x*b%B64+0)%B64+c+0)/B64)%B64)=o+x*b+c:=by
  have h1:x*b≤18446744073709551615*18446744073709551615:=Nat.mul_le_mul (Nat.le_of_lt_succ hx) (Nat.le_of_lt_succ hb)
  generalize x*b=p at *
  simp only [B64] at *
  omega
theorem times_in (N:Nat) (lg:List Nat→Int→List Nat→List Nat→Option AV) (a b:List Nat) (hb:N6 b) (i x:Nat) (hi:i<6) (hx:x<B64):∀ (r k m c:Nat) (o:List Nat),i+k+r=6→c<B64→N6 o→r<m →
    ∃ o' c',N6 o'∧dw o'+EE^6*c'=dw o+EE^(i+k)*c+EE^(i+k)*(x*dw ((b.take (6 - i)).drop k))∧g59L6 realA N (fun v _=>some v) lg m (i:Int) x c (k:Int) a (i:Int) b o=lg a ((i+1:Nat):Int) b o':=by
  intro r
  induction r with
  | zero =>
    intro k m c o h1 hc ho hm
    obtain ⟨m,rfl⟩:∃ q,m=q+1:=⟨m - 1,by omega⟩
    refine ⟨o,c,ho, ?_, ?_⟩
    · have:(b.take (6 - i)).drop k=[]:=List.drop_eq_nil_of_le (by rw [List.length_take,hb.1]; omega)
      rw [this,show i+k=6 by omega]
      simp [dw]
    · have e1:realA.ib .add .i64 (i:Int) (k:Int)=((i+k:Nat):Int):=by rw [ar_add (by omega)]; omega
      have e2:realA.ib .add .i64 (i:Int) 1=((i+1:Nat):Int):=by rw [ar_add (by omega)]; omega
      rw [g59L6,e1,ar_lss,decide_eq_false (show ¬ ((i+k:Nat):Int)<6 by omega),e2]
  | succ r ih =>
    intro k m c o h1 hc ho hm
    obtain ⟨m,rfl⟩:∃ q,m=q+1:=⟨m - 1,by omega⟩
    have e1:realA.ib .add .i64 (i:Int) (k:Int)=((i+k:Nat):Int):=by rw [ar_add (by omega)]; omega
    have e2:realA.ib .add .i64 (k:Int) 1=((k+1:Nat):Int):=by rw [ar_add (by omega)]; omega
    have hbk:=hb.get k
    have hok:=ho.get (i+k)
    obtain ⟨d1,d2⟩:=digit hok hx hbk hc
    have hl:i+k<o.length:=by rw [ho.1]; omega
    have s1:∀ u,(o.set (i+k) u).getD (i+k) 0=u:=fun u=>by rw [List.getD_eq_getElem?_getD,List.getElem?_set_self hl]; rfl
    have lt1:(o.getD (i+k) 0+x*b.getD k 0%18446744073709551616+0)%18446744073709551616<18446744073709551616:=Nat.mod_lt _ (by decide)
    have lt2:x*b.getD k 0%18446744073709551616<18446744073709551616:=Nat.mod_lt _ (by decide)
    rw [g59L6,e1,ar_lss,decide_eq_true (show ((i+k:Nat):Int)<6 by omega)]
    simp only [g59J8,e1,ar_negN,ar_toNN,ar_lt,decide_eq_true (show k<6 by omega),decide_eq_true (show i+k<6 by omega),mul64ok hx hbk,mul64r0 hx hbk,mul64r1 hx hbk,carryT (Nat.zero_le 1) hok lt2,s1,carryT (Nat.zero_le 1) lt1 hc,e2,ar_nadd,pw64 _ rfl,List.set_set,add64a,add64b]
    have hn:N6 (o.set (i+k) (((o.getD (i+k) 0+x*b.getD k 0%B64+0)%B64+c+0)%B64)):=ho.set (Nat.mod_lt _ (by decide)) _
    obtain ⟨o',c',g1,g2,g3⟩:=ih (k+1) m _ _ (by omega) (Nat.mod_lt _ (by decide):((x*b.getD k 0/B64+(o.getD (i+k) 0+x*b.getD k 0%B64+0)/B64)%B64+((o.getD (i+k) 0+x*b.getD k 0%B64+0)%B64+c+0)/B64)%B64<B64) hn (by omega)
    refine ⟨o',c',g1, ?_,g3⟩
    rw [g2]
    have hs:=dw_set o (i+k) (((o.getD (i+k) 0+x*b.getD k 0%B64+0)%B64+c+0)%B64) hl
    have hd:dw ((b.take (6 - i)).drop k)=b.getD k 0+B64*dw ((b.take (6 - i)).drop (k+1)):=by
      rw [dw_drop _ _ (by rw [List.length_take,hb.1]; omega)]
      congr 1
      rw [List.getD_eq_getElem?_getD,List.getElem?_take_of_lt (by omega),← List.getD_eq_getElem?_getD]
    rw [hd]
    generalize dw ((b.take (6 - i)).drop (k+1))=D at *
    generalize ((o.getD (i+k) 0+x*b.getD k 0%B64+0)%B64+c+0)%B64=u at *
    generalize ((x*b.getD k 0/B64+(o.getD (i+k) 0+x*b.getD k 0%B64+0)/B64)%B64+((o.getD (i+k) 0+x*b.getD k 0%B64+0)%B64+c+0)/B64)%B64=v at *
    generalize dw (o.set (i+k) u)=X at *
    generalize o.getD (i+k) 0=y at *
    generalize b.getD k 0=z at *
    have hE:EE^(i+(k+1))=EE^(i+k)*B64:=by rw [← Nat.add_assoc,Nat.pow_succ]; rfl
    rw [hE]
    generalize EE^(i+k)=P at *
    have:P*u+P*B64*v=P*y+P*(x*z)+P*c:=by
      have:=congrArg (P * ·) d2
      grind
    grind

theorem dw_take_mod (b:List Nat) (hb:N6 b) (i:Nat) (hi:i≤6):∃ q,EE^i*dw b=EE^i*dw (b.take (6 - i))+EE^6*q:=by
  have:=dw_split b (6 - i) (by rw [hb.1]; omega)
  refine ⟨dw (b.drop (6 - i)), ?_⟩
  rw [this,Nat.mul_add,← Nat.mul_assoc,← Nat.pow_add,show i+(6 - i)=6 by omega]
theorem times_out (N:Nat) (a b:List Nat) (ha:N6 a) (hb:N6 b):∀ (r i m:Nat) (o:List Nat),i+r=6→N6 o→r<m→6<N →
    ∃ o',N6 o'∧(∃ q p,dw o'+EE^6*q=dw o+EE^i*dw (a.drop i)*dw b+EE^6*p)∧g59L2 realA N (fun v _=>some v) m a (i:Int) b o=some (aN .u64 6 o'):=by
  intro r
  induction r with
  | zero =>
    intro i m o h1 ho hm _
    obtain ⟨m,rfl⟩:∃ q,m=q+1:=⟨m - 1,by omega⟩
    obtain rfl:i=6:=by omega
    refine ⟨o,ho,⟨0,0, ?_⟩, ?_⟩
    · rw [List.drop_eq_nil_of_le (by rw [ha.1]; omega)]; simp [dw]
    · rw [g59L2,ar_lss,decide_eq_false (by omega)]
  | succ r ih =>
    intro i m o h1 ho hm hN
    obtain ⟨m,rfl⟩:∃ q,m=q+1:=⟨m - 1,by omega⟩
    have hx:=ha.get i
    obtain ⟨o1,c1,g1,g2,g3⟩:=times_in N (g59L2 realA N (fun v _=>some v) m) a b hb i (a.getD i 0) (by omega) hx (6 - i) 0 N 0 o (by omega) (by decide) ho (by omega)
    obtain ⟨o2,k1,⟨q,p,k2⟩,k3⟩:=ih (i+1) m o1 (by omega) g1 (by omega) hN
    refine ⟨o2,k1, ?_, ?_⟩
    · obtain ⟨t,ht⟩:=dw_take_mod b hb i (by omega)
      rw [List.drop_zero,Nat.add_zero,Nat.mul_zero,Nat.add_zero] at g2
      have hd:=dw_drop a i (by rw [ha.1]; omega)
      refine ⟨q+c1+a.getD i 0*t,p, ?_⟩
      rw [hd]
      have hE:EE^(i+1)=EE^i*B64:=Nat.pow_succ ..
      rw [hE] at k2
      generalize dw (a.drop (i+1))=D at *
      generalize a.getD i 0=x at *
      generalize dw (b.take (6 - i))=Bt at *
      generalize dw b=Bv at *
      generalize EE^i=P at *
      generalize EE^6=M at *
      have:P*x*Bv=P*(x*Bt)+M*(x*t):=by
        have:=congrArg (x * ·) ht
        grind
      grind
    · rw [g59L2,ar_lss,decide_eq_true (show (i:Int)<6 by omega)]
      simp only [g59J3,ar_negN,ar_toNN,ar_lt,decide_eq_true (show i<6 by omega)]
      exact g3.trans k3
theorem times_v (a b:List Nat) (ha:N6 a) (hb:N6 b):∃ o,N6 o∧(∃ q p,dw o+EE^6*q=dw a*dw b+EE^6*p)∧g59v realA a b=some (aN .u64 6 o):=by
  obtain ⟨o,h1,⟨q,p,h2⟩,h3⟩:=times_out 100000 a b ha hb 6 0 100000 [0,0,0,0,0,0] (by omega) ⟨rfl,by decide⟩ (by omega) (by omega)
  refine ⟨o,h1,⟨q,p, ?_⟩,h3⟩
  rw [h2,List.drop_zero,Nat.pow_zero,Nat.one_mul]
  simp [dw]
theorem times_fit (a b:List Nat) (ha:N6 a) (hb:N6 b) (h:dw a*dw b<EE^6):N6 (g59r0 realA a b)∧dw (g59r0 realA a b)=dw a*dw b∧g59ok realA a b=true:=by
  obtain ⟨o,h1,⟨q,p,h2⟩,h3⟩:=times_v a b ha hb
  have e0:g59r0 realA a b=o:=(congrArg g59g0 h3).trans rfl
  refine ⟨by rw [e0]; exact h1, ?_,(congrArg g59is h3).trans rfl⟩
  rw [e0]
  have:=congrArg (· % EE^6) h2
  simp only [Nat.add_mul_mod_self_left] at this
  rwa [Nat.mod_eq_of_lt h1.lt,Nat.mod_eq_of_lt h] at this
theorem dw_snoc6 (l:List Nat) (hl:N6 l) (i:Nat) (hi:i<6):dw (l.take (i+1))=dw (l.take i)+EE^i*l.getD i 0:=dw_take_succ l i (by rw [hl.1]; exact hi)
theorem dw_take_lt (l:List Nat) (hl:N6 l) (i:Nat) (hi:i≤6):dw (l.take i)<EE^i:=by
  have:=dw_lt (l:=l.take i) fun x hx=>hl.2 x (List.mem_of_mem_take hx)
  rw [List.length_take,hl.1,Nat.min_eq_left hi] at this
  exact this
theorem lexE {u v p x y:Nat} (hx:x<p) (hy:y<p):(x+p*u<y+p*v)↔(u<v∨(u=v∧x<y)):=by
  rcases Nat.lt_trichotomy u v with h | h | h
  · have:p*(u+1)≤p*v:=Nat.mul_le_mul_left _ h
    rw [Nat.mul_add] at this
    constructor
    · intro _; exact .inl h
    · intro _; omega
  · subst h
    constructor
    · intro q; exact .inr ⟨rfl,by omega⟩
    · rintro (q | q) <;> omega
  · have:p*(v+1)≤p*u:=Nat.mul_le_mul_left _ h
    rw [Nat.mul_add] at this
    constructor
    · intro q; omega
    · rintro (q | q) <;> omega
theorem above_loop (N:Nat) (a b:List Nat) (ha:N6 a) (hb:N6 b):∀ (i m:Nat),i≤6→i<m →
    g60L2 realA N (fun v _=>some v) m ((i:Int) - 1) a b=some (bO (decide (dw (b.take i)<dw (a.take i)))):=by
  intro i
  induction i with
  | zero =>
    intro m _ hm
    obtain ⟨m,rfl⟩:∃ q,m=q+1:=⟨m - 1,by omega⟩
    rw [g60L2,ar_geq,decide_eq_false (by omega)]
    simp [dw]
  | succ i ih =>
    intro m hi hm
    obtain ⟨m,rfl⟩:∃ q,m=q+1:=⟨m - 1,by omega⟩
    have e0:(((i+1:Nat):Int) - 1)=(i:Int):=by omega
    have e1:realA.ib .sub .i64 (i:Int) 1=(i:Int) - 1:=ar_sub (by omega)
    rw [g60L2,e0,ar_geq,decide_eq_true (show (0:Int)≤(i:Int) by omega)]
    simp only [g60J4,ar_negN,ar_toNN,ar_lt,decide_eq_true (show i<6 by omega),ar_nneq,ar_ngtr,e1]
    rw [dw_snoc6 a ha i (by omega),dw_snoc6 b hb i (by omega)]
    have hl:=lexE (u:=b.getD i 0) (v:=a.getD i 0) (dw_take_lt b hb i (by omega)) (dw_take_lt a ha i (by omega))
    by_cases h:a.getD i 0=b.getD i 0
    · simp only [h,decide_true,Bool.not_true]
      rw [ih m (by omega) (by omega)]
      rw [h] at hl
      have hd:decide (dw (b.take i)+EE^i*b.getD i 0<dw (a.take i)+EE^i*b.getD i 0)=decide (dw (b.take i)<dw (a.take i)):=decide_eq_decide.2 (by constructor <;> intro <;> omega)
      rw [hd]
    · simp only [decide_eq_false h,Bool.not_false]
      have hd:decide (dw (b.take i)+EE^i*b.getD i 0<dw (a.take i)+EE^i*a.getD i 0)=decide (b.getD i 0<a.getD i 0):=decide_eq_decide.2 (hl.trans ⟨fun q=>q.elim id (fun q=>absurd q.1.symm h),.inl⟩)
      rw [hd]
theorem above_v (a b:List Nat) (ha:N6 a) (hb:N6 b):g60v realA a b=some (bO (decide (dw b<dw a))):=by
  have:=above_loop 100000 a b ha hb 6 100000 (by omega) (by omega)
  rw [List.take_of_length_le (l:=a) (by rw [ha.1]; omega),List.take_of_length_le (l:=b) (by rw [hb.1]; omega)] at this
  exact this
theorem above_ok (a b:List Nat) (ha:N6 a) (hb:N6 b):g60ok realA a b=true:=(congrArg g60is (above_v a b ha hb)).trans rfl
theorem above_0 (a b:List Nat) (ha:N6 a) (hb:N6 b):g60r0 realA a b=decide (dw b<dw a):=(congrArg g60g0 (above_v a b ha hb)).trans rfl
end Go.Sx.S2
namespace Go.Sx.S2
set_option linter.unusedSectionVars false
def lst (R:Nat):List Nat:=[R%B64,R/B64,0,0,0,0]
theorem lst_N6 {R:Nat} (h:R<2^70):N6 (lst R):=by
  refine ⟨rfl,fun x hx=> ?_⟩
  simp only [lst,List.mem_cons,List.not_mem_nil,or_false] at hx
  have:(2:Nat)^70=1180591620717411303424:=by decide
  simp only [B64] at *
  rcases hx with h1 | h1 | h1 | h1 | h1 | h1 <;> omega
theorem lst_dw (R:Nat):dw (lst R)=R:=by
  simp only [lst,dw,B64]; omega
theorem setbit {R b:Nat} (hb:b<70) (hR:R+2^b<2^70) (hm:R%2^(b+1)=0):(lst R).set (b/64) ((lst R).getD (b/64) 0|||2^(b%64))=lst (R+2^b):=by
  have hc:2^(b+1)*(R/2^(b+1))=R:=by have:=Nat.div_add_mod R (2^(b+1)); omega
  generalize R/2^(b+1)=t at hc
  by_cases h:b<64
  · have e1:b/64=0:=by omega
    have e2:b%64=b:=by omega
    rw [e1,e2]
    -- the low word
    have hB:B64=2^(b+1)*2^(63 - b):=by rw [← Nat.pow_add,show b+1+(63 - b)=64 by omega]
    have hlow:R%B64=2^(b+1)*(t%2^(63 - b)):=by rw [← hc,hB,Nat.mul_mod_mul_left]
    have hlt:t%2^(63 - b)<2^(63 - b):=Nat.mod_lt _ (Nat.pow_pos (by omega))
    have hsum:R%B64+2^b<B64:=by
      rw [hlow,hB]
      have h1:2^(b+1)*(t%2^(63 - b))+2^(b+1)≤2^(b+1)*2^(63 - b):=by
        rw [← Nat.mul_succ]; exact Nat.mul_le_mul_left _ hlt
      have h2:2^b<2^(b+1):=Nat.pow_lt_pow_right (by omega) (by omega)
      omega
    have hor:R%B64|||2^b=R%B64+2^b:=by
      rw [hlow]
      exact (Nat.two_pow_add_eq_or_of_lt (Nat.pow_lt_pow_right (by omega) (by omega)) _).symm
    show [R%B64|||2^b,R/B64,0,0,0,0]=[(R+2^b)%B64,(R+2^b)/B64,0,0,0,0]
    rw [hor]
    generalize 2^b=z at *
    simp only [B64] at *
    have a1:(R+z)%18446744073709551616=R%18446744073709551616+z:=by omega
    have a2:(R+z)/18446744073709551616=R/18446744073709551616:=by omega
    rw [a1,a2]
  · have e1:b/64=1:=by omega
    obtain ⟨s,rfl⟩:∃ s,b=64+s:=⟨b - 64,by omega⟩
    have e2:(64+s)%64=s:=by omega
    rw [e1,e2]
    have hB:(2:Nat)^(64+s)=B64*2^s:=by rw [Nat.pow_add]
    have hB1:(2:Nat)^(64+s+1)=B64*2^(s+1):=by rw [Nat.add_assoc,Nat.pow_add]
    have hhi:R/B64=2^(s+1)*t:=by
      rw [← hc,hB1,Nat.mul_assoc,Nat.mul_div_cancel_left _ (by decide)]
    have hlo:R%B64=0:=by rw [← hc,hB1,Nat.mul_assoc,Nat.mul_mod_right]
    have hor:R/B64|||2^s=R/B64+2^s:=by
      rw [hhi]
      exact (Nat.two_pow_add_eq_or_of_lt (Nat.pow_lt_pow_right (by omega) (by omega)) _).symm
    show [R%B64,R/B64|||2^s,0,0,0,0]=[(R+2^(64+s))%B64,(R+2^(64+s))/B64,0,0,0,0]
    rw [hor,hB]
    generalize 2^s=z at *
    simp only [B64] at *
    have a1:(R+18446744073709551616*z)%18446744073709551616=R%18446744073709551616:=by omega
    have a2:(R+18446744073709551616*z)/18446744073709551616=R/18446744073709551616+z:=by omega
    rw [a1,a2]
def pw (t:Bool) (x:Nat):Nat:=if t then x*x*x else x*x
theorem pw_mono {t:Bool} {x y:Nat} (h:x≤y):pw t x≤pw t y:=by
  unfold pw; split
  · exact Nat.mul_le_mul (Nat.mul_le_mul h h) h
  · exact Nat.mul_le_mul h h
theorem mod_step {R b:Nat} (h:R%2^(b+1)=0):R%2^b=0:=by
  have:(2:Nat)^(b+1)=2^b*2:=Nat.pow_succ ..
  rw [this] at h
  exact Nat.mod_eq_zero_of_dvd (Nat.dvd_trans (Nat.dvd_mul_right _ _) (Nat.dvd_of_mod_eq_zero h))
theorem mod_step2 {R b:Nat} (h:R%2^(b+1)=0):(R+2^b)%2^b=0:=by
  rw [Nat.add_mod_right]; exact mod_step h
theorem EE6:EE^6=39402006196394479212279040100143613805079739270465446667948293404245721771497210611414266254884915640806627990306816:=by decide
theorem fit2 {x:Nat} (h:x<2^70):x*x<2^140∧x*x*x<2^210:=by
  have h1:x*x<2^70*2^70:=Nat.mul_lt_mul'' h h
  have h2:x*x*x<2^140*2^70:=Nat.mul_lt_mul'' (by rw [← Nat.pow_add] at h1; exact h1) h
  rw [← Nat.pow_add] at h1 h2
  exact ⟨h1,h2⟩
theorem root_loop (N:Nat) (t:Bool) (w:List Nat) (hw:N6 w):∀ (b m R:Nat),b≤70→b<m→R%2^b=0→R+2^b≤2^70→pw t R≤dw w→dw w<pw t (R+2^b) →
    ∃ R',pw t R'≤dw w∧dw w<pw t (R'+1)∧g45L6 realA N (fun v _=>some v) m t ((b:Int) - 1) w (lst R)=some (u64v (R'%B64)):=by
  intro b
  induction b with
  | zero =>
    intro m R _ hm _ hR h1 h2
    obtain ⟨m,rfl⟩:∃ q,m=q+1:=⟨m - 1,by omega⟩
    refine ⟨R,h1,by simpa using h2, ?_⟩
    rw [g45L6,ar_geq,decide_eq_false (by omega)]
    rfl
  | succ b ih =>
    intro m R hb hm hmod hR h1 h2
    obtain ⟨m,rfl⟩:∃ q,m=q+1:=⟨m - 1,by omega⟩
    have hp:(2:Nat)^(b+1)=2^b+2^b:=by rw [Nat.pow_succ]; omega
    have hpos:0<(2:Nat)^b:=Nat.pow_pos (by omega)
    have hRx:R+2^b<2^70:=by omega
    have e0:(((b+1:Nat):Int) - 1)=(b:Int):=by omega
    have e1:realA.ib .sub .i64 (b:Int) 1=(b:Int) - 1:=ar_sub (by omega)
    have q1:realA.ib .quo .i64 (b:Int) 64=((b/64:Nat):Int):=by rw [ar_quo (by omega) (by omega) (by omega)]; omega
    have q2:realA.ib .rem .i64 (b:Int) 64=((b%64:Nat):Int):=by rw [ar_rem (by omega)]; omega
    have q3:realA.nsh .shl .u64 1 (b%64)=2^(b%64):=by
      rw [ar_nshl,Nat.one_mul]
      exact Nat.mod_eq_of_lt (Nat.pow_lt_pow_right (by omega) (show b%64<64 by omega))
    have q4:∀ x y,realA.nb .or .u64 x y=x|||y:=fun _ _=>rfl
    have hset:=setbit (by omega) hRx hmod
    have hxN:=lst_N6 hRx
    have hx2:dw (lst (R+2^b))*dw (lst (R+2^b))<EE^6:=by
      rw [lst_dw,EE6]
      have:=(fit2 hRx).1
      have h3:(2:Nat)^140<39402006196394479212279040100143613805079739270465446667948293404245721771497210611414266254884915640806627990306816:=by decide
      omega
    obtain ⟨n1,n2,n3⟩:=times_fit _ _ hxN hxN hx2
    rw [lst_dw] at n2
    have hx3:dw (g59r0 realA (lst (R+2^b)) (lst (R+2^b)))*dw (lst (R+2^b))<EE^6:=by
      rw [n2,lst_dw,EE6]
      have:=(fit2 hRx).2
      have h3:(2:Nat)^210<39402006196394479212279040100143613805079739270465446667948293404245721771497210611414266254884915640806627990306816:=by decide
      omega
    obtain ⟨m1,m2,m3⟩:=times_fit _ _ n1 hxN hx3
    rw [n2,lst_dw] at m2
    have q5:b/64<6:=by omega
    rw [g45L6,e0,ar_geq,decide_eq_true (show (0:Int)≤(b:Int) by omega)]
    simp only [g45J8,g45t0,g45t1,q1,q2,ar_negN,ar_toNN,ar_lt,decide_eq_true q5,q3,q4,hset,n3]
    -- whichever power
    have fin:∀ y,N6 y→dw y=pw t (R+2^b)→∃ R',pw t R'≤dw w∧dw w<pw t (R'+1)∧g45J13 realA N (fun v _=>some v) (g45L6 realA N (fun v _=>some v) m) t (b:Int) w (lst R) (lst (R+2^b)) y=some (u64v (R'%B64)):=by
      intro y hy hyv
      simp only [g45J13,above_ok y w hy hw,above_0 y w hy hw,e1,hyv]
      by_cases hgt:dw w<pw t (R+2^b)
      · simp only [decide_eq_true hgt]
        exact ih m R (by omega) (by omega) (mod_step hmod) (by omega) h1 hgt
      · simp only [decide_eq_false hgt]
        exact ih m (R+2^b) (by omega) (by omega) (mod_step2 hmod) (by omega) (by omega) (by rw [Nat.add_assoc,← hp]; exact h2)
    cases t with
    | true=>simp only [m3]; exact fin _ m1 (by rw [m2]; rfl)
    | false=>exact fin _ n1 (by rw [n2]; rfl)
def wantN (t:Bool) (p:Nat):Nat:=if t then p*EE^3 else p*EE^2
theorem root_v (p:Nat) (t:Bool) (hp:p<4096):∃ R,pw t R≤wantN t p∧wantN t p<pw t (R+1)∧g45v realA p t=some (u64v (R%B64)):=by
  have hl:lst 0=[0,0,0,0,0,0]:=rfl
  cases t with
  | true =>
    have hw:N6 ([0,0,0,0,0,0].set 3 p):=⟨rfl,by
      intro x hx
      simp only [List.set_cons_succ,List.set_cons_zero,List.mem_cons,List.not_mem_nil,or_false] at hx
      simp only [B64]
      rcases hx with h1 | h1 | h1 | h1 | h1 | h1 <;> omega⟩
    have hv:dw ([0,0,0,0,0,0].set 3 p)=wantN true p:=by
      simp only [List.set_cons_succ,List.set_cons_zero,dw,wantN,if_true,EE]; omega
    have h:=root_loop 100000 true _ hw 70 100000 0 (by omega) (by omega) rfl (by omega) (by rw [hv]; exact Nat.zero_le _) (by
      rw [hv]
      have:pw true (0+2^70)=2^210:=by decide
      rw [this]
      have:wantN true p≤4095*EE^3:=Nat.mul_le_mul_right _ (by omega)
      have h3:4095*EE^3<2^210:=by decide
      omega)
    rw [hv] at h
    obtain ⟨R,a1,a2,a3⟩:=h
    exact ⟨R,a1,a2,a3⟩
  | false =>
    have hw:N6 ([0,0,0,0,0,0].set 2 p):=⟨rfl,by
      intro x hx
      simp only [List.set_cons_succ,List.set_cons_zero,List.mem_cons,List.not_mem_nil,or_false] at hx
      simp only [B64]
      rcases hx with h1 | h1 | h1 | h1 | h1 | h1 <;> omega⟩
    have hv:dw ([0,0,0,0,0,0].set 2 p)=wantN false p:=by
      simp only [List.set_cons_succ,List.set_cons_zero,dw,wantN,EE]; simp; omega
    have h:=root_loop 100000 false _ hw 70 100000 0 (by omega) (by omega) rfl (by omega) (by rw [hv]; exact Nat.zero_le _) (by
      rw [hv]
      have:pw false (0+2^70)=2^140:=by decide
      rw [this]
      have:wantN false p≤4095*EE^2:=Nat.mul_le_mul_right _ (by omega)
      have h3:4095*EE^2<2^140:=by decide
      omega)
    rw [hv] at h
    obtain ⟨R,a1,a2,a3⟩:=h
    exact ⟨R,a1,a2,a3⟩
theorem root_is {p:Nat} {t:Bool} (hp:p<4096) {c:Nat} (h1:pw t c≤wantN t p) (h2:wantN t p<pw t (c+1)):g45v realA p t=some (u64v (c%B64)):=by
  obtain ⟨R,a1,a2,a3⟩:=root_v p t hp
  have:R=c:=by
    rcases Nat.lt_trichotomy R c with h | h | h
    · have:=pw_mono (t:=t) (show R+1≤c from h); omega
    · exact h
    · have:=pw_mono (t:=t) (show c+1≤R from h); omega
  rw [a3,this]
end Go.Sx.S2
namespace Go.Sx.S2
set_option linter.unusedSectionVars false
def P80:List Nat:=[2,3,5,7,11,13,17,19,23,29,31,37,41,43,47,53,59,61,67,71,73,79,83,89,97,101,103,107,109,113,127,131,137,139,149,151,157,163,167,173,179,181,191,193,197,199,211,223,227,229,233,239,241,251,257,263,269,271,277,281,283,293,307,311,313,317,331,337,347,349,353,359,367,373,379,383,389,397,401,409]
def C3:List Nat:=[23241441160490167842,26604808713878332877,31543488660544240431,35287351959220771772,41025191555757552952,43374469216020582425,47431773444313272219,49223322299838333208,52460086356995146306,56674242196778545086,57948244932766773900,61468643694135456994,63608380943893236079,64626287408284341937,66571091106846937653,69291241975837173396,71813108563482594002,72615556083564357091,74922338351982630325,76384605279477341285,77095200552867529333,79152035218479047811,80466001307761769428,82360010132597855157,84757271453788200875,85906662539289440784,86470001012957192511,87575168524888248036,88117443448470540226,89182409882623190821,92723033081372705391,93686458245878541936,95095488024300105724,95556006044611561766,97794660939065469677,98230277650290947039,99514478923103560670,100766364611844223656,101583977345534766822,102786266195516601659,103961068102722061156,104346826991781163009,106234157551817627537,106603670640207904304,107335108066752287256,107697117917222381840,109819772810290077738,111863398698143437240,112528278492720320712,112857792170093030227,113511107980111571865,114477206417490790568,114795642568024087139,116361942610802215627,117281838038729876339,118187525164200278179,119079540232616391420,119373928427484032864,120248493880617511794,120824543361758411244,121110519679094562344,122520547622920568297,124441674862916172053,124979807718728684331,125247145020423037340,125778422408467759623,127603441353585912606,128369846764518166904,129627222056361226170,129875788766833580198,130370087684295691694,131104582549941012251,132071287192121802116,132787134709014930579,133495346155087314620,133963344184962190668,134659270149180113590,135576127461610847786,136029942151059536620,136928597060811708439]
def C2:List Nat:=[26087635650665564424,31950697969885030203,41248173712355948587,48805497317890012913,61180928696206656209,66510681623121259551,76057874264641092971,80407493254657745273]
def K80:List Nat:=[4794697086780616226,8158064640168781261,13096744586834688815,16840607885511220156,4131703408338449720,6480981068601479193,10538285296894168987,12329834152419229976,15566598209576043074,1334009975649890238,2608012711638119052,6128411473006802146,8268148722764581231,9286055187155687089,11230858885718282805,13951009754708518548,16472876342353939154,17275323862435702243,1135362057144423861,2597628984639134821,3308224258029322869,5365058923640841347,6679025012923562964,8573033837759648693,10970295158949994411,12119686244451234320,12683024718118986047,13788192230050041572,14330467153632333762,15395433587784984357,489312712824947311,1452737877330783856,2861767655752347644,3322285676063803686,5560940570517711597,5996557281743188959,7280758554555802590,8532644243296465576,9350256976987008742,10552545826968843579,11727347734174303076,12113106623233404929,14000437183269869457,14369950271660146224,15101387698204529176,15463397548674623760,17586052441742319658,1182934255886127544,1847814050463011016,2177327727835720531,2830643537854262169,3796741975233480872,4115178125766777443,5681478168544905931,6601373596472566643,7507060721942968483,8399075790359081724,8693463985226723168,9568029438360202098,10144078919501101548,10430055236837252648,11840083180663258601,13761210420658862357,14299343276471374635,14566680578165727644,15097957966210449927,16922976911328602910,17689382322260857208,500013540394364858,748580250866718886,1242879168328830382,1977374033974150939,2944078676154940804,3659926193048069267,4368137639120453308,4836135668995329356,5532061633213252278,6448918945643986474,6902733635092675308,7801388544844847127]
def H8:List Nat:=[7640891576956012808,13503953896175478587,4354685564936845355,11912009170470909681,5840696475078001361,11170449401992604703,2270897969802886507,6620516959819538809]
theorem primes_v:g44v realA=some (sL 700 none 80 1,[(700,⟨[.nums .u64 80 P80],38,2⟩)]):=by kernel_rfl
theorem primes_ok:g44ok realA=true:=(congrArg g44is primes_v).trans rfl
theorem primes_0:g44r0 realA=80:=(congrArg g44g0 primes_v).trans rfl
theorem primes_1:g44r1 realA=80:=(congrArg g44g1 primes_v).trans rfl
theorem primes_2:g44r2 realA=P80:=(congrArg g44g2 primes_v).trans rfl
theorem roots3:∀ i,i<80→P80.getD i 0<4096∧pw true (C3.getD i 0)≤wantN true (P80.getD i 0)∧wantN true (P80.getD i 0)<pw true (C3.getD i 0+1)∧C3.getD i 0%B64=K80.getD i 0:=by decide +kernel
theorem roots2:∀ i,i<8→P80.getD i 0<4096∧pw false (C2.getD i 0)≤wantN false (P80.getD i 0)∧wantN false (P80.getD i 0)<pw false (C2.getD i 0+1)∧C2.getD i 0%B64=H8.getD i 0:=by decide +kernel
theorem root3_ok {i:Nat} (hi:i<80):g45ok realA (P80.getD i 0) true=true:=by
  obtain ⟨a,b,c,d⟩:=roots3 i hi
  exact (congrArg g45is (root_is a b c)).trans rfl
theorem root3_0 {i:Nat} (hi:i<80):g45r0 realA (P80.getD i 0) true=K80.getD i 0:=by
  obtain ⟨a,b,c,d⟩:=roots3 i hi
  exact (congrArg g45g0 (root_is a b c)).trans d
theorem root2_ok {i:Nat} (hi:i<8):g45ok realA (P80.getD i 0) false=true:=by
  obtain ⟨a,b,c,d⟩:=roots2 i hi
  exact (congrArg g45is (root_is a b c)).trans rfl
theorem root2_0 {i:Nat} (hi:i<8):g45r0 realA (P80.getD i 0) false=H8.getD i 0:=by
  obtain ⟨a,b,c,d⟩:=roots2 i hi
  exact (congrArg g45g0 (root_is a b c)).trans d
def hk (i:Nat):List Nat:=(H8.take i++List.replicate (8 - i) 0)++(K80.take i++List.replicate (80 - i) 0)
theorem hk_lo:∀ i,i<8→((hk i).set (8+i) (K80.getD i 0)).set i (H8.getD i 0)=hk (i+1):=by decide +kernel
theorem hk_hi:∀ i,i<80→¬ i<8→(hk i).set (8+i) (K80.getD i 0)=hk (i+1):=by decide +kernel
theorem new_loop (N:Nat) (kk:AV→Heap→Option (AV × Heap)):∀ (d i m:Nat),i+d=80→d<m →
    g25L3 realA N kk m 80 80 (i:Int) (hk i) 0 80 P80=kk (pT 2001 0) [(2001,⟨[.nums .u64 88 (hk 80),.one .nils,.one (.int .i64 0)],76,1⟩)]:=by
  intro d
  induction d with
  | zero =>
    intro i m h hm
    obtain ⟨m,rfl⟩:∃ q,m=q+1:=⟨m - 1,by omega⟩
    obtain rfl:i=80:=by omega
    rw [g25L3,ar_lss,decide_eq_false (by omega)]
  | succ d ih =>
    intro i m h hm
    obtain ⟨m,rfl⟩:∃ q,m=q+1:=⟨m - 1,by omega⟩
    have hi:i<80:=by omega
    have e1:realA.ib .add .i64 (i:Int) 1=((i+1:Nat):Int):=by rw [ar_add (by omega)]; omega
    rw [g25L3,ar_lss,decide_eq_true (show (i:Int)<80 by omega)]
    by_cases h8:i<8
    · simp only [g25J4,ar_negN,ar_toNN,ar_lt,decide_eq_true hi,root3_ok hi,root3_0 hi,ar_lss,decide_eq_true (show (i:Int)<8 by omega),root2_ok h8,root2_0 h8,decide_eq_true h8,e1,hk_lo i h8]
      exact ih (i+1) m (by omega) (by omega)
    · simp only [g25J4,ar_negN,ar_toNN,ar_lt,decide_eq_true hi,root3_ok hi,root3_0 hi,ar_lss,decide_eq_false (show ¬ (i:Int)<8 by omega),e1,hk_hi i hi h8]
      exact ih (i+1) m (by omega) (by omega)
theorem new_v:g25v realA=some (pT 700 0,[(700,⟨[.nums .u64 88 (H8++K80),.one .nils,.one (.int .i64 0)],76,1⟩)]):=by
  unfold g25v g25
  simp only [primes_ok,primes_0,primes_1,primes_2,ar_ofN]
  have h0:hk 0=[0,0,0,0,0,0,0,0,0,0,0,0,0,0,0,0,0,0,0,0,0,0,0,0,0,0,0,0,0,0,0,0,0,0,0,0,0,0,0,0,0,0,0,0,0,0,0,0,0,0,0,0,0,0,0,0,0,0,0,0,0,0,0,0,0,0,0,0,0,0,0,0,0,0,0,0,0,0,0,0,0,0,0,0,0,0,0,0]:=by decide +kernel
  have h80:hk 80=H8++K80:=by decide +kernel
  have h:=new_loop 100000 (outH [] none) 80 0 100000 rfl (by omega)
  rw [h0,h80] at h
  exact h.trans rfl
theorem new_ok:g25ok realA=true:=(congrArg g25is new_v).trans rfl
theorem new_0:g25r0 realA=H8++K80:=(congrArg g25g0 new_v).trans rfl
theorem new_1:g25r1 realA=0:=(congrArg g25g1 new_v).trans rfl
end Go.Sx.S2
namespace Go.Sx.S2
set_option linter.unusedSectionVars false
def rt (x n:Nat):Nat:=(x*2^(64 - n))%B64|||x/2^n
theorem g61g0_some (y:Nat):g61g0 (some (u64v y))=y:=rfl
theorem g61is_some (y:Nat):g61is (some (u64v y))=true:=rfl
theorem q4or (x y:Nat):realA.nb .or .u64 x y=x|||y:=rfl
theorem a27_19:realA.nb .and .u64 (realA.i2n .u64 (-19)) 63=45:=by decide +kernel
theorem b27_19:realA.nb .sub .u64 64 45=19:=by decide +kernel
theorem h27_19 (x:Nat):g61v realA x (-19)=some (u64v (rt x 19)):=by
  unfold g61v g61 rt
  rw [a27_19,b27_19,ar_nshl,ar_nshr,pw64 _ rfl,q4or]
theorem t27_19 (x:Nat):g61r0 realA x (-19)=rt x 19:=(congrArg g61g0 (h27_19 x)).trans (g61g0_some _)
theorem k27_19 (x:Nat):g61ok realA x (-19)=true:=(congrArg g61is (h27_19 x)).trans (g61is_some _)
theorem a27_61:realA.nb .and .u64 (realA.i2n .u64 (-61)) 63=3:=by decide +kernel
theorem b27_61:realA.nb .sub .u64 64 3=61:=by decide +kernel
theorem h27_61 (x:Nat):g61v realA x (-61)=some (u64v (rt x 61)):=by
  unfold g61v g61 rt
  rw [a27_61,b27_61,ar_nshl,ar_nshr,pw64 _ rfl,q4or]
theorem t27_61 (x:Nat):g61r0 realA x (-61)=rt x 61:=(congrArg g61g0 (h27_61 x)).trans (g61g0_some _)
theorem k27_61 (x:Nat):g61ok realA x (-61)=true:=(congrArg g61is (h27_61 x)).trans (g61is_some _)
theorem a27_1:realA.nb .and .u64 (realA.i2n .u64 (-1)) 63=63:=by decide +kernel
theorem b27_1:realA.nb .sub .u64 64 63=1:=by decide +kernel
theorem h27_1 (x:Nat):g61v realA x (-1)=some (u64v (rt x 1)):=by
  unfold g61v g61 rt
  rw [a27_1,b27_1,ar_nshl,ar_nshr,pw64 _ rfl,q4or]
theorem t27_1 (x:Nat):g61r0 realA x (-1)=rt x 1:=(congrArg g61g0 (h27_1 x)).trans (g61g0_some _)
theorem k27_1 (x:Nat):g61ok realA x (-1)=true:=(congrArg g61is (h27_1 x)).trans (g61is_some _)
theorem a27_8:realA.nb .and .u64 (realA.i2n .u64 (-8)) 63=56:=by decide +kernel
theorem b27_8:realA.nb .sub .u64 64 56=8:=by decide +kernel
theorem h27_8 (x:Nat):g61v realA x (-8)=some (u64v (rt x 8)):=by
  unfold g61v g61 rt
  rw [a27_8,b27_8,ar_nshl,ar_nshr,pw64 _ rfl,q4or]
theorem t27_8 (x:Nat):g61r0 realA x (-8)=rt x 8:=(congrArg g61g0 (h27_8 x)).trans (g61g0_some _)
theorem k27_8 (x:Nat):g61ok realA x (-8)=true:=(congrArg g61is (h27_8 x)).trans (g61is_some _)
theorem a27_14:realA.nb .and .u64 (realA.i2n .u64 (-14)) 63=50:=by decide +kernel
theorem b27_14:realA.nb .sub .u64 64 50=14:=by decide +kernel
theorem h27_14 (x:Nat):g61v realA x (-14)=some (u64v (rt x 14)):=by
  unfold g61v g61 rt
  rw [a27_14,b27_14,ar_nshl,ar_nshr,pw64 _ rfl,q4or]
theorem t27_14 (x:Nat):g61r0 realA x (-14)=rt x 14:=(congrArg g61g0 (h27_14 x)).trans (g61g0_some _)
theorem k27_14 (x:Nat):g61ok realA x (-14)=true:=(congrArg g61is (h27_14 x)).trans (g61is_some _)
theorem a27_18:realA.nb .and .u64 (realA.i2n .u64 (-18)) 63=46:=by decide +kernel
theorem b27_18:realA.nb .sub .u64 64 46=18:=by decide +kernel
theorem h27_18 (x:Nat):g61v realA x (-18)=some (u64v (rt x 18)):=by
  unfold g61v g61 rt
  rw [a27_18,b27_18,ar_nshl,ar_nshr,pw64 _ rfl,q4or]
theorem t27_18 (x:Nat):g61r0 realA x (-18)=rt x 18:=(congrArg g61g0 (h27_18 x)).trans (g61g0_some _)
theorem k27_18 (x:Nat):g61ok realA x (-18)=true:=(congrArg g61is (h27_18 x)).trans (g61is_some _)
theorem a27_41:realA.nb .and .u64 (realA.i2n .u64 (-41)) 63=23:=by decide +kernel
theorem b27_41:realA.nb .sub .u64 64 23=41:=by decide +kernel
theorem h27_41 (x:Nat):g61v realA x (-41)=some (u64v (rt x 41)):=by
  unfold g61v g61 rt
  rw [a27_41,b27_41,ar_nshl,ar_nshr,pw64 _ rfl,q4or]
theorem t27_41 (x:Nat):g61r0 realA x (-41)=rt x 41:=(congrArg g61g0 (h27_41 x)).trans (g61g0_some _)
theorem k27_41 (x:Nat):g61ok realA x (-41)=true:=(congrArg g61is (h27_41 x)).trans (g61is_some _)
theorem a27_28:realA.nb .and .u64 (realA.i2n .u64 (-28)) 63=36:=by decide +kernel
theorem b27_28:realA.nb .sub .u64 64 36=28:=by decide +kernel
theorem h27_28 (x:Nat):g61v realA x (-28)=some (u64v (rt x 28)):=by
  unfold g61v g61 rt
  rw [a27_28,b27_28,ar_nshl,ar_nshr,pw64 _ rfl,q4or]
theorem t27_28 (x:Nat):g61r0 realA x (-28)=rt x 28:=(congrArg g61g0 (h27_28 x)).trans (g61g0_some _)
theorem k27_28 (x:Nat):g61ok realA x (-28)=true:=(congrArg g61is (h27_28 x)).trans (g61is_some _)
theorem a27_34:realA.nb .and .u64 (realA.i2n .u64 (-34)) 63=30:=by decide +kernel
theorem b27_34:realA.nb .sub .u64 64 30=34:=by decide +kernel
theorem h27_34 (x:Nat):g61v realA x (-34)=some (u64v (rt x 34)):=by
  unfold g61v g61 rt
  rw [a27_34,b27_34,ar_nshl,ar_nshr,pw64 _ rfl,q4or]
theorem t27_34 (x:Nat):g61r0 realA x (-34)=rt x 34:=(congrArg g61g0 (h27_34 x)).trans (g61g0_some _)
theorem k27_34 (x:Nat):g61ok realA x (-34)=true:=(congrArg g61is (h27_34 x)).trans (g61is_some _)
theorem a27_39:realA.nb .and .u64 (realA.i2n .u64 (-39)) 63=25:=by decide +kernel
theorem b27_39:realA.nb .sub .u64 64 25=39:=by decide +kernel
theorem h27_39 (x:Nat):g61v realA x (-39)=some (u64v (rt x 39)):=by
  unfold g61v g61 rt
  rw [a27_39,b27_39,ar_nshl,ar_nshr,pw64 _ rfl,q4or]
theorem t27_39 (x:Nat):g61r0 realA x (-39)=rt x 39:=(congrArg g61g0 (h27_39 x)).trans (g61g0_some _)
theorem k27_39 (x:Nat):g61ok realA x (-39)=true:=(congrArg g61is (h27_39 x)).trans (g61is_some _)

def sg1 (e:Nat):Nat:=(rt e 14 ^^^ rt e 18) ^^^ rt e 41
def sg0 (a:Nat):Nat:=(rt a 28 ^^^ rt a 34) ^^^ rt a 39
def tf (k w:Nat) (v:List Nat):Nat:=((((v.getD 7 0+k)%B64+w)%B64+(v.getD 6 0 ^^^ (v.getD 4 0&&&(v.getD 5 0 ^^^ v.getD 6 0))))%B64+sg1 (v.getD 4 0))%B64
def uf (v:List Nat):Nat:=(((v.getD 0 0&&&v.getD 1 0)|||(v.getD 2 0&&&(v.getD 0 0|||v.getD 1 0)))+sg0 (v.getD 0 0))%B64
def rs (k w:Nat) (v:List Nat):List Nat:=[(tf k w v+uf v)%B64,v.getD 0 0,v.getD 1 0,v.getD 2 0,(v.getD 3 0+tf k w v)%B64,v.getD 4 0,v.getD 5 0,v.getD 6 0]
def nx (w:List Nat) (i:Nat):Nat:=(((w.getD (i - 7) 0+w.getD (i - 16) 0)%B64+((rt (w.getD (i - 2) 0) 19 ^^^ rt (w.getD (i - 2) 0) 61) ^^^ w.getD (i - 2) 0/2^6))%B64+((rt (w.getD (i - 15) 0) 1 ^^^ rt (w.getD (i - 15) 0) 8) ^^^ w.getD (i - 15) 0/2^7))%B64
def wd (b:List Nat) (j:Nat):Nat→Nat
  | 0=>0
  | k+1=>(wd b j k*2^8)%B64|||b.getD (8*j+k) 0
def pl (b:List Nat) (i:Nat):List Nat:=(List.range 80).map fun j=>wd b j (min 8 (i - 8*j))
theorem pl_len (b:List Nat) (i:Nat):(pl b i).length=80:=by simp [pl]
theorem pl_get (b:List Nat) (i j:Nat) (h:j<80):(pl b i).getD j 0=wd b j (min 8 (i - 8*j)):=by
  unfold pl
  rw [List.getD_eq_getElem?_getD,List.getElem?_map,List.getElem?_range h]; rfl
theorem pl_step (b:List Nat) (i:Nat) (h:i<128):(pl b i).set (i/8) (((pl b i).getD (i/8) 0*2^8)%B64|||b.getD i 0)=pl b (i+1):=by
  rw [pl_get b i _ (by omega)]
  apply List.ext_getElem?
  intro j
  by_cases hj:j<80
  · have hr:∀ k,(pl b k)[j]? = some (wd b j (min 8 (k - 8*j))):=by
      intro k
      unfold pl
      rw [List.getElem?_map,List.getElem?_range hj]; rfl
    by_cases e:j=i/8
    · subst e
      rw [List.getElem?_set_self (by rw [pl_len]; omega),hr]
      have h1:min 8 (i - 8*(i/8))=i%8:=by omega
      have h2:min 8 (i+1 - 8*(i/8))=i%8+1:=by omega
      rw [h1,h2,wd,show 8*(i/8)+i%8=i by omega]
    · rw [List.getElem?_set_ne (fun h=>e h.symm),hr,hr]
      congr 2
      omega
  · rw [List.getElem?_eq_none (by rw [List.length_set,pl_len]; omega),List.getElem?_eq_none (by rw [pl_len]; omega)]
def ew (b:List Nat):Nat→List Nat
  | 0=>pl b 128
  | n+1=>(ew b n).set (16+n) (nx (ew b n) (16+n))
theorem ew_len (b:List Nat) (n:Nat):(ew b n).length=80:=by
  induction n with
  | zero=>exact pl_len b 128
  | succ n ih=>rw [ew,List.length_set,ih]
def rd (W:List Nat) (v:List Nat):Nat→List Nat
  | 0=>v
  | n+1=>rs (K80.getD n 0) (W.getD n 0) (rd W v n)
theorem rd_len (W v:List Nat) (h:v.length=8) (n:Nat):(rd W v n).length=8:=by
  cases n with
  | zero=>exact h
  | succ n=>rfl
def ad8 (H v:List Nat):List Nat:=(List.range 8).map fun i=>(H.getD i 0+v.getD i 0)%B64
def comp (H b:List Nat):List Nat:=ad8 H (rd (ew b 64) H 80)
theorem comp_len (H b:List Nat):(comp H b).length=8:=by simp [comp,ad8]
theorem get_set_self {l:List Nat} {i u:Nat} (h:i<l.length):(l.set i u).getD i 0=u:=by rw [List.getD_eq_getElem?_getD,List.getElem?_set_self h]; rfl
theorem get_app_r {H K:List Nat} (h:H.length=8) (i:Nat):(H++K).getD (8+i) 0=K.getD i 0:=by
  rw [List.getD_eq_getElem?_getD,List.getElem?_append_right (by omega),h,show 8+i - 8=i by omega,← List.getD_eq_getElem?_getD]
theorem get_app_l {H K:List Nat} {i:Nat} (h:i<H.length):(H++K).getD i 0=H.getD i 0:=by
  rw [List.getD_eq_getElem?_getD,List.getElem?_append_left h,← List.getD_eq_getElem?_getD]
def adp (H v:List Nat) (i:Nat):List Nat:=(List.range 8).map fun j=>if j<i then (H.getD j 0+v.getD j 0)%B64 else H.getD j 0
theorem adp_len (H v:List Nat) (i:Nat):(adp H v i).length=8:=by simp [adp]
theorem adp_get (H v:List Nat) (i j:Nat) (h:j<8):(adp H v i)[j]? = some (if j<i then (H.getD j 0+v.getD j 0)%B64 else H.getD j 0):=by
  unfold adp
  rw [List.getElem?_map,List.getElem?_range h]; rfl
theorem adp_step (H v:List Nat) (i:Nat) (h:i<8):(adp H v i).set i (((adp H v i).getD i 0+v.getD i 0)%B64)=adp H v (i+1):=by
  have hi:(adp H v i).getD i 0=H.getD i 0:=by
    rw [List.getD_eq_getElem?_getD,adp_get H v i i h,if_neg (Nat.lt_irrefl i)]; rfl
  rw [hi]
  apply List.ext_getElem?
  intro j
  by_cases hj:j<8
  · by_cases e:j=i
    · subst e
      rw [List.getElem?_set_self (by rw [adp_len]; exact hj),adp_get _ _ _ _ hj,if_pos (by omega)]
    · rw [List.getElem?_set_ne (fun h=>e h.symm),adp_get _ _ _ _ hj,adp_get _ _ _ _ hj]
      by_cases h2:j<i
      · rw [if_pos h2,if_pos (by omega)]
      · rw [if_neg h2,if_neg (by omega)]
  · rw [List.getElem?_eq_none (by rw [List.length_set,adp_len]; omega),List.getElem?_eq_none (by rw [adp_len]; omega)]
theorem adp_0 (H v:List Nat) (h:H.length=8):adp H v 0=H:=by
  apply List.ext_getElem?
  intro j
  by_cases hj:j<8
  · rw [adp_get _ _ _ _ hj,if_neg (by omega),List.getD_eq_getElem?_getD,List.getElem?_eq_getElem (by omega)]; rfl
  · rw [List.getElem?_eq_none (by rw [adp_len]; omega),List.getElem?_eq_none (by omega)]
theorem adp_8 (H v:List Nat):adp H v 8=ad8 H v:=by
  unfold adp ad8
  apply List.map_congr_left
  intro j hj
  rw [if_pos (List.mem_range.1 hj)]

theorem c20_out {R:Type} (N:Nat) (kk:AV→Heap→Option R) (H K v:List Nat) (n:Nat) (tot:Int) (m:Nat) (l:List Nat) (hH:H.length=8) (hv:v.length=8):∀ (d i f:Nat),i+d=8→d<f →
    g46L25 realA N kk f (i:Int) (adp H v i++K)  n tot m l v=kk (.tup []) [(0,⟨[.nums .u64 88 (ad8 H v++K),.one (.sl 1 none n 1),.one (.int .i64 tot)],76,1⟩),(1,⟨[.nums .u8 m l],5,2⟩),(14004,(bU 8 v 73))]:=by
  intro d
  induction d with
  | zero =>
    intro i f h hf
    obtain ⟨f,rfl⟩:∃ q,f=q+1:=⟨f - 1,by omega⟩
    obtain rfl:i=8:=by omega
    rw [g46L25,ar_lss,decide_eq_false (by omega),adp_8]
  | succ d ih =>
    intro i f h hf
    obtain ⟨f,rfl⟩:∃ q,f=q+1:=⟨f - 1,by omega⟩
    have hi:i<8:=by omega
    have e1:realA.ib .add .i64 (i:Int) 1=((i+1:Nat):Int):=by rw [ar_add (by omega)]; omega
    rw [g46L25,ar_lss,decide_eq_true (show (i:Int)<8 by omega)]
    simp only [g46J26,ar_negN,ar_toNN,ar_lt,decide_eq_true hi,e1,ar_nadd,pw64 _ rfl]
    have hs:(adp H v i++K).set i (((adp H v i++K).getD i 0+v.getD i 0)%B64)=adp H v (i+1)++K:=by
      rw [get_app_l (by rw [adp_len]; exact hi),List.set_append_left _ _ (by rw [adp_len]; exact hi),adp_step H v i hi]
    rw [hs]
    exact ih (i+1) f (by omega) (by omega)
theorem c20_rounds {R:Type} (N:Nat) (kk:AV→Heap→Option R) (H W:List Nat) (n:Nat) (tot:Int) (m:Nat) (l:List Nat) (hH:H.length=8) (hN:8<N):∀ (d i f:Nat),i+d=80→d<f →
    g46L15 realA N kk f (i:Int) (H++K80)  n tot m l W (rd W H i)=kk (.tup []) [(0,⟨[.nums .u64 88 (ad8 H (rd W H 80)++K80),.one (.sl 1 none n 1),.one (.int .i64 tot)],76,1⟩),(1,⟨[.nums .u8 m l],5,2⟩),(14004,(bU 8 (rd W H 80) 73))]:=by
  intro d
  induction d with
  | zero =>
    intro i f h hf
    obtain ⟨f,rfl⟩:∃ q,f=q+1:=⟨f - 1,by omega⟩
    obtain rfl:i=80:=by omega
    rw [g46L15,ar_lss,decide_eq_false (by omega)]
    simp only [g46J24]
    have:=c20_out N kk H K80 (rd W H 80)  n tot m l hH (rd_len _ _ hH _) 8 0 N (by omega) (by omega)
    rw [adp_0 _ _ hH] at this
    exact this
  | succ d ih =>
    intro i f h hf
    obtain ⟨f,rfl⟩:∃ q,f=q+1:=⟨f - 1,by omega⟩
    have hi:i<80:=by omega
    have e1:realA.ib .add .i64 (i:Int) 1=((i+1:Nat):Int):=by rw [ar_add (by omega)]; omega
    rw [g46L15,ar_lss,decide_eq_true (show (i:Int)<80 by omega)]
    simp only [g46J16,ar_negN,ar_toNN,ar_lt,decide_eq_true hi,e1,t27_19,t27_61,t27_1,t27_8,t27_14,t27_18,t27_41,t27_28,t27_34,t27_39,k27_19,k27_61,k27_1,k27_8,k27_14,k27_18,k27_41,k27_28,k27_34,k27_39,get_app_r hH]
    exact ih (i+1) f (by omega) (by omega)
theorem c20_expand {R:Type} (N:Nat) (kk:AV→Heap→Option R) (H b:List Nat) (n:Nat) (tot:Int) (m:Nat) (l:List Nat) (hH:H.length=8) (hN:80<N):∀ (d i f:Nat),i+d=64→d<f →
    g46L7 realA N kk f ((16+i:Nat):Int) (H++K80)  n tot m l (ew b i)=kk (.tup []) [(0,⟨[.nums .u64 88 (comp H b++K80),.one (.sl 1 none n 1),.one (.int .i64 tot)],76,1⟩),(1,⟨[.nums .u8 m l],5,2⟩),(14004,(bU 8 (rd (ew b 64) H 80) 73))]:=by
  intro d
  induction d with
  | zero =>
    intro i f h hf
    obtain ⟨f,rfl⟩:∃ q,f=q+1:=⟨f - 1,by omega⟩
    obtain rfl:i=64:=by omega
    rw [g46L7,ar_lss,decide_eq_false (by omega)]
    simp only [g46J13]
    have h0:((H++K80).drop 0).take 8=H:=by rw [List.drop_zero,← hH,List.take_left']; rfl
    rw [h0]
    exact c20_rounds N kk H (ew b 64)  n tot m l hH (by omega) 80 0 N (by omega) (by omega)
  | succ d ih =>
    intro i f h hf
    obtain ⟨f,rfl⟩:∃ q,f=q+1:=⟨f - 1,by omega⟩
    have e1:realA.ib .add .i64 ((16+i:Nat):Int) 1=((16+(i+1):Nat):Int):=by rw [ar_add (by omega)]; omega
    have s2:realA.ib .sub .i64 ((16+i:Nat):Int) 2=((16+i - 2:Nat):Int):=by rw [ar_sub (by omega)]; omega
    have s7:realA.ib .sub .i64 ((16+i:Nat):Int) 7=((16+i - 7:Nat):Int):=by rw [ar_sub (by omega)]; omega
    have s15:realA.ib .sub .i64 ((16+i:Nat):Int) 15=((16+i - 15:Nat):Int):=by rw [ar_sub (by omega)]; omega
    have s16:realA.ib .sub .i64 ((16+i:Nat):Int) 16=((16+i - 16:Nat):Int):=by rw [ar_sub (by omega)]; omega
    have hl:16+i<(ew b i).length:=by rw [ew_len]; omega
    rw [g46L7,ar_lss,decide_eq_true (show ((16+i:Nat):Int)<80 by omega)]
    simp only [g46J9,s2,s7,s15,s16,e1,ar_negN,ar_toNN,ar_lt,decide_eq_true (show 16+i - 2<80 by omega),decide_eq_true (show 16+i - 7<80 by omega),decide_eq_true (show 16+i - 15<80 by omega),decide_eq_true (show 16+i - 16<80 by omega),decide_eq_true (show 16+i<80 by omega),t27_19,t27_61,t27_1,t27_8,t27_14,t27_18,t27_41,t27_28,t27_34,t27_39,k27_19,k27_61,k27_1,k27_8,k27_14,k27_18,k27_41,k27_28,k27_34,k27_39,List.set_set,get_set_self hl,ar_nadd,pw64 _ rfl]
    exact ih (i+1) f (by omega) (by omega)
theorem c20_load {R:Type} (N:Nat) (kk:AV→Heap→Option R) (H:List Nat) (z n:Nat) (tot:Int) (m:Nat) (l:List Nat) (hH:H.length=8) (hN:128<N) (hz:z=128):∀ (d i f:Nat),i+d=128→d<f →
    g46L2 realA N kk f z (i:Int) (H++K80)  n tot m l (pl l i)=kk (.tup []) [(0,⟨[.nums .u64 88 (comp H l++K80),.one (.sl 1 none n 1),.one (.int .i64 tot)],76,1⟩),(1,⟨[.nums .u8 m l],5,2⟩),(14004,(bU 8 (rd (ew l 64) H 80) 73))]:=by
  intro d
  induction d with
  | zero =>
    intro i f h hf
    obtain ⟨f,rfl⟩:∃ q,f=q+1:=⟨f - 1,by omega⟩
    obtain rfl:i=128:=by omega
    rw [g46L2,ar_lss,decide_eq_false (by omega)]
    simp only [g46J6]
    exact c20_expand N kk H l  n tot m l hH (by omega) 64 0 N (by omega) (by omega)
  | succ d ih =>
    intro i f h hf
    obtain ⟨f,rfl⟩:∃ q,f=q+1:=⟨f - 1,by omega⟩
    have hi:i<128:=by omega
    have e1:realA.ib .add .i64 (i:Int) 1=((i+1:Nat):Int):=by rw [ar_add (by omega)]; omega
    have q1:realA.ib .quo .i64 (i:Int) 8=((i/8:Nat):Int):=by rw [ar_quo (by omega) (by omega) (by omega)]; omega
    have q4:∀ x y,realA.nb .or .u64 x y=x|||y:=fun _ _=>rfl
    rw [g46L2,ar_lss,decide_eq_true (show (i:Int)<128 by omega)]
    simp only [g46J3,q1,ar_negN,ar_toNN,ar_lt,decide_eq_true (show i/8<80 by omega),hz,decide_eq_true hi,e1,ar_nshl,pw64 _ rfl,q4]
    rw [pl_step l i hi,← hz]
    exact ih (i+1) f (by omega) (by omega)
theorem gdrop (l:List Nat) (p i:Nat):l.getD (p+i) 0=(l.drop p).getD i 0:=by rw [List.getD_eq_getElem?_getD,List.getD_eq_getElem?_getD,List.getElem?_drop]

theorem d20_out {R:Type} (N:Nat) (kk:AV→Heap→Option R) (H K v:List Nat) (o n:Nat) (tot:Int) (m:Nat) (l:List Nat) (hH:H.length=8) (hv:v.length=8):∀ (d i f:Nat),i+d=8→d<f →
    g46a_L25 realA N kk f (i:Int) (adp H v i++K) o n tot m l v=kk (.tup []) [(0,⟨[.nums .u64 88 (ad8 H v++K),.one (.sl 1 (some o) n 1),.one (.int .i64 tot)],76,1⟩),(1,⟨[.nums .u8 m l],5,2⟩),(14004,(bU 8 v 73))]:=by
  intro d
  induction d with
  | zero =>
    intro i f h hf
    obtain ⟨f,rfl⟩:∃ q,f=q+1:=⟨f - 1,by omega⟩
    obtain rfl:i=8:=by omega
    rw [g46a_L25,ar_lss,decide_eq_false (by omega),adp_8]
  | succ d ih =>
    intro i f h hf
    obtain ⟨f,rfl⟩:∃ q,f=q+1:=⟨f - 1,by omega⟩
    have hi:i<8:=by omega
    have e1:realA.ib .add .i64 (i:Int) 1=((i+1:Nat):Int):=by rw [ar_add (by omega)]; omega
    rw [g46a_L25,ar_lss,decide_eq_true (show (i:Int)<8 by omega)]
    simp only [g46a_J26,ar_negN,ar_toNN,ar_lt,decide_eq_true hi,e1,ar_nadd,pw64 _ rfl]
    have hs:(adp H v i++K).set i (((adp H v i++K).getD i 0+v.getD i 0)%B64)=adp H v (i+1)++K:=by
      rw [get_app_l (by rw [adp_len]; exact hi),List.set_append_left _ _ (by rw [adp_len]; exact hi),adp_step H v i hi]
    rw [hs]
    exact ih (i+1) f (by omega) (by omega)
theorem d20_rounds {R:Type} (N:Nat) (kk:AV→Heap→Option R) (H W:List Nat) (o n:Nat) (tot:Int) (m:Nat) (l:List Nat) (hH:H.length=8) (hN:8<N):∀ (d i f:Nat),i+d=80→d<f →
    g46a_L15 realA N kk f (i:Int) (H++K80) o n tot m l W (rd W H i)=kk (.tup []) [(0,⟨[.nums .u64 88 (ad8 H (rd W H 80)++K80),.one (.sl 1 (some o) n 1),.one (.int .i64 tot)],76,1⟩),(1,⟨[.nums .u8 m l],5,2⟩),(14004,(bU 8 (rd W H 80) 73))]:=by
  intro d
  induction d with
  | zero =>
    intro i f h hf
    obtain ⟨f,rfl⟩:∃ q,f=q+1:=⟨f - 1,by omega⟩
    obtain rfl:i=80:=by omega
    rw [g46a_L15,ar_lss,decide_eq_false (by omega)]
    simp only [g46a_J24]
    have:=d20_out N kk H K80 (rd W H 80) o n tot m l hH (rd_len _ _ hH _) 8 0 N (by omega) (by omega)
    rw [adp_0 _ _ hH] at this
    exact this
  | succ d ih =>
    intro i f h hf
    obtain ⟨f,rfl⟩:∃ q,f=q+1:=⟨f - 1,by omega⟩
    have hi:i<80:=by omega
    have e1:realA.ib .add .i64 (i:Int) 1=((i+1:Nat):Int):=by rw [ar_add (by omega)]; omega
    rw [g46a_L15,ar_lss,decide_eq_true (show (i:Int)<80 by omega)]
    simp only [g46a_J16,ar_negN,ar_toNN,ar_lt,decide_eq_true hi,e1,t27_19,t27_61,t27_1,t27_8,t27_14,t27_18,t27_41,t27_28,t27_34,t27_39,k27_19,k27_61,k27_1,k27_8,k27_14,k27_18,k27_41,k27_28,k27_34,k27_39,get_app_r hH]
    exact ih (i+1) f (by omega) (by omega)
theorem d20_expand {R:Type} (N:Nat) (kk:AV→Heap→Option R) (H b:List Nat) (o n:Nat) (tot:Int) (m:Nat) (l:List Nat) (hH:H.length=8) (hN:80<N):∀ (d i f:Nat),i+d=64→d<f →
    g46a_L7 realA N kk f ((16+i:Nat):Int) (H++K80) o n tot m l (ew b i)=kk (.tup []) [(0,⟨[.nums .u64 88 (comp H b++K80),.one (.sl 1 (some o) n 1),.one (.int .i64 tot)],76,1⟩),(1,⟨[.nums .u8 m l],5,2⟩),(14004,(bU 8 (rd (ew b 64) H 80) 73))]:=by
  intro d
  induction d with
  | zero =>
    intro i f h hf
    obtain ⟨f,rfl⟩:∃ q,f=q+1:=⟨f - 1,by omega⟩
    obtain rfl:i=64:=by omega
    rw [g46a_L7,ar_lss,decide_eq_false (by omega)]
    simp only [g46a_J13]
    have h0:((H++K80).drop 0).take 8=H:=by rw [List.drop_zero,← hH,List.take_left']; rfl
    rw [h0]
    exact d20_rounds N kk H (ew b 64) o n tot m l hH (by omega) 80 0 N (by omega) (by omega)
  | succ d ih =>
    intro i f h hf
    obtain ⟨f,rfl⟩:∃ q,f=q+1:=⟨f - 1,by omega⟩
    have e1:realA.ib .add .i64 ((16+i:Nat):Int) 1=((16+(i+1):Nat):Int):=by rw [ar_add (by omega)]; omega
    have s2:realA.ib .sub .i64 ((16+i:Nat):Int) 2=((16+i - 2:Nat):Int):=by rw [ar_sub (by omega)]; omega
    have s7:realA.ib .sub .i64 ((16+i:Nat):Int) 7=((16+i - 7:Nat):Int):=by rw [ar_sub (by omega)]; omega
    have s15:realA.ib .sub .i64 ((16+i:Nat):Int) 15=((16+i - 15:Nat):Int):=by rw [ar_sub (by omega)]; omega
    have s16:realA.ib .sub .i64 ((16+i:Nat):Int) 16=((16+i - 16:Nat):Int):=by rw [ar_sub (by omega)]; omega
    have hl:16+i<(ew b i).length:=by rw [ew_len]; omega
    rw [g46a_L7,ar_lss,decide_eq_true (show ((16+i:Nat):Int)<80 by omega)]
    simp only [g46a_J9,s2,s7,s15,s16,e1,ar_negN,ar_toNN,ar_lt,decide_eq_true (show 16+i - 2<80 by omega),decide_eq_true (show 16+i - 7<80 by omega),decide_eq_true (show 16+i - 15<80 by omega),decide_eq_true (show 16+i - 16<80 by omega),decide_eq_true (show 16+i<80 by omega),t27_19,t27_61,t27_1,t27_8,t27_14,t27_18,t27_41,t27_28,t27_34,t27_39,k27_19,k27_61,k27_1,k27_8,k27_14,k27_18,k27_41,k27_28,k27_34,k27_39,List.set_set,get_set_self hl,ar_nadd,pw64 _ rfl]
    exact ih (i+1) f (by omega) (by omega)
theorem d20_load {R:Type} (N:Nat) (kk:AV→Heap→Option R) (H:List Nat) (p z o n:Nat) (tot:Int) (m:Nat) (l:List Nat) (hH:H.length=8) (hN:128<N) (hz:z=128):∀ (d i f:Nat),i+d=128→d<f →
    g46a_L2 realA N kk f p z (i:Int) (H++K80) o n tot m l (pl (l.drop p) i)=kk (.tup []) [(0,⟨[.nums .u64 88 (comp H (l.drop p)++K80),.one (.sl 1 (some o) n 1),.one (.int .i64 tot)],76,1⟩),(1,⟨[.nums .u8 m l],5,2⟩),(14004,(bU 8 (rd (ew (l.drop p) 64) H 80) 73))]:=by
  intro d
  induction d with
  | zero =>
    intro i f h hf
    obtain ⟨f,rfl⟩:∃ q,f=q+1:=⟨f - 1,by omega⟩
    obtain rfl:i=128:=by omega
    rw [g46a_L2,ar_lss,decide_eq_false (by omega)]
    simp only [g46a_J6]
    exact d20_expand N kk H (l.drop p) o n tot m l hH (by omega) 64 0 N (by omega) (by omega)
  | succ d ih =>
    intro i f h hf
    obtain ⟨f,rfl⟩:∃ q,f=q+1:=⟨f - 1,by omega⟩
    have hi:i<128:=by omega
    have e1:realA.ib .add .i64 (i:Int) 1=((i+1:Nat):Int):=by rw [ar_add (by omega)]; omega
    have q1:realA.ib .quo .i64 (i:Int) 8=((i/8:Nat):Int):=by rw [ar_quo (by omega) (by omega) (by omega)]; omega
    have q4:∀ x y,realA.nb .or .u64 x y=x|||y:=fun _ _=>rfl
    rw [g46a_L2,ar_lss,decide_eq_true (show (i:Int)<128 by omega)]
    simp only [g46a_J3,q1,ar_negN,ar_toNN,ar_lt,decide_eq_true (show i/8<80 by omega),hz,decide_eq_true hi,e1,ar_nshl,pw64 _ rfl,q4,gdrop]
    rw [pl_step (l.drop p) i hi,← hz]
    exact ih (i+1) f (by omega) (by omega)
end Go.Sx.S2
namespace Go.Sx.S2
set_option linter.unusedSectionVars false
theorem pl_0 (b:List Nat):pl b 0=[0,0,0,0,0,0,0,0,0,0,0,0,0,0,0,0,0,0,0,0,0,0,0,0,0,0,0,0,0,0,0,0,0,0,0,0,0,0,0,0,0,0,0,0,0,0,0,0,0,0,0,0,0,0,0,0,0,0,0,0,0,0,0,0,0,0,0,0,0,0,0,0,0,0,0,0,0,0,0,0]:=by kernel_rfl
theorem outB (x:List Nat) (n:Nat) (tot:Int) (m:Nat) (l:List Nat) (z:Blk):outH [0,1] none (.tup []) [(0,⟨[.nums .u64 88 x,.one (.sl 1 none n 1),.one (.int .i64 tot)],76,1⟩),(1,⟨[.nums .u8 m l],5,2⟩),(14004,z)]=some (.tup [],[(0,⟨[.nums .u64 88 x,.one (.sl 1 none n 1),.one (.int .i64 tot)],76,1⟩),(1,⟨[.nums .u8 m l],5,2⟩)]):=rfl
theorem outBs (x:List Nat) (o n:Nat) (tot:Int) (m:Nat) (l:List Nat) (z:Blk):outH [0,1] none (.tup []) [(0,⟨[.nums .u64 88 x,.one (.sl 1 (some o) n 1),.one (.int .i64 tot)],76,1⟩),(1,⟨[.nums .u8 m l],5,2⟩),(14004,z)]=some (.tup [],[(0,⟨[.nums .u64 88 x,.one (.sl 1 (some o) n 1),.one (.int .i64 tot)],76,1⟩),(1,⟨[.nums .u8 m l],5,2⟩)]):=rfl
theorem b20_v (H:List Nat) (n:Nat) (tot:Int) (m:Nat) (l:List Nat) (hH:H.length=8):g46v realA 128 (H++K80) n tot m l=some (.tup [],[(0,⟨[.nums .u64 88 (comp H l++K80),.one (.sl 1 none n 1),.one (.int .i64 tot)],76,1⟩),(1,⟨[.nums .u8 m l],5,2⟩)]):=by
  unfold g46v g46
  have h:=c20_load 100000 (outH [0,1] none) H 128 n tot m l hH (by omega) rfl 128 0 100000 rfl (by omega)
  rw [pl_0] at h
  exact h.trans (outB _ _ _ _ _ _)
theorem b20_ok (H:List Nat) (n:Nat) (tot:Int) (m:Nat) (l:List Nat) (hH:H.length=8):g46ok realA 128 (H++K80) n tot m l=true:=(congrArg g46is (b20_v H n tot m l hH)).trans rfl
theorem b20_0 (H:List Nat) (n:Nat) (tot:Int) (m:Nat) (l:List Nat) (hH:H.length=8):g46r0 realA 128 (H++K80) n tot m l=comp H l++K80:=(congrArg g46g0 (b20_v H n tot m l hH)).trans rfl
theorem b20_1 (H:List Nat) (n:Nat) (tot:Int) (m:Nat) (l:List Nat) (hH:H.length=8):g46r1 realA 128 (H++K80) n tot m l=n:=(congrArg g46g1 (b20_v H n tot m l hH)).trans rfl
theorem b20_2 (H:List Nat) (n:Nat) (tot:Int) (m:Nat) (l:List Nat) (hH:H.length=8):g46r2 realA 128 (H++K80) n tot m l=tot:=(congrArg g46g2 (b20_v H n tot m l hH)).trans rfl
theorem b20_3 (H:List Nat) (n:Nat) (tot:Int) (m:Nat) (l:List Nat) (hH:H.length=8):g46r3 realA 128 (H++K80) n tot m l=m:=(congrArg g46g3 (b20_v H n tot m l hH)).trans rfl
theorem b20_4 (H:List Nat) (n:Nat) (tot:Int) (m:Nat) (l:List Nat) (hH:H.length=8):g46r4 realA 128 (H++K80) n tot m l=l:=(congrArg g46g4 (b20_v H n tot m l hH)).trans rfl
theorem d20_v (p:Nat) (H:List Nat) (o n:Nat) (tot:Int) (m:Nat) (l:List Nat) (hH:H.length=8):g46a_v realA p 128 (H++K80) o n tot m l=some (.tup [],[(0,⟨[.nums .u64 88 (comp H (l.drop p)++K80),.one (.sl 1 (some o) n 1),.one (.int .i64 tot)],76,1⟩),(1,⟨[.nums .u8 m l],5,2⟩)]):=by
  unfold g46a_v g46a_
  have h:=d20_load 100000 (outH [0,1] none) H p 128 o n tot m l hH (by omega) rfl 128 0 100000 rfl (by omega)
  rw [pl_0] at h
  exact h.trans (outBs _ _ _ _ _ _ _)
theorem d20_ok (p:Nat) (H:List Nat) (o n:Nat) (tot:Int) (m:Nat) (l:List Nat) (hH:H.length=8):g46a_ok realA p 128 (H++K80) o n tot m l=true:=(congrArg g46a_is (d20_v p H o n tot m l hH)).trans rfl
theorem d20_0 (p:Nat) (H:List Nat) (o n:Nat) (tot:Int) (m:Nat) (l:List Nat) (hH:H.length=8):g46a_r0 realA p 128 (H++K80) o n tot m l=comp H (l.drop p)++K80:=(congrArg g46a_g0 (d20_v p H o n tot m l hH)).trans rfl
theorem d20_1 (p:Nat) (H:List Nat) (o n:Nat) (tot:Int) (m:Nat) (l:List Nat) (hH:H.length=8):g46a_r1 realA p 128 (H++K80) o n tot m l=o:=(congrArg g46a_g1 (d20_v p H o n tot m l hH)).trans rfl
theorem d20_2 (p:Nat) (H:List Nat) (o n:Nat) (tot:Int) (m:Nat) (l:List Nat) (hH:H.length=8):g46a_r2 realA p 128 (H++K80) o n tot m l=n:=(congrArg g46a_g2 (d20_v p H o n tot m l hH)).trans rfl
theorem d20_3 (p:Nat) (H:List Nat) (o n:Nat) (tot:Int) (m:Nat) (l:List Nat) (hH:H.length=8):g46a_r3 realA p 128 (H++K80) o n tot m l=tot:=(congrArg g46a_g3 (d20_v p H o n tot m l hH)).trans rfl
theorem d20_4 (p:Nat) (H:List Nat) (o n:Nat) (tot:Int) (m:Nat) (l:List Nat) (hH:H.length=8):g46a_r4 realA p 128 (H++K80) o n tot m l=m:=(congrArg g46a_g4 (d20_v p H o n tot m l hH)).trans rfl
theorem d20_5 (p:Nat) (H:List Nat) (o n:Nat) (tot:Int) (m:Nat) (l:List Nat) (hH:H.length=8):g46a_r5 realA p 128 (H++K80) o n tot m l=l:=(congrArg g46a_g5 (d20_v p H o n tot m l hH)).trans rfl

def feedN:Nat→List Nat→List Nat→List Nat
  | 0,H,_=>H
  | k+1,H,l=>feedN k (comp H l) (l.drop 128)
theorem feedN_len (k:Nat):∀ (H l:List Nat),H.length=8→(feedN k H l).length=8:=by
  induction k with
  | zero=>exact fun H l h=>h
  | succ k ih=>exact fun H l h=>ih _ _ (comp_len _ _)
def feed (H l:List Nat):List Nat:=feedN (l.length/128) H l
theorem feed_len (H l:List Nat) (h:H.length=8):(feed H l).length=8:=feedN_len _ _ _ h

theorem outw12 (x:List Nat) (n:Nat) (tot:Int) (m:Nat) (l:List Nat):outN [501,600] [0,501] none (.tup []) [(0,⟨[.nums .u64 88 x,.one (.sl 501 none n 1),.one (.int .i64 tot)],76,1⟩),(501,⟨[.nums .u8 m l],5,2⟩)]=some (.tup [],[(0,⟨[.nums .u64 88 x,.one (.sl 501 (some 0) n 1),.one (.int .i64 tot)],76,1⟩),(501,⟨[.nums .u8 m l],5,2⟩)]):=rfl
theorem outw12s (x:List Nat) (o n:Nat) (tot:Int) (m:Nat) (l:List Nat):outN [501,600] [0,501] none (.tup []) [(0,⟨[.nums .u64 88 x,.one (.sl 501 (some o) n 1),.one (.int .i64 tot)],76,1⟩),(501,⟨[.nums .u8 m l],5,2⟩)]=some (.tup [],[(0,⟨[.nums .u64 88 x,.one (.sl 501 (some o) n 1),.one (.int .i64 tot)],76,1⟩),(501,⟨[.nums .u8 m l],5,2⟩)]):=rfl
theorem w12_more {R:Type} (N:Nat) (kk:AV→Heap→Option R) (tot:Int) (l:List Nat):∀ (k n f:Nat) (H:List Nat) (o:Nat),H.length=8→o+n=l.length→n/128=k→k<f →
    g26L2a realA N kk f (H++K80) o n tot l.length l=kk (.tup []) [(0,⟨[.nums .u64 88 (feedN k H (l.drop o)++K80),.one (.sl 501 (some (o+128*k)) (n - 128*k) 1),.one (.int .i64 tot)],76,1⟩),(501,⟨[.nums .u8 l.length l],5,2⟩)]:=by
  intro k
  induction k with
  | zero =>
    intro n f H o hH hon hk hf
    obtain ⟨f,rfl⟩:∃ q,f=q+1:=⟨f - 1,by omega⟩
    rw [g26L2a,ar_geq,ar_ofN,decide_eq_false (by omega)]
    rfl
  | succ k ih =>
    intro n f H o hH hon hk hf
    obtain ⟨f,rfl⟩:∃ q,f=q+1:=⟨f - 1,by omega⟩
    rw [g26L2a,ar_geq,ar_ofN,decide_eq_true (show (128:Int)≤(n:Int) by omega)]
    simp only [g26J3a,ar_le,decide_eq_true (show 128≤n by omega),d20_ok _ _ _ _ _ _ _ hH,d20_0 _ _ _ _ _ _ _ hH,d20_1 _ _ _ _ _ _ _ hH,d20_2 _ _ _ _ _ _ _ hH,d20_3 _ _ _ _ _ _ _ hH,d20_4 _ _ _ _ _ _ _ hH,d20_5 _ _ _ _ _ _ _ hH]
    rw [ih (n - 128) f _ (o+128) (comp_len _ _) (by omega) (by omega) (by omega),feedN,List.drop_drop,show o+128+128*k=o+128*(k+1) by omega,show n - 128 - 128*k=n - 128*(k+1) by omega]

theorem w12_big {R:Type} (N f:Nat) (kk:AV→Heap→Option R) (H:List Nat) (tot:Int) (q:List Nat) (hq:128≤q.length):g26L2 realA N kk (f+1) (H++K80) q.length tot q.length q=g26J3 realA N kk (g26L2a realA N kk f) (H++K80) q.length tot q.length q:=by
  rw [g26L2,ar_geq,ar_ofN,decide_eq_true (show (128:Int)≤(q.length:Int) by omega)]
theorem w12_small {R:Type} (N f:Nat) (kk:AV→Heap→Option R) (H:List Nat) (tot:Int) (q:List Nat) (hq:¬ 128≤q.length):g26L2 realA N kk (f+1) (H++K80) q.length tot q.length q=kk (.tup []) [(0,⟨[.nums .u64 88 (H++K80),.one (.sl 501 none q.length 1),.one (.int .i64 tot)],76,1⟩),(501,⟨[.nums .u8 q.length q],5,2⟩)]:=by
  rw [g26L2,ar_geq,ar_ofN,decide_eq_false (show ¬ (128:Int)≤(q.length:Int) by omega)]
theorem w12_v (s H:List Nat) (o n:Nat) (tot:Int) (l:List Nat) (hH:H.length=8) (hon:o+n=l.length) (ht:0≤tot∧tot≤9223372036000000000) (hl:l.length+s.length≤10000000):g26v realA s (H++K80) o n tot l.length l=some (.tup [],[(0,⟨[.nums .u64 88 (feed H (l.drop o++s)++K80),.one (.sl 501 (some (128*((l.drop o++s).length/128))) ((l.drop o++s).length - 128*((l.drop o++s).length/128)) 1),.one (.int .i64 (tot+s.length))],76,1⟩),(501,⟨[.nums .u8 (l.drop o++s).length (l.drop o++s)],5,2⟩)]):=by
  unfold g26v g26
  have e1:realA.ib .add .i64 tot (s.length:Int)=tot+s.length:=ar_add (by omega)
  have hb:(l.drop o++s).length≤140737488355328:=by rw [List.length_append,List.length_drop]; omega
  have hb2:(l.drop o++s).length≤10000000:=by rw [List.length_append,List.length_drop]; omega
  simp only [ar_eq,decide_eq_true (show o+n=l.length+0 by omega),ar_le,decide_eq_true hb,ar_ofN,e1]
  generalize l.drop o++s=q at *
  by_cases hq:128≤q.length
  · refine (w12_big 100000 99999 _ H (tot+s.length) q hq).trans ?_
    simp only [g26J3,ar_le,decide_eq_true hq,b20_ok _ _ _ _ _ hH,b20_0 _ _ _ _ _ hH,b20_1 _ _ _ _ _ hH,b20_2 _ _ _ _ _ hH,b20_3 _ _ _ _ _ hH,b20_4 _ _ _ _ _ hH]
    rw [w12_more 100000 _ _ q ((q.length - 128)/128) (q.length - 128) 99999 _ 128 (comp_len _ _) (by omega) rfl (by omega),outw12s]
    have e2:q.length/128=(q.length - 128)/128+1:=by omega
    unfold feed
    rw [e2,feedN,show 128+128*((q.length - 128)/128)=128*((q.length - 128)/128+1) by omega,show q.length - 128 - 128*((q.length - 128)/128)=q.length - 128*((q.length - 128)/128+1) by omega]
  · refine (w12_small 100000 99999 _ H (tot+s.length) q hq).trans ?_
    have e2:q.length/128=0:=by omega
    unfold feed
    rw [e2]
    exact outw12 _ _ _ _ _
theorem w12_ok (s H:List Nat) (o n:Nat) (tot:Int) (l:List Nat) (hH:H.length=8) (hon:o+n=l.length) (ht:0≤tot∧tot≤9223372036000000000) (hl:l.length+s.length≤10000000):g26ok realA s (H++K80) o n tot l.length l=true:=(congrArg g26is (w12_v s H o n tot l hH hon ht hl)).trans rfl
theorem w12_0 (s H:List Nat) (o n:Nat) (tot:Int) (l:List Nat) (hH:H.length=8) (hon:o+n=l.length) (ht:0≤tot∧tot≤9223372036000000000) (hl:l.length+s.length≤10000000):g26r0 realA s (H++K80) o n tot l.length l=feed H (l.drop o++s)++K80:=(congrArg g26g0 (w12_v s H o n tot l hH hon ht hl)).trans rfl
theorem w12_1 (s H:List Nat) (o n:Nat) (tot:Int) (l:List Nat) (hH:H.length=8) (hon:o+n=l.length) (ht:0≤tot∧tot≤9223372036000000000) (hl:l.length+s.length≤10000000):g26r1 realA s (H++K80) o n tot l.length l=128*((l.drop o++s).length/128):=(congrArg g26g1 (w12_v s H o n tot l hH hon ht hl)).trans rfl
theorem w12_2 (s H:List Nat) (o n:Nat) (tot:Int) (l:List Nat) (hH:H.length=8) (hon:o+n=l.length) (ht:0≤tot∧tot≤9223372036000000000) (hl:l.length+s.length≤10000000):g26r2 realA s (H++K80) o n tot l.length l=(l.drop o++s).length - 128*((l.drop o++s).length/128):=(congrArg g26g2 (w12_v s H o n tot l hH hon ht hl)).trans rfl
theorem w12_3 (s H:List Nat) (o n:Nat) (tot:Int) (l:List Nat) (hH:H.length=8) (hon:o+n=l.length) (ht:0≤tot∧tot≤9223372036000000000) (hl:l.length+s.length≤10000000):g26r3 realA s (H++K80) o n tot l.length l=tot+s.length:=(congrArg g26g3 (w12_v s H o n tot l hH hon ht hl)).trans rfl
theorem w12_4 (s H:List Nat) (o n:Nat) (tot:Int) (l:List Nat) (hH:H.length=8) (hon:o+n=l.length) (ht:0≤tot∧tot≤9223372036000000000) (hl:l.length+s.length≤10000000):g26r4 realA s (H++K80) o n tot l.length l=(l.drop o++s).length:=(congrArg g26g4 (w12_v s H o n tot l hH hon ht hl)).trans rfl
theorem w12_5 (s H:List Nat) (o n:Nat) (tot:Int) (l:List Nat) (hH:H.length=8) (hon:o+n=l.length) (ht:0≤tot∧tot≤9223372036000000000) (hl:l.length+s.length≤10000000):g26r5 realA s (H++K80) o n tot l.length l=l.drop o++s:=(congrArg g26g5 (w12_v s H o n tot l hH hon ht hl)).trans rfl

theorem outv12 (x:List Nat) (n:Nat) (tot:Int) (m:Nat) (l:List Nat):outN [501,600] [0,600] none (.tup []) [(0,⟨[.nums .u64 88 x,.one (.sl 600 none n 1),.one (.int .i64 tot)],76,1⟩),(600,⟨[.nums .u8 m l],5,2⟩)]=some (.tup [],[(0,⟨[.nums .u64 88 x,.one (.sl 600 (some 0) n 1),.one (.int .i64 tot)],76,1⟩),(600,⟨[.nums .u8 m l],5,2⟩)]):=rfl
theorem outv12s (x:List Nat) (o n:Nat) (tot:Int) (m:Nat) (l:List Nat):outN [501,600] [0,600] none (.tup []) [(0,⟨[.nums .u64 88 x,.one (.sl 600 (some o) n 1),.one (.int .i64 tot)],76,1⟩),(600,⟨[.nums .u8 m l],5,2⟩)]=some (.tup [],[(0,⟨[.nums .u64 88 x,.one (.sl 600 (some o) n 1),.one (.int .i64 tot)],76,1⟩),(600,⟨[.nums .u8 m l],5,2⟩)]):=rfl
theorem v12_more {R:Type} (N:Nat) (kk:AV→Heap→Option R) (tot:Int) (l:List Nat):∀ (k n f:Nat) (H:List Nat) (o:Nat),H.length=8→o+n=l.length→n/128=k→k<f →
    g26a_L2a realA N kk f (H++K80) o n tot l.length l=kk (.tup []) [(0,⟨[.nums .u64 88 (feedN k H (l.drop o)++K80),.one (.sl 600 (some (o+128*k)) (n - 128*k) 1),.one (.int .i64 tot)],76,1⟩),(600,⟨[.nums .u8 l.length l],5,2⟩)]:=by
  intro k
  induction k with
  | zero =>
    intro n f H o hH hon hk hf
    obtain ⟨f,rfl⟩:∃ q,f=q+1:=⟨f - 1,by omega⟩
    rw [g26a_L2a,ar_geq,ar_ofN,decide_eq_false (by omega)]
    rfl
  | succ k ih =>
    intro n f H o hH hon hk hf
    obtain ⟨f,rfl⟩:∃ q,f=q+1:=⟨f - 1,by omega⟩
    rw [g26a_L2a,ar_geq,ar_ofN,decide_eq_true (show (128:Int)≤(n:Int) by omega)]
    simp only [g26a_J3a,ar_le,decide_eq_true (show 128≤n by omega),d20_ok _ _ _ _ _ _ _ hH,d20_0 _ _ _ _ _ _ _ hH,d20_1 _ _ _ _ _ _ _ hH,d20_2 _ _ _ _ _ _ _ hH,d20_3 _ _ _ _ _ _ _ hH,d20_4 _ _ _ _ _ _ _ hH,d20_5 _ _ _ _ _ _ _ hH]
    rw [ih (n - 128) f _ (o+128) (comp_len _ _) (by omega) (by omega) (by omega),feedN,List.drop_drop,show o+128+128*k=o+128*(k+1) by omega,show n - 128 - 128*k=n - 128*(k+1) by omega]

theorem v12_big {R:Type} (N f:Nat) (kk:AV→Heap→Option R) (H:List Nat) (tot:Int) (q:List Nat) (hq:128≤q.length):g26a_L2 realA N kk (f+1) (H++K80) q.length tot q.length q=g26a_J3 realA N kk (g26a_L2a realA N kk f) (H++K80) q.length tot q.length q:=by
  rw [g26a_L2,ar_geq,ar_ofN,decide_eq_true (show (128:Int)≤(q.length:Int) by omega)]
theorem v12_small {R:Type} (N f:Nat) (kk:AV→Heap→Option R) (H:List Nat) (tot:Int) (q:List Nat) (hq:¬ 128≤q.length):g26a_L2 realA N kk (f+1) (H++K80) q.length tot q.length q=kk (.tup []) [(0,⟨[.nums .u64 88 (H++K80),.one (.sl 600 none q.length 1),.one (.int .i64 tot)],76,1⟩),(600,⟨[.nums .u8 q.length q],5,2⟩)]:=by
  rw [g26a_L2,ar_geq,ar_ofN,decide_eq_false (show ¬ (128:Int)≤(q.length:Int) by omega)]
theorem v12_v (s H:List Nat) (o n:Nat) (tot:Int) (l:List Nat) (hH:H.length=8) (hon:o+n=l.length) (ht:0≤tot∧tot≤9223372036000000000) (hl:l.length+s.length≤10000000):g26a_v realA s (H++K80) o n tot l.length l=some (.tup [],[(0,⟨[.nums .u64 88 (feed H (l.drop o++s)++K80),.one (.sl 600 (some (128*((l.drop o++s).length/128))) ((l.drop o++s).length - 128*((l.drop o++s).length/128)) 1),.one (.int .i64 (tot+s.length))],76,1⟩),(600,⟨[.nums .u8 (l.drop o++s).length (l.drop o++s)],5,2⟩)]):=by
  unfold g26a_v g26a_
  have e1:realA.ib .add .i64 tot (s.length:Int)=tot+s.length:=ar_add (by omega)
  have hb:(l.drop o++s).length≤140737488355328:=by rw [List.length_append,List.length_drop]; omega
  have hb2:(l.drop o++s).length≤10000000:=by rw [List.length_append,List.length_drop]; omega
  simp only [ar_eq,decide_eq_true (show o+n=l.length+0 by omega),ar_le,decide_eq_true hb,ar_ofN,e1]
  generalize l.drop o++s=q at *
  by_cases hq:128≤q.length
  · refine (v12_big 100000 99999 _ H (tot+s.length) q hq).trans ?_
    simp only [g26a_J3,ar_le,decide_eq_true hq,b20_ok _ _ _ _ _ hH,b20_0 _ _ _ _ _ hH,b20_1 _ _ _ _ _ hH,b20_2 _ _ _ _ _ hH,b20_3 _ _ _ _ _ hH,b20_4 _ _ _ _ _ hH]
    rw [v12_more 100000 _ _ q ((q.length - 128)/128) (q.length - 128) 99999 _ 128 (comp_len _ _) (by omega) rfl (by omega),outv12s]
    have e2:q.length/128=(q.length - 128)/128+1:=by omega
    unfold feed
    rw [e2,feedN,show 128+128*((q.length - 128)/128)=128*((q.length - 128)/128+1) by omega,show q.length - 128 - 128*((q.length - 128)/128)=q.length - 128*((q.length - 128)/128+1) by omega]
  · refine (v12_small 100000 99999 _ H (tot+s.length) q hq).trans ?_
    have e2:q.length/128=0:=by omega
    unfold feed
    rw [e2]
    exact outv12 _ _ _ _ _
theorem v12_ok (s H:List Nat) (o n:Nat) (tot:Int) (l:List Nat) (hH:H.length=8) (hon:o+n=l.length) (ht:0≤tot∧tot≤9223372036000000000) (hl:l.length+s.length≤10000000):g26a_ok realA s (H++K80) o n tot l.length l=true:=(congrArg g26a_is (v12_v s H o n tot l hH hon ht hl)).trans rfl
theorem v12_0 (s H:List Nat) (o n:Nat) (tot:Int) (l:List Nat) (hH:H.length=8) (hon:o+n=l.length) (ht:0≤tot∧tot≤9223372036000000000) (hl:l.length+s.length≤10000000):g26a_r0 realA s (H++K80) o n tot l.length l=feed H (l.drop o++s)++K80:=(congrArg g26a_g0 (v12_v s H o n tot l hH hon ht hl)).trans rfl
end Go.Sx.S2
namespace Go.Sx.S2
set_option linter.unusedSectionVars false
def bes (x i:Nat):List Nat:=((List.range 8).drop i).map fun j=>x/2^(56 - 8*j)%256
theorem bes_step (x i:Nat) (h:i<8):bes x i=(x/2^(56 - 8*i)%256)::bes x (i+1):=by
  unfold bes
  rw [List.drop_eq_getElem_cons (by simpa using h)]
  simp
theorem bes_end (x:Nat):bes x 8=[]:=rfl
def be8 (x:Nat):List Nat:=bes x 0
theorem be8_len (x:Nat):(be8 x).length=8:=by simp [be8,bes]
def zs (r:Nat):Nat:=(240 - r%128)%128
def pad (r:List Nat) (tot:Nat):List Nat:=(((r++[128])++List.replicate (zs (r.length+1)) 0)++be8 (tot*8/B64))++be8 (tot*8%B64)
def dig (l:List Nat):List Nat:=l.flatMap be8
theorem take1 (x:Nat):[x].take 1=[x]:=rfl
section
variable {R:Type} (N:Nat) (kk:AV→Heap→Option R)
theorem z_loop (xl:List Nat) (o n:Nat) (tot:Int) (m:Nat) (l cp:List Nat) (c:Int):∀ (d f:Nat) (e:List Nat),(e.length+d)%128=112→d<128→d<f→e.length+d≤100000000 →
    g28L4 realA N kk f e.length xl o n tot m l cp c e.length e=g28J6 realA N kk (e++List.replicate d 0).length xl o n tot m l cp c (e++List.replicate d 0).length (e++List.replicate d 0):=by
  intro d
  induction d with
  | zero =>
    intro f e h1 _ hf he
    obtain ⟨f,rfl⟩:∃ q,f=q+1:=⟨f - 1,by omega⟩
    have hr:realA.ib .rem .i64 (e.length:Int) 128=((e.length%128:Nat):Int):=by rw [ar_rem (by omega)]; omega
    rw [g28L4,ar_ofN,hr,ar_neq,decide_eq_true (show ((e.length%128:Nat):Int)=112 by omega)]
    simp
  | succ d ih =>
    intro f e h1 h2 hf he
    obtain ⟨f,rfl⟩:∃ q,f=q+1:=⟨f - 1,by omega⟩
    have hr:realA.ib .rem .i64 (e.length:Int) 128=((e.length%128:Nat):Int):=by rw [ar_rem (by omega)]; omega
    have hl:(e++[0]).length=e.length+1:=by simp
    rw [g28L4,ar_ofN,hr,ar_neq,decide_eq_false (show ¬ ((e.length%128:Nat):Int)=112 by omega)]
    simp only [Bool.not_false,ar_eq,Nat.add_zero,decide_true,take1,ar_le,decide_eq_true (show (e++[0]).length≤140737488355328 by omega)]
    rw [ih f (e++[0]) (by omega) (by omega) (by omega) (by omega),List.append_assoc,List.singleton_append,← List.replicate_succ]
theorem in_loop (lg:Nat→Nat→Int→Int→List Nat→Nat→Nat→Int→Nat→List Nat→List Nat→Int→Nat→List Nat→Nat→List Nat→Option R) (w:Nat) (hw:w<B64) (z:Nat) (zi idx:Int) (xl:List Nat) (o n:Nat) (tot:Int) (m:Nat) (l cp:List Nat) (c:Int) (q:Nat) (ws:List Nat):∀ (d i f:Nat) (e:List Nat),i+d=8→d<f→e.length+d≤100000000 →
    g28L11 realA N kk lg f e.length w z zi idx (i:Int) xl o n tot m l cp c e.length e q ws=lg (e++bes w i).length z zi (realA.ib .add .i64 idx 1) xl o n tot m l cp c (e++bes w i).length (e++bes w i) q ws:=by
  intro d
  induction d with
  | zero =>
    intro i f e h hf he
    obtain ⟨f,rfl⟩:∃ q,f=q+1:=⟨f - 1,by omega⟩
    obtain rfl:i=8:=by omega
    rw [g28L11,ar_lss,decide_eq_false (by omega),bes_end,List.append_nil]
  | succ d ih =>
    intro i f e h hf he
    obtain ⟨f,rfl⟩:∃ q,f=q+1:=⟨f - 1,by omega⟩
    have hi:i<8:=by omega
    have e1:realA.ib .add .i64 (i:Int) 1=((i+1:Nat):Int):=by rw [ar_add (by omega)]; omega
    have e2:realA.ib .sub .i64 56 (realA.ib .mul .i64 8 (i:Int))=((56 - 8*i:Nat):Int):=by rw [ar_mul (by omega),ar_sub (by omega)]; omega
    have e3:realA.n2n .u8 (realA.nsh .shr .u64 w (56 - 8*i))=w/2^(56 - 8*i)%256:=rfl
    have hl:(e++[w/2^(56 - 8*i)%256]).length=e.length+1:=by simp
    rw [g28L11,ar_lss,decide_eq_true (show (i:Int)<8 by omega)]
    simp only [g28J12,e2,ar_negN,ar_toNN,ar_eq,Nat.add_zero,decide_true,e3,take1,ar_le,decide_eq_true (show (e++[w/2^(56 - 8*i)%256]).length≤140737488355328 by omega),e1]
    rw [ih (i+1) f _ (by omega) (by omega) (by omega),bes_step w i hi,List.append_assoc,List.singleton_append]
theorem ou_loop (lg:Nat→List Nat→Int→List Nat→Nat→Nat→Int→Nat→List Nat→Nat→List Nat→Option R) (w:Nat) (ws:List Nat) (idx:Int) (xl:List Nat) (o n:Nat) (tot:Int) (m:Nat) (l:List Nat):∀ (d i f:Nat) (e:List Nat),i+d=8→d<f→e.length+d≤100000000 →
    g28L22 realA N kk lg f e.length w ws idx (i:Int) xl o n tot m l e.length e=lg (e++bes w i).length ws (realA.ib .add .i64 idx 1) xl o n tot m l (e++bes w i).length (e++bes w i):=by
  intro d
  induction d with
  | zero =>
    intro i f e h hf he
    obtain ⟨f,rfl⟩:∃ q,f=q+1:=⟨f - 1,by omega⟩
    obtain rfl:i=8:=by omega
    rw [g28L22,ar_lss,decide_eq_false (by omega),bes_end,List.append_nil]
  | succ d ih =>
    intro i f e h hf he
    obtain ⟨f,rfl⟩:∃ q,f=q+1:=⟨f - 1,by omega⟩
    have hi:i<8:=by omega
    have e1:realA.ib .add .i64 (i:Int) 1=((i+1:Nat):Int):=by rw [ar_add (by omega)]; omega
    have e2:realA.ib .sub .i64 56 (realA.ib .mul .i64 8 (i:Int))=((56 - 8*i:Nat):Int):=by rw [ar_mul (by omega),ar_sub (by omega)]; omega
    have e3:realA.n2n .u8 (realA.nsh .shr .u64 w (56 - 8*i))=w/2^(56 - 8*i)%256:=rfl
    have hl:(e++[w/2^(56 - 8*i)%256]).length=e.length+1:=by simp
    rw [g28L22,ar_lss,decide_eq_true (show (i:Int)<8 by omega)]
    simp only [g28J23,e2,ar_negN,ar_toNN,ar_eq,Nat.add_zero,decide_true,e3,take1,ar_le,decide_eq_true (show (e++[w/2^(56 - 8*i)%256]).length≤140737488355328 by omega),e1]
    rw [ih (i+1) f _ (by omega) (by omega) (by omega),bes_step w i hi,List.append_assoc,List.singleton_append]
theorem dig_loop (ws:List Nat) (hw:ws.length=8) (xl:List Nat) (o n:Nat) (tot:Int) (m:Nat) (l:List Nat) (hN:8<N):∀ (d i f:Nat) (e:List Nat),i+d=8→d<f→e.length+8*d≤100000000 →
    g28L19 realA N kk f e.length ws (i:Int) xl o n tot m l e.length e=kk (tS (e++dig (ws.drop i))) [(0,⟨[.nums .u64 88 xl,.one (.sl 1 (some o) n 1),.one (.int .i64 tot)],76,1⟩),(1,⟨[.nums .u8 m l],5,2⟩),(18000,⟨[.nums .u8 (e++dig (ws.drop i)).length (e++dig (ws.drop i))],5,2⟩)]:=by
  intro d
  induction d with
  | zero =>
    intro i f e h hf he
    obtain ⟨f,rfl⟩:∃ q,f=q+1:=⟨f - 1,by omega⟩
    obtain rfl:i=8:=by omega
    rw [g28L19,ar_lss,decide_eq_false (by omega),List.drop_of_length_le (by omega)]
    simp [dig]
  | succ d ih =>
    intro i f e h hf he
    obtain ⟨f,rfl⟩:∃ q,f=q+1:=⟨f - 1,by omega⟩
    have hi:i<8:=by omega
    have e1:realA.ib .add .i64 (i:Int) 1=((i+1:Nat):Int):=by rw [ar_add (by omega)]; omega
    rw [g28L19,ar_lss,decide_eq_true (show (i:Int)<8 by omega)]
    simp only [g28J20,ar_negN,ar_toNN,ar_lt,decide_eq_true hi]
    have h0:=ou_loop N kk (g28L19 realA N kk f) (ws.getD i 0) ws (i:Int) xl o n tot m l 8 0 N e rfl hN (by omega)
    refine h0.trans ?_
    have hb:(bes (ws.getD i 0) 0).length=8:=be8_len _
    rw [e1,ih (i+1) f _ (by omega) (by omega) (by rw [List.length_append,hb]; omega)]
    have hd:ws.drop i=ws.getD i 0::ws.drop (i+1):=by
      rw [List.drop_eq_getElem_cons (by omega),List.getD_eq_getElem?_getD,List.getElem?_eq_getElem (by omega)]; rfl
    rw [hd]
    simp only [dig,List.flatMap_cons,be8,List.append_assoc]
end
theorem outS (x s:List Nat) (o n:Nat) (tot:Int) (m:Nat) (l:List Nat) (z:Blk):outN [1] [0,1] none (tS s) [(0,⟨[.nums .u64 88 x,.one (.sl 1 (some o) n 1),.one (.int .i64 tot)],76,1⟩),(1,⟨[.nums .u8 m l],5,2⟩),(18000,z)]=some (tS s,[(0,⟨[.nums .u64 88 x,.one (.sl 1 (some o) n 1),.one (.int .i64 tot)],76,1⟩),(1,⟨[.nums .u8 m l],5,2⟩)]):=rfl
theorem cp_id (H K:List Nat) (z:List Nat) (hH:H.length=8) (hK:K.length=80) (hz:z.length=88) :
    ((z.take 0++(((H++K).drop 0).take 8++z.drop 8)).take 8++(((H++K).drop 8).take 80++(z.take 0++(((H++K).drop 0).take 8++z.drop 8)).drop 88))=H++K:=by
  have h1:((H++K).drop 0).take 8=H:=by rw [List.drop_zero,← hH,List.take_left']; rfl
  have h2:((H++K).drop 8).take 80=K:=by rw [← hH,List.drop_left',List.take_of_length_le (by omega)]; rfl
  rw [h1,h2]
  have h3:(H++z.drop 8).take 8=H:=by rw [← hH,List.take_left']; rfl
  have h4:(H++z.drop 8).drop 88=[]:=List.drop_of_length_le (by rw [List.length_append,List.length_drop]; omega)
  rw [List.take_zero,List.nil_append,h3,h4,List.append_nil]
theorem K80_len:K80.length=80:=by decide
theorem s13_v (H:List Nat) (o n:Nat) (tot:Nat) (l:List Nat) (hH:H.length=8) (hon:o+n=l.length) (ht:tot≤1000000000000) (hl:l.length≤5000000):g28v realA (H++K80) o n ((tot:Nat):Int) l.length l=some (tS (dig (feed H (pad (l.drop o) tot))),[(0,⟨[.nums .u64 88 (H++K80),.one (.sl 1 (some o) n 1),.one (.int .i64 (tot:Int))],76,1⟩),(1,⟨[.nums .u8 l.length l],5,2⟩)]):=by
  unfold g28v g28
  have hr:(l.drop o).take n=l.drop o:=List.take_of_length_le (by rw [List.length_drop]; omega)
  have hrl:(l.drop o).length≤5000000:=by rw [List.length_drop]; omega
  have c1:decide ((0:Nat)=0)=true:=rfl
  rw [hr]
  simp only [ar_eq,c1,List.nil_append,ar_le,Nat.add_zero,decide_true,take1]
  generalize l.drop o=r at *
  have hl1:(r++[128]).length=r.length+1:=by simp
  have hq0:r.length≤140737488355328:=by omega
  have hq1:(r++[128]).length≤140737488355328:=by omega
  rw [decide_eq_true hq0,decide_eq_true hq1]
  simp only []
  have hcp:=cp_id H K80 [0,0,0,0,0,0,0,0,0,0,0,0,0,0,0,0,0,0,0,0,0,0,0,0,0,0,0,0,0,0,0,0,0,0,0,0,0,0,0,0,0,0,0,0,0,0,0,0,0,0,0,0,0,0,0,0,0,0,0,0,0,0,0,0,0,0,0,0,0,0,0,0,0,0,0,0,0,0,0,0,0,0,0,0,0,0,0,0] hH K80_len rfl
  simp only [List.take_zero,List.nil_append] at hcp
  simp only [List.take_zero,List.nil_append,hcp]
  have hz:zs (r.length+1)<128:=Nat.mod_lt _ (by omega)
  have hzm:((r++[128]).length+zs (r.length+1))%128=112:=by rw [hl1]; unfold zs; omega
  refine (z_loop 100000 (outN [1] [0,1] none) (H++K80) o n tot l.length l (H++K80) 0 (zs (r.length+1)) 100000 (r++[128]) hzm hz (by omega) (by omega)).trans ?_
  have hel:(r++[128]++List.replicate (zs (r.length+1)) 0).length=r.length+1+zs (r.length+1):=by simp; omega
  generalize hee:r++[128]++List.replicate (zs (r.length+1)) 0=e at *
  have i1:realA.i2n .u64 (tot:Int)=tot:=by
    show ((tot:Int)%(18446744073709551616:Int)).toNat=tot
    omega
  have h8:(8:Nat)<18446744073709551616:=by decide
  have ht64:tot<18446744073709551616:=by omega
  simp only [g28J6,i1,mul64ok ht64 h8,mul64r0 ht64 h8,mul64r1 ht64 h8]
  have L2:realA.ofN 2=((2:Nat):Int):=rfl
  -- the two numbers
  have w0:tot*8/18446744073709551616<B64:=by simp only [B64]; omega
  have w1:tot*8%18446744073709551616<B64:=Nat.mod_lt _ (by decide)
  have hb0:(bes (tot*8/18446744073709551616) 0).length=8:=be8_len _
  have hb1:(bes (tot*8%18446744073709551616) 0).length=8:=be8_len _
  have n1:realA.ib .add .i64 0 1=1:=ar_add (by omega)
  have n2:realA.ib .add .i64 1 1=2:=ar_add (by omega)
  have A0:∀ f (e:List Nat),e.length≤50000000→g28L8 realA 100000 (outN [1] [0,1] none) (f+1) e.length 2 (realA.ofN 2) 0 (H++K80) o n tot l.length l (H++K80) 0 e.length e 2 [tot*8/18446744073709551616,tot*8%18446744073709551616]=g28L8 realA 100000 (outN [1] [0,1] none) f (e++bes (tot*8/18446744073709551616) 0).length 2 (realA.ofN 2) 1 (H++K80) o n tot l.length l (H++K80) 0 (e++bes (tot*8/18446744073709551616) 0).length (e++bes (tot*8/18446744073709551616) 0) 2 [tot*8/18446744073709551616,tot*8%18446744073709551616]:=by
    intro f e he
    rw [g28L8,L2,ar_lss,decide_eq_true (show (0:Int)<((2:Nat):Int) by omega)]
    simp only [g28J9]
    have c2:realA.neg 0=false:=rfl
    have c3:realA.toN 0=0:=rfl
    have c4:realA.lt 0 2=true:=rfl
    simp only [c2,c3,c4,List.getD_cons_zero]
    have:=in_loop 100000 (outN [1] [0,1] none) (g28L8 realA 100000 (outN [1] [0,1] none) f) (tot*8/18446744073709551616) w0 2 ((2:Nat):Int) 0 (H++K80) o n tot l.length l (H++K80) 0 2 [tot*8/18446744073709551616,tot*8%18446744073709551616] 8 0 100000 e rfl (by omega) (by omega)
    rw [n1] at this
    exact this
  have A1:∀ f (e:List Nat),e.length≤50000000→g28L8 realA 100000 (outN [1] [0,1] none) (f+1) e.length 2 (realA.ofN 2) 1 (H++K80) o n tot l.length l (H++K80) 0 e.length e 2 [tot*8/18446744073709551616,tot*8%18446744073709551616]=g28L8 realA 100000 (outN [1] [0,1] none) f (e++bes (tot*8%18446744073709551616) 0).length 2 (realA.ofN 2) 2 (H++K80) o n tot l.length l (H++K80) 0 (e++bes (tot*8%18446744073709551616) 0).length (e++bes (tot*8%18446744073709551616) 0) 2 [tot*8/18446744073709551616,tot*8%18446744073709551616]:=by
    intro f e he
    rw [g28L8,L2,ar_lss,decide_eq_true (show (1:Int)<((2:Nat):Int) by omega)]
    simp only [g28J9]
    have c2:realA.neg 1=false:=rfl
    have c3:realA.toN 1=1:=rfl
    have c4:realA.lt 1 2=true:=rfl
    simp only [c2,c3,c4,List.getD_cons_succ,List.getD_cons_zero]
    have:=in_loop 100000 (outN [1] [0,1] none) (g28L8 realA 100000 (outN [1] [0,1] none) f) (tot*8%18446744073709551616) w1 2 ((2:Nat):Int) 1 (H++K80) o n tot l.length l (H++K80) 0 2 [tot*8/18446744073709551616,tot*8%18446744073709551616] 8 0 100000 e rfl (by omega) (by omega)
    rw [n2] at this
    exact this
  have A2:∀ f (e:List Nat),g28L8 realA 100000 (outN [1] [0,1] none) (f+1) e.length 2 (realA.ofN 2) 2 (H++K80) o n tot l.length l (H++K80) 0 e.length e 2 [tot*8/18446744073709551616,tot*8%18446744073709551616]=g28J16 realA 100000 (outN [1] [0,1] none) e.length (H++K80) o n tot l.length l (H++K80) 0 e.length e:=by
    intro f e
    rw [g28L8,L2,ar_lss,decide_eq_false (show ¬ (2:Int)<((2:Nat):Int) by omega)]
  have hl3:(e++bes (tot*8/18446744073709551616) 0).length≤50000000:=by rw [List.length_append,hb0]; omega
  refine (A0 99999 e (by omega)).trans ((A1 99998 _ hl3).trans ((A2 99997 _).trans ?_))
  have hpad:(e++bes (tot*8/18446744073709551616) 0)++bes (tot*8%18446744073709551616) 0=pad r tot:=by rw [← hee]; rfl
  rw [hpad]
  have hpl:(pad r tot).length≤9000000:=by rw [← hpad,List.length_append,List.length_append,hb0,hb1]; omega
  generalize pad r tot=q at *
  have hq:q.take q.length=q:=List.take_length
  simp only [g28J16,hq]
  have e0:([]:List Nat).length=0:=rfl
  have v0:=v12_ok q H 0 0 0 [] hH rfl (by omega) (by simp; omega)
  have v1:=v12_0 q H 0 0 0 [] hH rfl (by omega) (by simp; omega)
  rw [e0] at v0 v1
  simp only [v0,v1,List.drop_nil,List.nil_append]
  have hf8:=feed_len H q hH
  have hd8:((feed H q++K80).drop 0).take 8=feed H q:=by rw [List.drop_zero,← hf8,List.take_left']; rfl
  rw [hd8]
  refine (dig_loop 100000 (outN [1] [0,1] none) (feed H q) hf8 (H++K80) o n tot l.length l (by omega) 8 0 100000 [] rfl (by omega) (by simp)).trans ?_
  rw [List.nil_append,List.drop_zero]
  exact outS _ _ _ _ _ _ _ _
theorem s13_ok (H:List Nat) (o n:Nat) (tot:Nat) (l:List Nat) (hH:H.length=8) (hon:o+n=l.length) (ht:tot≤1000000000000) (hl:l.length≤5000000):g28ok realA (H++K80) o n ((tot:Nat):Int) l.length l=true:=(congrArg g28is (s13_v H o n tot l hH hon ht hl)).trans rfl
theorem s13_0 (H:List Nat) (o n:Nat) (tot:Nat) (l:List Nat) (hH:H.length=8) (hon:o+n=l.length) (ht:tot≤1000000000000) (hl:l.length≤5000000):g28r0 realA (H++K80) o n ((tot:Nat):Int) l.length l=dig (feed H (pad (l.drop o) tot)):=(congrArg g28g0 (s13_v H o n tot l hH hon ht hl)).trans rfl
theorem s13_1 (H:List Nat) (o n:Nat) (tot:Nat) (l:List Nat) (hH:H.length=8) (hon:o+n=l.length) (ht:tot≤1000000000000) (hl:l.length≤5000000):g28r1 realA (H++K80) o n ((tot:Nat):Int) l.length l=H++K80:=(congrArg g28g1 (s13_v H o n tot l hH hon ht hl)).trans rfl
theorem s13_2 (H:List Nat) (o n:Nat) (tot:Nat) (l:List Nat) (hH:H.length=8) (hon:o+n=l.length) (ht:tot≤1000000000000) (hl:l.length≤5000000):g28r2 realA (H++K80) o n ((tot:Nat):Int) l.length l=o:=(congrArg g28g2 (s13_v H o n tot l hH hon ht hl)).trans rfl
theorem s13_3 (H:List Nat) (o n:Nat) (tot:Nat) (l:List Nat) (hH:H.length=8) (hon:o+n=l.length) (ht:tot≤1000000000000) (hl:l.length≤5000000):g28r3 realA (H++K80) o n ((tot:Nat):Int) l.length l=n:=(congrArg g28g3 (s13_v H o n tot l hH hon ht hl)).trans rfl
theorem s13_4 (H:List Nat) (o n:Nat) (tot:Nat) (l:List Nat) (hH:H.length=8) (hon:o+n=l.length) (ht:tot≤1000000000000) (hl:l.length≤5000000):g28r4 realA (H++K80) o n ((tot:Nat):Int) l.length l=(tot:Int):=(congrArg g28g4 (s13_v H o n tot l hH hon ht hl)).trans rfl
theorem s13_5 (H:List Nat) (o n:Nat) (tot:Nat) (l:List Nat) (hH:H.length=8) (hon:o+n=l.length) (ht:tot≤1000000000000) (hl:l.length≤5000000):g28r5 realA (H++K80) o n ((tot:Nat):Int) l.length l=l.length:=(congrArg g28g5 (s13_v H o n tot l hH hon ht hl)).trans rfl
theorem s13_6 (H:List Nat) (o n:Nat) (tot:Nat) (l:List Nat) (hH:H.length=8) (hon:o+n=l.length) (ht:tot≤1000000000000) (hl:l.length≤5000000):g28r6 realA (H++K80) o n ((tot:Nat):Int) l.length l=l:=(congrArg g28g6 (s13_v H o n tot l hH hon ht hl)).trans rfl
end Go.Sx.S2
namespace Go.Sx.S2
set_option linter.unusedSectionVars false
theorem wd_congr {b c:List Nat} {j:Nat}:∀ k,(∀ i,i<8*j+k→b.getD i 0=c.getD i 0)→wd b j k=wd c j k:=by
  intro k
  induction k with
  | zero=>intro _; rfl
  | succ k ih=>intro h; rw [wd,wd,ih (fun i hi=>h i (by omega)),h (8*j+k) (by omega)]
theorem comp_congr {b c:List Nat} (H:List Nat) (h:∀ i,i<128→b.getD i 0=c.getD i 0):comp H b=comp H c:=by
  have hp:pl b 128=pl c 128:=by
    unfold pl
    apply List.map_congr_left
    intro j hj
    by_cases h2:j<16
    · exact wd_congr _ fun i hi=>h i (by omega)
    · have:min 8 (128 - 8*j)=0:=by omega
      rw [this]; rfl
  have he:∀ n,ew b n=ew c n:=by
    intro n
    induction n with
    | zero=>exact hp
    | succ n ih=>rw [ew,ew,ih]
  unfold comp
  rw [he]
theorem feed_append (s:List Nat):∀ (k:Nat) (H t:List Nat),t.length/128=k→feed H (t++s)=feed (feedN k H t) (t.drop (128*k)++s):=by
  intro k
  induction k with
  | zero=>intro H t _; rw [Nat.mul_zero,List.drop_zero]; rfl
  | succ k ih =>
    intro H t h
    have hl:128≤t.length:=by omega
    have e1:(t++s).length/128=(t.drop 128++s).length/128+1:=by simp only [List.length_append,List.length_drop]; omega
    have e2:(t++s).drop 128=t.drop 128++s:=List.drop_append_of_le_length hl
    have e3:comp H (t++s)=comp H t:=comp_congr H fun i hi=>by
      rw [List.getD_eq_getElem?_getD,List.getElem?_append_left (by omega),← List.getD_eq_getElem?_getD]
    unfold feed
    rw [e1,feedN,e2,e3]
    have:=ih (comp H t) (t.drop 128) (by rw [List.length_drop]; omega)
    unfold feed at this
    rw [this,feedN,List.drop_drop,show 128+128*k=128*(k+1) by omega]
def rst (t:List Nat):List Nat:=t.drop (128*(t.length/128))
theorem rst_len (t:List Nat):(rst t).length=t.length%128:=by unfold rst; rw [List.length_drop]; omega
theorem feed_add (H t s:List Nat):feed H (t++s)=feed (feed H t) (rst t++s):=feed_append s _ H t rfl
theorem rst_add (t s:List Nat):rst (rst t++s)=rst (t++s):=by
  have h1:=rst_len t
  have e:t++s=t.take (128*(t.length/128))++(rst t++s):=by
    unfold rst
    rw [← List.append_assoc,List.take_append_drop]
  have hl:(t.take (128*(t.length/128))).length=128*(t.length/128):=by rw [List.length_take]; omega
  have hd:∀ (A Y:List Nat) (m:Nat),(A++Y).drop (A.length+m)=Y.drop m:=by
    intro A Y m
    rw [← List.drop_drop,List.drop_left]
  have h3:(t++s).length=(t.take (128*(t.length/128))++(rst t++s)).length:=by rw [← e]
  unfold rst at h1 e h3 ⊢
  rw [h3]
  conv=>rhs; rw [e]
  generalize t.drop (128*(t.length/128))=B at *
  generalize t.take (128*(t.length/128))=A at *
  have h4:128*((A++(B++s)).length/128)=A.length+128*((B++s).length/128):=by
    have h5:(A++(B++s)).length=A.length+(B++s).length:=List.length_append
    rw [h5,hl]; omega
  rw [h4,hd]
def sha (t:List Nat):List Nat:=dig (feed (feed H8 t) (pad (rst t) t.length))
theorem H8_len:H8.length=8:=by decide
theorem dig_len (l:List Nat):(dig l).length=8*l.length:=by
  induction l with
  | nil=>rfl
  | cons x r ih=>simp only [dig,List.flatMap_cons,List.length_append,be8_len,List.length_cons] at ih ⊢; omega
theorem sha_len (t:List Nat):(sha t).length=64:=by
  unfold sha
  rw [dig_len,feed_len _ _ (feed_len _ _ H8_len)]
structure Rep (t x:List Nat) (o n:Nat) (tot:Int) (l:List Nat):Prop where
  x:x=feed H8 t++K80
  on:o+n=l.length
  r:l.drop o=rst t
  tot:tot=(t.length:Int)
theorem Rep.new:Rep [] (H8++K80) 0 0 0 []:=⟨rfl,rfl,rfl,rfl⟩
theorem Rep.write {t x:List Nat} {o n:Nat} {tot:Int} {l:List Nat} (h:Rep t x o n tot l) (s:List Nat) (hl:l.length+s.length≤5000000) (ht:t.length≤1000000000) :
    g26ok realA s x o n tot l.length l=true∧g26r4 realA s x o n tot l.length l=(g26r5 realA s x o n tot l.length l).length∧(g26r5 realA s x o n tot l.length l).length≤128+s.length ∧
      Rep (t++s) (g26r0 realA s x o n tot l.length l) (g26r1 realA s x o n tot l.length l) (g26r2 realA s x o n tot l.length l) (g26r3 realA s x o n tot l.length l) (g26r5 realA s x o n tot l.length l):=by
  obtain ⟨rfl,hon,hr,rfl⟩:=h
  have hH:=feed_len H8 t H8_len
  have a:=w12_ok s (feed H8 t) o n (t.length:Int) l hH hon (by omega) (by omega)
  have a0:=w12_0 s (feed H8 t) o n (t.length:Int) l hH hon (by omega) (by omega)
  have a1:=w12_1 s (feed H8 t) o n (t.length:Int) l hH hon (by omega) (by omega)
  have a2:=w12_2 s (feed H8 t) o n (t.length:Int) l hH hon (by omega) (by omega)
  have a3:=w12_3 s (feed H8 t) o n (t.length:Int) l hH hon (by omega) (by omega)
  have a4:=w12_4 s (feed H8 t) o n (t.length:Int) l hH hon (by omega) (by omega)
  have a5:=w12_5 s (feed H8 t) o n (t.length:Int) l hH hon (by omega) (by omega)
  rw [hr] at a0 a1 a2 a4 a5
  refine ⟨a,by rw [a4,a5],by rw [a5,List.length_append,rst_len]; omega,⟨by rw [a0,← feed_add], ?_, ?_, ?_⟩⟩
  · rw [a1,a2,a5]; omega
  · rw [a1,a5]; exact rst_add t s
  · rw [a3,List.length_append]; omega
theorem Rep.sum {t x:List Nat} {o n:Nat} {tot:Int} {l:List Nat} (h:Rep t x o n tot l) (hl:l.length≤5000000) (ht:t.length≤1000000000) :
    g28ok realA x o n tot l.length l=true∧g28r0 realA x o n tot l.length l=sha t∧g28r1 realA x o n tot l.length l=x∧g28r2 realA x o n tot l.length l=o∧g28r3 realA x o n tot l.length l=n∧g28r4 realA x o n tot l.length l=tot∧g28r5 realA x o n tot l.length l=l.length∧g28r6 realA x o n tot l.length l=l:=by
  obtain ⟨rfl,hon,hr,rfl⟩:=h
  have hH:=feed_len H8 t H8_len
  have a0:=s13_0 (feed H8 t) o n t.length l hH hon (by omega) hl
  rw [hr] at a0
  exact ⟨s13_ok _ _ _ _ _ hH hon (by omega) hl,a0,s13_1 _ _ _ _ _ hH hon (by omega) hl,s13_2 _ _ _ _ _ hH hon (by omega) hl,s13_3 _ _ _ _ _ hH hon (by omega) hl,s13_4 _ _ _ _ _ hH hon (by omega) hl,s13_5 _ _ _ _ _ hH hon (by omega) hl,s13_6 _ _ _ _ _ hH hon (by omega) hl⟩
theorem g23path {R:Type} (A:Ar) (n:Nat) (kk:AV→Heap→Option R) (a:List Nat)
    (p0:g25ok A=true)
    (p1:g26ok A a (g25r0 A) 0 0 (g25r1 A) 0 []=true)
    (p2:g28ok A (g26r0 A a (g25r0 A) 0 0 (g25r1 A) 0 []) (g26r1 A a (g25r0 A) 0 0 (g25r1 A) 0 []) (g26r2 A a (g25r0 A) 0 0 (g25r1 A) 0 []) (g26r3 A a (g25r0 A) 0 0 (g25r1 A) 0 []) (g26r4 A a (g25r0 A) 0 0 (g25r1 A) 0 []) (g26r5 A a (g25r0 A) 0 0 (g25r1 A) 0 [])=true) :
    g23 A n kk a=kk (tS (g23t0 A a)) [(2000,⟨[.nums .u64 88 (g23t1 A a),.one (.sl 2500 (some (g23t2 A a)) (g23t3 A a) 1),.one (.int .i64 (g23t4 A a))],76,1⟩),(2500,⟨[.nums .u8 (g23t5 A a) (g23t6 A a)],5,2⟩)]:=by
  unfold g23
  simp only [p0,p1,p2]
theorem one_v (s:List Nat) (hs:s.length≤4000000):g23v realA s=some (tS (sha s)):=by
  obtain ⟨a1,a2,a3,a4⟩:=Rep.new.write s (by simp; omega) (by simp)
  simp only [List.length_nil,List.nil_append] at a1 a2 a3 a4
  obtain ⟨b1,b2, -⟩:=a4.sum (by omega) (by omega)
  have h:=g23path realA 100000 (fun v _=>some v) s new_ok (by rw [new_0,new_1]; exact a1) (by rw [new_0,new_1,a2]; exact b1)
  have e:g23t0 realA s=sha s:=by
    show g28r0 realA _ _ _ _ _ _=_
    rw [new_0,new_1,a2]
    exact b2
  rw [e] at h
  exact h
theorem one_ok (s:List Nat) (hs:s.length≤4000000):g23ok realA s=true:=(congrArg g23is (one_v s hs)).trans rfl
theorem g23g0_some (y:List Nat):g23g0 (some (tS y))=y:=rfl
theorem one_0 (s:List Nat) (hs:s.length≤4000000):g23r0 realA s=sha s:=(congrArg g23g0 (one_v s hs)).trans (g23g0_some _)
-- numbers worked out at once
def frc (n:Nat) (k:Nat→List Nat):List Nat:=match n with
  | 0=>k 0
  | m+1=>k (m+1)
theorem frc_eq (n:Nat) (k:Nat→List Nat):frc n k=k n:=by cases n <;> rfl
def frcL:List Nat→(List Nat→List Nat)→List Nat
  | [],k=>k []
  | x::r,k=>frc x fun x=>frcL r fun r=>k (x::r)
theorem frcL_eq (l:List Nat):∀ (k:List Nat→List Nat),frcL l k=k l:=by
  induction l with
  | nil=>intro k; rfl
  | cons x r ih=>intro k; rw [frcL,frc_eq,ih]
abbrev Fo:Type:=List Nat→(List Nat→List Nat)→List Nat
def ewK (F:Fo) (b:List Nat):Nat→(List Nat→List Nat)→List Nat
  | 0,k=>F (pl b 128) k
  | n+1,k=>ewK F b n fun w=>F (w.set (16+n) (nx w (16+n))) k
def rdC (C W v:List Nat):Nat→List Nat
  | 0=>v
  | n+1=>rs (C.getD n 0) (W.getD n 0) (rdC C W v n)
theorem rdC_eq (W v:List Nat) (n:Nat):rdC K80 W v n=rd W v n:=by
  induction n with
  | zero=>rw [rdC,rd]
  | succ n ih=>rw [rdC,rd,ih]
def rdK (F:Fo) (C W v:List Nat):Nat→(List Nat→List Nat)→List Nat
  | 0,k=>F v k
  | n+1,k=>rdK F C W v n fun v=>F (rs (C.getD n 0) (W.getD n 0) v) k
def compK (F:Fo) (H b:List Nat) (k:List Nat→List Nat):List Nat:=ewK F b 64 fun W=>rdK F K80 W H 80 fun v=>F (ad8 H v) k
def feedK (F:Fo):Nat→List Nat→List Nat→(List Nat→List Nat)→List Nat
  | 0,H,_,k=>k H
  | n+1,H,l,k=>compK F H l fun H=>F (l.drop 128) fun l=>feedK F n H l k
def shaK (F:Fo) (t:List Nat):List Nat:=feedK F (t.length/128) H8 t fun H=>F (pad (rst t) t.length) fun p=>feedK F (p.length/128) H p dig
section
variable {F:Fo} (hF:∀ l k,F l k=k l)
include hF
theorem ewK_eq (b:List Nat):∀ (n:Nat) (k:List Nat→List Nat),ewK F b n k=k (ew b n):=by
  intro n
  induction n with
  | zero=>intro k; rw [ewK,hF,ew]
  | succ n ih=>intro k; rw [ewK,ih,hF,ew]
theorem rdK_eq (C W v:List Nat):∀ (n:Nat) (k:List Nat→List Nat),rdK F C W v n k=k (rdC C W v n):=by
  intro n
  induction n with
  | zero=>intro k; rw [rdK,hF,rdC]
  | succ n ih=>intro k; rw [rdK,ih,hF,rdC]
theorem compK_eq (H b:List Nat) (k:List Nat→List Nat):compK F H b k=k (comp H b):=by
  unfold compK comp
  rw [ewK_eq hF,rdK_eq hF,hF,rdC_eq]
theorem feedK_eq:∀ (n:Nat) (H l:List Nat) (k:List Nat→List Nat),feedK F n H l k=k (feedN n H l):=by
  intro n
  induction n with
  | zero=>intro H l k; rw [feedK,feedN]
  | succ n ih=>intro H l k; rw [feedK,compK_eq hF,hF,ih,feedN]
theorem shaK_eq (t:List Nat):shaK F t=sha t:=by
  unfold shaK sha feed
  rw [feedK_eq hF,hF,feedK_eq hF]
end
end Go.Sx.S2
