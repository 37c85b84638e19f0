import Derived.Test.YtpdpafehfloelaaSxHr
namespace Go.Sx
def nrC (B:List Nat):Cell→Cell
  | .sl b o n z=>match o with
    | none=>match memB b B with
      | true=> .sl b (some 0) n z
      | false=> .sl b none n z
    | some o=> .sl b (some o) n z
  | c=>c
def nrS (B:List Nat):Seg→Seg
  | .one c=> .one (nrC B c)
  | s=>s
def nrSs (B:List Nat):List Seg→List Seg
  | []=>[]
  | s::r=>nrS B s::nrSs B r
def nrV1 (B:List Nat):V1→V1
  | .cell c=> .cell (nrC B c)
  | .agg l=> .agg (nrSs B l)
def nrV1s (B:List Nat):List V1→List V1
  | []=>[]
  | x::r=>nrV1 B x::nrV1s B r
def nrV (B:List Nat):AV→AV
  | .v x=> .v (nrV1 B x)
  | .tup l=> .tup (nrV1s B l)
  | .fn f a c=> .fn f (nrV1s B a) (nrV1s B c)
def nrVs (B:List Nat):List AV→List AV
  | []=>[]
  | x::r=>nrV B x::nrVs B r
def nrH (B:List Nat):Heap→Heap
  | []=>[]
  | (b,x)::r=>(b,⟨nrSs B x.segs,x.ty,x.own⟩)::nrH B r
theorem RC_nr {ρ:Map} {B:List Nat} {c:Cell} {v:Value}:RC ρ (nrC B c) v↔RC ρ c v:=by
  cases c with
  | sl b o n z =>
    cases o with
    | none =>
      simp only [nrC]
      split <;> exact Iff.rfl
    | some o=>exact Iff.rfl
  | _=>exact Iff.rfl
theorem nrS_len (B:List Nat) (s:Seg):(nrS B s).len=s.len:=by cases s <;> rfl
theorem nrSs_len (B:List Nat) (l:List Seg):segsLen (nrSs B l)=segsLen l:=by
  induction l with
  | nil=>rfl
  | cons s r ih=>simp only [nrSs,segsLen,nrS_len,ih]
theorem colsCell_nr (B:List Nat) (cols:List Col) (i r:Nat):nrC B (colsCell cols i r)=colsCell cols i r:=by
  induction cols generalizing i with
  | nil=>cases i <;> rfl
  | cons c q ih =>
    cases i with
    | zero=>cases c <;> rfl
    | succ i=>exact ih i
theorem nrS_cell (B:List Nat) (s:Seg) (j:Nat):(nrS B s).cell j=nrC B (s.cell j):=by
  cases s with
  | recs n cols=>exact (colsCell_nr B cols _ _).symm
  | _=>rfl
theorem nrSs_get (B:List Nat) (l:List Seg) (j:Nat):getCell (nrSs B l) j=(getCell l j).map (nrC B):=by
  induction l generalizing j with
  | nil=>rfl
  | cons s r ih =>
    simp only [nrSs]
    rw [getCell_cons,getCell_cons,nrS_len]
    split
    · rw [nrS_cell]; rfl
    · exact ih _
theorem nrSs_wf (B:List Nat) {l:List Seg}:segsWf (nrSs B l)↔segsWf l:=by
  induction l with
  | nil=>exact Iff.rfl
  | cons s r ih =>
    simp only [nrSs]
    rw [segsWf_cons,segsWf_cons,ih]
    have:(nrS B s).wf↔s.wf:=by cases s <;> exact Iff.rfl
    rw [this]
theorem RSegs_nr {ρ:Map} {B:List Nat} {l:List Seg} {vs:List Value}:RSegs ρ (nrSs B l) vs↔RSegs ρ l vs:=by
  unfold RSegs
  rw [nrSs_len,nrSs_wf]
  constructor
  · rintro ⟨h1,h2,h3⟩
    refine ⟨h1,h2,fun j c v hc hv=> ?_⟩
    obtain ⟨g1,g2⟩:=h3 j (nrC B c) v (by rw [nrSs_get,hc]; rfl) hv
    exact ⟨RC_nr.1 g1,g2⟩
  · rintro ⟨h1,h2,h3⟩
    refine ⟨h1,h2,fun j c v hc hv=> ?_⟩
    rw [nrSs_get] at hc
    cases hg:getCell l j with
    | none=>rw [hg] at hc; cases hc
    | some c' =>
      rw [hg] at hc
      simp only [Option.map_some,Option.some.injEq] at hc
      subst hc
      obtain ⟨g1,g2⟩:=h3 j c' v hg hv
      exact ⟨RC_nr.2 g1,g2⟩
theorem RV1_nr {ρ:Map} {B:List Nat} {x:V1} {v:Value}:RV1 ρ (nrV1 B x) v↔RV1 ρ x v:=by
  cases x with
  | cell c=>exact RC_nr
  | agg l =>
    constructor
    · rintro ⟨cs,h1,h2⟩; exact ⟨cs,h1,RSegs_nr.1 h2⟩
    · rintro ⟨cs,h1,h2⟩; exact ⟨cs,h1,RSegs_nr.2 h2⟩
theorem nrV1s_get (B:List Nat) (l:List V1) (i:Nat):(nrV1s B l)[i]? = (l[i]?).map (nrV1 B):=by
  induction l generalizing i with
  | nil=>simp [nrV1s]
  | cons x r ih =>
    cases i with
    | zero=>simp [nrV1s]
    | succ i=>simpa [nrV1s] using ih i
theorem nrV1s_len (B:List Nat) (l:List V1):(nrV1s B l).length=l.length:=by
  induction l with
  | nil=>rfl
  | cons x r ih=>simp [nrV1s,ih]
theorem RL_nr {ρ:Map} {B:List Nat} {l:List V1} {vs:Array Value}:RL ρ (nrV1s B l) vs↔RL ρ l vs:=by
  constructor
  · rintro ⟨h2,h3⟩
    refine ⟨by rw [h2,nrV1s_len],fun i x hx=> ?_⟩
    obtain ⟨u,g1,g2⟩:=h3 i (nrV1 B x) (by rw [nrV1s_get,hx]; rfl)
    exact ⟨u,g1,RV1_nr.1 g2⟩
  · rintro ⟨h2,h3⟩
    refine ⟨by rw [h2,nrV1s_len],fun i x hx=> ?_⟩
    rw [nrV1s_get] at hx
    cases hl:l[i]? with
    | none=>rw [hl] at hx; cases hx
    | some y =>
      rw [hl] at hx
      simp only [Option.map_some,Option.some.injEq] at hx
      subst hx
      obtain ⟨u,g1,g2⟩:=h3 i y hl
      exact ⟨u,g1,RV1_nr.2 g2⟩
theorem RV_nr {ρ:Map} {B:List Nat} {x:AV} {v:Value}:RV ρ (nrV B x) v↔RV ρ x v:=by
  cases x with
  | v x=>exact RV1_nr
  | tup l =>
    constructor
    · rintro ⟨vs,h1,h2,h3⟩
      refine ⟨vs,h1,by rw [h2,nrV1s_len],fun i x hx=> ?_⟩
      obtain ⟨u,g1,g2⟩:=h3 i (nrV1 B x) (by rw [nrV1s_get,hx]; rfl)
      exact ⟨u,g1,RV1_nr.1 g2⟩
    · rintro ⟨vs,h1,h2,h3⟩
      refine ⟨vs,h1,by rw [h2,nrV1s_len],fun i x hx=> ?_⟩
      rw [nrV1s_get] at hx
      cases hl:l[i]? with
      | none=>rw [hl] at hx; cases hx
      | some y =>
        rw [hl] at hx
        simp only [Option.map_some,Option.some.injEq] at hx
        subst hx
        obtain ⟨u,g1,g2⟩:=h3 i y hl
        exact ⟨u,g1,RV1_nr.2 g2⟩
  | fn f a c =>
    constructor
    · rintro ⟨xs,ys,e,h1,h2⟩; exact ⟨xs,ys,e,RL_nr.1 h1,RL_nr.1 h2⟩
    · rintro ⟨xs,ys,e,h1,h2⟩; exact ⟨xs,ys,e,RL_nr.2 h1,RL_nr.2 h2⟩
theorem nrVs_get (B:List Nat) (l:List AV) (i:Nat):(nrVs B l)[i]? = (l[i]?).map (nrV B):=by
  induction l generalizing i with
  | nil=>simp [nrVs]
  | cons x r ih =>
    cases i with
    | zero=>simp [nrVs]
    | succ i=>simpa [nrVs] using ih i
theorem nrVs_len (B:List Nat) (l:List AV):(nrVs B l).length=l.length:=by
  induction l with
  | nil=>rfl
  | cons x r ih=>simp [nrVs,ih]
theorem RVs_nr {ρ:Map} {B:List Nat} {l:List AV} {us:List Value} (h:RVs ρ l us):RVs ρ (nrVs B l) us:=by
  refine ⟨by rw [nrVs_len]; exact h.1,fun i v u hv hu=> ?_⟩
  rw [nrVs_get] at hv
  cases hl:l[i]? with
  | none=>rw [hl] at hv; cases hv
  | some y =>
    rw [hl] at hv
    simp only [Option.map_some,Option.some.injEq] at hv
    subst hv
    exact RV_nr.2 (h.2 i y u hl hu)
theorem lk_nr (B:List Nat) (b:Nat) (h:Heap):lk b (nrH B h)=(lk b h).map fun x=>⟨nrSs B x.segs,x.ty,x.own⟩:=by
  induction h with
  | nil=>rfl
  | cons p q ih =>
    obtain ⟨i,x⟩:=p
    simp only [nrH]
    rw [lk_cons,lk_cons,ih]
    split <;> rfl
theorem HR_nr {N:Nat} {S:Nat→Prop} {ρ:Map} {B:List Nat} {h:Heap} {w:World} (hr:HR N S ρ h w):HR N S ρ (nrH B h) w:=by
  have get:∀ b x,lk b (nrH B h)=some x→∃ y,lk b h=some y∧x=⟨nrSs B y.segs,y.ty,y.own⟩:=by
    intro b x hx
    rw [lk_nr] at hx
    cases hl:lk b h with
    | none=>rw [hl] at hx; cases hx
    | some y =>
      rw [hl] at hx
      simp only [Option.map_some,Option.some.injEq] at hx
      exact ⟨y,rfl,hx.symm⟩
  refine ⟨hr.low,fun b x hb=> ?_,fun b c x y L M hb hc hL hM hne how=> ?_⟩
  · obtain ⟨y,hy,rfl⟩:=get b x hb
    rcases hr.blk b y hy with ⟨h1,h2,h3,h4⟩ | ⟨L,cur,fz,h1,h2,h3,h4,h5,h6,h7⟩
    · exact .inl ⟨h1,h2,(nrSs_len _ _).trans h3,(nrSs_wf _).2 h4⟩
    · exact .inr ⟨L,cur,fz,h1,h2,h3.trans (nrSs_len _ _).symm,h4,h5,RSegs_nr.2 h6,h7⟩
  · obtain ⟨x',hx',rfl⟩:=get b x hb
    obtain ⟨y',hy',rfl⟩:=get c y hc
    exact hr.inj b c x' y' L M hx' hy' hL hM hne how
def outN (B:List Nat) (pins:List Nat) (nilr:Option (Nat × Nat × Blk)) (v:AV) (h:Heap):Option (AV × Heap) :=
  match outH pins nilr v h with
  | some (v,h)=>some (nrV B v,nrH B h)
  | none=>none
theorem outN_sound {N:Nat} {S:Nat→Prop} {ρ:Map} {h:Heap} {w:World} {B pins:List Nat} {nilr:Option (Nat × Nat × Blk)} {v v2:AV} {h2:Heap} {u:Value} (ho:outN B pins nilr v h=some (v2,h2)) (hv:RV ρ v u) (hr:HR N S ρ h w) :
    ∃ ρ2,RV ρ2 v2 u∧HR N S ρ2 h2 w∧∀ b,b<500→ρ2 b=ρ b:=by
  unfold outN at ho
  split at ho
  · rename_i v' h' ho'
    simp only [Option.some.injEq,Prod.mk.injEq] at ho
    obtain ⟨rfl,rfl⟩:=ho
    obtain ⟨ρ2,g1,g2,g3⟩:=outH_sound ho' hv hr
    exact ⟨ρ2,RV_nr.2 g1,HR_nr g2,g3⟩
  · cases ho
section
variable {P:Program} {T:Tys} {O:Orc}
end
def hoN (B:List Nat) (a:List AV→Heap→Option (Bool × AV × Heap)) (x:List AV) (h:Heap):Option (Bool × AV × Heap):=a (nrVs B x) (nrH B h)
theorem hoN_sound {P:Program} {f:FuncId} {B:List Nat} {a:List AV→Heap→Option (Bool × AV × Heap)} (ha:∀ args h v h',a args h=some (true,v,h')→FnH P f args h v h') :
    ∀ args h v h',hoN B a args h=some (true,v,h')→FnH P f args h v h':=by
  intro args h v h' hh N S ρ w us hr hvs
  exact ha _ _ _ _ hh N S ρ w us (HR_nr hr) (RVs_nr hvs)
end Go.Sx
namespace Go.Sx
section
variable {R:Type}
def noKey {α:Type} (b:Nat) (h:List (Nat × α)):Bool :=
  match lk b h with
  | some _=>false
  | none=>true
def nilOut (sid:Nat) (c:Option (Nat × Nat × Blk)) (k:AV→Heap→List Nat→Option R) (v:AV) (h:Heap) (mv:List Nat):Option R :=
  match c with
  | none=>k v h mv
  | some (o,z,blk)=>match lk sid h with
    | some x=>match setNil x.segs o (.sl (sid+500) none 0 z) with
      | some q=>match ((Nat.beq (segsLen blk.segs) 0&&wfB blk.segs)&&(Nat.beq blk.own 2&&noPtr blk.segs))&&((noKey (sid+500) h&&heapFree (sid+500) h) && !v.mentions (sid+500)) with
        | true=>k v ((sid+500,blk)::hset sid ⟨q,x.ty,x.own⟩ h) ((sid+500)::mv)
        | false=>none
      | none=>k v h mv
    | none=>k v h mv
end
def orcN (cfg:List (Nat × (Nat × Nat × Blk))) (O:Orc):Orc:=⟨fun f sid args h k=>O.run f sid args h (nilOut sid (lk f cfg) k)⟩
theorem noKey_spec {α:Type} {b:Nat} {h:List (Nat × α)} (hn:noKey b h=true):lk b h=none:=by
  unfold noKey at hn
  split at hn
  · cases hn
  · assumption
theorem HR_nilB {N:Nat} {S:Nat→Prop} {ρ:Map} {h:Heap} {w:World} {n i o z:Nat} {x blk:Blk} {q:List Seg} (hr:HR N S ρ h w) (hn:ρ n=none) (hx:lk i h=some x) (hq:setNil x.segs o (.sl n none 0 z)=some q)
    (o1:segsLen blk.segs=0) (o2:wfB blk.segs=true) (o3:blk.own=2):HR N S ρ ((n,blk)::hset i ⟨q,x.ty,x.own⟩ h) w:=by
  have cvt:∀ v,RC ρ .nils v→RC ρ (.sl n none 0 z) v:=fun v hv=> .inl ⟨hn,rfl,hv⟩
  have get:∀ b y,lk b ((n,blk)::hset i ⟨q,x.ty,x.own⟩ h)=some y→(b=n∧y=blk)∨(b=i∧y=⟨q,x.ty,x.own⟩)∨(lk b h=some y):=by
    intro b y hb
    rw [lk_cons] at hb
    split at hb
    · rename_i e
      simp only [Option.some.injEq] at hb
      exact .inl ⟨e.symm,hb.symm⟩
    · rw [lk_hset'] at hb
      split at hb
      · rename_i e
        simp only [Option.some.injEq] at hb
        exact .inr (.inl ⟨e,hb.symm⟩)
      · exact .inr (.inr hb)
  have old:∀ b y,lk b ((n,blk)::hset i ⟨q,x.ty,x.own⟩ h)=some y→ρ b≠none→∃ y0,lk b h=some y0∧y0.own=y.own:=by
    intro b y hb hne
    rcases get b y hb with ⟨rfl,rfl⟩ | ⟨rfl,rfl⟩ | h1
    · exact absurd hn hne
    · exact ⟨x,hx,rfl⟩
    · exact ⟨y,h1,rfl⟩
  refine ⟨hr.low,fun b y hb=> ?_,fun b c y y' L M hb hc' hL hM hne ho=> ?_⟩
  · rcases get b y hb with ⟨rfl,rfl⟩ | ⟨rfl,rfl⟩ | h1
    · exact .inl ⟨by rw [o3]; decide,hn,o1,wfB_spec o2⟩
    · rcases hr.blk _ x hx with ⟨h1,h2,h3,h4⟩ | ⟨L,cur,fz,h1,h2,h3,h4,h5,h6,h7,h8⟩
      · obtain ⟨a,b,_⟩:=setNil_key _ _ _ hq
        exact .inl ⟨h1,h2,a.trans h3,b h4⟩
      · obtain ⟨a,b⟩:=setNil_spec cvt hq h6
        exact .inr ⟨L,cur,fz,h1,h2,h3.trans b.symm,h4,h5,a,h7,h8⟩
    · exact hr.blk b y h1
  · obtain ⟨y0,a1,a2⟩:=old b y hb (by rw [hL]; exact fun h=>by cases h)
    obtain ⟨y1,b1,b2⟩:=old c y' hc' (by rw [hM]; exact fun h=>by cases h)
    exact hr.inj b c y0 y1 L M a1 b1 hL hM hne (by rw [a2,b2]; exact ho)
section
variable {P:Program}
theorem orcN_sound {cfg:List (Nat × (Nat × Nat × Blk))} {O:Orc} (hO:OSound P O):OSound P (orcN cfg O):=by
  intro R f sid args h k r hk N S ρ w us hr hn hfree hvs
  obtain ⟨v,h',mv,g1,g2⟩:=hO f sid args h _ r hk N S ρ w us hr hn hfree hvs
  unfold nilOut at g1
  split at g1
  · exact ⟨v,h',mv,g1,g2⟩
  · rename_i o z blk _
    split at g1
    · rename_i x hx
      split at g1
      · rename_i q hq
        split at g1
        · rename_i hok
          simp only [Bool.and_eq_true,Bool.not_eq_true'] at hok
          obtain ⟨⟨⟨o1,o2⟩,o3,o4⟩,⟨o5,o6⟩,o7⟩:=hok
          have o5:=noKey_spec o5
          refine ⟨v,_,_,g1, ?_⟩
          have fin:∀ (ρ':Map) (w':World),HR N S ρ' h' w'→(∀ b,b ∉ mv→(b=sid→true=false)→ρ' b=ρ b)→∃ ρ2:Map,(∀ u,RV ρ' v u→RV ρ2 v u)∧HR N S ρ2 ((sid+500,blk)::hset sid ⟨q,x.ty,x.own⟩ h') w'∧∀ b,b ∉ ((sid+500)::mv)→(b=sid→true=false)→ρ2 b=ρ b:=by
            intro ρ' w' hr' ha
            let ρ2:Map:=fun b=>if b=sid+500 then none else ρ' b
            have ne:∀ b,b≠sid+500→ρ2 b=ρ' b:=fun b hb=>if_neg hb
            have hs:ρ2 (sid+500)=none:=if_pos rfl
            have hr2:HR N S ρ2 h' w':=HR_agree hr' (fun b y hb=>ne b (fun e=>by subst e; rw [o5] at hb; cases hb)) (fun b y c hb hc=>ne c (fun e=>by subst e; rw [heapFree_spec o6 hb] at hc; cases hc))
            refine ⟨ρ2,fun u hu=>RV_agree (fun b hb=>ne b (fun e=>by subst e; rw [o7] at hb; cases hb)) hu,HR_nilB hr2 hs hx hq (beq_true o1) o2 (beq_true o3),fun b hb hc=> ?_⟩
            rw [ne b (fun e=>hb (by rw [e]; exact List.mem_cons_self))]
            exact ha b (fun hm=>hb (List.mem_cons_of_mem _ hm)) hc
          generalize (callFunc f us).run P w=res at g2 ⊢
          unfold Good at g2
          split at g2
          · obtain ⟨ρ',q1,q2,q3,q4⟩:=g2
            obtain ⟨ρ2,a1,a2,a3⟩:=fin ρ' _ q2 q4
            exact ⟨ρ2,a1 _ q1,a2,q3,a3⟩
          · obtain ⟨ρ',q1,q2,q3,q4⟩:=g2
            obtain ⟨ρ2,a1,a2,a3⟩:=fin ρ' _ q2 q4
            exact ⟨ρ2,a1 _ q1,a2,q3,a3⟩
          · refine ⟨g2.1,Calls.mono g2.2 fun e w'' he=> ?_⟩
            obtain ⟨u,ρ',e1,q1,q2,q3,q4⟩:=he
            obtain ⟨ρ2,a1,a2,a3⟩:=fin ρ' _ q2 q4
            exact ⟨u,ρ2,e1,a1 _ q1,a2,q3,a3⟩
          · exact g2.elim
        · cases g1
      · exact ⟨v,h',mv,g1,g2⟩
    · exact ⟨v,h',mv,g1,g2⟩
theorem orcN_det {cfg:List (Nat × (Nat × Nat × Blk))} {O:Orc} (hO:ODet O):ODet (orcN cfg O):=by
  intro R f sid args h k r hk
  obtain ⟨v,h',mv,g1,g2⟩:=hO f sid args h _ r hk
  unfold nilOut at g1
  (repeat' (split at g1)) <;> first
    | (cases g1; done)
    | exact ⟨_,_,_,g1,fun R' k'=>(g2 R' _).trans (by simp only [nilOut, *])⟩
end
end Go.Sx
