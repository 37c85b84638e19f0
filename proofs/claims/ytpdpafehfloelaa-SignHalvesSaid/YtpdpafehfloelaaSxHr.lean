import Derived.Test.YtpdpafehfloelaaSxHp
namespace Go.Sx
section
variable {P:Program} {T:Tys} {O:Orc} {R:Type} {r:R}

theorem avsRen_sound {ρ ρ':Map} {m:List (Nat × Nat)} {as:List AV} {us:List Value} (hm:allL (AV.men m) as=true) (he:∀ b d,lk b m=some d→ρ' d=ρ b) (h:RVs ρ as us):RVs ρ' (avsRen (rn m) as) us:=by
  have key:∀ (as:List AV) (i:Nat),(avsRen (rn m) as)[i]? = (as[i]?).map (AV.ren (rn m)):=by
    intro as
    induction as with
    | nil=>intro i; simp [avsRen]
    | cons x r ih =>
      intro i
      cases i with
      | zero=>simp [avsRen]
      | succ i=>simpa [avsRen] using ih i
  have len:∀ as:List AV,(avsRen (rn m) as).length=as.length:=by
    intro as
    induction as with
    | nil=>rfl
    | cons x r ih=>simp [avsRen,ih]
  refine ⟨h.1.trans (len as).symm,fun i v u hv hu=> ?_⟩
  rw [key] at hv
  cases hx:as[i]? with
  | none=>rw [hx] at hv; cases hv
  | some x =>
    rw [hx] at hv
    simp only [Option.map_some,Option.some.injEq] at hv
    subst hv
    exact RV_to (allL_spec hm x (List.mem_of_getElem? hx)) he (h.2 i x u hx hu)

theorem hoRun_sound {e:HEnt} {f:FuncId} (hh:∀ args h v h',e.run args h=some (true,v,h')→FnH P f args h v h') {sid:Nat} {args:List AV} {H:Heap} {k:AV→Heap→List Nat→Option R} {m:List (Nat × Nat)} (hk:hoRun e sid args H k m (swp m)=some r)
    {N:Nat} {S:Nat→Prop} {ρ:Map} {w:World} {us:Array Value} (hr:HR N S ρ H w) (hsid:lk sid H=none) (hfree:heapFree sid H=true) (hvs:RVs ρ args us.toList) :
    ∃ v h' mv,k v h' mv=some r∧Good P N S ρ sid true mv v h' w ((callFunc f us).run P w):=by
  unfold hoRun at hk
  split at hk
  case h_2=>cases hk
  rename_i hchk
  simp only [Bool.and_eq_true] at hchk
  have hb:=chk_spec hchk.1
  split at hk
  case h_2=>cases hk
  rename_i hc hhc
  split at hk
  rename_i hc' conv hnl
  split at hk
  case h_2=>cases hk
  rename_i c v h' hrun
  split at hk
  case h_2=>cases hk
  have he:∀ b d,lk b (swp m)=some d→cmap ρ m d=ρ b:=fun b d hd=>cmap_some (hb.from hd)
  have hvs':=avsRen_sound hchk.2 he hvs
  have h600:∀ n,nidOf conv h'=some n→lk n m=none:=by
    intro n hn
    rw [hn] at hk
    simp only [hoRet] at hk
    split at hk
    · rename_i hok
      simp only [Bool.and_eq_true] at hok
      have:=hok.2.1
      unfold hasKey at this
      cases hl:lk n m with
      | none=>rfl
      | some x=>rw [hl] at this; cases this
    · cases hk
  have hr1:=HR_nilIn (HR_can hr hb hhc) hnl (fun hconv=>by
    subst hconv
    unfold cmap
    rw [h600 600 rfl])
  have hcall:=hh _ _ _ _ hrun _ _ _ w us hr1 hvs'
  generalize nidOf conv h'=nid at hk h600
  generalize (callFunc f us).run P w=res at hcall
  -- the caller's side, once the callee has ended
  have back:∃ m2 H1 H',m2=m2Of m sid nid∧(∀ n,nid=some n→lk n m=none∧500≤n)∧movOk (movs m) (swp m) H=true∧lay m2 h' m H=some H1∧topOf H' H1 h' m2 sid nid∧v.men m2=true∧k (v.ren (rn m2)) H' (movs m)=some r:=by
    cases nid with
    | none =>
      simp only [hoRet] at hk
      split at hk
      · rename_i hok
        simp only [Bool.and_eq_true] at hok
        split at hk
        · rename_i H1 hl
          exact ⟨m,H1,H1,rfl,fun n hn=>(by cases hn),hok.2,hl,rfl,hok.1,hk⟩
        · cases hk
      · cases hk
    | some n =>
      simp only [hoRet] at hk
      split at hk
      · rename_i hok
        simp only [Bool.and_eq_true] at hok
        split at hk
        · rename_i H1 hl
          split at hk
          · rename_i x hx
            split at hk
            · rename_i hx2
              simp only [Bool.and_eq_true] at hx2
              refine ⟨(n,sid)::m,H1,_,rfl,fun n' hn=> ?_,hok.1.2,hl,⟨x,hx,hx2.1,by have:=blt_true hx2.2; omega,rfl⟩,hok.1.1,hk⟩
              simp only [Option.some.injEq] at hn
              subst hn
              exact ⟨h600 _ rfl,Nat.le_of_ble_eq_true hok.2.2⟩
            · cases hk
          · cases hk
        · cases hk
      · cases hk
  obtain ⟨m2,H1,H',e1,e2,e3,e4,e5,e6,e7⟩:=back
  refine ⟨v.ren (rn m2),H',movs m,e7, ?_⟩
  unfold OutH at hcall
  unfold Good
  split at hcall
  · refine ⟨hcall.1,Calls.mono hcall.2 fun en w'' hen=> ?_⟩
    obtain ⟨u,ρ',g1,g2,g3,g4,g5⟩:=hen
    obtain ⟨ρC,c1,c2,c3,c4⟩:=ho_back (nid:=nid) hr hsid hfree hb hhc g3 g4 g5 e3 e1 e2 e4 e5
    exact ⟨u,ρC,g1,RV_to e6 c1 g2,c3,c4,fun b hb1 hb2=>c2 b hb1 (fun q=>by have:=hb2 q; cases this)⟩
  · exact hcall.elim

theorem orcH_sound {tv:List (Nat × (List AV→Option (Bool × AV)))} {th:List (Nat × HEnt)} (hv:∀ f g,(f,g) ∈ tv→∀ args v,g args=some (true,v)→Fn1 P f args v)
    (hh:∀ f e,(f,e) ∈ th→∀ args h v h',e.run args h=some (true,v,h')→FnH P f args h v h'):OSound P (orcH tv th):=by
  intro R f sid args h k r hk N S ρ w us hr hn hfree hvs
  simp only [orcH] at hk
  split at hk
  · rename_i e he
    split at hk
    · exact hoRun_sound (hh f e (lk_mem he)) hk hr hn hfree hvs
    · cases hk
  · exact orc_sound hv f sid args h k r hk N S ρ w us hr hn hfree hvs

theorem hoRet_det {sid:Nat} {H:Heap} {k:AV→Heap→List Nat→Option R} {m inv:List (Nat × Nat)} {v:AV} {h':Heap} {nid:Option Nat} (hk:hoRet sid H k m inv v h' nid=some r) :
    ∃ v2 h2 mv,k v2 h2 mv=some r∧∀ (R':Type) (k':AV→Heap→List Nat→Option R'),hoRet sid H k' m inv v h' nid=k' v2 h2 mv:=by
  cases nid with
  | none =>
    simp only [hoRet] at hk ⊢
    split at hk
    · split at hk
      · exact ⟨_,_,_,hk,fun R' k'=>by simp only [*]⟩
      · cases hk
    · cases hk
  | some n =>
    simp only [hoRet] at hk ⊢
    split at hk
    · split at hk
      · split at hk
        · split at hk
          · exact ⟨_,_,_,hk,fun R' k'=>by simp only [*]⟩
          · cases hk
        · cases hk
      · cases hk
    · cases hk

theorem orcH_det (tv:List (Nat × (List AV→Option (Bool × AV)))) (th:List (Nat × HEnt)):ODet (orcH tv th):=by
  intro R f sid args h k r hk
  simp only [orcH] at hk ⊢
  cases hf:lk f th with
  | none =>
    rw [hf] at hk
    exact orc_det tv f sid args h k r hk
  | some e =>
    rw [hf] at hk
    simp only at hk ⊢
    cases hfi:find h 1000 (avsCells args) [] with
    | none=>rw [hfi] at hk; cases hk
    | some bs =>
      rw [hfi] at hk
      simp only at hk ⊢
      unfold hoRun at hk ⊢
      split at hk
      case h_2=>cases hk
      rename_i hchk
      split at hk
      case h_2=>cases hk
      rename_i hc hhc
      cases hnl:nilIn e.nl hc with
      | mk hc' conv =>
        rw [hnl] at hk
        simp only at hk
        split at hk
        case h_2=>cases hk
        rename_i c v h' hrun
        split at hk
        case h_2=>cases hk
        obtain ⟨v2,h2,mv,g1,g2⟩:=hoRet_det hk
        refine ⟨v2,h2,mv,g1,fun R' k'=> ?_⟩
        simp only [hnl,hrun]
        exact g2 R' k'
end
end Go.Sx
namespace Go.Sx

def hpick (h:Heap):List Nat→Heap
  | []=>[]
  | b::r=>match lk b h with
    | some x=>(b,x)::hpick h r
    | none=>hpick h r
def heapCells:Heap→List Cell
  | []=>[]
  | (_,x)::r=>segsCells x.segs++heapCells r
def v1sNil:List V1→Nat→Nat→Option (List V1)
  | .cell .nils::r,0,z=>some (.cell (.sl 700 none 0 z)::r)
  | x::r,i+1,z=>match v1sNil r i z with
    | some q=>some (x::q)
    | none=>none
  | _,_,_=>none
def nilV (i z:Nat):AV→Option AV
  | .v (.cell .nils)=>some (.v (.cell (.sl 700 none 0 z)))
  | .tup l=>match v1sNil l i z with
    | some q=>some (.tup q)
    | none=>none
  | _=>none
def selfs:List Nat→List (Nat × Nat)
  | []=>[]
  | b::r=>(b,b)::selfs r
def heapRen (m:List (Nat × Nat)):Heap→Option Heap
  | []=>some []
  | (b,x)::r=>match segsMen m x.segs with
    | true=>match heapRen m r with
      | some q=>some ((b,x.ren (rn m))::q)
      | none=>none
    | false=>none
def outH (pins:List Nat) (nilr:Option (Nat × Nat × Blk)) (v:AV) (h:Heap):Option (AV × Heap) :=
  match find h 1000 (v.cells'++heapCells (hpick h pins)) pins with
  | none=>none
  | some bs=>match bs.drop pins.length with
    | []=>match nilr with
      | none=>some (v,hpick h pins)
      | some (i,z,blk)=>match nilV i z v with
        | some v'=>match ((Nat.beq (segsLen blk.segs) 0&&wfB blk.segs)&&(Nat.beq blk.own 2&&noPtr blk.segs))&&((heapFree 700 (hpick h pins) && !v.mentions 700) && !memB 700 pins) with
          | true=>some (v',hpick h pins++[(700,blk)])
          | false=>none
        | none=>some (v,hpick h pins)
    | n::q=>match q with
      | []=>match (v.men ((n,700)::selfs pins) && !memB 700 pins) && !memB n pins with
        | true=>match heapRen ((n,700)::selfs pins) (hpick h pins),lk n h with
          | some h1,some x=>match segsMen ((n,700)::selfs pins) x.segs with
            | true=>some (v.ren (rn ((n,700)::selfs pins)),h1++[(700,x.ren (rn ((n,700)::selfs pins)))])
            | false=>none
          | _,_=>none
        | false=>none
      | _=>none

theorem memB_spec {b:Nat} {l:List Nat} (h:memB b l=false):b ∉ l:=by
  induction l with
  | nil=>simp
  | cons c r ih =>
    unfold memB at h
    split at h
    · cases h
    · rename_i hc
      intro hm
      cases hm with
      | head=>simp [Nat.beq_refl] at hc
      | tail _ hm=>exact ih h hm
theorem hpick_spec {h:Heap} {l:List Nat} {b:Nat} {x:Blk} (hx:lk b (hpick h l)=some x):lk b h=some x∧b ∈ l:=by
  induction l with
  | nil=>simp [hpick,lk] at hx
  | cons c r ih =>
    simp only [hpick] at hx
    split at hx
    · rename_i y hy
      rw [lk_cons] at hx
      split at hx
      · rename_i e
        simp only [Option.some.injEq] at hx
        subst e; subst hx
        exact ⟨hy,List.mem_cons_self⟩
      · obtain ⟨a,b⟩:=ih hx
        exact ⟨a,List.mem_cons_of_mem _ b⟩
    · obtain ⟨a,b⟩:=ih hx
      exact ⟨a,List.mem_cons_of_mem _ b⟩
theorem HR_sub {N:Nat} {S:Nat→Prop} {ρ:Map} {h h2:Heap} {w:World} (hr:HR N S ρ h w) (hs:∀ b x,lk b h2=some x→lk b h=some x):HR N S ρ h2 w :=
  ⟨hr.low,fun b x hb=>hr.blk b x (hs b x hb),fun b c x y L M hb hc hL hM hne ho=>hr.inj b c x y L M (hs b x hb) (hs c y hc) hL hM hne ho⟩
theorem HR_ren {N:Nat} {S:Nat→Prop} {ρ ρ2:Map} {h h2:Heap} {w:World} {m:List (Nat × Nat)} (hr:HR N S ρ h w) (hρ:∀ b d,lk b m=some d→ρ2 d=ρ b)
    (hinj:∀ b c d,lk b m=some d→lk c m=some d→b=c) (hs:∀ c y,lk c h2=some y→∃ b x,lk b m=some c∧lk b h=some x∧segsMen m x.segs=true∧y=x.ren (rn m)):HR N S ρ2 h2 w:=by
  refine ⟨hr.low,fun c y hc=> ?_,fun c d y z L M hc hd hL hM hne ho=> ?_⟩
  · obtain ⟨b,x,h1,h2,h3,rfl⟩:=hs c y hc
    rcases hr.blk b x h2 with ⟨q1,q2,q3,q4⟩ | ⟨L,cur,fz,q1,q2,q3,q4,q5,q6,q7⟩
    · exact .inl ⟨q1,(hρ b c h1).trans q2,(segsLen_ren _ _).trans q3,(segsWf_ren _).2 q4⟩
    · exact .inr ⟨L,cur,fz,(hρ b c h1).trans q1,q2,q3.trans (segsLen_ren _ _).symm,q4,q5,RSegs_to h3 hρ q6,q7⟩
  · obtain ⟨b,x,h1,h2,h3,rfl⟩:=hs c y hc
    obtain ⟨b',x',h1',h2',h3',rfl⟩:=hs d z hd
    rw [hρ b c h1] at hL
    rw [hρ b' d h1'] at hM
    refine hr.inj b b' x x' L M h2 h2' hL hM (fun e=> ?_) ho
    subst e
    rw [h1] at h1'
    exact hne (Option.some.inj h1')
theorem heapRen_spec {m:List (Nat × Nat)} {h q:Heap} (hq:heapRen m h=some q) {c:Nat} {y:Blk} (hy:lk c q=some y):∃ x,lk c h=some x∧segsMen m x.segs=true∧y=x.ren (rn m):=by
  induction h generalizing q with
  | nil =>
    simp only [heapRen,Option.some.injEq] at hq
    subst hq
    simp [lk] at hy
  | cons p r ih =>
    obtain ⟨b,x⟩:=p
    simp only [heapRen] at hq
    split at hq
    · rename_i hm
      split at hq
      · rename_i q' hq'
        simp only [Option.some.injEq] at hq
        subst hq
        rw [lk_cons] at hy
        split at hy
        · rename_i e
          simp only [Option.some.injEq] at hy
          subst e; subst hy
          exact ⟨x,by rw [lk_cons,if_pos rfl],hm,rfl⟩
        · rename_i e
          obtain ⟨x',h1,h2⟩:=ih hq' hy
          exact ⟨x',by rw [lk_cons,if_neg e]; exact h1,h2⟩
      · cases hq
    · cases hq
theorem lk_selfs {l:List Nat} {b d:Nat} (h:lk b (selfs l)=some d):b=d∧b ∈ l:=by
  induction l with
  | nil=>simp [selfs,lk] at h
  | cons c r ih =>
    simp only [selfs] at h
    rw [lk_cons] at h
    split at h
    · rename_i e
      simp only [Option.some.injEq] at h
      subst e; subst h
      exact ⟨rfl,List.mem_cons_self⟩
    · obtain ⟨a,b⟩:=ih h
      exact ⟨a,List.mem_cons_of_mem _ b⟩
theorem lk_selfs_mem {l:List Nat} {b:Nat} (h:b ∈ l):lk b (selfs l)=some b:=by
  induction l with
  | nil=>cases h
  | cons c r ih =>
    simp only [selfs]
    rw [lk_cons]
    by_cases e:c=b
    · rw [if_pos e,e]
    · rw [if_neg e]
      cases h with
      | head=>exact absurd rfl e
      | tail _ h=>exact ih h
theorem v1sNil_spec {ρ:Map} (hn:ρ 700=none) {l q:List V1} {i z:Nat} (h:v1sNil l i z=some q):q.length=l.length∧∀ (j:Nat) y,q[j]? = some y→∃ x,l[j]? = some x∧∀ u,RV1 ρ x u→RV1 ρ y u:=by
  induction l generalizing q i with
  | nil=>simp [v1sNil] at h
  | cons s r ih =>
    cases i with
    | zero =>
      have:s= .cell .nils∧q= .cell (.sl 700 none 0 z)::r:=by
        cases s with
        | cell c=>cases c <;> first | (simp only [v1sNil,Option.some.injEq] at h; exact ⟨rfl,h.symm⟩) | (simp [v1sNil] at h)
        | agg l=>simp [v1sNil] at h
      obtain ⟨rfl,rfl⟩:=this
      refine ⟨rfl,fun j y hy=> ?_⟩
      cases j with
      | zero =>
        simp only [List.getElem?_cons_zero,Option.some.injEq] at hy
        subst hy
        exact ⟨_,rfl,fun u hu=> .inl ⟨hn,rfl,hu⟩⟩
      | succ j=>exact ⟨y,by simpa using hy,fun u hu=>hu⟩
    | succ i =>
      simp only [v1sNil] at h
      split at h
      · rename_i q' hq
        simp only [Option.some.injEq] at h
        subst h
        obtain ⟨g1,g2⟩:=ih hq
        refine ⟨by simp [g1],fun j y hy=> ?_⟩
        cases j with
        | zero=>exact ⟨s,rfl,by simp only [List.getElem?_cons_zero,Option.some.injEq] at hy; subst hy; exact fun u hu=>hu⟩
        | succ j=>exact g2 j y (by simpa using hy)
      · cases h
theorem nilV_spec {ρ:Map} (hn:ρ 700=none) {v v':AV} {i z:Nat} (h:nilV i z v=some v') {u:Value} (hv:RV ρ v u):RV ρ v' u:=by
  unfold nilV at h
  split at h
  · simp only [Option.some.injEq] at h
    subst h
    exact .inl ⟨hn,rfl,hv⟩
  · split at h
    · rename_i q hq
      simp only [Option.some.injEq] at h
      subst h
      obtain ⟨vs,e1,e2,e3⟩:=hv
      obtain ⟨g1,g2⟩:=v1sNil_spec hn hq
      refine ⟨vs,e1,by rw [e2,g1],fun j y hy=> ?_⟩
      obtain ⟨x,hx,hxy⟩:=g2 j y hy
      obtain ⟨w,hw,hr⟩:=e3 j x hx
      exact ⟨w,hw,hxy w hr⟩
    · cases h
  · cases h

theorem outH_sound {N:Nat} {S:Nat→Prop} {ρ:Map} {h:Heap} {w:World} {pins:List Nat} {nilr:Option (Nat × Nat × Blk)} {v v2:AV} {h2:Heap} {u:Value} (ho:outH pins nilr v h=some (v2,h2)) (hv:RV ρ v u) (hr:HR N S ρ h w) :
    ∃ ρ2,RV ρ2 v2 u∧HR N S ρ2 h2 w∧∀ b,b<500→ρ2 b=ρ b:=by
  have sub:=HR_sub (h2:=hpick h pins) hr fun b x hb=>(hpick_spec hb).1
  unfold outH at ho
  split at ho
  · cases ho
  · split at ho
    · split at ho
      · simp only [Option.some.injEq,Prod.mk.injEq] at ho
        obtain ⟨rfl,rfl⟩:=ho
        exact ⟨ρ,hv,sub,fun _ _=>rfl⟩
      · rename_i i z blk
        split at ho
        · rename_i v' hv'
          split at ho
          · rename_i hok
            simp only [Option.some.injEq,Prod.mk.injEq] at ho
            obtain ⟨rfl,rfl⟩:=ho
            simp only [Bool.and_eq_true,Bool.not_eq_true'] at hok
            obtain ⟨⟨⟨o1,o2⟩,o3,o4⟩,⟨o5,o6⟩,o7⟩:=hok
            have ne:∀ b,b≠700→(fun b=>if b=700 then none else ρ b:Map) b=ρ b:=fun b hb=>if_neg hb
            have sub':HR N S (fun b=>if b=700 then none else ρ b:Map) (hpick h pins) w:=HR_agree sub (fun b x hb=>ne b (fun e=>memB_spec o7 (e ▸ (hpick_spec hb).2))) (fun b x c hb hc=>ne c (fun e=>by
              subst e
              rw [heapFree_spec o5 hb] at hc
              cases hc))
            refine ⟨fun b=>if b=700 then none else ρ b,nilV_spec (if_pos rfl) hv' (RV_agree (fun b hb=>ne b (fun e=>by subst e; rw [o6] at hb; cases hb)) hv), ?_,fun b hb=>ne b (by omega)⟩
            refine ⟨sub'.low,fun b x hb=> ?_,fun b c x y L M hb hc hL hM hne ho=> ?_⟩
            · rcases lk_app hb with h1 | ⟨_,h1⟩
              · exact sub'.blk b x h1
              · rw [lk_cons] at h1
                split at h1
                · rename_i e
                  simp only [Option.some.injEq] at h1
                  subst e; subst h1
                  exact .inl ⟨by rw [beq_true o3]; decide,if_pos rfl,beq_true o1,wfB_spec o2⟩
                · simp [lk] at h1
            · have old:∀ b x L,lk b (hpick h pins++[(700,blk)])=some x→(fun b=>if b=700 then none else ρ b:Map) b=some L→lk b (hpick h pins)=some x:=by
                intro b x L hb hL
                rcases lk_app hb with h1 | ⟨_,h1⟩
                · exact h1
                · rw [lk_cons] at h1
                  split at h1
                  · rename_i e
                    subst e
                    simp at hL
                  · simp [lk] at h1
              exact sub'.inj b c x y L M (old b x L hb hL) (old c y M hc hM) hL hM hne ho
          · cases ho
        · simp only [Option.some.injEq,Prod.mk.injEq] at ho
          obtain ⟨rfl,rfl⟩:=ho
          exact ⟨ρ,hv,sub,fun _ _=>rfl⟩
    · rename_i n q _
      split at ho
      · split at ho
        · rename_i hok
          simp only [Bool.and_eq_true,Bool.not_eq_true'] at hok
          obtain ⟨⟨o1,o2⟩,o3⟩:=hok
          split at ho
          · rename_i h1 x hh1 hx
            split at ho
            · rename_i hxm
              simp only [Option.some.injEq,Prod.mk.injEq] at ho
              obtain ⟨rfl,rfl⟩:=ho
              have hρ:∀ b d,lk b ((n,700)::selfs pins)=some d→(fun b=>if b=700 then ρ n else ρ b:Map) d=ρ b:=by
                intro b d hb
                rw [lk_cons] at hb
                split at hb
                · rename_i e
                  simp only [Option.some.injEq] at hb
                  subst e; subst hb
                  exact if_pos rfl
                · obtain ⟨rfl,hm⟩:=lk_selfs hb
                  exact if_neg (fun (e:b=700)=>memB_spec o2 (by rw [← e]; exact hm))
              refine ⟨fun b=>if b=700 then ρ n else ρ b,RV_to o1 hρ hv,HR_ren (m:=(n,700)::selfs pins) hr hρ (fun b c d hb hc=> ?_) (fun c y hc=> ?_),fun b hb=>if_neg (by omega)⟩
              · rw [lk_cons] at hb hc
                split at hb <;> split at hc
                · rename_i e1 e2; exact e1.symm.trans e2
                · obtain ⟨rfl,hm⟩:=lk_selfs hc
                  simp only [Option.some.injEq] at hb
                  subst hb
                  exact absurd hm (memB_spec o2)
                · obtain ⟨rfl,hm⟩:=lk_selfs hb
                  simp only [Option.some.injEq] at hc
                  subst hc
                  exact absurd hm (memB_spec o2)
                · exact (lk_selfs hb).1.trans (lk_selfs hc).1.symm
              · rcases lk_app hc with g | ⟨_,g⟩
                · obtain ⟨x',e1,e2,rfl⟩:=heapRen_spec hh1 g
                  obtain ⟨f1,f2⟩:=hpick_spec e1
                  exact ⟨c,x',by rw [lk_cons,if_neg (fun (e:n=c)=>memB_spec o3 (by rw [e]; exact f2))]; exact lk_selfs_mem f2,f1,e2,rfl⟩
                · rw [lk_cons] at g
                  split at g
                  · rename_i e
                    simp only [Option.some.injEq] at g
                    subst e; subst g
                    exact ⟨n,x,by rw [lk_cons,if_pos rfl],hx,hxm,rfl⟩
                  · simp [lk] at g
            · cases ho
          · cases ho
        · cases ho
      · cases ho

section
variable {P:Program} {T:Tys} {O:Orc}
end
end Go.Sx
