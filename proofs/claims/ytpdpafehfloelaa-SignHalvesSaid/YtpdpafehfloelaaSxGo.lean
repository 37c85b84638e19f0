import Derived.Test.YtpdpafehfloelaaSxW2
import Derived.Scope
namespace Go.Sx

section
variable {R:Type}

def keepF (an:Ann) (c:Code) (s:St):St :=
  match firstReg c with
  | some i=>keep an i s
  | none=>s

def isCut (cut:List Nat) (c:Code):Bool :=
  match firstReg c with
  | some i=>anyB (Nat.beq i) cut
  | none=>false

def goC (an:Ann) (b:Bool) (t:St→Option R) (c:Code) (f:St→Option R) (s:St):Option R :=
  match b with
  | true=>t (keepF an c s)
  | false=>f s

def codeN (A:Ar) (T:Tys) (O:Orc) (an:Ann) (cut:List Nat) (tbl:List Bool→St→Option R):List Bool→Code→(Ex→St→Option R)→St→Option R
  | _,.skip,K,s=>K .normal s
  | _,.region id ops draw,K,s=>match draw with
    | false=>opsD A T O ops.toList ((id+1)*1000) ops.toList (keep an id s) (K .normal)
    | true=>match drawOk ops (tabOf [] ops.toList) with
      | true=>drawD A T O ops (tabOf [] ops.toList) ((id+1)*1000) 0 ops.toList (keep an id s) (keep an id s).hp [] none (K .normal)
      | false=>none
  | p,.seq a b,K,s=>codeN A T O an cut tbl (false::p) a (seqC (goC an (isCut cut b) (tbl (true::p)) b (codeN A T O an cut tbl (true::p) b K)) K) s
  | p,.cond c a b,K,s=>match ev s c with
    | some (.v (.cell (.bool t)))=>match t with
      | true=>codeN A T O an cut tbl (false::p) a K s
      | false=>codeN A T O an cut tbl (true::p) b K s
    | _=>none
  | p,.block id c,K,s=>codeN A T O an cut tbl (false::p) c (blockK id K) s
  | p,.loop c,_,s=>tbl (false::p) (keepF an c s)
  | _,.exit i,K,s=>K (.exit i) s
  | _,.label _,K,s=>K .normal s
  | p,.scope c,K,s=>codeN A T O an cut tbl (false::p) c K s
  | _,.ret,K,s=>K .ret s
  | _,_,_,_=>none

def posN (A:Ar) (T:Tys) (O:Orc) (an:Ann) (cut:List Nat) (tbl:List Bool→St→Option R) (body:Code) (K0:Ex→St→Option R):List Bool→Option (Code × (Ex→St→Option R))
  | []=>some (body,K0)
  | d::p=>match posN A T O an cut tbl body K0 p with
    | some (c,K)=>match c with
      | .seq a b=>match d with
        | true=>some (b,K)
        | false=>some (a,seqC (goC an (isCut cut b) (tbl (true::p)) b (codeN A T O an cut tbl (true::p) b K)) K)
      | .cond _ a b=>match d with
        | true=>some (b,K)
        | false=>some (a,K)
      | .block id c=>some (c,blockK id K)
      | .loop c=>match d with
        | true=>none
        | false=>some (c,seqC (fun s=>tbl (false::p) (keepF an c s)) K)
      | .scope c=>some (c,K)
      | _=>none
    | none=>none

def nodeN (A:Ar) (T:Tys) (O:Orc) (an:Ann) (cut:List Nat) (tbl:List Bool→St→Option R) (body:Code) (K0:Ex→St→Option R) (p:List Bool) (s:St):Option R :=
  match posN A T O an cut tbl body K0 p with
  | some (c,K)=>codeN A T O an cut tbl p c K s
  | none=>none

def goD (A:Ar) (T:Tys) (O:Orc) (an:Ann) (cut:List Nat) (body:Code) (K0:Ex→St→Option R):Nat→List Bool→St→Option R
  | 0,_,_=>none
  | m+1,p,s=>nodeN A T O an cut (goD A T O an cut body K0 m) body K0 p s

section det
variable {A:Ar} {T:Tys} {O:Orc} {r:R}

theorem wantD_det' {ops:List Oper} {o:Oper} {s:St} {k:Bool→Option R} (hk:wantD ops o s k=some r):∃ b,k b=some r∧∀ (R':Type) (k':Bool→Option R'),wantD ops o s k'=k' b:=by
  unfold wantD at hk
  (repeat' (split at hk)) <;> first
    | (cases hk; done)
    | exact ⟨_,hk,fun R' k'=>by simp only [wantD, *]⟩

theorem opsD_det (hD:ODet O) {ops:List Oper} (l:List Oper):∀ (sid:Nat) (s:St) (k:St→Option R),opsD A T O ops sid l s k=some r→∃ s',k s'=some r∧∀ k':St→Option R,opsD A T O ops sid l s k'=k' s':=by
  induction l with
  | nil=>intro sid s k hk; exact ⟨s,hk,fun k'=>rfl⟩
  | cons o l ih =>
    intro sid s k hk
    simp only [opsD] at hk
    obtain ⟨b,h1,h2⟩:=wantD_det' hk
    cases b with
    | true =>
      obtain ⟨v,h,mv,g1,g2⟩:=opE_det hD h1
      split at g1
      · rename_i hp
        rw [force_eq] at g1
        obtain ⟨s',e1,e2⟩:=ih _ _ _ g1
        refine ⟨s',e1,fun k'=> ?_⟩
        simp only [opsD]
        rw [h2]
        simp only [opD]
        rw [g2]
        simp only [hp,force_eq]
        exact e2 k'
      · cases g1
    | false =>
      obtain ⟨s',e1,e2⟩:=ih _ _ _ h1
      refine ⟨s',e1,fun k'=> ?_⟩
      simp only [opsD]
      rw [h2]
      exact e2 k'

theorem lightD_det (hD:ODet O) {ops:Array Oper} {sid:Nat} {o:Oper} {s:St} {he:Heap} {k:AV→Option Blk→Option R} (hk:lightD A T O ops sid o s he k=some r):∃ v nb,k v nb=some r∧∀ k':AV→Option Blk→Option R,lightD A T O ops sid o s he k'=k' v nb:=by
  rw [lightD_eq] at hk
  obtain ⟨b,h1,h2⟩:=wantD_det' hk
  cases b with
  | false=>exact ⟨_,_,h1,fun k'=>by rw [lightD_eq,h2]⟩
  | true =>
    obtain ⟨v,h',mv,g1,g2⟩:=opE_det hD h1
    obtain ⟨nb,e1,_,e3,_⟩:=lightK_spec g1
    exact ⟨v,nb,e1,fun k'=>by rw [lightD_eq,h2]; simp only; rw [g2]; exact e3 _ k'⟩

theorem drawD_det (hD:ODet O) {ops:Array Oper} {tab:List Nat} {base:Nat} (l:List Oper):∀ (i:Nat) (s:St) (he:Heap) (grp:List Nat) (g:Option Gt) (k:St→Option R),drawD A T O ops tab base i l s he grp g k=some r→∃ s',k s'=some r∧∀ k':St→Option R,drawD A T O ops tab base i l s he grp g k'=k' s':=by
  induction l with
  | nil=>intro i s he grp g k hk; exact ⟨s,hk,fun k'=>rfl⟩
  | cons o l ih =>
    intro i s he grp g k hk
    simp only [drawD] at hk
    split at hk
    · rename_i hb
      obtain ⟨b,h1,h2⟩:=wantD_det' hk
      cases b with
      | true =>
        obtain ⟨v,h,mv,g1,g2⟩:=opE_det hD h1
        split at g1
        · rename_i hp
          rw [force_eq] at g1
          obtain ⟨s',e1,e2⟩:=ih _ _ _ _ _ _ g1
          refine ⟨s',e1,fun k'=> ?_⟩
          simp only [drawD,hb]
          rw [h2]
          simp only [opD]
          rw [g2]
          simp only [hp,force_eq]
          exact e2 k'
        · cases g1
      | false =>
        obtain ⟨s',e1,e2⟩:=ih _ _ _ _ _ _ h1
        refine ⟨s',e1,fun k'=> ?_⟩
        simp only [drawD,hb]
        rw [h2]
        exact e2 k'
    · rename_i hb
      split at hk
      · rename_i hg
        split at hk
        · rename_i hc
          obtain ⟨b,h1,h2⟩:=wantD_det' hk
          cases b with
          | true =>
            obtain ⟨v,h,mv,g1,g2⟩:=opE_det hD h1
            split at g1
            · split at g1
              · rename_i ho
                rw [force_eq] at g1
                obtain ⟨s',e1,e2⟩:=ih _ _ _ _ _ _ g1
                refine ⟨s',e1,fun k'=> ?_⟩
                simp only [drawD,hb,hg,hc]
                rw [h2]
                simp only [opD]
                rw [g2]
                simp only [ho,force_eq]
                exact e2 k'
              · cases g1
            · cases g1
          | false =>
            obtain ⟨s',e1,e2⟩:=ih _ _ _ _ _ _ h1
            refine ⟨s',e1,fun k'=> ?_⟩
            simp only [drawD,hb,hg,hc]
            rw [h2]
            exact e2 k'
        · cases hk
      · rename_i hg
        have second:lightD A T O ops (base+i) o s (heL base (tab.getD i 0) grp s.hp he) (fun v nb=>match menOk base (tab.getD i 0) v nb grp with
          | true=>force (isG ops.toList o.dst ops.toList) v fun v=>drawD A T O ops tab base (i+1) l (put s o.dst v (consNb (base+i) nb s.hp)) he (i::grp) g k
          | false=>none)=some r→∃ s',k s'=some r∧∀ k':St→Option R,lightD A T O ops (base+i) o s (heL base (tab.getD i 0) grp s.hp he) (fun v nb=>match menOk base (tab.getD i 0) v nb grp with
          | true=>force (isG ops.toList o.dst ops.toList) v fun v=>drawD A T O ops tab base (i+1) l (put s o.dst v (consNb (base+i) nb s.hp)) he (i::grp) g k'
          | false=>none)=k' s':=by
          intro hk
          obtain ⟨v,nb,h1,h2⟩:=lightD_det hD hk
          split at h1
          · rename_i hm
            rw [force_eq] at h1
            obtain ⟨s',e1,e2⟩:=ih _ _ _ _ _ _ h1
            refine ⟨s',e1,fun k'=> ?_⟩
            rw [h2]
            simp only [hm,force_eq]
            exact e2 k'
          · cases h1
        rcases g with _ | gt
        · simp only at hk
          obtain ⟨s',e1,e2⟩:=second hk
          refine ⟨s',e1,fun k'=> ?_⟩
          simp only [drawD,hb,hg]
          exact e2 k'
        · simp only at hk
          split at hk
          · rename_i he2
            obtain ⟨v,nb,h1,h2⟩:=lightD_det hD hk
            split at h1
            · split at h1
              · rename_i hm
                rw [force_eq] at h1
                obtain ⟨s',e1,e2⟩:=ih _ _ _ _ _ _ h1
                refine ⟨s',e1,fun k'=> ?_⟩
                simp only [drawD,hb,hg,he2]
                rw [h2]
                simp only [hm,force_eq]
                exact e2 k'
              · cases h1
            · cases h1
          · rename_i he2
            obtain ⟨s',e1,e2⟩:=second hk
            refine ⟨s',e1,fun k'=> ?_⟩
            simp only [drawD,hb,hg,he2]
            exact e2 k'

def Le {α:Type} (f g:α→Option R):Prop:=∀ x r,f x=some r→g x=some r
def LeK (K K':Ex→St→Option R):Prop:=∀ e s r,K e s=some r→K' e s=some r
def LeT (t t':List Bool→St→Option R):Prop:=∀ p s r,t p s=some r→t' p s=some r

theorem LeK.seqC {f f':St→Option R} {K K':Ex→St→Option R} (h:LeK K K') (hf:∀ s r,f s=some r→f' s=some r):LeK (seqC f K) (seqC f' K'):=by
  intro e s r hh
  cases e with
  | normal=>exact hf s r hh
  | exit i=>exact h (.exit i) s r hh
  | ret=>exact h .ret s r hh
theorem LeK.blockK {i:Nat} {K K':Ex→St→Option R} (h:LeK K K'):LeK (blockK i K) (blockK i K'):=by
  intro e s r hh
  cases e with
  | normal=>exact h .normal s r hh
  | exit j =>
    unfold Sx.blockK at hh ⊢
    simp only at hh ⊢
    split at hh
    · exact h _ _ _ hh
    · exact h _ _ _ hh
  | ret=>exact h .ret s r hh
theorem goC_le {an:Ann} {b:Bool} {t t':St→Option R} {c:Code} {f f':St→Option R} (ht:∀ s r,t s=some r→t' s=some r) (hf:∀ s r,f s=some r→f' s=some r):∀ s r,goC an b t c f s=some r→goC an b t' c f' s=some r:=by
  intro s r h
  cases b with
  | true=>exact ht _ _ h
  | false=>exact hf _ _ h

theorem codeN_le (hD:ODet O) {an:Ann} {cut:List Nat} {t t':List Bool→St→Option R} (ht:LeT t t') (c:Code):∀ (p:List Bool) (K K':Ex→St→Option R),LeK K K'→∀ s r,codeN A T O an cut t p c K s=some r→codeN A T O an cut t' p c K' s=some r:=by
  induction c with
  | skip=>intro p K K' hK s r h; exact hK _ _ _ h
  | label l=>intro p K K' hK s r h; exact hK _ _ _ h
  | exit i=>intro p K K' hK s r h; exact hK _ _ _ h
  | ret=>intro p K K' hK s r h; exact hK _ _ _ h
  | region id ops draw =>
    intro p K K' hK s r h
    simp only [codeN] at h ⊢
    split at h
    · obtain ⟨s',h1,h2⟩:=opsD_det hD _ _ _ _ h
      rw [h2]; exact hK _ _ _ h1
    · split at h
      · obtain ⟨s',h1,h2⟩:=drawD_det hD _ _ _ _ _ _ _ h
        rw [h2]; exact hK _ _ _ h1
      · cases h
  | seq a b iha ihb =>
    intro p K K' hK s r h
    simp only [codeN] at h ⊢
    exact iha _ _ _ (hK.seqC (goC_le (fun s r=>ht _ s r) (fun s r=>ihb _ _ _ hK s r))) _ _ h
  | cond x a b iha ihb =>
    intro p K K' hK s r h
    simp only [codeN] at h ⊢
    split at h
    · split at h
      · exact iha _ _ _ hK _ _ h
      · exact ihb _ _ _ hK _ _ h
    · cases h
  | block id c ih=>intro p K K' hK s r h; exact ih _ _ _ hK.blockK _ _ h
  | loop c ih=>intro p K K' hK s r h; exact ht _ _ _ h
  | scope c ih=>intro p K K' hK s r h; exact ih _ _ _ hK _ _ h
  | _=>intro p K K' hK s r h; simp [codeN] at h

theorem posN_le (hD:ODet O) {an:Ann} {cut:List Nat} {t t':List Bool→St→Option R} (ht:LeT t t') {body:Code} {K0:Ex→St→Option R}:∀ (p:List Bool) (c:Code) (K:Ex→St→Option R),posN A T O an cut t body K0 p=some (c,K)→∃ K',posN A T O an cut t' body K0 p=some (c,K')∧LeK K K':=by
  intro p
  induction p with
  | nil =>
    intro c K h
    simp only [posN,Option.some.injEq,Prod.mk.injEq] at h
    obtain ⟨rfl,rfl⟩:=h
    exact ⟨_,rfl,fun _ _ _ h=>h⟩
  | cons d p ih =>
    intro c K h
    simp only [posN] at h ⊢
    split at h
    · rename_i c0 K1 h0
      obtain ⟨K1',g1,g2⟩:=ih _ _ h0
      rw [g1]
      cases c0 with
      | seq a b =>
        cases d with
        | true =>
          simp only [Option.some.injEq,Prod.mk.injEq] at h ⊢
          obtain ⟨rfl,rfl⟩:=h
          exact ⟨_,⟨rfl,rfl⟩,g2⟩
        | false =>
          simp only [Option.some.injEq,Prod.mk.injEq] at h ⊢
          obtain ⟨rfl,rfl⟩:=h
          exact ⟨_,⟨rfl,rfl⟩,g2.seqC (goC_le (fun s r=>ht _ s r) (fun s r=>codeN_le hD ht _ _ _ _ g2 s r))⟩
      | cond x a b =>
        cases d <;>
        · simp only [Option.some.injEq,Prod.mk.injEq] at h ⊢
          obtain ⟨rfl,rfl⟩:=h
          exact ⟨_,⟨rfl,rfl⟩,g2⟩
      | block id c =>
        simp only [Option.some.injEq,Prod.mk.injEq] at h ⊢
        obtain ⟨rfl,rfl⟩:=h
        exact ⟨_,⟨rfl,rfl⟩,g2.blockK⟩
      | loop c =>
        cases d with
        | true=>cases h
        | false =>
          simp only [Option.some.injEq,Prod.mk.injEq] at h ⊢
          obtain ⟨rfl,rfl⟩:=h
          exact ⟨_,⟨rfl,rfl⟩,g2.seqC (fun s r=>ht _ _ r)⟩
      | scope c =>
        simp only [Option.some.injEq,Prod.mk.injEq] at h ⊢
        obtain ⟨rfl,rfl⟩:=h
        exact ⟨_,⟨rfl,rfl⟩,g2⟩
      | _=>cases h
    · cases h

theorem goD_le1 (hD:ODet O) {an:Ann} {cut:List Nat} {body:Code} {K0:Ex→St→Option R} (m:Nat):LeT (goD A T O an cut body K0 m) (goD A T O an cut body K0 (m+1)):=by
  induction m with
  | zero=>intro p s r h; cases h
  | succ m ih =>
    intro p s r h
    simp only [goD] at h
    show nodeN A T O an cut (goD A T O an cut body K0 (m+1)) body K0 p s=some r
    unfold nodeN at h ⊢
    split at h
    · rename_i c K hc
      obtain ⟨K',g1,g2⟩:=posN_le hD ih _ _ _ hc
      rw [g1]
      exact codeN_le hD ih _ _ _ _ g2 _ _ h
    · cases h
theorem goD_le (hD:ODet O) {an:Ann} {cut:List Nat} {body:Code} {K0:Ex→St→Option R} {m n:Nat} (h:m≤n):LeT (goD A T O an cut body K0 m) (goD A T O an cut body K0 n):=by
  induction h with
  | refl=>exact fun _ _ _ h=>h
  | step _ ih=>exact fun p s r h=>goD_le1 hD _ _ _ _ (ih _ _ _ h)
end det
end

section
variable {P:Program} {T:Tys} {O:Orc} {N:Nat} {S:Nat→Prop} {ρ₀:Map} {w₀:World} {nt:Nat} {R:Type} {r:R}

theorem Rel.drewG {ρ:Map} {s:St} {a:Act} {w w':World} (h:Rel N S ρ₀ w₀ nt ρ s a w) (hh:w'.heap=w.heap) (h1:w'.os=w.os) (h2:w'.tape=w.tape) (h3:w'.output=w.output):Rel N S ρ₀ w₀ nt ρ s a w' :=
  ⟨HR_drewN h.hr hh,h.sl,h.sz,h.df,⟨h1.trans h.fr.os,h2.trans h.fr.tape,h3.trans h.fr.output,by rw [hh]; exact h.fr.size,fun k hk hs=>by rw [hh]; exact h.fr.block k hk hs⟩,h.pin⟩

theorem Rel.keepF {ρ:Map} {s:St} {a:Act} {w:World} (h:Rel N S ρ₀ w₀ nt ρ s a w) (an:Ann) (c:Code):Rel N S ρ₀ w₀ nt ρ (keepF an c s) a w:=by
  unfold Sx.keepF
  split
  · exact h.keep an _
  · exact h

theorem post_le {K K':Ex→St→Option R} (h:LeK K K') {e:Exit} {a:Act} {w:World} (hp:Post N S ρ₀ w₀ nt K r e a w):Post N S ρ₀ w₀ nt K' r e a w:=by
  cases e with
  | normal=>obtain ⟨ρ,s,g1,g2⟩:=hp; exact ⟨ρ,s,h _ _ _ g1,g2⟩
  | exit i=>obtain ⟨ρ,s,g1,g2⟩:=hp; exact ⟨ρ,s,h _ _ _ g1,g2⟩
  | ret=>obtain ⟨ρ,s,g1,g2⟩:=hp; exact ⟨ρ,s,h _ _ _ g1,g2⟩
  | _=>exact hp.elim

theorem go_sound (hM:P.follows .mixedOrders=true) (hT:TyOK P T) (hO:OSound P O) (hD:ODet O) {an:Ann} {cut:List Nat} {body:Code} {K0:Ex→St→Option R} (m:Nat) :
    ∀ (c:Code) (p:List Bool) (K:Ex→St→Option R),posN realA T O an cut (goD realA T O an cut body K0 m) body K0 p=some (c,K)→codeOk nt c=true→∀ (s:St) (ρ:Map) (a:Act) (w:World),codeN realA T O an cut (goD realA T O an cut body K0 m) p c K s=some r→Rel N S ρ₀ w₀ nt ρ s a w→c.wp P (Post N S ρ₀ w₀ nt K r) a w:=by
  induction m using Nat.strongRecOn with
  | ind m ihm =>
  intro c
  induction c with
  | skip=>intro p K _ _ s ρ a w hk h; exact wp_skip ⟨ρ,s,hk,h⟩
  | label l=>intro p K _ _ s ρ a w hk h; exact wp_label ⟨ρ,s,hk,h⟩
  | exit i=>intro p K _ _ s ρ a w hk h; exact wp_exit ⟨ρ,s,hk,h⟩
  | ret=>intro p K _ _ s ρ a w hk h; exact wp_ret ⟨ρ,s,hk,h⟩
  | region id ops draw =>
    intro p K _ hok s ρ a w hk h
    simp only [codeN] at hk
    split at hk
    · refine wp_region ?_
      rw [List.range_eq_range']
      have:=ops_sound (P:=P) (Q:=Post N S ρ₀ w₀ nt K r) hT hO (base:=(id+1)*1000) (by omega) (opsOk_spec hok) (fun ρ s a w hk h=>⟨ρ,s,hk,h⟩) ops.toList 0 ρ (keep an id s) a w rfl (by rw [Nat.add_zero]; exact hk) (h.keep an id)
      simpa using this
    · split at hk
      · rename_i hok2
        refine wp_region_any hM ?_
        have hrel:Rel N S ρ₀ w₀ nt ρ (keep an id s) a { w with drawn:=w.drawn+1 }:=(h.keep an id).drewG rfl rfl rfl rfl
        refine draw_sound (P:=P) hT hO hD (base:=(id+1)*1000) (by omega) (drawOk_spec hok2) (opsOk_spec hok) (fun ρ s a w hk h=>⟨ρ,s,hk,h⟩) (fun _ _ _ h=>h.elim) ops.size _ a _ (Phase.start hT hO hD (Nat.zero_le _) (by simp) (fun j hj=>by omega) (fun j _ hl=> ?_) (fun j m hj _=> ?_) hrel hk) ?_
        · simp only [Lst,Array.getD_eq_getD_getElem?,Array.getElem?_replicate] at hl
          split at hl <;> simp at hl
        · simp only [Lst,Array.getD_eq_getD_getElem?,Array.getElem?_replicate] at hj
          split at hj <;> simp at hj
        · rw [Array.toList_replicate]
          have:=List.count_le_length (a:=false) (l:=List.replicate ops.size false)
          rw [List.length_replicate] at this
          exact this
      · cases hk
  | seq x y ihx ihy =>
    intro p K hp hok s ρ a w hk h
    simp only [codeOk,Bool.and_eq_true] at hok
    simp only [codeN] at hk
    have hp1:posN realA T O an cut (goD realA T O an cut body K0 m) body K0 (false::p)=some (x,seqC (goC an (isCut cut y) (goD realA T O an cut body K0 m (true::p)) y (codeN realA T O an cut (goD realA T O an cut body K0 m) (true::p) y K)) K):=by simp only [posN,hp]
    have hp2:posN realA T O an cut (goD realA T O an cut body K0 m) body K0 (true::p)=some (y,K):=by simp only [posN,hp]
    refine wp_seq (wp_mono (ihx _ _ hp1 hok.1 s ρ a w hk h) fun e a' w' hq=> ?_)
    cases e with
    | normal =>
      obtain ⟨ρ',s',g1,g2⟩:=hq
      change goC an (isCut cut y) _ y _ s'=some r at g1
      cases hc:isCut cut y with
      | false =>
        rw [hc] at g1
        exact ihy _ _ hp2 hok.2 _ _ _ _ g1 g2
      | true =>
        rw [hc] at g1
        change goD realA T O an cut body K0 m (true::p) (keepF an y s')=some r at g1
        cases m with
        | zero=>cases g1
        | succ m =>
          simp only [goD,nodeN] at g1
          split at g1
          · rename_i c' K' hc'
            obtain ⟨K'',e1,e2⟩:=posN_le hD (goD_le1 hD m) _ _ _ hc'
            rw [hp2] at e1
            simp only [Option.some.injEq,Prod.mk.injEq] at e1
            obtain ⟨rfl,rfl⟩:=e1
            exact wp_mono (ihm m (Nat.lt_succ_self _) _ _ _ hc' hok.2 _ _ _ _ g1 (g2.keepF an _)) fun _ _ _ hq=>post_le e2 hq
          · cases g1
    | exit i=>exact hq
    | ret=>exact hq
    | _=>exact hq.elim
  | cond c x y ihx ihy =>
    intro p K hp hok s ρ a w hk h
    simp only [codeOk,Bool.and_eq_true] at hok
    simp only [codeN] at hk
    split at hk
    · rename_i t hc
      have hv:a.eval c= .bool t:=h.er c _ hc
      split at hk
      · exact wp_cond_true hv (ihx (false::p) K (by simp only [posN,hp]) hok.1 s ρ a w hk h)
      · exact wp_cond_false hv (ihy (true::p) K (by simp only [posN,hp]) hok.2 s ρ a w hk h)
    · cases hk
  | block id c ih =>
    intro p K hp hok s ρ a w hk h
    simp only [codeN] at hk
    refine wp_block (wp_mono (ih (false::p) _ (by simp only [posN,hp]) hok s ρ a w hk h) fun e a' w' hq=> ?_)
    cases e with
    | normal=>exact hq
    | exit i =>
      obtain ⟨ρ',s',g1,g2⟩:=hq
      simp only [Exit.inBlock]
      unfold blockK at g1
      simp only at g1
      split at g1
      · rename_i hi
        rw [if_pos (beq_true hi)]
        exact ⟨ρ',s',g1,g2⟩
      · rename_i hi
        rw [if_neg (by intro e; subst e; simp at hi)]
        exact ⟨ρ',s',g1,g2⟩
    | ret=>exact hq
    | _=>exact hq.elim
  | loop c ih =>
    intro p K hp hok s ρ a w hk h b k cs
    simp only [codeN] at hk
    have key:∀ j,j≤m→∀ s ρ a w,goD realA T O an cut body K0 j (false::p) s=some r→Rel N S ρ₀ w₀ nt ρ s a w →
        ∃ e a' w',Post N S ρ₀ w₀ nt K r e a' w'∧Arrives P (lone (b.at a (.code c :: .inLoop c::k)) cs w) b k cs e a' w':=by
      intro j
      induction j with
      | zero=>intro _ s ρ a w hk; cases hk
      | succ j ihj =>
        intro hj s ρ a w hk h
        simp only [goD,nodeN] at hk
        split at hk
        · rename_i c' K' hc'
          have hc2:=hc'
          simp only [posN] at hc2
          split at hc2
          · rename_i c0 K1 h0
            obtain ⟨K1',e1,e2⟩:=posN_le hD (goD_le hD (show j≤m by omega)) _ _ _ h0
            rw [hp] at e1
            simp only [Option.some.injEq,Prod.mk.injEq] at e1
            obtain ⟨rfl,rfl⟩:=e1
            simp only [Option.some.injEq,Prod.mk.injEq] at hc2
            obtain ⟨rfl,rfl⟩:=hc2
            obtain ⟨e,a₁,w₁,hq,harr⟩:=ihm j (by omega) _ _ _ hc' hok _ _ _ _ hk h b (.inLoop c::k) cs
            cases e with
            | normal =>
              obtain ⟨ρ',s',g1,g2⟩:=hq
              obtain ⟨e₂,a₂,w₂,hq₂,harr₂⟩:=ihj (by omega) _ _ _ _ g1 (g2.keepF an c)
              exact ⟨e₂,a₂,w₂,hq₂,.of_steps (Steps.trans harr (.one step_inLoop)) harr₂⟩
            | exit id =>
              obtain ⟨ρ',s',g1,g2⟩:=hq
              exact ⟨.exit id,a₁,w₁,⟨ρ',s',e2 _ _ _ g1,g2⟩,.pass (x:= .inLoop c) rfl (fun _ _=> .inl (by simp)) harr⟩
            | ret =>
              obtain ⟨ρ',s',g1,g2⟩:=hq
              exact ⟨.ret,a₁,w₁,⟨ρ',s',e2 _ _ _ g1,g2⟩,.pass (x:= .inLoop c) rfl (fun _ _=> .inl (by simp)) harr⟩
            | _=>exact hq.elim
          · cases hc2
        · cases hk
    obtain ⟨e,a',w',hq,harr⟩:=key m (Nat.le_refl _) _ ρ a w hk (h.keepF an c)
    exact ⟨e,a',w',hq,.of_steps (.one step_loop) harr⟩
  | scope c ih =>
    intro p K hp hok s ρ a w hk h
    simp only [codeN] at hk
    refine wp_scope_straight (wp_mono (ih (false::p) _ (by simp only [posN,hp]) hok s ρ a w hk h) fun e a' w' hq=> ?_)
    cases e with
    | goto l=>exact hq.elim
    | _=>exact hq
  | _=>intro p K _ _ s ρ a w hk h; simp [codeN] at hk
end

def Prs {R:Type} (f:Nat→Option R) (a:Option R):Prop:=∀ r,a=some r→∃ m,f m=some r
theorem pn {R:Type}:Prs (fun _=>(none:Option R)) none:=fun _ h=>by cases h
theorem pn0 {R:Type} {f:Nat→Option R}:Prs f none:=fun _ h=>by cases h
theorem pf {R:Type} (a:Option R):Prs (fun _=>a) a:=fun _ h=>⟨0,h⟩
theorem pc {R:Type} {f g:Nat→Option R} {a:Option R} (h:Prs f a) (e:f=g):Prs g a:=e ▸ h
def Stp {R:Type} (nd:(List Bool→St→Option R)→List Bool→St→Option R) (tb:Nat→List Bool→St→Option R):Prop:=∀ p s r m,nd (tb m) p s=some r→∃ k,tb k p s=some r
theorem Stp.g {R:Type} {nd:(List Bool→St→Option R)→List Bool→St→Option R} {tb:Nat→List Bool→St→Option R} (h:Stp nd tb) {p:List Bool} {s:St} {a:Option R} (hp:Prs (fun m=>nd (tb m) p s) a):Prs (fun m=>tb m p s) a:=fun r hr=>by
  obtain ⟨m,hm⟩:=hp r hr
  exact h p s r m hm

def funN {R:Type} (A:Ar) (T:Tys) (O:Orc) (an:Ann) (cut:List Nat) (c:Code) (rs:List ResultVar) (args:List AV) (h:Heap) (k:AV→Heap→Option R) (tb:List Bool→St→Option R):Option R :=
  codeN A T O an cut tb [] c (finD T rs k) ⟨slotsOf 0 args,h⟩

theorem goD_stp {R:Type} {A:Ar} {T:Tys} {O:Orc} {an:Ann} {cut:List Nat} {body:Code} {K0:Ex→St→Option R}:Stp (fun t p s=>nodeN A T O an cut t body K0 p s) (goD A T O an cut body K0):=fun p s r m h=>⟨m+1,h⟩
end Go.Sx
