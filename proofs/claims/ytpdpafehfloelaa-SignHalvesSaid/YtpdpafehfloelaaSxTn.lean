import Derived.Test.YtpdpafehfloelaaSxGo
import Derived.Test.YtpdpafehfloelaaSxNi
namespace Go.Sx
section
variable {P:Program} {T:Tys} {O:Orc} {N:Nat} {S:Nat→Prop} {R:Type} {r:R}

theorem funN_sound (hM:P.follows .mixedOrders=true) (hT:TyOK P T) (hO:OSound P O) (hD:ODet O) {an:Ann} {cut:List Nat} {f:FuncId} {fn:Func} {c:Code} (hf:P.funcs[f]? = some fn) (hb:fn.body=some c) (hok:codeOk fn.ntmps c=true) {vs:List AV} {us:Array Value} {h:Heap} {ρ:Map} {w:World}
    (hn:vs.length≤fn.ntmps) (hvs:RVs ρ vs us.toList) (hr:HR N S ρ h w) {k:AV→Heap→Option R} (hk:∃ m,funN realA T O an cut c fn.results.toList vs h k (goD realA T O an cut c (finD T fn.results.toList k) m)=some r) :
    Calls P f us w fun e w'=>∃ u ρ' v h',e= .returned u∧k v h'=some r∧RV ρ' v u∧HR N S ρ' h' w'∧Fr N S w w'∧∀ b,b<500→ρ' b=ρ b:=by
  obtain ⟨m,hk⟩:=hk
  refine calls_of_wp hf hb ?_
  have hsz:us.size=vs.length:=by have:=hvs.1; simpa using this
  have h0:Rel N S ρ w fn.ntmps ρ ⟨slotsOf 0 vs,h⟩ { tmps:=us++Array.replicate (fn.ntmps - us.size) undef,defers:=[] } w:=by
    refine ⟨hr,fun t v hv=> ?_,by simp; omega,rfl,Fr.refl _ _ _,fun _ _=>rfl⟩
    obtain ⟨_,h2⟩:=lk_slotsOf hv
    simp only [Nat.sub_zero] at h2
    have hlt:t<us.size:=by rw [hsz]; exact (List.getElem?_eq_some_iff.1 h2).1
    have hu:us.toList[t]? = some us[t]:=by simp [hlt]
    have hg:(us++Array.replicate (fn.ntmps - us.size) undef).getD t undef=us[t]:=by
      rw [Array.getD_eq_getD_getElem?,Array.getElem?_append_left hlt]
      simp [hlt]
    rw [hg]
    exact hvs.2 t v _ h2 hu
  have hw:=go_sound (P:=P) hM hT hO hD (ρ₀:=ρ) (w₀:=w) (an:=an) (cut:=cut) (body:=c) (K0:=finD T fn.results.toList k) m c [] _ rfl hok _ _ _ _ hk h0
  have fin:∀ x ρ' s (a:Act) w',finD T fn.results.toList k x s=some r→Rel N S ρ w fn.ntmps ρ' s a w'→a.defers=[]∧∃ v,(results fn a.tmps).run P w'= .ok v w' ∧
      ∃ u ρ' v' h',Ending.returned v= .returned u∧k v' h'=some r∧RV ρ' v' u∧HR N S ρ' h' w'∧Fr N S w w'∧∀ b,b<500→ρ' b=ρ b:=by
    intro x ρ' s a w' hx hrel
    unfold finD at hx
    split at hx
    · cases hx
    · split at hx
      · rename_i v hv
        obtain ⟨u,h1,h2⟩:=res_sound hT hrel hv
        exact ⟨hrel.df,u,h1,u,ρ',v,s.hp,rfl,hx,h2,hrel.hr,hrel.fr,hrel.pin⟩
      · cases hx
  refine wp_mono hw fun e a' w' hp=> ?_
  cases e with
  | normal =>
    obtain ⟨ρ',s,g1,g2⟩:=hp
    exact fin _ _ _ _ _ g1 g2
  | ret =>
    obtain ⟨ρ',s,g1,g2⟩:=hp
    exact fin _ _ _ _ _ g1 g2
  | exit i =>
    obtain ⟨ρ',s,g1,g2⟩:=hp
    cases g1
  | _=>exact hp.elim

theorem via_tb {an:Ann} {cut:List Nat} {c:Code} {rs:List ResultVar} {vs:List AV} {h:Heap} {k:AV→Heap→Option R} {a:Option R}
    (hp:∀ tb:Nat→List Bool→St→Option R,Stp (fun t p s=>nodeN realA T O an cut t c (finD T rs k) p s) tb→Prs (fun m=>funN realA T O an cut c rs vs h k (tb m)) a) (ha:a=some r) :
    ∃ m,funN realA T O an cut c rs vs h k (goD realA T O an cut c (finD T rs k) m)=some r:=hp _ goD_stp r ha

theorem fn1_ofG (hM:P.follows .mixedOrders=true) (hT:TyOK P T) (hO:OSound P O) (hD:ODet O) {an:Ann} {cut:List Nat} {f g:FuncId} {fn:Func} {c:Code} (hf:P.funcs[g]? = some fn) (hb:fn.body=some c) (hok:codeOk fn.ntmps c=true)
    (hcall:∀ us w,(callFunc f us).run P w= .ok (.enter g us) w) {vs:List AV} {v:AV} (hn:vs.length≤fn.ntmps) (hm:∀ b,v.mentions b=false) {a:Option AV} (ha:(∃ ρ us,RVs ρ vs us)→a=some v)
    (hp:∀ tb:Nat→List Bool→St→Option AV,Stp (fun t p s=>nodeN realA T O an cut t c (finD T fn.results.toList fun v _=>some v) p s) tb→Prs (fun m=>funN realA T O an cut c fn.results.toList vs [] (fun v _=>some v) (tb m)) a):Fn1 P f vs v:=by
  intro ρ w us hvs
  rw [hcall]
  refine ⟨rfl,Calls.mono (funN_sound hM hT hO hD hf hb hok hn hvs (HR_nil ρ w) (via_tb hp (ha ⟨ρ,_,hvs⟩))) fun e w' he=> ?_⟩
  obtain ⟨u,ρ',v',h',e1,e2,e3,_,e5,_⟩:=he
  simp only [Option.some.injEq] at e2
  subst e2
  exact ⟨u,e1,RV_agree (fun b hb=>by rw [hm b] at hb; cases hb) e3,e5⟩

theorem fnh_ofG (hM:P.follows .mixedOrders=true) (hT:TyOK P T) (hO:OSound P O) (hD:ODet O) {an:Ann} {cut:List Nat} {f g:FuncId} {fn:Func} {c:Code} (hf:P.funcs[g]? = some fn) (hb:fn.body=some c) (hok:codeOk fn.ntmps c=true)
    (hcall:∀ us w,(callFunc f us).run P w= .ok (.enter g us) w) {vs:List AV} {h:Heap} {v2:AV} {h2:Heap} (hn:vs.length≤fn.ntmps) {pins:List Nat} {nilr:Option (Nat × Nat × Blk)} {a:Option (AV × Heap)} (ha:(∃ N S ρ us w,RVs ρ vs us∧HR N S ρ h w)→a=some (v2,h2))
    (hp:∀ tb:Nat→List Bool→St→Option (AV × Heap),Stp (fun t p s=>nodeN realA T O an cut t c (finD T fn.results.toList (outH pins nilr)) p s) tb→Prs (fun m=>funN realA T O an cut c fn.results.toList vs h (outH pins nilr) (tb m)) a):FnH P f vs h v2 h2:=by
  intro N S ρ w us hr hvs
  rw [hcall]
  refine ⟨rfl,Calls.mono (funN_sound hM hT hO hD hf hb hok hn hvs hr (via_tb hp (ha ⟨N,S,ρ,_,w,hvs,hr⟩))) fun e w' he=> ?_⟩
  obtain ⟨u,ρ',v',h',e1,e2,e3,e4,e5,e6⟩:=he
  obtain ⟨ρ2,g1,g2,g3⟩:=outH_sound e2 e3 e4
  exact ⟨u,ρ2,e1,g1,g2,e5,fun b hb=>(g3 b hb).trans (e6 b hb)⟩

theorem fnh_ofGN (hM:P.follows .mixedOrders=true) (hT:TyOK P T) (hO:OSound P O) (hD:ODet O) {an:Ann} {cut:List Nat} {f g:FuncId} {fn:Func} {c:Code} (hf:P.funcs[g]? = some fn) (hb:fn.body=some c) (hok:codeOk fn.ntmps c=true)
    (hcall:∀ us w,(callFunc f us).run P w= .ok (.enter g us) w) {vs:List AV} {h:Heap} {v2:AV} {h2:Heap} (hn:vs.length≤fn.ntmps) {B pins:List Nat} {nilr:Option (Nat × Nat × Blk)} {a:Option (AV × Heap)} (ha:(∃ N S ρ us w,RVs ρ vs us∧HR N S ρ h w)→a=some (v2,h2))
    (hp:∀ tb:Nat→List Bool→St→Option (AV × Heap),Stp (fun t p s=>nodeN realA T O an cut t c (finD T fn.results.toList (outN B pins nilr)) p s) tb→Prs (fun m=>funN realA T O an cut c fn.results.toList vs h (outN B pins nilr) (tb m)) a):FnH P f vs h v2 h2:=by
  intro N S ρ w us hr hvs
  rw [hcall]
  refine ⟨rfl,Calls.mono (funN_sound hM hT hO hD hf hb hok hn hvs hr (via_tb hp (ha ⟨N,S,ρ,_,w,hvs,hr⟩))) fun e w' he=> ?_⟩
  obtain ⟨u,ρ',v',h',e1,e2,e3,e4,e5,e6⟩:=he
  obtain ⟨ρ2,g1,g2,g3⟩:=outN_sound e2 e3 e4
  exact ⟨u,ρ2,e1,g1,g2,e5,fun b hb=>(g3 b hb).trans (e6 b hb)⟩
end
end Go.Sx
