import Derived.Test.YtpdpafehfloelaaSxTc
import Derived.Carry
import Derived.OpenShut
import Derived.JoinedCond
import Derived.ProofKit
import Derived.SizedLaws
import Derived.Laws.Externs
namespace Go.Sx
open Go.ChangeShapes Go.RowKit

def rowB (P:Program):List TypeId→Bool
  | []=>true
  | t::r=>(P.readableRec t&&Nat.blt t P.types.size)&&rowB P r

theorem trodAll_below {H:Type} {enc:TypeId × Value→H} {P:Program} (hl:laidOutB P=true) {W W':World} (hb:Below W.heap.size W W') :
    ∀ {ts:List TypeId} {vs:List Value} {ds:List (DataW H)} {ps:List MemPlace},rowB P ts=true→DataW.TrodAll enc P W 0 (fun _=>true) true ts vs ds ps→(∀ x ∈ ps,x.block<W.heap.size)→DataW.TrodAll enc P W' 0 (fun b=>decide (b<W.heap.size)) true ts vs ds ps
  | [],_,_,_,_,h,_=>by
    obtain ⟨rfl,rfl,rfl⟩:=trodAll_nil h
    exact trodAll_mk0
  | t::r,_,_,_,hr,h,hlt=>by
    obtain ⟨v,vs1,d,ds1,a,b,rfl,rfl,rfl,h1,h2⟩:=trodAll_cons h
    simp only [rowB,Bool.and_eq_true] at hr
    exact trodAll_cons_mk (Below.trod hl hr.1.1 (blt_true hr.1.2) h1 hb fun x hx=>hlt x (List.mem_append_left _ hx)) (trodAll_below hl hb hr.2 h2 fun x hx=>hlt x (List.mem_append_right _ hx))

theorem law_post {H:Type} {enc:TypeId × Value→H} {P:Program} {f:Func} {s:ChangeSpec} {W W':World} {args:Array Value} {ds gs:List (DataW H)} {before:List MemPlace} {tb:TypeId} (hl:laidOutB P=true)
    (hW:DataW.Whole enc P f.params.toList s.vars false W args.toList ds gs before) (hv:s.vars=[]) (hfn:s.fn H (ds++gs)={ results:=[.lit (.bool true)],args:=ds })
    (hres:f.resultTypes= #[tb]) (htb:P.underlying tb=some .bool) (hp:rowB P f.params.toList=true) (hb:Below W.heap.size W W'):s.post enc P f false true false false W args (.bool true) W':=by
  have hW2:=hW
  obtain ⟨p,q,hA,hV,rfl,hz,hn⟩:=hW
  rw [hv] at hV
  obtain ⟨rfl,rfl⟩:=trodVars_none hV
  refine ⟨ds,[],p++[],[],p,[],hW2, ?_, ?_, ?_, ?_,fun h=>by cases h⟩
  · rw [hfn,hres]
    exact trodAll_mk1 (shut_bool htb true)
  · rw [hfn]
    exact trodAll_below hl hb hp hA fun x hx=>hW2.lt x (List.mem_append_left _ hx)
  · rw [hfn,hv]
    rfl
  · exact hb.frame _

theorem law_walk {P:Program} {f:FuncId} {us:Array Value} {vs:List AV} {w:World} (h:Fn1 P f vs (.v (.cell (.bool true)))) (hr:RVs (fun _=>none) vs us.toList) (hc:(callFunc f us).run P w= .ok (.enter f us) w) :
    Calls P f us w fun e w'=>e= .returned (.bool true)∧Below w.heap.size w w':=by
  have:=h (fun _=>none) w us hr
  rw [hc] at this
  refine Calls.mono this.2 fun e w' he=> ?_
  obtain ⟨u,rfl,h1,h2⟩:=he
  obtain rfl:u= .bool true:=h1
  exact ⟨rfl,h2.os,h2.tape,h2.output,h2.size,fun k hk=>h2.block k hk (fun h=>h)⟩

theorem rvs_nil (ρ:Map):RVs ρ [] []:=⟨rfl,fun i v u h=>by simp at h⟩
theorem rvs_cons {ρ:Map} {v:AV} {u:Value} {vs:List AV} {us:List Value} (h:RV ρ v u) (hs:RVs ρ vs us):RVs ρ (v::vs) (u::us):=by
  refine ⟨by simp [hs.1],fun i=> ?_⟩
  cases i with
  | zero =>
    intro v' u' h1 h2
    simp only [List.getElem?_cons_zero,Option.some.injEq] at h1 h2
    subst h1; subst h2
    exact h
  | succ i =>
    intro v' u' h1 h2
    simp only [List.getElem?_cons_succ] at h1 h2
    exact hs.2 i v' u' h1 h2
theorem rv_string (ρ:Map) (s:ByteArray):RV ρ (.v (.cell (.str (natsOf s)))) (.string s):=⟨s,rfl,rfl⟩
theorem natsOf_lt (s:ByteArray):∀ x ∈ natsOf s,x<256:=by
  intro x hx
  simp only [natsOf,List.mem_map] at hx
  obtain ⟨y,_,rfl⟩:=hx
  exact y.toNat_lt
theorem natsOf_len (s:ByteArray):(natsOf s).length=s.data.toList.length:=by simp [natsOf]

end Go.Sx
namespace Go.Sx

def add64a (x y c:Nat):Nat:=(x+y+c)%18446744073709551616
def add64b (x y c:Nat):Nat:=(x+y+c)/18446744073709551616
def sub64a (x y c:Nat):Nat:=(x+18446744073709551616 - y - c)%18446744073709551616
def sub64b (x y c:Nat):Nat:=if x<y+c then 1 else 0
def carryok (x y c:Nat):Bool:=Nat.ble c 1&&(Nat.blt x 18446744073709551616&&Nat.blt y 18446744073709551616)

def add64o (args:List AV):Option (Bool × AV):=match args with
  | [.v (.cell (.nat .u64 x)),.v (.cell (.nat .u64 y)),.v (.cell (.nat .u64 c))]=>some (carryok x y c,.tup [.cell (.nat .u64 (add64a x y c)),.cell (.nat .u64 (add64b x y c))])
  | _=>none
def sub64o (args:List AV):Option (Bool × AV):=match args with
  | [.v (.cell (.nat .u64 x)),.v (.cell (.nat .u64 y)),.v (.cell (.nat .u64 c))]=>some (carryok x y c,.tup [.cell (.nat .u64 (sub64a x y c)),.cell (.nat .u64 (sub64b x y c))])
  | _=>none

def add64E:Array Value→Sem Value:=fun args=>do
  let (x, y, c) ← Extern.MathBitsCarry.three "Add64" args
  pure (Extern.MathBitsCarry.pair ((x+y+c)%Extern.MathBitsCarry.m64) ((x+y+c)/Extern.MathBitsCarry.m64))
def sub64E:Array Value→Sem Value:=fun args=>do
  let (x, y, b) ← Extern.MathBitsCarry.three "Sub64" args
  pure (Extern.MathBitsCarry.pair ((x+Extern.MathBitsCarry.m64 - y - b)%Extern.MathBitsCarry.m64) (if x<y+b then 1 else 0))

variable {P:Program}

theorem run_add64E (x y c:Nat) (hc:c≤1) (w:World):(add64E #[.int .u64 x,.int .u64 y,.int .u64 c]).run P w= .ok (.tuple #[.int .u64 (add64a x y c:Nat),.int .u64 (add64b x y c:Nat)]) w:=by
  have:c=0∨c=1:=by omega
  rcases this with rfl | rfl <;> rfl
theorem run_sub64E (x y c:Nat) (hc:c≤1) (w:World):(sub64E #[.int .u64 x,.int .u64 y,.int .u64 c]).run P w= .ok (.tuple #[.int .u64 (sub64a x y c:Nat),.int .u64 (sub64b x y c:Nat)]) w:=by
  have:c=0∨c=1:=by omega
  rcases this with rfl | rfl <;> rfl

theorem three_args {ρ:Map} {x y c:Nat} {us:Array Value} (h:RVs ρ [.v (.cell (.nat .u64 x)),.v (.cell (.nat .u64 y)),.v (.cell (.nat .u64 c))] us.toList):us= #[.int .u64 x,.int .u64 y,.int .u64 c]:=by
  obtain ⟨h1,h2⟩:=h
  match hu:us.toList,h1 with
  | [a,b,d],_ =>
    have e1:RV ρ (.v (.cell (.nat .u64 x))) a:=h2 0 _ a rfl (by rw [hu]; rfl)
    have e2:RV ρ (.v (.cell (.nat .u64 y))) b:=h2 1 _ b rfl (by rw [hu]; rfl)
    have e3:RV ρ (.v (.cell (.nat .u64 c))) d:=h2 2 _ d rfl (by rw [hu]; rfl)
    have:us= #[a,b,d]:=by apply Array.ext'; simpa using hu
    rw [this,e1.1,e2.1,e3.1]

theorem pair_out {ρ:Map} {a b:Nat} {w:World} (ha:a<18446744073709551616) (hb:b<18446744073709551616) :
    FnOut P ρ (.tup [.cell (.nat .u64 a),.cell (.nat .u64 b)]) w (.ok (.value (.tuple #[.int .u64 (a:Int),.int .u64 (b:Int)])) w):=by
  refine ⟨⟨_,rfl,rfl,fun i x hx=> ?_⟩,Fr.refl _ _ _⟩
  rcases i with _ | _ | i
  · simp at hx; subst hx
    exact ⟨_,rfl,rfl,ha,rfl⟩
  · simp at hx; subst hx
    exact ⟨_,rfl,rfl,hb,rfl⟩
  · simp at hx

theorem add64o_sound {f : FuncId} {fn : Func} (hf : P.funcs[f]? = some fn) (hname : (fn.name == "runtime.NumGoroutine") = false) (hb : fn.body.isNone = true) (hn : Extern.findNext fn = none) (he : Extern.find fn = some add64E) :
    ∀ args v,add64o args=some (true,v)→Fn1 P f args v:=by
  intro args v h
  unfold add64o at h
  split at h
  · rename_i x y c
    simp only [Option.some.injEq,Prod.mk.injEq] at h
    obtain ⟨hc,rfl⟩:=h
    · simp only [carryok,Bool.and_eq_true] at hc
      obtain ⟨h1,h2,h3⟩:=hc
      have h1:=ble_true h1
      have h2:=blt_true h2
      have h3:=blt_true h3
      intro ρ w us hvs
      rw [three_args hvs,run_callFunc_extern hf hname hb hn he,run_add64E x y c h1]
      exact pair_out (by unfold add64a; omega) (by unfold add64b; omega)
  · cases h

theorem sub64o_sound {f : FuncId} {fn : Func} (hf : P.funcs[f]? = some fn) (hname : (fn.name == "runtime.NumGoroutine") = false) (hb : fn.body.isNone = true) (hn : Extern.findNext fn = none) (he : Extern.find fn = some sub64E) :
    ∀ args v,sub64o args=some (true,v)→Fn1 P f args v:=by
  intro args v h
  unfold sub64o at h
  split at h
  · rename_i x y c
    simp only [Option.some.injEq,Prod.mk.injEq] at h
    obtain ⟨hc,rfl⟩:=h
    · simp only [carryok,Bool.and_eq_true] at hc
      obtain ⟨h1,h2,h3⟩:=hc
      have h1:=ble_true h1
      have h2:=blt_true h2
      have h3:=blt_true h3
      intro ρ w us hvs
      rw [three_args hvs,run_callFunc_extern hf hname hb hn he,run_sub64E x y c h1]
      exact pair_out (by unfold sub64a; omega) (by unfold sub64b; split <;> omega)
  · cases h

end Go.Sx
namespace Go.Sx
variable {R:Type}

end Go.Sx
namespace Go.Sx
def pthGo:Nat→Nat→List Bool
  | 0,_=>[]
  | f+1,n=>match Nat.ble n 1 with
    | true=>[]
    | false=>(Nat.beq (n%2) 1)::pthGo f (n/2)
def pth (n:Nat):List Bool:=pthGo 200 n
abbrev i6 (x:Int):AV:= .v (.cell (.int .i64 x))
abbrev u8v (x:Nat):AV:= .v (.cell (.nat .u8 x))
abbrev u64v (x:Nat):AV:= .v (.cell (.nat .u64 x))
abbrev tS (x:List Nat):AV:= .v (.cell (.str x))
abbrev bO (x:Bool):AV:= .v (.cell (.bool x))
abbrev sL (b:Nat) (o:Option Nat) (n z:Nat):AV:= .v (.cell (.sl b o n z))
abbrev pT (b o:Nat):AV:= .v (.cell (.ptr b o none))
@[match_pattern] abbrev aN (k:IntKind) (n:Nat) (x:List Nat):AV:= .v (.agg [.nums k n x])
@[match_pattern] abbrev bU (n:Nat) (x:List Nat) (t:Nat):Blk:=⟨[.nums .u64 n x],t,1⟩
@[match_pattern] abbrev bW (n:Nat) (x:List Nat) (t:Nat):Blk:=⟨[.nums .u32 n x],t,1⟩
@[match_pattern] abbrev bB (n:Nat) (x:List Nat) (t:Nat):Blk:=⟨[.nums .u8 n x],t,1⟩
@[match_pattern] abbrev uN:AV:= .v (.cell .un)
end Go.Sx
