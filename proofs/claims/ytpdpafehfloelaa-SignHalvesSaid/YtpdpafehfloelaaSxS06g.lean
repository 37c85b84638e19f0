import Derived.Test.YtpdpafehfloelaaSxS06a
import Derived.Test.YtpdpafehfloelaaSxS06e
import Derived.Test.YtpdpafehfloelaaSxW06Tg
namespace Go.Sx
theorem lev4:∀ l:List Nat,S4.leval l=leval l
  | []=>rfl
  | x::r=>by rw [S4.leval,leval,lev4 r]
def clampL (s:List Nat):List Nat:=((s.set 0 (s.getD 0 0&&&248)).set 31 (((s.set 0 (s.getD 0 0&&&248)).getD 31 0&&&63)|||64)).take s.length
theorem set_lt {s:List Nat} (hs:∀ x ∈ s,x<256) (i:Nat) {y:Nat} (hy:y<256):∀ x ∈ s.set i y,x<256:=fun x hx=>(List.mem_or_eq_of_mem_set hx).elim (hs x) (fun e=>by omega)
theorem getD_lt256 {s:List Nat} (hs:∀ x ∈ s,x<256) (i:Nat):s.getD i 0<256:=by
  rw [List.getD_eq_getElem?_getD]
  cases h:s[i]? with
  | none=>decide
  | some z=>exact hs z (List.mem_of_getElem? h)
theorem clampL_ok {s:List Nat} (hl:s.length=32) (hs:∀ x ∈ s,x<256):(clampL s).length=32∧∀ x ∈ clampL s,x<256:=by
  unfold clampL
  have h1:=set_lt hs 0 (y:=s.getD 0 0&&&248) (Nat.lt_of_le_of_lt Nat.and_le_right (by decide))
  have h2:=set_lt h1 31 (y:=((s.set 0 (s.getD 0 0&&&248)).getD 31 0&&&63)|||64) (Nat.or_lt_two_pow (n:=8) (Nat.lt_of_le_of_lt Nat.and_le_right (by decide)) (by decide))
  refine ⟨by rw [List.length_take,List.length_set,List.length_set]; omega,fun x hx=>h2 x (List.mem_of_mem_take hx)⟩
theorem clampE {s:List Nat} (hs:∀ x ∈ s,x<256) (hl:s.length=32):g24ok realA s=true∧g24r0 realA s=clampL s:=by
  have e:g24v realA s=some (.tup [.cell (.str (clampL s)),.cell (.bool true)]):=by
    unfold g24v
    generalize 100000=n
    unfold g24
    rw [ar_neq,ar_ofN,hl,decide_eq_true (by rfl)]
    simp only [Bool.not_true]
    unfold g24J3
    rw [hl]
    simp only [ar_le,decide_eq_true (show 32≤9223372036854775807 by omega),show Nat.blt 0 32=true from rfl,show Nat.blt 31 32=true from rfl]
    rw [show clampL s=((s.set 0 (s.getD 0 0&&&248)).set 31 (((s.set 0 (s.getD 0 0&&&248)).getD 31 0&&&63)|||64)).take 32 by unfold clampL; rw [hl]]
    rfl
  exact ⟨by unfold g24ok; rw [e]; rfl,by unfold g24r0; rw [e]; rfl⟩
theorem be8_lt (x:Nat):∀ y ∈ S2.be8 x,y<256:=by
  intro y hy
  unfold S2.be8 S2.bes at hy
  obtain ⟨j,_,rfl⟩:=List.mem_map.1 hy
  omega
theorem sha_lt (t:List Nat):∀ x ∈ S2.sha t,x<256:=by
  intro x hx
  unfold S2.sha S2.dig at hx
  obtain ⟨y,_,h⟩:=List.mem_flatMap.1 hx
  exact be8_lt y x h
theorem g13of {a b:Nat} {l:List (List Nat)} {s:List Nat} (e:g13v realA a b l=some (tS s,[(0,⟨[.strs b l],9,2⟩)])):g13ok realA a b l=true∧g13r0 realA a b l=s:=by
  refine ⟨by unfold g13ok; rw [e]; unfold g13is; simp,by unfold g13r0; rw [e]; rfl⟩
theorem flat_take (l:List (List Nat)) (i:Nat) (h:i<l.length):(l.take (i+1)).flatten=(l.take i).flatten++l.getD i []:=by
  rw [List.take_add_one,List.flatten_append,List.getD_eq_getElem?_getD,List.getElem?_eq_getElem h]
  simp
theorem flat_len_take (l:List (List Nat)) (i:Nat):(l.take i).flatten.length≤l.flatten.length:=by
  have:=congrArg List.length (congrArg List.flatten (List.take_append_drop i l))
  rw [List.flatten_append,List.length_append] at this
  omega
theorem flat_len_get (l:List (List Nat)) (i:Nat) (h:i<l.length):(l.getD i []).length≤l.flatten.length:=by
  have h1:=flat_len_take l (i+1)
  rw [flat_take l i h,List.length_append] at h1
  omega
theorem numLoop (N:Nat) (l:List (List Nat)) (hl:l.flatten.length≤1000000) (hn:l.length≤1000):∀ (k m i:Nat) (x:List Nat) (o n:Nat) (tot:Int) (bf:List Nat),i+k=l.length→bf.length≤1000200→S2.Rep (l.take i).flatten x o n tot bf →
    g13L3a realA N (outH [0] none) (m+k+1) l.length (l.length:Int) (i:Int) l.length l x o n tot bf.length bf=some (tS (nb (leval (S2.sha l.flatten))),[(0,⟨[.strs l.length l],9,2⟩)]):=by
  intro k
  induction k with
  | zero =>
    intro m i x o n tot bf hi hb hr
    have e:i=l.length:=by omega
    subst e
    rw [g13L3a,ar_lss,decide_eq_false (by omega)]
    rw [List.take_length] at hr
    obtain ⟨s1,s2, -⟩:=hr.sum (by omega) (by omega)
    obtain ⟨r1,r2⟩:=S4.reduceOk (s:=S2.sha l.flatten) (sha_lt _) (by rw [S2.sha_len]; decide)
    rw [List.take_of_length_le (Nat.le_of_eq (S2.sha_len _)),lev4] at r2
    simp only [s1,s2,r1,r2]
    rfl
  | succ k ih =>
    intro m i x o n tot bf hi hb hr
    rw [show m+(k+1)+1=(m+k+1)+1 by omega,g13L3a,ar_lss,decide_eq_true (by omega)]
    have q:realA.ib .add .i64 (i:Int) 1=((i+1:Nat):Int):=(ar_add (a:=(i:Int)) (b:=1) (by omega)).trans (by omega)
    have hg:=flat_len_get l i (by omega)
    have ht:=flat_len_take l i
    obtain ⟨w1,w2,w3,w4⟩:=hr.write (l.getD i []) (by omega) (by omega)
    simp only []
    unfold g13J4a
    simp only [ar_negN,ar_toNN,ar_lt,decide_eq_true (show i<l.length by omega),q,w1,w2]
    rw [← flat_take l i (by omega)] at w4
    exact ih m (i+1) _ _ _ _ _ (by omega) (by omega) w4
theorem num0 (N k m:Nat) (l:List (List Nat)) (hl:l.flatten.length≤1000000) (hn:l.length≤1000) (hk:k+1=l.length) :
    g13L3 realA N (outH [0] none) (m+k+1+1) l.length (l.length:Int) ((0:Nat):Int) l.length l (S2.H8++S2.K80) 0 0 0 []=some (tS (nb (leval (S2.sha l.flatten))),[(0,⟨[.strs l.length l],9,2⟩)]):=by
  have q:realA.ib .add .i64 (((0:Nat)):Int) 1=((1:Nat):Int):=(ar_add (a:=(((0:Nat)):Int)) (b:=1) (by omega)).trans (by omega)
  have hg:=flat_len_get l 0 (by omega)
  have e0:=flat_take l 0 (by omega)
  have e1:(l.take 0).flatten=[]:=rfl
  rw [e1] at e0
  rw [g13L3,ar_lss,decide_eq_true (by omega)]
  simp only []
  unfold g13J4
  simp only [ar_negN,ar_toNN,ar_lt,decide_eq_true (show 0<l.length by omega),q]
  generalize l.getD 0 []=s at *
  obtain ⟨w1,w2,w3,w4⟩:=S2.Rep.new.write s (by simp; omega) (by simp)
  rw [← e0] at w4
  simp only [List.length_nil] at w1 w2 w3 w4
  simp only [w1,w2]
  exact numLoop N l hl hn k m 1 _ _ _ _ _ (by omega) (by omega) w4
theorem g13from {A:Ar} {N:Nat} {kk:AV→Heap→Option (AV × Heap)} {l:List (List Nat)} {x:List Nat} {i:Int} {r:Option (AV × Heap)} (h1:g25ok A=true) (h2:g25r0 A=x) (h3:g25r1 A=0) (hi:A.ofN l.length=i) (z:g13L3 A N kk N l.length i 0 l.length l x 0 0 0 []=r):g13 A N kk l.length l.length l=r:=by
  unfold g13
  rw [h1,h2,h3,hi]
  exact z
theorem numN (N:Nat) (l:List (List Nat)) (hN:l.length<N) (hl:l.flatten.length≤1000000) (hn:l.length≤1000) (h0:0<l.length):g13 realA N (outH [0] none) l.length l.length l=some (tS (nb (leval (S2.sha l.flatten))),[(0,⟨[.strs l.length l],9,2⟩)]):=by
  have z:=num0 N (l.length - 1) (N - 1 - l.length) l hl hn (by omega)
  rw [show N - 1 - l.length+(l.length - 1)+1+1=N by omega] at z
  exact g13from S2.new_ok S2.new_0 S2.new_1 (ar_ofN _) z
theorem numE (l:List (List Nat)) (hl:l.flatten.length≤1000000) (hn:l.length≤1000) (h0:0<l.length):g13ok realA l.length l.length l=true∧g13r0 realA l.length l.length l=nb (leval (S2.sha l.flatten)) :=
  g13of (numN 100000 l (by omega) hl hn h0)
theorem sgk:SGK realA S2.sha clampL where
  shaL:=fun s=>⟨S2.sha_len s,sha_lt s⟩
  clL:=fun s h1 h2=>clampL_ok h1 h2
  pt:=ptk
  enc:=fun p=>⟨p.encE.1,p.encE.2.1⟩
  dec:=fun p=>p.decE
  decNo:=fun s hs hl=>by
    have h:=decP hs
    have e:decN s=none:=by unfold decN; rw [if_neg (by omega)]
    rw [e] at h
    obtain ⟨h1,_,_,h4⟩:=g17of' h
    exact ⟨h1,h4⟩
  ma:=fun a b c ha hb hc la lb lc=>by
    obtain ⟨h1,h2⟩:=S4.ma ha hb hc (by omega) (by omega) (by omega)
    rw [lev4,lev4,lev4] at h2
    exact ⟨h1,h2⟩
  right:=fun s hs hl=>by
    obtain ⟨h1,h2⟩:=S4.rightB hs hl
    rw [lev4] at h2
    exact ⟨h1,h2⟩
  clamp:=fun s hs hl=>clampE hs hl
  one:=fun s hs=>⟨S2.one_ok s (by omega),S2.one_0 s (by omega)⟩
  num:=fun l h0 h1 h2 _=>numE l h1 h2 h0
  le:=ar_le
  neq:=ar_neq
  ofN:=ar_ofN
  sceq:=ar_sceq
end Go.Sx
namespace Go.Sx
open S2
def exSeed:List Nat:=[157,97,177,157,239,253,90,96,186,132,74,244,146,236,44,196,68,73,197,105,123,50,105,25,112,59,172,3,28,174,127,96]
def exPub:List Nat:=[215,90,152,1,130,177,10,183,213,75,254,211,201,100,7,58,14,225,114,243,218,166,35,37,175,2,26,104,247,7,81,26]
def exSig:List Nat:=[229,86,67,0,195,96,172,114,144,134,226,204,128,110,130,138,132,135,127,30,184,229,217,116,216,115,224,101,34,73,1,85,95,184,130,21,144,163,59,172,198,30,57,112,28,249,180,107,210,91,245,240,89,91,190,36,101,81,65,67,142,122,16,11]
def exH:List Nat:=[53,124,131,134,79,40,51,203,66,122,46,241,192,10,1,60,253,255,39,104,217,128,192,163,165,32,240,6,144,77,233,15,155,79,10,254,40,11,116,106,119,134,132,231,84,66,80,32,87,183,71,58,3,240,143,150,245,163,142,146,135,224,31,143]
def exN:List Nat:=[48,124,131,134,79,40,51,203,66,122,46,241,192,10,1,60,253,255,39,104,217,128,192,163,165,32,240,6,144,77,233,79]
def exR:List Nat:=[182,177,156,216,224,66,111,89,131,250,17,45,137,161,67,170,151,218,184,188,93,235,141,91,98,83,201,40,182,82,114,244,4,64,152,194,169,144,3,156,222,91,106,72,24,223,11,251,110,64,220,93,238,84,36,128,50,150,35,35,231,1,53,45]
def exK:List Nat:=[39,113,6,43,107,83,111,231,255,189,218,3,32,195,130,123,3,93,241,13,40,77,243,240,130,34,240,77,188,167,164,194,14,241,91,220,152,138,34,199,32,116,17,55,124,51,242,172,9,177,232,106,4,98,52,40,55,104,238,123,160,60,14,159]
def exM:List Nat:=[243,137,7,48,140,137,61,234,242,68,120,125,180,175,83,104,34,73,16,116,24,175,194,237,197,143,117,172,88,160,116,4]
theorem ex_h:sha exSeed=exH:=(shaK_eq frcL_eq _).symm.trans (by decide +kernel)
theorem ex_r:sha ((exH.drop 32)++[])=exR:=(shaK_eq frcL_eq _).symm.trans (by decide +kernel)
theorem ex_k:sha (exSig.take 32++(exPub++[]))=exK:=(shaK_eq frcL_eq _).symm.trans (by decide +kernel)
theorem ex_n:clampL (exH.take 32)=exN:=by decide +kernel
theorem ex_m:nb (leval exR)=exM:=by decide +kernel
def exX:Nat:=38815646466658113194383306759739515082307681141926459231621296960732224964046
def exY:Nat:=11903303657706407974989296177215005343713679411332034699907763981919547054807
def exU:Nat:=44370630452101398467924320556439323233869374150616132215183787387252341590058
def exV:Nat:=38448863731492799660668882834560725606410712239157980760146247592118262650597
theorem bytesAt {p:Pt} {x y:Nat} (h:p.x=x∧p.y=y):p.bytes=encS x y:=by
  unfold Pt.bytes
  have h1:num (fi p.x)=x:=by have:=p.nx; rw [h.1] at this ⊢; exact_mod_cast this
  have h2:num (fi p.y)=y:=by have:=p.ny; rw [h.2] at this ⊢; exact_mod_cast this
  rw [h1,h2]
theorem ex_A:(nP (nS exN) Pt.base).bytes=exPub :=
  (bytesAt (timesAt (s:=exN) (x:=exX) (y:=exY) (by decide) (by decide) (by decide +kernel))).trans (by decide +kernel)
theorem ex_F0:(nP (nS exM) Pt.base).bytes=exSig.take 32 :=
  (bytesAt (timesAt (s:=exM) (x:=exU) (y:=exV) (by decide) (by decide) (by decide +kernel))).trans (by decide +kernel)
theorem ex_F:(nP (leval exR) Pt.base).bytes=exSig.take 32:=by
  rw [← ex_F0,← ex_m,nS_nb,nP_mod]
theorem ex_S:nb (leval exK%LL*leval exN+leval exR%LL)=exSig.drop 32:=by decide +kernel
theorem ex_sig:sigOf sha exN (exH.drop 32) exPub []=exSig:=by
  have e:rOf sha (exH.drop 32) []=leval exR:=by unfold rOf; rw [ex_r]
  unfold sigOf
  rw [e,ex_F,ex_k,ex_S]
  rfl
theorem ex_b0:g11ok realA [57,100,54,49,98,49,57,100,101,102,102,100,53,97,54,48,98,97,56,52,52,97,102,52,57,50,101,99,50,99,99,52,52,52,52,57,99,53,54,57,55,98,51,50,54,57,49,57,55,48,51,98,97,99,48,51,49,99,97,101,55,102,54,48]=true∧g11r0 realA [57,100,54,49,98,49,57,100,101,102,102,100,53,97,54,48,98,97,56,52,52,97,102,52,57,50,101,99,50,99,99,52,52,52,52,57,99,53,54,57,55,98,51,50,54,57,49,57,55,48,51,98,97,99,48,51,49,99,97,101,55,102,54,48]=exSeed:=⟨by kernel_rfl,by kernel_rfl⟩
theorem ex_b1:g11ok realA [100,55,53,97,57,56,48,49,56,50,98,49,48,97,98,55,100,53,52,98,102,101,100,51,99,57,54,52,48,55,51,97,48,101,101,49,55,50,102,51,100,97,97,54,50,51,50,53,97,102,48,50,49,97,54,56,102,55,48,55,53,49,49,97]=true∧g11r0 realA [100,55,53,97,57,56,48,49,56,50,98,49,48,97,98,55,100,53,52,98,102,101,100,51,99,57,54,52,48,55,51,97,48,101,101,49,55,50,102,51,100,97,97,54,50,51,50,53,97,102,48,50,49,97,54,56,102,55,48,55,53,49,49,97]=exPub:=⟨by kernel_rfl,by kernel_rfl⟩
theorem ex_b2:g11ok realA [101,53,53,54,52,51,48,48,99,51,54,48,97,99,55,50,57,48,56,54,101,50,99,99,56,48,54,101,56,50,56,97,56,52,56,55,55,102,49,101,98,56,101,53,100,57,55,52,100,56,55,51,101,48,54,53,50,50,52,57,48,49,53,53,53,102,98,56,56,50,49,53,57,48,97,51,51,98,97,99,99,54,49,101,51,57,55,48,49,99,102,57,98,52,54,98,100,50,53,98,102,53,102,48,53,57,53,98,98,101,50,52,54,53,53,49,52,49,52,51,56,101,55,97,49,48,48,98]=true∧g11r0 realA [101,53,53,54,52,51,48,48,99,51,54,48,97,99,55,50,57,48,56,54,101,50,99,99,56,48,54,101,56,50,56,97,56,52,56,55,55,102,49,101,98,56,101,53,100,57,55,52,100,56,55,51,101,48,54,53,50,50,52,57,48,49,53,53,53,102,98,56,56,50,49,53,57,48,97,51,51,98,97,99,99,54,49,101,51,57,55,48,49,99,102,57,98,52,54,98,100,50,53,98,102,53,102,48,53,57,53,98,98,101,50,52,54,53,53,49,52,49,52,51,56,101,55,97,49,48,48,98]=exSig:=⟨by kernel_rfl,by kernel_rfl⟩
theorem g6Shape {A:Ar} (n:Nat) {s p t:List Nat} (b0:g11ok A [57,100,54,49,98,49,57,100,101,102,102,100,53,97,54,48,98,97,56,52,52,97,102,52,57,50,101,99,50,99,99,52,52,52,52,57,99,53,54,57,55,98,51,50,54,57,49,57,55,48,51,98,97,99,48,51,49,99,97,101,55,102,54,48]=true∧g11r0 A [57,100,54,49,98,49,57,100,101,102,102,100,53,97,54,48,98,97,56,52,52,97,102,52,57,50,101,99,50,99,99,52,52,52,52,57,99,53,54,57,55,98,51,50,54,57,49,57,55,48,51,98,97,99,48,51,49,99,97,101,55,102,54,48]=s) (b1:g11ok A [100,55,53,97,57,56,48,49,56,50,98,49,48,97,98,55,100,53,52,98,102,101,100,51,99,57,54,52,48,55,51,97,48,101,101,49,55,50,102,51,100,97,97,54,50,51,50,53,97,102,48,50,49,97,54,56,102,55,48,55,53,49,49,97]=true∧g11r0 A [100,55,53,97,57,56,48,49,56,50,98,49,48,97,98,55,100,53,52,98,102,101,100,51,99,57,54,52,48,55,51,97,48,101,101,49,55,50,102,51,100,97,97,54,50,51,50,53,97,102,48,50,49,97,54,56,102,55,48,55,53,49,49,97]=p) (b2:g11ok A [101,53,53,54,52,51,48,48,99,51,54,48,97,99,55,50,57,48,56,54,101,50,99,99,56,48,54,101,56,50,56,97,56,52,56,55,55,102,49,101,98,56,101,53,100,57,55,52,100,56,55,51,101,48,54,53,50,50,52,57,48,49,53,53,53,102,98,56,56,50,49,53,57,48,97,51,51,98,97,99,99,54,49,101,51,57,55,48,49,99,102,57,98,52,54,98,100,50,53,98,102,53,102,48,53,57,53,98,98,101,50,52,54,53,53,49,52,49,52,51,56,101,55,97,49,48,48,98]=true∧g11r0 A [101,53,53,54,52,51,48,48,99,51,54,48,97,99,55,50,57,48,56,54,101,50,99,99,56,48,54,101,56,50,56,97,56,52,56,55,55,102,49,101,98,56,101,53,100,57,55,52,100,56,55,51,101,48,54,53,50,50,52,57,48,49,53,53,53,102,98,56,56,50,49,53,57,48,97,51,51,98,97,99,99,54,49,101,51,57,55,48,49,99,102,57,98,52,54,98,100,50,53,98,102,53,102,48,53,57,53,98,98,101,50,52,54,53,53,49,52,49,52,51,56,101,55,97,49,48,48,98]=t)
    (k8:g8ok A s=true∧g8r0 A s=p∧g8r1 A s=true) (k9:g9ok A s []=true∧g9r0 A s []=t∧g9r1 A s []=true) (sc:∀ x:List Nat,A.sc .eql x x=true):g6 A n (fun v _=>some v)=some (.v (.cell (.bool true))):=by
  unfold g6
  simp only [b0,b1,b2,k8,k9,sc]
theorem examplesE:g6ok realA=true∧g6r0 realA=true:=by
  have k8:=publicE sgk (s:=exSeed) rfl
  have k9:=signE sgk (s:=exSeed) (t:=[]) rfl (by intro x hx; cases hx) (by decide)
  rw [ex_h,ex_n,ex_A] at k8 k9
  rw [ex_sig] at k9
  have e:g6v realA=some (.v (.cell (.bool true))):=g6Shape 100000 ex_b0 ex_b1 ex_b2 k8 k9 (fun x=>by rw [ar_sceq]; exact decide_eq_true rfl)
  exact ⟨by unfold g6ok; rw [e]; rfl,by unfold g6r0; rw [e]; rfl⟩
end Go.Sx
