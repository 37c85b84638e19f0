import Derived.Test.YtpdpafehfloelaaSxS06a
import Derived.Test.YtpdpafehfloelaaSxS06e
import Derived.Test.YtpdpafehfloelaaSxW06Tg
namespace Go.Sx
theorem lev4:∀ l:List Nat,S4.leval l=leval l
  | []=>rfl
  | x::r=>by rw [S4.leval,leval,lev4 r]
def clampL (s:List Nat):List Nat:=((s.set 0 (s.getD 0 0&&&248)).set 31 (((s.set 0 (s.getD 0 0&&&248)).getD 31 0&&&63)|||64)).take s.length
theorem set_lt {s:List Nat} (hs:∀ x ∈ s,x<256) (i:Nat) {y:Nat} (hy:y<256):∀ x ∈ s.set i y,x<256:=fun x hx=>(List.mem_or_eq_of_mem_set hx).elim (hs x) (fun e=>by omega)
theorem clampL_ok {s:List Nat} (hl:s.length=32) (hs:∀ x ∈ s,x<256):(clampL s).length=32∧∀ x ∈ clampL s,x<256:=by
  unfold clampL
  have h1:=set_lt hs 0 (y:=s.getD 0 0&&&248) (Nat.lt_of_le_of_lt Nat.and_le_right (by decide))
  have h2:=set_lt h1 31 (y:=((s.set 0 (s.getD 0 0&&&248)).getD 31 0&&&63)|||64) (Nat.or_lt_two_pow (n:=8) (Nat.lt_of_le_of_lt Nat.and_le_right (by decide)) (by decide))
  refine ⟨by rw [List.length_take,List.length_set,List.length_set]; omega,fun x hx=>h2 x (List.mem_of_mem_take hx)⟩
theorem clampE {s:List Nat} (hs:∀ x ∈ s,x<256) (hl:s.length=32):g24ok realA s=true∧g24r0 realA s=clampL s:=by
  have e:g24v realA s=some (.tup [.cell (.str (clampL s)),.cell (.bool true)]):=by
    unfold g24v
    generalize 100000=n
    unfold g24
    rw [ar_neq,ar_ofN,hl,decide_eq_true (by rfl)]
    simp only [Bool.not_true]
    unfold g24J3
    rw [hl]
    simp only [ar_le,decide_eq_true (show 32≤9223372036854775807 by omega),show Nat.blt 0 32=true from rfl,show Nat.blt 31 32=true from rfl]
    rw [show clampL s=((s.set 0 (s.getD 0 0&&&248)).set 31 (((s.set 0 (s.getD 0 0&&&248)).getD 31 0&&&63)|||64)).take 32 by unfold clampL; rw [hl]]
    rfl
  exact ⟨by unfold g24ok; rw [e]; rfl,by unfold g24r0; rw [e]; rfl⟩
theorem be8_lt (x:Nat):∀ y ∈ S2.be8 x,y<256:=by
  intro y hy
  unfold S2.be8 S2.bes at hy
  obtain ⟨j,_,rfl⟩:=List.mem_map.1 hy
  omega
theorem sha_lt (t:List Nat):∀ x ∈ S2.sha t,x<256:=by
  intro x hx
  unfold S2.sha S2.dig at hx
  obtain ⟨y,_,h⟩:=List.mem_flatMap.1 hx
  exact be8_lt y x h
theorem g13of {a b:Nat} {l:List (List Nat)} {s:List Nat} (e:g13v realA a b l=some (tS s,[(0,⟨[.strs b l],9,2⟩)])):g13ok realA a b l=true∧g13r0 realA a b l=s:=by
  refine ⟨by unfold g13ok; rw [e]; unfold g13is; simp,by unfold g13r0; rw [e]; rfl⟩
theorem flat_take (l:List (List Nat)) (i:Nat) (h:i<l.length):(l.take (i+1)).flatten=(l.take i).flatten++l.getD i []:=by
  rw [List.take_add_one,List.flatten_append,List.getD_eq_getElem?_getD,List.getElem?_eq_getElem h]
  simp
theorem flat_len_take (l:List (List Nat)) (i:Nat):(l.take i).flatten.length≤l.flatten.length:=by
  have:=congrArg List.length (congrArg List.flatten (List.take_append_drop i l))
  rw [List.flatten_append,List.length_append] at this
  omega
theorem flat_len_get (l:List (List Nat)) (i:Nat) (h:i<l.length):(l.getD i []).length≤l.flatten.length:=by
  have h1:=flat_len_take l (i+1)
  rw [flat_take l i h,List.length_append] at h1
  omega
theorem numLoop (N:Nat) (l:List (List Nat)) (hl:l.flatten.length≤1000000) (hn:l.length≤1000):∀ (k m i:Nat) (x:List Nat) (o n:Nat) (tot:Int) (bf:List Nat),i+k=l.length→bf.length≤1000200→S2.Rep (l.take i).flatten x o n tot bf →
    g13L3a realA N (outH [0] none) (m+k+1) l.length (l.length:Int) (i:Int) l.length l x o n tot bf.length bf=some (tS (nb (leval (S2.sha l.flatten))),[(0,⟨[.strs l.length l],9,2⟩)]):=by
  intro k
  induction k with
  | zero =>
    intro m i x o n tot bf hi hb hr
    have e:i=l.length:=by omega
    subst e
    rw [g13L3a,ar_lss,decide_eq_false (by omega)]
    rw [List.take_length] at hr
    obtain ⟨s1,s2, -⟩:=hr.sum (by omega) (by omega)
    obtain ⟨r1,r2⟩:=S4.reduceOk (s:=S2.sha l.flatten) (sha_lt _) (by rw [S2.sha_len]; decide)
    rw [List.take_of_length_le (Nat.le_of_eq (S2.sha_len _)),lev4] at r2
    simp only [s1,s2,r1,r2]
    rfl
  | succ k ih =>
    intro m i x o n tot bf hi hb hr
    rw [show m+(k+1)+1=(m+k+1)+1 by omega,g13L3a,ar_lss,decide_eq_true (by omega)]
    have q:realA.ib .add .i64 (i:Int) 1=((i+1:Nat):Int):=(ar_add (a:=(i:Int)) (b:=1) (by omega)).trans (by omega)
    have hg:=flat_len_get l i (by omega)
    have ht:=flat_len_take l i
    obtain ⟨w1,w2,w3,w4⟩:=hr.write (l.getD i []) (by omega) (by omega)
    simp only []
    unfold g13J4a
    simp only [ar_negN,ar_toNN,ar_lt,decide_eq_true (show i<l.length by omega),q,w1,w2]
    rw [← flat_take l i (by omega)] at w4
    exact ih m (i+1) _ _ _ _ _ (by omega) (by omega) w4
theorem num0 (N k m:Nat) (l:List (List Nat)) (hl:l.flatten.length≤1000000) (hn:l.length≤1000) (hk:k+1=l.length) :
    g13L3 realA N (outH [0] none) (m+k+1+1) l.length (l.length:Int) ((0:Nat):Int) l.length l (S2.H8++S2.K80) 0 0 0 []=some (tS (nb (leval (S2.sha l.flatten))),[(0,⟨[.strs l.length l],9,2⟩)]):=by
  have q:realA.ib .add .i64 (((0:Nat)):Int) 1=((1:Nat):Int):=(ar_add (a:=(((0:Nat)):Int)) (b:=1) (by omega)).trans (by omega)
  have hg:=flat_len_get l 0 (by omega)
  have e0:=flat_take l 0 (by omega)
  have e1:(l.take 0).flatten=[]:=rfl
  rw [e1] at e0
  rw [g13L3,ar_lss,decide_eq_true (by omega)]
  simp only []
  unfold g13J4
  simp only [ar_negN,ar_toNN,ar_lt,decide_eq_true (show 0<l.length by omega),q]
  generalize l.getD 0 []=s at *
  obtain ⟨w1,w2,w3,w4⟩:=S2.Rep.new.write s (by simp; omega) (by simp)
  rw [← e0] at w4
  simp only [List.length_nil] at w1 w2 w3 w4
  simp only [w1,w2]
  exact numLoop N l hl hn k m 1 _ _ _ _ _ (by omega) (by omega) w4
theorem g13from {A:Ar} {N:Nat} {kk:AV→Heap→Option (AV × Heap)} {l:List (List Nat)} {x:List Nat} {i:Int} {r:Option (AV × Heap)} (h1:g25ok A=true) (h2:g25r0 A=x) (h3:g25r1 A=0) (hi:A.ofN l.length=i) (z:g13L3 A N kk N l.length i 0 l.length l x 0 0 0 []=r):g13 A N kk l.length l.length l=r:=by
  unfold g13
  rw [h1,h2,h3,hi]
  exact z
theorem numN (N:Nat) (l:List (List Nat)) (hN:l.length<N) (hl:l.flatten.length≤1000000) (hn:l.length≤1000) (h0:0<l.length):g13 realA N (outH [0] none) l.length l.length l=some (tS (nb (leval (S2.sha l.flatten))),[(0,⟨[.strs l.length l],9,2⟩)]):=by
  have z:=num0 N (l.length - 1) (N - 1 - l.length) l hl hn (by omega)
  rw [show N - 1 - l.length+(l.length - 1)+1+1=N by omega] at z
  exact g13from S2.new_ok S2.new_0 S2.new_1 (ar_ofN _) z
theorem numE (l:List (List Nat)) (hl:l.flatten.length≤1000000) (hn:l.length≤1000) (h0:0<l.length):g13ok realA l.length l.length l=true∧g13r0 realA l.length l.length l=nb (leval (S2.sha l.flatten)) :=
  g13of (numN 100000 l (by omega) hl hn h0)
theorem sgk:SGK realA S2.sha clampL where
  shaL:=fun s=>⟨S2.sha_len s,sha_lt s⟩
  clL:=fun s h1 h2=>clampL_ok h1 h2
  pt:=ptk
  enc:=fun p=>⟨p.encE.1,p.encE.2.1⟩
  dec:=fun p=>p.decE
  decNo:=fun s hs hl=>by
    have h:=decP hs
    have e:decN s=none:=by unfold decN; rw [if_neg (by omega)]
    rw [e] at h
    obtain ⟨h1,_,_,h4⟩:=g17of' h
    exact ⟨h1,h4⟩
  ma:=fun a b c ha hb hc la lb lc=>by
    obtain ⟨h1,h2⟩:=S4.ma ha hb hc (by omega) (by omega) (by omega)
    rw [lev4,lev4,lev4] at h2
    exact ⟨h1,h2⟩
  right:=fun s hs hl=>by
    obtain ⟨h1,h2⟩:=S4.rightB hs hl
    rw [lev4] at h2
    exact ⟨h1,h2⟩
  clamp:=fun s hs hl=>clampE hs hl
  one:=fun s hs=>⟨S2.one_ok s (by omega),S2.one_0 s (by omega)⟩
  num:=fun l h0 h1 h2 _=>numE l h1 h2 h0
  le:=ar_le
  neq:=ar_neq
  ofN:=ar_ofN
  sceq:=ar_sceq
end Go.Sx
