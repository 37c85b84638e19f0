import Derived.Test.YtkomlijabeedpaaDoorSxTc
import Derived.Test.YtkomlijabeedpaaDoorSxRn
namespace Go.Sx

theorem hasKey_spec {α : Type} {b : Nat} {m : List (Nat × α)} (h : hasKey b m = true) : ∃ c, lk b m = some c := by
  unfold hasKey at h
  split at h
  · rename_i c hc; exact ⟨c, hc⟩
  · cases h
theorem cell_men {m : List (Nat × Nat)} {c : Cell} (h : c.men m = true) {b : Nat} (hb : c.mentions b = true) : ∃ d, lk b m = some d := by
  cases c with
  | ptr c o i =>
    have := beq_true hb
    subst this
    exact hasKey_spec h
  | sl c o n z =>
    have := beq_true hb
    subst this
    exact hasKey_spec h
  | _ => cases hb
theorem anyB_spec {α : Type} {p : α → Bool} {l : List α} (h : anyB p l = true) : ∃ x ∈ l, p x = true := by
  induction l with
  | nil => cases h
  | cons y r ih =>
    unfold anyB at h
    split at h
    · rename_i hy; exact ⟨y, List.mem_cons_self, hy⟩
    · obtain ⟨x, h1, h2⟩ := ih h; exact ⟨x, List.mem_cons_of_mem _ h1, h2⟩
theorem segsMen_spec {m : List (Nat × Nat)} {l : List Seg} (h : segsMen m l = true) {b : Nat} (hb : anyB (Seg.mentions b) l = true) : ∃ d, lk b m = some d := by
  induction l with
  | nil => cases hb
  | cons s r ih =>
    unfold anyB at hb
    split at hb
    · rename_i hs
      cases s with
      | one c =>
        simp only [segsMen, Bool.and_eq_true] at h
        exact cell_men h.1 hs
      | _ => cases hs
    · refine ih ?_ hb
      cases s with
      | one c => simp only [segsMen, Bool.and_eq_true] at h; exact h.2
      | _ => exact h
theorem v1_men {m : List (Nat × Nat)} {x : V1} (h : x.men m = true) {b : Nat} (hb : x.mentions b = true) : ∃ d, lk b m = some d := by
  cases x with
  | cell c => exact cell_men h hb
  | agg l => exact segsMen_spec h hb
theorem av_men {m : List (Nat × Nat)} {x : AV} (h : x.men m = true) {b : Nat} (hb : x.mentions b = true) : ∃ d, lk b m = some d := by
  cases x with
  | v x => exact v1_men h hb
  | tup l =>
    obtain ⟨y, h1, h2⟩ := anyB_spec hb
    exact v1_men (allL_spec h y h1) h2
  | yld c =>
    have := beq_true (show Nat.beq c b = true from hb)
    subst this
    exact hasKey_spec h
  | fn g a c =>
    have h' : (allL (V1.men m) a && allL (V1.men m) c) = true := h
    rw [Bool.and_eq_true] at h'
    rcases fn_men.1 hb with hb | hb
    · obtain ⟨y, h1, h2⟩ := anyB_spec hb
      exact v1_men (allL_spec h'.1 y h1) h2
    · obtain ⟨y, h1, h2⟩ := anyB_spec hb
      exact v1_men (allL_spec h'.2 y h1) h2

theorem RSegs_to {ρ ρ' : Map} {m : List (Nat × Nat)} {l : List Seg} {vs : List Value} (hm : segsMen m l = true) (he : ∀ b d, lk b m = some d → ρ' d = ρ b) (h : RSegs ρ l vs) : RSegs ρ' (segsRen (rn m) l) vs :=
  RSegs_ren.2 (RSegs_agree (fun b hb => by
    obtain ⟨d, hd⟩ := segsMen_spec hm hb
    show ρ' (rn m b) = ρ b
    unfold rn
    rw [hd]
    exact he b d hd) h)
theorem RV_to {ρ ρ' : Map} {m : List (Nat × Nat)} {x : AV} {v : Value} (hm : x.men m = true) (he : ∀ b d, lk b m = some d → ρ' d = ρ b) (h : RV ρ x v) : RV ρ' (x.ren (rn m)) v :=
  RV_ren.2 (RV_agree (fun b hb => by
    obtain ⟨d, hd⟩ := av_men hm hb
    show ρ' (rn m b) = ρ b
    unfold rn
    rw [hd]
    exact he b d hd) h)

def OutH (P : Program) (N : Nat) (S : Nat → Prop) (ρ : Map) (v : AV) (h' : Heap) (w : World) : Result Next → Prop
  | .ok (.enter f args) w' => w' = w ∧ Calls P f args w fun e w'' => ∃ u ρ', e = .returned u ∧ RV ρ' v u ∧ HR N S ρ' h' w'' ∧ Fr N S w w'' ∧ ∀ b, b < 500 → ρ' b = ρ b
  | _ => False
def FnH (P : Program) (f : FuncId) (vs : List AV) (h : Heap) (v : AV) (h' : Heap) : Prop := ∀ (N : Nat) (S : Nat → Prop) (ρ : Map) (w : World) (us : Array Value), HR N S ρ h w → RVs ρ vs us.toList → OutH P N S ρ v h' w ((callFunc f us).run P w)

structure HEnt where
  modes : List Nat
  nl : Option (Nat × Nat × Nat × Blk)
  run : List AV → Heap → Option (Bool × AV × Heap)

def Cell.blk : Cell → Option Nat
  | .ptr b _ _ => some b
  | .sl b _ _ _ => some b
  | _ => none
def segsCells : List Seg → List Cell
  | [] => []
  | .one c :: r => c :: segsCells r
  | _ :: r => segsCells r
def V1.cells' : V1 → List Cell
  | .cell c => [c]
  | .agg l => segsCells l
def v1sCells : List V1 → List Cell
  | [] => []
  | x :: r => x.cells' ++ v1sCells r
def AV.cells' : AV → List Cell
  | .v x => x.cells'
  | .tup l => v1sCells l
  | .fn _ a c => v1sCells a ++ v1sCells c
  | .yld b => [.ptr b 0 none]
def avsCells : List AV → List Cell
  | [] => []
  | x :: r => x.cells' ++ avsCells r
def find (h : Heap) : Nat → List Cell → List Nat → Option (List Nat)
  | 0, _, _ => none
  | _ + 1, [], acc => some acc
  | n + 1, c :: r, acc => match c.blk with
    | none => find h n r acc
    | some b => match memB b acc with
      | true => find h n r acc
      | false => match lk b h with
        | some x => find h n (r ++ segsCells x.segs) (acc ++ [b])
        | none => none
def idsOf : List Nat → Nat → List Nat → List (Nat × Nat)
  | _, _, [] => []
  | [], j, b :: r => (j, b) :: idsOf [] (j + 1) r
  | k :: q, j, b :: r => (match k with
    | 0 => (j, b)
    | _ => (500 + j, b)) :: idsOf q (j + 1) r
def swp : List (Nat × Nat) → List (Nat × Nat)
  | [] => []
  | (a, b) :: r => (b, a) :: swp r
def lkIs (a b : Nat) (m : List (Nat × Nat)) : Bool :=
  match lk a m with
  | some c => Nat.beq c b
  | none => false
def chk (m inv : List (Nat × Nat)) : Bool := allL (fun p => lkIs p.1 p.2 m && lkIs p.2 p.1 inv) m
def hcan (inv : List (Nat × Nat)) (H : Heap) : List (Nat × Nat) → Option Heap
  | [] => some []
  | (id, b) :: r => match lk b H with
    | some x => match segsMen inv x.segs with
      | true => match hcan inv H r with
        | some q => some ((id, x.ren (rn inv)) :: q)
        | none => none
      | false => none
    | none => none
def movs : List (Nat × Nat) → List Nat
  | [] => []
  | (id, b) :: r => match Nat.ble 500 id with
    | true => b :: movs r
    | false => movs r
def movOk (mv : List Nat) (inv : List (Nat × Nat)) : Heap → Bool
  | [] => true
  | (c, y) :: r => (match hasKey c inv with
    | true => true
    | false => allL (fun b => !anyB (Seg.mentions b) y.segs) mv) && movOk mv inv r
def lay (m2 : List (Nat × Nat)) (h' : Heap) : List (Nat × Nat) → Heap → Option Heap
  | [], H => some H
  | (id, b) :: r, H => match lk id h' with
    | some x => match segsMen m2 x.segs && (Nat.blt id 500 || Nat.blt 0 x.own) with
      | true => lay m2 h' r (hset b (x.ren (rn m2)) H)
      | false => none
    | none => none
def setNil : List Seg → Nat → Cell → Option (List Seg)
  | .one .nils :: r, 0, c => some (.one c :: r)
  | s :: r, n + 1, c => match setNil r n c with
    | some q => some (s :: q)
    | none => none
  | _, _, _ => none
def nilIn (nl : Option (Nat × Nat × Nat × Blk)) (hc : Heap) : Heap × Bool :=
  match nl with
  | none => (hc, false)
  | some (i, o, z, blk) => match lk i hc with
    | some x => match setNil x.segs o (.sl 600 none 0 z) with
      | some q => match (Nat.beq (segsLen blk.segs) 0 && wfB blk.segs) && (Nat.beq blk.own 2 && noPtr blk.segs) with
        | true => (hset i ⟨q, x.ty, x.own⟩ hc ++ [(600, blk)], true)
        | false => (hc, false)
      | none => (hc, false)
    | none => (hc, false)
def nidOf : Bool → Heap → Option Nat
  | true, _ => some 600
  | false, h => match lk 700 h with
    | some _ => some 700
    | none => none
section
variable {R : Type}
def hoRet (sid : Nat) (H : Heap) (k : AV → Heap → List Nat → Option R) (m inv : List (Nat × Nat)) (v : AV) (h' : Heap) : Option Nat → Option R
  | none => match (v.men m) && movOk (movs m) inv H with
    | true => match lay m h' m H with
      | some H1 => k (v.ren (rn m)) H1 (movs m)
      | none => none
    | false => none
  | some n => match ((v.men ((n, sid) :: m)) && movOk (movs m) inv H) && (!hasKey n m && Nat.ble 500 n) with
    | true => match lay ((n, sid) :: m) h' m H with
      | some H1 => match lk n h' with
        | some x => match segsMen ((n, sid) :: m) x.segs && Nat.blt 0 x.own with
          | true => k (v.ren (rn ((n, sid) :: m))) ((sid, x.ren (rn ((n, sid) :: m))) :: H1) (movs m)
          | false => none
        | none => none
      | none => none
    | false => none
def hoRun (e : HEnt) (sid : Nat) (args : List AV) (H : Heap) (k : AV → Heap → List Nat → Option R) (m inv : List (Nat × Nat)) : Option R :=
  match chk m inv && allL (AV.men inv) args with
  | true => match hcan inv H m with
    | some hc => match nilIn e.nl hc with
      | (hc', conv) => match e.run (avsRen (rn inv) args) hc' with
        | some (c, v, h') => match c with
          | true => hoRet sid H k m inv v h' (nidOf conv h')
          | false => none
        | none => none
    | none => none
  | false => none
end
def orcH (tv : List (Nat × (List AV → Option (Bool × AV)))) (th : List (Nat × HEnt)) : Orc :=
  { run := fun f sid args h k => match lk f th with
    | some e => match find h 1000 (avsCells args) [] with
      | some bs => hoRun e sid args h k (idsOf e.modes 0 bs) (swp (idsOf e.modes 0 bs))
      | none => none
    | none => (orcOf tv).run f sid args h k }
def ho2 (a b : List AV → Heap → Option (Bool × AV × Heap)) (x : List AV) (h : Heap) : Option (Bool × AV × Heap) :=
  match a x h with
  | some r => some r
  | none => b x h
theorem ho2_sound {P : Program} {f : FuncId} {a b : List AV → Heap → Option (Bool × AV × Heap)} (ha : ∀ args h v h', a args h = some (true, v, h') → FnH P f args h v h') (hb : ∀ args h v h', b args h = some (true, v, h') → FnH P f args h v h') :
    ∀ args h v h', ho2 a b args h = some (true, v, h') → FnH P f args h v h' := by
  intro args h v h' hh
  unfold ho2 at hh
  split at hh
  · rename_i r hr
    exact ha _ _ _ _ (hr.trans hh)
  · exact hb _ _ _ _ hh
end Go.Sx
