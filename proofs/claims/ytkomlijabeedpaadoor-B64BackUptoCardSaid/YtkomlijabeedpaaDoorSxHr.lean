import Derived.Test.YtkomlijabeedpaaDoorSxHq
namespace Go.Sx

def hpick (h : Heap) : List Nat → Heap
  | [] => []
  | b :: r => match lk b h with
    | some x => (b, x) :: hpick h r
    | none => hpick h r
def heapCells : Heap → List Cell
  | [] => []
  | (_, x) :: r => segsCells x.segs ++ heapCells r
def v1sNil : List V1 → Nat → Nat → Option (List V1)
  | .cell .nils :: r, 0, z => some (.cell (.sl 700 none 0 z) :: r)
  | x :: r, i + 1, z => match v1sNil r i z with
    | some q => some (x :: q)
    | none => none
  | _, _, _ => none
def nilV (i z : Nat) : AV → Option AV
  | .v (.cell .nils) => some (.v (.cell (.sl 700 none 0 z)))
  | .tup l => match v1sNil l i z with
    | some q => some (.tup q)
    | none => none
  | _ => none
def selfs : List Nat → List (Nat × Nat)
  | [] => []
  | b :: r => (b, b) :: selfs r
def heapRen (m : List (Nat × Nat)) : Heap → Option Heap
  | [] => some []
  | (b, x) :: r => match segsMen m x.segs with
    | true => match heapRen m r with
      | some q => some ((b, x.ren (rn m)) :: q)
      | none => none
    | false => none
def outH (pins : List Nat) (nilr : Option (Nat × Nat × Blk)) (v : AV) (h : Heap) : Option (AV × Heap) :=
  match find h 1000 (v.cells' ++ heapCells (hpick h pins)) pins with
  | none => none
  | some bs => match bs.drop pins.length with
    | [] => match nilr with
      | none => some (v, hpick h pins)
      | some (i, z, blk) => match nilV i z v with
        | some v' => match ((Nat.beq (segsLen blk.segs) 0 && wfB blk.segs) && (Nat.beq blk.own 2 && noPtr blk.segs)) && ((heapFree 700 (hpick h pins) && !v.mentions 700) && !memB 700 pins) with
          | true => some (v', hpick h pins ++ [(700, blk)])
          | false => none
        | none => some (v, hpick h pins)
    | n :: q => match q with
      | [] => match (v.men ((n, 700) :: selfs pins) && !memB 700 pins) && !memB n pins with
        | true => match heapRen ((n, 700) :: selfs pins) (hpick h pins), lk n h with
          | some h1, some x => match segsMen ((n, 700) :: selfs pins) x.segs with
            | true => some (v.ren (rn ((n, 700) :: selfs pins)), h1 ++ [(700, x.ren (rn ((n, 700) :: selfs pins)))])
            | false => none
          | _, _ => none
        | false => none
      | _ => none

theorem memB_spec {b : Nat} {l : List Nat} (h : memB b l = false) : b ∉ l := by
  induction l with
  | nil => simp
  | cons c r ih =>
    unfold memB at h
    split at h
    · cases h
    · rename_i hc
      intro hm
      cases hm with
      | head => simp [Nat.beq_refl] at hc
      | tail _ hm => exact ih h hm
theorem hpick_spec {h : Heap} {l : List Nat} {b : Nat} {x : Blk} (hx : lk b (hpick h l) = some x) : lk b h = some x ∧ b ∈ l := by
  induction l with
  | nil => simp [hpick, lk] at hx
  | cons c r ih =>
    simp only [hpick] at hx
    split at hx
    · rename_i y hy
      rw [lk_cons] at hx
      split at hx
      · rename_i e
        simp only [Option.some.injEq] at hx
        subst e; subst hx
        exact ⟨hy, List.mem_cons_self⟩
      · obtain ⟨a, b⟩ := ih hx
        exact ⟨a, List.mem_cons_of_mem _ b⟩
    · obtain ⟨a, b⟩ := ih hx
      exact ⟨a, List.mem_cons_of_mem _ b⟩
theorem HR_sub {N : Nat} {S : Nat → Prop} {ρ : Map} {h h2 : Heap} {w : World} (hr : HR N S ρ h w) (hs : ∀ b x, lk b h2 = some x → lk b h = some x) : HR N S ρ h2 w :=
  ⟨hr.low, fun b x hb => hr.blk b x (hs b x hb), fun b c x y L M hb hc hL hM hne ho => hr.inj b c x y L M (hs b x hb) (hs c y hc) hL hM hne ho⟩
theorem HR_ren {N : Nat} {S : Nat → Prop} {ρ ρ2 : Map} {h h2 : Heap} {w : World} {m : List (Nat × Nat)} (hr : HR N S ρ h w) (hρ : ∀ b d, lk b m = some d → ρ2 d = ρ b)
    (hinj : ∀ b c d, lk b m = some d → lk c m = some d → b = c) (hs : ∀ c y, lk c h2 = some y → ∃ b x, lk b m = some c ∧ lk b h = some x ∧ segsMen m x.segs = true ∧ y = x.ren (rn m)) : HR N S ρ2 h2 w := by
  refine ⟨hr.low, fun c y hc => ?_, fun c d y z L M hc hd hL hM hne ho => ?_⟩
  · obtain ⟨b, x, h1, h2, h3, rfl⟩ := hs c y hc
    rcases hr.blk b x h2 with ⟨q1, q2, q3, q4⟩ | ⟨L, cur, fz, q1, q2, q3, q4, q5, q6, q7⟩
    · exact .inl ⟨q1, (hρ b c h1).trans q2, (segsLen_ren _ _).trans q3, (segsWf_ren _).2 q4⟩
    · exact .inr ⟨L, cur, fz, (hρ b c h1).trans q1, q2, q3.trans (segsLen_ren _ _).symm, q4, q5, RSegs_to h3 hρ q6, q7⟩
  · obtain ⟨b, x, h1, h2, h3, rfl⟩ := hs c y hc
    obtain ⟨b', x', h1', h2', h3', rfl⟩ := hs d z hd
    rw [hρ b c h1] at hL
    rw [hρ b' d h1'] at hM
    refine hr.inj b b' x x' L M h2 h2' hL hM (fun e => ?_) ho
    subst e
    rw [h1] at h1'
    exact hne (Option.some.inj h1')
theorem heapRen_spec {m : List (Nat × Nat)} {h q : Heap} (hq : heapRen m h = some q) {c : Nat} {y : Blk} (hy : lk c q = some y) : ∃ x, lk c h = some x ∧ segsMen m x.segs = true ∧ y = x.ren (rn m) := by
  induction h generalizing q with
  | nil =>
    simp only [heapRen, Option.some.injEq] at hq
    subst hq
    simp [lk] at hy
  | cons p r ih =>
    obtain ⟨b, x⟩ := p
    simp only [heapRen] at hq
    split at hq
    · rename_i hm
      split at hq
      · rename_i q' hq'
        simp only [Option.some.injEq] at hq
        subst hq
        rw [lk_cons] at hy
        split at hy
        · rename_i e
          simp only [Option.some.injEq] at hy
          subst e; subst hy
          exact ⟨x, by rw [lk_cons, if_pos rfl], hm, rfl⟩
        · rename_i e
          obtain ⟨x', h1, h2⟩ := ih hq' hy
          exact ⟨x', by rw [lk_cons, if_neg e]; exact h1, h2⟩
      · cases hq
    · cases hq
theorem lk_selfs {l : List Nat} {b d : Nat} (h : lk b (selfs l) = some d) : b = d ∧ b ∈ l := by
  induction l with
  | nil => simp [selfs, lk] at h
  | cons c r ih =>
    simp only [selfs] at h
    rw [lk_cons] at h
    split at h
    · rename_i e
      simp only [Option.some.injEq] at h
      subst e; subst h
      exact ⟨rfl, List.mem_cons_self⟩
    · obtain ⟨a, b⟩ := ih h
      exact ⟨a, List.mem_cons_of_mem _ b⟩
theorem lk_selfs_mem {l : List Nat} {b : Nat} (h : b ∈ l) : lk b (selfs l) = some b := by
  induction l with
  | nil => cases h
  | cons c r ih =>
    simp only [selfs]
    rw [lk_cons]
    by_cases e : c = b
    · rw [if_pos e, e]
    · rw [if_neg e]
      cases h with
      | head => exact absurd rfl e
      | tail _ h => exact ih h
theorem v1sNil_spec {ρ : Map} (hn : ρ 700 = none) {l q : List V1} {i z : Nat} (h : v1sNil l i z = some q) : q.length = l.length ∧ ∀ (j : Nat) y, q[j]? = some y → ∃ x, l[j]? = some x ∧ ∀ u, RV1 ρ x u → RV1 ρ y u := by
  induction l generalizing q i with
  | nil => simp [v1sNil] at h
  | cons s r ih =>
    cases i with
    | zero =>
      have : s = .cell .nils ∧ q = .cell (.sl 700 none 0 z) :: r := by
        cases s with
        | cell c => cases c <;> first | (simp only [v1sNil, Option.some.injEq] at h; exact ⟨rfl, h.symm⟩) | (simp [v1sNil] at h)
        | agg l => simp [v1sNil] at h
      obtain ⟨rfl, rfl⟩ := this
      refine ⟨rfl, fun j y hy => ?_⟩
      cases j with
      | zero =>
        simp only [List.getElem?_cons_zero, Option.some.injEq] at hy
        subst hy
        exact ⟨_, rfl, fun u hu => .inl ⟨hn, rfl, hu⟩⟩
      | succ j => exact ⟨y, by simpa using hy, fun u hu => hu⟩
    | succ i =>
      simp only [v1sNil] at h
      split at h
      · rename_i q' hq
        simp only [Option.some.injEq] at h
        subst h
        obtain ⟨g1, g2⟩ := ih hq
        refine ⟨by simp [g1], fun j y hy => ?_⟩
        cases j with
        | zero => exact ⟨s, rfl, by simp only [List.getElem?_cons_zero, Option.some.injEq] at hy; subst hy; exact fun u hu => hu⟩
        | succ j => exact g2 j y (by simpa using hy)
      · cases h
theorem nilV_spec {ρ : Map} (hn : ρ 700 = none) {v v' : AV} {i z : Nat} (h : nilV i z v = some v') {u : Value} (hv : RV ρ v u) : RV ρ v' u := by
  unfold nilV at h
  split at h
  · simp only [Option.some.injEq] at h
    subst h
    exact .inl ⟨hn, rfl, hv⟩
  · split at h
    · rename_i q hq
      simp only [Option.some.injEq] at h
      subst h
      obtain ⟨vs, e1, e2, e3⟩ := hv
      obtain ⟨g1, g2⟩ := v1sNil_spec hn hq
      refine ⟨vs, e1, by rw [e2, g1], fun j y hy => ?_⟩
      obtain ⟨x, hx, hxy⟩ := g2 j y hy
      obtain ⟨w, hw, hr⟩ := e3 j x hx
      exact ⟨w, hw, hxy w hr⟩
    · cases h
  · cases h

theorem outH_sound {N : Nat} {S : Nat → Prop} {ρ : Map} {h : Heap} {w : World} {pins : List Nat} {nilr : Option (Nat × Nat × Blk)} {v v2 : AV} {h2 : Heap} {u : Value} (ho : outH pins nilr v h = some (v2, h2)) (hv : RV ρ v u) (hr : HR N S ρ h w) :
    ∃ ρ2, RV ρ2 v2 u ∧ HR N S ρ2 h2 w ∧ ∀ b, b < 500 → ρ2 b = ρ b := by
  have sub := HR_sub (h2 := hpick h pins) hr fun b x hb => (hpick_spec hb).1
  unfold outH at ho
  split at ho
  · cases ho
  · split at ho
    · split at ho
      · simp only [Option.some.injEq, Prod.mk.injEq] at ho
        obtain ⟨rfl, rfl⟩ := ho
        exact ⟨ρ, hv, sub, fun _ _ => rfl⟩
      · rename_i i z blk
        split at ho
        · rename_i v' hv'
          split at ho
          · rename_i hok
            simp only [Option.some.injEq, Prod.mk.injEq] at ho
            obtain ⟨rfl, rfl⟩ := ho
            simp only [Bool.and_eq_true, Bool.not_eq_true'] at hok
            obtain ⟨⟨⟨o1, o2⟩, o3, o4⟩, ⟨o5, o6⟩, o7⟩ := hok
            have ne : ∀ b, b ≠ 700 → (fun b => if b = 700 then none else ρ b : Map) b = ρ b := fun b hb => if_neg hb
            have sub' : HR N S (fun b => if b = 700 then none else ρ b : Map) (hpick h pins) w := HR_agree sub (fun b x hb => ne b (fun e => memB_spec o7 (e ▸ (hpick_spec hb).2))) (fun b x c hb hc => ne c (fun e => by
              subst e
              rw [heapFree_spec o5 hb] at hc
              cases hc))
            refine ⟨fun b => if b = 700 then none else ρ b, nilV_spec (if_pos rfl) hv' (RV_agree (fun b hb => ne b (fun e => by subst e; rw [o6] at hb; cases hb)) hv), ?_, fun b hb => ne b (by omega)⟩
            refine ⟨sub'.low, fun b x hb => ?_, fun b c x y L M hb hc hL hM hne ho => ?_⟩
            · rcases lk_app hb with h1 | ⟨_, h1⟩
              · exact sub'.blk b x h1
              · rw [lk_cons] at h1
                split at h1
                · rename_i e
                  simp only [Option.some.injEq] at h1
                  subst e; subst h1
                  exact .inl ⟨by rw [beq_true o3]; decide, if_pos rfl, beq_true o1, wfB_spec o2⟩
                · simp [lk] at h1
            · have old : ∀ b x L, lk b (hpick h pins ++ [(700, blk)]) = some x → (fun b => if b = 700 then none else ρ b : Map) b = some L → lk b (hpick h pins) = some x := by
                intro b x L hb hL
                rcases lk_app hb with h1 | ⟨_, h1⟩
                · exact h1
                · rw [lk_cons] at h1
                  split at h1
                  · rename_i e
                    subst e
                    simp at hL
                  · simp [lk] at h1
              exact sub'.inj b c x y L M (old b x L hb hL) (old c y M hc hM) hL hM hne ho
          · cases ho
        · simp only [Option.some.injEq, Prod.mk.injEq] at ho
          obtain ⟨rfl, rfl⟩ := ho
          exact ⟨ρ, hv, sub, fun _ _ => rfl⟩
    · rename_i n q _
      split at ho
      · split at ho
        · rename_i hok
          simp only [Bool.and_eq_true, Bool.not_eq_true'] at hok
          obtain ⟨⟨o1, o2⟩, o3⟩ := hok
          split at ho
          · rename_i h1 x hh1 hx
            split at ho
            · rename_i hxm
              simp only [Option.some.injEq, Prod.mk.injEq] at ho
              obtain ⟨rfl, rfl⟩ := ho
              have hρ : ∀ b d, lk b ((n, 700) :: selfs pins) = some d → (fun b => if b = 700 then ρ n else ρ b : Map) d = ρ b := by
                intro b d hb
                rw [lk_cons] at hb
                split at hb
                · rename_i e
                  simp only [Option.some.injEq] at hb
                  subst e; subst hb
                  exact if_pos rfl
                · obtain ⟨rfl, hm⟩ := lk_selfs hb
                  exact if_neg (fun (e : b = 700) => memB_spec o2 (by rw [← e]; exact hm))
              refine ⟨fun b => if b = 700 then ρ n else ρ b, RV_to o1 hρ hv, HR_ren (m := (n, 700) :: selfs pins) hr hρ (fun b c d hb hc => ?_) (fun c y hc => ?_), fun b hb => if_neg (by omega)⟩
              · rw [lk_cons] at hb hc
                split at hb <;> split at hc
                · rename_i e1 e2; exact e1.symm.trans e2
                · obtain ⟨rfl, hm⟩ := lk_selfs hc
                  simp only [Option.some.injEq] at hb
                  subst hb
                  exact absurd hm (memB_spec o2)
                · obtain ⟨rfl, hm⟩ := lk_selfs hb
                  simp only [Option.some.injEq] at hc
                  subst hc
                  exact absurd hm (memB_spec o2)
                · exact (lk_selfs hb).1.trans (lk_selfs hc).1.symm
              · rcases lk_app hc with g | ⟨_, g⟩
                · obtain ⟨x', e1, e2, rfl⟩ := heapRen_spec hh1 g
                  obtain ⟨f1, f2⟩ := hpick_spec e1
                  exact ⟨c, x', by rw [lk_cons, if_neg (fun (e : n = c) => memB_spec o3 (by rw [e]; exact f2))]; exact lk_selfs_mem f2, f1, e2, rfl⟩
                · rw [lk_cons] at g
                  split at g
                  · rename_i e
                    simp only [Option.some.injEq] at g
                    subst e; subst g
                    exact ⟨n, x, by rw [lk_cons, if_pos rfl], hx, hxm, rfl⟩
                  · simp [lk] at g
            · cases ho
          · cases ho
        · cases ho
      · cases ho

end Go.Sx
