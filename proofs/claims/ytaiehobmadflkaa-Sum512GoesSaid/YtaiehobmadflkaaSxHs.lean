import Derived.Test.YtaiehobmadflkaaSxHr
namespace Go.Sx
def nrC (B : List Nat) : Cell → Cell
  | .sl b o n z => match o with
    | none => match memB b B with
      | true => .sl b (some 0) n z
      | false => .sl b none n z
    | some o => .sl b (some o) n z
  | c => c
def nrS (B : List Nat) : Seg → Seg
  | .one c => .one (nrC B c)
  | s => s
def nrSs (B : List Nat) : List Seg → List Seg
  | [] => []
  | s :: r => nrS B s :: nrSs B r
def nrV1 (B : List Nat) : V1 → V1
  | .cell c => .cell (nrC B c)
  | .agg l => .agg (nrSs B l)
def nrV1s (B : List Nat) : List V1 → List V1
  | [] => []
  | x :: r => nrV1 B x :: nrV1s B r
def nrV (B : List Nat) : AV → AV
  | .v x => .v (nrV1 B x)
  | .tup l => .tup (nrV1s B l)
def nrVs (B : List Nat) : List AV → List AV
  | [] => []
  | x :: r => nrV B x :: nrVs B r
def nrH (B : List Nat) : Heap → Heap
  | [] => []
  | (b, x) :: r => (b, ⟨nrSs B x.segs, x.ty, x.own⟩) :: nrH B r
theorem RC_nr {ρ : Map} {B : List Nat} {c : Cell} {v : Value} : RC ρ (nrC B c) v ↔ RC ρ c v := by
  cases c with
  | sl b o n z =>
    cases o with
    | none =>
      simp only [nrC]
      split <;> exact Iff.rfl
    | some o => exact Iff.rfl
  | _ => exact Iff.rfl
theorem nrS_len (B : List Nat) (s : Seg) : (nrS B s).len = s.len := by cases s <;> rfl
theorem nrSs_len (B : List Nat) (l : List Seg) : segsLen (nrSs B l) = segsLen l := by
  induction l with
  | nil => rfl
  | cons s r ih => simp only [nrSs, segsLen, nrS_len, ih]
theorem colsCell_nr (B : List Nat) (cols : List Col) (i r : Nat) : nrC B (colsCell cols i r) = colsCell cols i r := by
  induction cols generalizing i with
  | nil => cases i <;> rfl
  | cons c q ih =>
    cases i with
    | zero => cases c <;> rfl
    | succ i => exact ih i
theorem nrS_cell (B : List Nat) (s : Seg) (j : Nat) : (nrS B s).cell j = nrC B (s.cell j) := by
  cases s with
  | recs n cols => exact (colsCell_nr B cols _ _).symm
  | _ => rfl
theorem nrSs_get (B : List Nat) (l : List Seg) (j : Nat) : getCell (nrSs B l) j = (getCell l j).map (nrC B) := by
  induction l generalizing j with
  | nil => rfl
  | cons s r ih =>
    simp only [nrSs]
    rw [getCell_cons, getCell_cons, nrS_len]
    split
    · rw [nrS_cell]; rfl
    · exact ih _
theorem nrSs_wf (B : List Nat) {l : List Seg} : segsWf (nrSs B l) ↔ segsWf l := by
  induction l with
  | nil => exact Iff.rfl
  | cons s r ih =>
    simp only [nrSs]
    rw [segsWf_cons, segsWf_cons, ih]
    have : (nrS B s).wf ↔ s.wf := by cases s <;> exact Iff.rfl
    rw [this]
theorem RSegs_nr {ρ : Map} {B : List Nat} {l : List Seg} {vs : List Value} : RSegs ρ (nrSs B l) vs ↔ RSegs ρ l vs := by
  unfold RSegs
  rw [nrSs_len, nrSs_wf]
  constructor
  · rintro ⟨h1, h2, h3⟩
    refine ⟨h1, h2, fun j c v hc hv => ?_⟩
    obtain ⟨g1, g2⟩ := h3 j (nrC B c) v (by rw [nrSs_get, hc]; rfl) hv
    exact ⟨RC_nr.1 g1, g2⟩
  · rintro ⟨h1, h2, h3⟩
    refine ⟨h1, h2, fun j c v hc hv => ?_⟩
    rw [nrSs_get] at hc
    cases hg : getCell l j with
    | none => rw [hg] at hc; cases hc
    | some c' =>
      rw [hg] at hc
      simp only [Option.map_some, Option.some.injEq] at hc
      subst hc
      obtain ⟨g1, g2⟩ := h3 j c' v hg hv
      exact ⟨RC_nr.2 g1, g2⟩
theorem RV1_nr {ρ : Map} {B : List Nat} {x : V1} {v : Value} : RV1 ρ (nrV1 B x) v ↔ RV1 ρ x v := by
  cases x with
  | cell c => exact RC_nr
  | agg l =>
    constructor
    · rintro ⟨cs, h1, h2⟩; exact ⟨cs, h1, RSegs_nr.1 h2⟩
    · rintro ⟨cs, h1, h2⟩; exact ⟨cs, h1, RSegs_nr.2 h2⟩
theorem nrV1s_get (B : List Nat) (l : List V1) (i : Nat) : (nrV1s B l)[i]? = (l[i]?).map (nrV1 B) := by
  induction l generalizing i with
  | nil => simp [nrV1s]
  | cons x r ih =>
    cases i with
    | zero => simp [nrV1s]
    | succ i => simpa [nrV1s] using ih i
theorem nrV1s_len (B : List Nat) (l : List V1) : (nrV1s B l).length = l.length := by
  induction l with
  | nil => rfl
  | cons x r ih => simp [nrV1s, ih]
theorem RV_nr {ρ : Map} {B : List Nat} {x : AV} {v : Value} : RV ρ (nrV B x) v ↔ RV ρ x v := by
  cases x with
  | v x => exact RV1_nr
  | tup l =>
    constructor
    · rintro ⟨vs, h1, h2, h3⟩
      refine ⟨vs, h1, by rw [h2, nrV1s_len], fun i x hx => ?_⟩
      obtain ⟨u, g1, g2⟩ := h3 i (nrV1 B x) (by rw [nrV1s_get, hx]; rfl)
      exact ⟨u, g1, RV1_nr.1 g2⟩
    · rintro ⟨vs, h1, h2, h3⟩
      refine ⟨vs, h1, by rw [h2, nrV1s_len], fun i x hx => ?_⟩
      rw [nrV1s_get] at hx
      cases hl : l[i]? with
      | none => rw [hl] at hx; cases hx
      | some y =>
        rw [hl] at hx
        simp only [Option.map_some, Option.some.injEq] at hx
        subst hx
        obtain ⟨u, g1, g2⟩ := h3 i y hl
        exact ⟨u, g1, RV1_nr.2 g2⟩
theorem nrVs_get (B : List Nat) (l : List AV) (i : Nat) : (nrVs B l)[i]? = (l[i]?).map (nrV B) := by
  induction l generalizing i with
  | nil => simp [nrVs]
  | cons x r ih =>
    cases i with
    | zero => simp [nrVs]
    | succ i => simpa [nrVs] using ih i
theorem nrVs_len (B : List Nat) (l : List AV) : (nrVs B l).length = l.length := by
  induction l with
  | nil => rfl
  | cons x r ih => simp [nrVs, ih]
theorem RVs_nr {ρ : Map} {B : List Nat} {l : List AV} {us : List Value} (h : RVs ρ l us) : RVs ρ (nrVs B l) us := by
  refine ⟨by rw [nrVs_len]; exact h.1, fun i v u hv hu => ?_⟩
  rw [nrVs_get] at hv
  cases hl : l[i]? with
  | none => rw [hl] at hv; cases hv
  | some y =>
    rw [hl] at hv
    simp only [Option.map_some, Option.some.injEq] at hv
    subst hv
    exact RV_nr.2 (h.2 i y u hl hu)
theorem lk_nr (B : List Nat) (b : Nat) (h : Heap) : lk b (nrH B h) = (lk b h).map fun x => ⟨nrSs B x.segs, x.ty, x.own⟩ := by
  induction h with
  | nil => rfl
  | cons p q ih =>
    obtain ⟨i, x⟩ := p
    simp only [nrH]
    rw [lk_cons, lk_cons, ih]
    split <;> rfl
theorem HR_nr {N : Nat} {S : Nat → Prop} {ρ : Map} {B : List Nat} {h : Heap} {w : World} (hr : HR N S ρ h w) : HR N S ρ (nrH B h) w := by
  have get : ∀ b x, lk b (nrH B h) = some x → ∃ y, lk b h = some y ∧ x = ⟨nrSs B y.segs, y.ty, y.own⟩ := by
    intro b x hx
    rw [lk_nr] at hx
    cases hl : lk b h with
    | none => rw [hl] at hx; cases hx
    | some y =>
      rw [hl] at hx
      simp only [Option.map_some, Option.some.injEq] at hx
      exact ⟨y, rfl, hx.symm⟩
  refine ⟨hr.low, fun b x hb => ?_, fun b c x y L M hb hc hL hM hne how => ?_⟩
  · obtain ⟨y, hy, rfl⟩ := get b x hb
    rcases hr.blk b y hy with ⟨h1, h2, h3, h4⟩ | ⟨L, cur, fz, h1, h2, h3, h4, h5, h6, h7⟩
    · exact .inl ⟨h1, h2, (nrSs_len _ _).trans h3, (nrSs_wf _).2 h4⟩
    · exact .inr ⟨L, cur, fz, h1, h2, h3.trans (nrSs_len _ _).symm, h4, h5, RSegs_nr.2 h6, h7⟩
  · obtain ⟨x', hx', rfl⟩ := get b x hb
    obtain ⟨y', hy', rfl⟩ := get c y hc
    exact hr.inj b c x' y' L M hx' hy' hL hM hne how
def outN (B : List Nat) (pins : List Nat) (nilr : Option (Nat × Nat × Blk)) (v : AV) (h : Heap) : Option (AV × Heap) :=
  match outH pins nilr v h with
  | some (v, h) => some (nrV B v, nrH B h)
  | none => none
theorem outN_sound {N : Nat} {S : Nat → Prop} {ρ : Map} {h : Heap} {w : World} {B pins : List Nat} {nilr : Option (Nat × Nat × Blk)} {v v2 : AV} {h2 : Heap} {u : Value} (ho : outN B pins nilr v h = some (v2, h2)) (hv : RV ρ v u) (hr : HR N S ρ h w) :
    ∃ ρ2, RV ρ2 v2 u ∧ HR N S ρ2 h2 w ∧ ∀ b, b < 500 → ρ2 b = ρ b := by
  unfold outN at ho
  split at ho
  · rename_i v' h' ho'
    simp only [Option.some.injEq, Prod.mk.injEq] at ho
    obtain ⟨rfl, rfl⟩ := ho
    obtain ⟨ρ2, g1, g2, g3⟩ := outH_sound ho' hv hr
    exact ⟨ρ2, RV_nr.2 g1, HR_nr g2, g3⟩
  · cases ho
section
variable {P : Program} {T : Tys} {O : Orc}
theorem fnh_ofN (hM : P.follows .mixedOrders = true) (hT : TyOK P T) (hO : OSound P O) (hD : ODet O) {an : Ann} {n : Nat} {f g : FuncId} {fn : Func} {c : Code} (hf : P.funcs[g]? = some fn) (hb : fn.body = some c) (hok : codeOk fn.ntmps c = true)
    (hcall : ∀ us w, (callFunc f us).run P w = .ok (.enter g us) w) {vs : List AV} {h : Heap} {v2 : AV} {h2 : Heap} (hn : vs.length ≤ fn.ntmps) {B pins : List Nat} {nilr : Option (Nat × Nat × Blk)}
    (hk : (∃ N S ρ us w, RVs ρ vs us ∧ HR N S ρ h w) → funD realA T O an n c fn.results.toList vs h (outN B pins nilr) = some (v2, h2)) : FnH P f vs h v2 h2 := by
  intro N S ρ w us hr hvs
  rw [hcall]
  refine ⟨rfl, Calls.mono (fun_sound hM hT hO hD hf hb hok hn hvs hr (hk ⟨N, S, ρ, _, w, hvs, hr⟩)) fun e w' he => ?_⟩
  obtain ⟨u, ρ', v', h', e1, e2, e3, e4, e5, e6⟩ := he
  obtain ⟨ρ2, g1, g2, g3⟩ := outN_sound e2 e3 e4
  exact ⟨u, ρ2, e1, g1, g2, e5, fun b hb => (g3 b hb).trans (e6 b hb)⟩
end
def hoN (B : List Nat) (a : List AV → Heap → Option (Bool × AV × Heap)) (x : List AV) (h : Heap) : Option (Bool × AV × Heap) := a (nrVs B x) (nrH B h)
theorem hoN_sound {P : Program} {f : FuncId} {B : List Nat} {a : List AV → Heap → Option (Bool × AV × Heap)} (ha : ∀ args h v h', a args h = some (true, v, h') → FnH P f args h v h') :
    ∀ args h v h', hoN B a args h = some (true, v, h') → FnH P f args h v h' := by
  intro args h v h' hh N S ρ w us hr hvs
  exact ha _ _ _ _ hh N S ρ w us (HR_nr hr) (RVs_nr hvs)
end Go.Sx
