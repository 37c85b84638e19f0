import Derived.Test.YtkomlijabeedpaaDoorSxK
import Derived.Lib.ConvBytes
import Derived.Laws.MakeOwn
namespace Go.Sx

def RVs (ρ : Map) (vs : List AV) (us : List Value) : Prop := us.length = vs.length ∧ ∀ (i : Nat) v u, vs[i]? = some v → us[i]? = some u → RV ρ v u

def OSound (P : Program) (O : Orc) : Prop := ∀ {R : Type} (f sid : Nat) (args : List AV) (h : Heap) (k : AV → Heap → List Nat → Option R) (r : R), O.run f sid args h k = some r →
  ∀ (N : Nat) (S : Nat → Prop) (ρ : Map) (w : World) (us : Array Value), HR N S ρ h w → lk sid h = none → heapFree sid h = true → RVs ρ args us.toList →
    ∃ v h' mv, k v h' mv = some r ∧ Good P N S ρ sid true mv v h' w ((callFunc f us).run P w)

def YOk (P : Program) (O : Orc) (N : Nat) (S : Nat → Prop) (ρ : Map) (h : Heap) (w : World) : Prop := ∀ (vs : List AV) (h' : Heap) (us : Array Value) (L : Loc), O.yl vs h = some (true, h') → RVs ρ vs us.toList → ρ 449 = some L →
  ∀ (sid : Nat) (fr : Bool), Good P N S ρ sid fr (mvOf h') (.v (.cell (.bool true))) h' w ((Instr.yield L.g us).run P w)
theorem yok_none {P : Program} {O : Orc} {N : Nat} {S : Nat → Prop} {ρ : Map} {h : Heap} {w : World} (hy : ∀ vs h, O.yl vs h = none) : YOk P O N S ρ h w := fun vs h' us L e => by rw [hy] at e; cases e

section
variable {P : Program} {T : Tys} {O : Orc} {N : Nat} {S : Nat → Prop} {ρ : Map} {h : Heap} {w : World} {e : Operand → Option AV} {a : Act} {R : Type} {r : R} {sid : Nat} {fr : Bool} {k : AV → Heap → List Nat → Option R}

theorem Good.pure_ {v : AV} {u : Value} (hr : HR N S ρ h w) (hv : RV ρ v u) : Good P N S ρ sid fr [] v h w (.ok (.value u) w) :=
  ⟨ρ, hv, hr, Fr.refl _ _ _, fun _ _ _ => rfl⟩

theorem Good.new {v : AV} {u : Value} {cur : Array Value} {ty : TypeId} {fz : Nat × Nat} {segs : List Seg} {own n : Nat} {w' : World} (hr : HR N S ρ h w) (hfr : fr = true → lk sid h = none ∧ heapFree sid h = true) (hf : fr = true)
    (hw : w'.heap = (w.alloc (.cells cur ty fz)).heap) (hos : w'.os = w.os) (htape : w'.tape = w.tape) (hout : w'.output = w.output)
    (hs : RSegs ρ segs (cur.toList.take n)) (hm : anyB (Seg.mentions sid) segs = false) (hn : n = segsLen segs) (hle : n ≤ cur.size)
    (hz : ∀ i, i < cur.size → ¬ (fz.1 ≤ i ∧ i < fz.2)) (hz2 : own = 2 → fz = (0, 0)) (hv : RV (setMap ρ sid ⟨w.heap.size, 0, cur.size, n⟩) v u) :
    Good P N S ρ sid fr [] v ((sid, ⟨segs, ty, own⟩) :: h) w (.ok (.value u) w') := by
  obtain ⟨h1, h2⟩ := hfr hf
  refine ⟨_, hv, HR_drewN (HR_alloc hr h1 h2 hs hm hn hle hz hz2) hw, ⟨hos, htape, hout, by rw [hw]; simp, fun i hi _ => by rw [hw]; exact allocOld w _ i (by have := hr.low; omega), fun i o hi _ => by rw [hw]; exact (allocOld w _ i (Array.getElem?_eq_some_iff.1 hi).1).trans hi⟩, fun b _ hb => setMap_ne _ _ (fun e => by
    have := hb e
    rw [hf] at this; cases this)⟩

theorem free_of {x : V1} {u : Value} {hp : Heap} (hnm : x.mentions sid = false) : anyB (Seg.mentions sid) x.segs = false := by
  cases x with
  | cell c => simp only [V1.segs, anyB, Seg.mentions]; rw [show c.mentions sid = false from hnm]
  | agg l => exact hnm

theorem evs_sound (he : ER ρ e a) {l : List Operand} {vs : List AV} (h : evs e l = some vs) : RVs ρ vs (l.map a.eval) := by
  induction l generalizing vs with
  | nil =>
    simp only [evs, Option.some.injEq] at h
    subst h
    exact ⟨rfl, fun i v u hv => by simp at hv⟩
  | cons x r ih =>
    simp only [evs] at h
    split at h
    · rename_i v hv
      split at h
      · rename_i q hq
        simp only [Option.some.injEq] at h
        subst h
        obtain ⟨h1, h2⟩ := ih hq
        refine ⟨by simpa using h1, fun i v' u hv' hu => ?_⟩
        cases i with
        | zero =>
          simp at hv' hu
          subst hv'; subst hu
          exact he x _ hv
        | succ i => exact h2 i v' u (by simpa using hv') (by simpa using hu)
      · cases h
    · cases h

def NoMen (sid : Nat) (e : Operand → Option AV) : Prop := ∀ x v, e x = some v → v.mentions sid = false

theorem lk2_get (i : Nat) (l : List (Nat × Nat)) : buildE.lk2 i l = l[i]? := by
  induction l generalizing i with
  | nil => cases i <;> rfl
  | cons x r ih => cases i with
    | zero => rfl
    | succ i => simpa [buildE.lk2] using ih i

theorem und_eq (hT : TyOK P T) {t : TypeId} {ty : Ty} (ht : T t = some ty) : ∃ d, P.underlying t = some d ∧ DescOK ty d := by
  obtain ⟨_, d, _, h2, _, _, h5, _⟩ := hT.ok t ty ht
  exact ⟨d, h2, h5⟩
theorem und_slice (hT : TyOK P T) {t : TypeId} {ty : Ty} (ht : T t = some ty) (hk : ty.tk = .slice) : P.underlying t = some (.slice ty.elem) := by
  obtain ⟨d, h1, h2⟩ := und_eq hT ht
  unfold DescOK at h2
  rw [hk] at h2
  rw [h1, h2]
theorem und_array (hT : TyOK P T) {t : TypeId} {ty : Ty} (ht : T t = some ty) (hk : ty.tk = .array) : P.underlying t = some (.array ty.len ty.elem) := by
  obtain ⟨d, h1, h2⟩ := und_eq hT ht
  unfold DescOK at h2
  rw [hk] at h2
  rw [h1, h2]
theorem und_string (hT : TyOK P T) {t : TypeId} {ty : Ty} (ht : T t = some ty) (hk : ty.tk = .string) : P.underlying t = some .string := by
  obtain ⟨d, h1, h2⟩ := und_eq hT ht
  unfold DescOK at h2
  rw [hk] at h2
  rw [h1, h2]
theorem und_int (hT : TyOK P T) {t : TypeId} {ty : Ty} {kd : IntKind} (ht : T t = some ty) (hk : ty.tk = .int kd) : P.underlying t = some (.int kd) := by
  obtain ⟨d, h1, h2⟩ := und_eq hT ht
  unfold DescOK at h2
  rw [hk] at h2
  rw [h1, h2]
theorem und_struct (hT : TyOK P T) {t : TypeId} {ty : Ty} (ht : T t = some ty) (hk : ty.tk = .struct) : ∃ fs, P.underlying t = some (.struct fs) ∧ ∀ i, (fs[i]?).map (fun f => (f.offset, f.type)) = buildE.lk2 i ty.flds := by
  obtain ⟨d, h1, h2⟩ := und_eq hT ht
  unfold DescOK at h2
  rw [hk] at h2
  obtain ⟨fs, rfl, h3⟩ := h2
  exact ⟨fs, h1, h3⟩
theorem fieldOf_spec (hT : TyOK P T) {t : TypeId} {ty : Ty} (ht : T t = some ty) {f off ft : Nat} (h : fieldOf ty f = some (off, ft)) :
    ∃ fs fd, P.underlying t = some (.struct fs) ∧ fs[f]? = some fd ∧ fd.offset = off ∧ fd.type = ft := by
  unfold fieldOf at h
  split at h
  · rename_i hk
    obtain ⟨fs, h1, h2⟩ := und_struct hT ht hk
    have h3 := h2 f
    rw [h] at h3
    cases hfd : fs[f]? with
    | none => rw [hfd] at h3; cases h3
    | some fd =>
      rw [hfd] at h3
      simp only [Option.map_some, Option.some.injEq, Prod.mk.injEq] at h3
      exact ⟨fs, fd, h1, hfd, h3.1, h3.2⟩
  · cases h

theorem run_part_sound (hT : TyOK P T) {t : TypeId} {ty : Ty} (ht : T t = some ty) {q : List Seg} {cs : Array Value} (hq : RSegs ρ q cs.toList) {off : Nat} {v : V1}
    (hv : (match ty.tk with
      | .struct | .array => match getRange q off ty.size with
        | some p => some (V1.agg p)
        | none => none
      | .other => none
      | _ => match getCell q off with
        | some c => some (V1.cell c)
        | none => none) = some v) : ∃ u, (part t cs off).run P w = .ok u w ∧ RV1 ρ v u := by
  have hlen : cs.size = segsLen q := by have := hq.1; simpa using this
  have aggC : (ty.tk = .struct ∨ ty.tk = .array) → (match getRange q off ty.size with
        | some p => some (V1.agg p)
        | none => none) = some v → ∃ u, (part t cs off).run P w = .ok u w ∧ RV1 ρ v u := by
    intro hk hv
    split at hv
    · rename_i p hp
      simp only [Option.some.injEq] at hv
      subst hv
      obtain ⟨g1, g2, g3, g4⟩ := getRange_spec hp hq.2.1
      refine ⟨.agg (cs.extract off (off + ty.size)), by simp [part, run_isAgg_agg hT ht hk, run_sizeOf hT ht], ⟨_, rfl, ?_⟩⟩
      refine ⟨by rw [g1]; simp; omega, g2, fun j c u hc hu => ?_⟩
      have hj := getCell_lt hc
      rw [g4 j (by omega)] at hc
      refine hq.2.2 (off + j) c u hc ?_
      have : ((cs.toList.drop off).take ty.size)[j]? = some u := by simpa using hu
      rw [List.getElem?_take] at this
      split at this
      · rw [List.getElem?_drop] at this; exact this
      · cases this
    · cases hv
  split at hv
  · rename_i hk; exact aggC (.inl hk) hv
  · rename_i hk; exact aggC (.inr hk) hv
  · cases hv
  · rename_i n1 n2 n3
    split at hv
    · rename_i c hc
      simp only [Option.some.injEq] at hv
      subst hv
      have hlt := getCell_lt hc
      have hcs : off < cs.size := by omega
      refine ⟨cs[off], by simp [part, run_isAgg_scalar hT ht n1 n2 n3, hcs], ?_⟩
      exact (hq.2.2 off c cs[off] hc (by simp [hcs])).1
    · cases hv

theorem buildE_sound (hT : TyOK P T) {t : TypeId} {ty : Ty} (ht : T t = some ty) {ps : List (Nat × V1)} {us : List (Nat × Value)} {segs q : List Seg} {cs : Array Value} (h : buildE T ty segs ps = some q) (hs : RSegs ρ segs cs.toList)
    (hl : us.length = ps.length) (hu : ∀ (i : Nat) p x, ps[i]? = some p → us[i]? = some x → x.1 = p.1 ∧ RV1 ρ p.2 x.2 ∧ p.2.ok = true)
    (place : Nat → Option (Nat × Nat)) (hp : ∀ i, place i = match ty.tk with
      | .struct => match buildE.lk2 i ty.flds with
        | some (off, ft) => match T ft with
          | some fty => some (off, fty.size)
          | none => place i
        | none => none
      | .array => match T ty.elem with
        | some ety => some (i * ety.size, ety.size)
        | none => place i
      | _ => place i) :
    ∃ cs', Instr.fill place cs us = some cs' ∧ RSegs ρ q cs'.toList := by
  induction ps generalizing us segs cs with
  | nil =>
    simp only [buildE, Option.some.injEq] at h
    subst h
    have : us = [] := List.length_eq_zero_iff.1 (by simpa using hl)
    subst this
    exact ⟨cs, rfl, hs⟩
  | cons p ps ih =>
    obtain ⟨i0, v⟩ := p
    cases us with
    | nil => simp at hl
    | cons x us =>
      obtain ⟨i, u⟩ := x
      obtain ⟨e1, hv, hok⟩ := hu 0 (i0, v) (i, u) rfl rfl
      simp only at e1 hv hok
      subst e1
      obtain ⟨hcells, hcl⟩ := RV1_cells hv hok
      have step : ∀ off sz q', place i = some (off, sz) → segsLen v.segs = sz → setRange segs off v.segs = some q' → buildE T ty q' ps = some q → off ≤ segsLen segs → ∃ cs', Instr.fill place cs ((i, u) :: us) = some cs' ∧ RSegs ρ q cs'.toList := by
        intro off sz q' hpl hsz hset hrest hoff
        obtain ⟨r1, r2, r3, r4⟩ := setRange_spec hset hs.2.1 hcells.2.1 hoff
        have hcss : cs.size = segsLen segs := by have := hs.1; simpa using this
        -- the cells laid one by one
        have fold : ∀ (l : List Value) (off0 : Nat) (c0 : Array Value), off0 + l.length ≤ c0.size → ((l.toArray.zipIdx.foldl (fun cs (c, j) => cs.setIfInBounds (off0 + j) c) c0)).size = c0.size ∧
            ∀ j, ((l.toArray.zipIdx.foldl (fun cs (c, j) => cs.setIfInBounds (off0 + j) c) c0))[j]? = if off0 ≤ j ∧ j < off0 + l.length then l[j - off0]? else c0[j]? := by
          intro l off0 c0 hle
          have gen : ∀ (l : List Value) (n : Nat) (c0 : Array Value), off0 + n + l.length ≤ c0.size → ((l.zipIdx n).foldl (fun cs (p : Value × Nat) => cs.setIfInBounds (off0 + p.2) p.1) c0).size = c0.size ∧
              ∀ j, ((l.zipIdx n).foldl (fun cs (p : Value × Nat) => cs.setIfInBounds (off0 + p.2) p.1) c0)[j]? = if off0 + n ≤ j ∧ j < off0 + n + l.length then l[j - (off0 + n)]? else c0[j]? := by
            intro l
            induction l with
            | nil => intro n c0 _; exact ⟨rfl, fun j => by rw [if_neg (by simp)]; rfl⟩
            | cons y l ihl =>
              intro n c0 hle
              simp only [List.zipIdx_cons, List.foldl_cons]
              simp only [List.length_cons] at hle ⊢
              obtain ⟨g1, g2⟩ := ihl (n + 1) (c0.setIfInBounds (off0 + n) y) (by simp; omega)
              refine ⟨by rw [g1]; simp, fun j => ?_⟩
              rw [g2]
              by_cases hj : off0 + (n + 1) ≤ j ∧ j < off0 + (n + 1) + l.length
              · rw [if_pos hj, if_pos (by omega)]
                rw [show j - (off0 + n) = (j - (off0 + (n + 1))) + 1 by omega, List.getElem?_cons_succ]
              · rw [if_neg hj]
                by_cases hj2 : j = off0 + n
                · subst hj2
                  rw [if_pos (by omega), Array.getElem?_setIfInBounds_self_of_lt (by omega)]
                  simp
                · rw [if_neg (by omega), Array.getElem?_setIfInBounds_ne (by omega)]
          have := gen l 0 c0 (by omega)
          simp only [Nat.add_zero] at this
          have e : (l.toArray.zipIdx.foldl (fun cs (c, j) => cs.setIfInBounds (off0 + j) c) c0) = ((l.zipIdx 0).foldl (fun cs (p : Value × Nat) => cs.setIfInBounds (off0 + p.2) p.1) c0) := by
            rw [← Array.foldl_toList]
            simp
          rw [e]
          exact this
        obtain ⟨f1, f2⟩ := fold u.cells.toList off cs (by rw [Array.length_toList, hcl]; omega)
        simp only [Array.toArray_toList] at f1 f2
        have hnew : RSegs ρ q' (u.cells.zipIdx.foldl (fun cs (c, j) => cs.setIfInBounds (off + j) c) cs).toList := by
          refine ⟨by rw [Array.length_toList, f1, r1, hcss], r2, fun j c y hc hy => ?_⟩
          rw [r4] at hc
          have hy' : (u.cells.zipIdx.foldl (fun cs (c, j) => cs.setIfInBounds (off + j) c) cs)[j]? = some y := by simpa using hy
          rw [f2, Array.length_toList, hcl] at hy'
          by_cases hj : off ≤ j ∧ j < off + segsLen v.segs
          · rw [if_pos hj] at hc hy'
            exact hcells.2.2 _ c y hc hy'
          · rw [if_neg hj] at hc hy'
            exact hs.2.2 _ c y hc (by simpa using hy')
        obtain ⟨cs', g1, g2⟩ := ih hrest hnew (by simpa using hl) (fun j p x hp' hx => hu (j + 1) p x (by simpa using hp') (by simpa using hx))
        refine ⟨cs', ?_, g2⟩
        simp only [Instr.fill, hpl]
        rw [if_neg (by rw [hcl, hsz]; simp; omega)]
        exact g1
      have off_le : ∀ off q', setRange segs off v.segs = some q' → off ≤ segsLen segs ∨ v.segs = [] := by
        intro off q' hq
        cases hvs : v.segs with
        | nil => exact .inr rfl
        | cons s r =>
          rw [hvs] at hq
          unfold setRange at hq
          split at hq
          · rename_i l' hl'
            have hw := hcells.2.1
            rw [hvs] at hw
            have := (setOne_spec hl' hs.2.1 (segsWf_cons.1 hw).1).2.2.1
            exact .inl (by omega)
          · cases hq
      simp only [buildE] at h
      split at h
      · rename_i hk
        split at h
        · rename_i off ft hlk
          split at h
          · rename_i fty hft
            split at h
            · rename_i hsz
              simp only [Bool.and_eq_true] at hsz
              have hpos := ble_true hsz.2
              have hsz := beq_true hsz.1
              split at h
              · rename_i q' hq'
                have hpl : place i = some (off, fty.size) := by rw [hp i]; simp only [hk, hlk, hft]
                rcases off_le off q' hq' with ho | ho
                · exact step off fty.size q' hpl hsz hq' h ho
                · rw [ho] at hsz; simp [segsLen] at hsz; omega
              · cases h
            · cases h
          · cases h
        · cases h
      · rename_i hk
        split at h
        · rename_i ety het
          split at h
          · rename_i hsz
            simp only [Bool.and_eq_true] at hsz
            have hpos := ble_true hsz.2
            have hsz := beq_true hsz.1
            split at h
            · rename_i q' hq'
              have hpl : place i = some (i * ety.size, ety.size) := by rw [hp i]; simp only [hk, het]
              rcases off_le _ q' hq' with ho | ho
              · exact step _ ety.size q' hpl hsz hq' h ho
              · rw [ho] at hsz; simp [segsLen] at hsz; omega
            · cases h
          · cases h
        · cases h
      · cases h

end
end Go.Sx
