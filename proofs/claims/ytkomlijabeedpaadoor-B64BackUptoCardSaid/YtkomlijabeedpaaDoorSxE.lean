import Derived.Test.YtkomlijabeedpaaDoorSxD
namespace Go.Sx

def DescOK (ty : Ty) (d : TypeDesc) : Prop :=
  match ty.tk with
  | .int k => d = .int k
  | .bool => d = .bool
  | .string => d = .string
  | .ptr => ∃ e, d = .pointer e
  | .slice => d = .slice ty.elem
  | .array => d = .array ty.len ty.elem
  | .struct => ∃ fs, d = .struct fs ∧ ∀ i, (fs[i]?).map (fun f => (f.offset, f.type)) = buildE.lk2 i ty.flds
  | .other => True

def cellEqB : Value → Value → Option Bool
  | .int k a, .int k' b => if k = k' then some (a == b) else none
  | .bool a, .bool b => some (a == b)
  | .string a, .string b => some (a.toList == b.toList)
  | _, _ => none

def cellsEq : List Value → List Value → Option Bool
  | [], [] => some true
  | x :: xs, y :: ys => match cellEqB x y, cellsEq xs ys with
    | some a, some b => some (a && b)
    | _, _ => none
  | _, _ => none

def KD.has : KD → Value → Prop
  | .int k, v => ∃ a, v = .int k a
  | .bool, v => ∃ b, v = .bool b
  | .str, v => ∃ b, v = .string b
def KDs : List KD → List Value → Prop
  | [], [] => True
  | k :: ks, v :: vs => k.has v ∧ KDs ks vs
  | _, _ => False

def EqProp (P : Program) (t : TypeId) (ks : List KD) : Prop := ∀ (xs ys : Array Value) (c : Bool) (w : World) (x y : Operand), cellsEq xs.toList ys.toList = some c → KDs ks xs.toList →
  (do eqGuard .eql t x y (.agg xs) (.agg ys); binOp .eql t (.agg xs) (.agg ys)).run P w = .ok (.bool c) w ∧
  (do eqGuard .neq t x y (.agg xs) (.agg ys); binOp .neq t (.agg xs) (.agg ys)).run P w = .ok (.bool (!c)) w

structure TyOK (P : Program) (T : Tys) : Prop where
  ok : ∀ t ty, T t = some ty → ∃ i d, P.info? t = some i ∧ P.underlying t = some d ∧ i.size = ty.size ∧ i.bytes = ty.bytes ∧ DescOK ty d ∧
    ∃ z, i.zero = some z ∧ RV1 (fun _ => none) ty.zero z ∧ z.cells.size = ty.size ∧ ty.zero.ok = true ∧ (∀ b, ty.zero.mentions b = false)
  el : ∀ t ty, T t = some ty → ty.tk = .array → (P.info? ty.elem).isSome = true
  fld : ∀ t ty, T t = some ty → ∀ f ∈ ty.flds, (P.info? f.2).isSome = true
  eq : ∀ t ty, T t = some ty → ty.eqok = true → ∀ ks, kdsT T 6 t = some ks → EqProp P t ks

section
variable {P : Program} {T : Tys} {N : Nat} {S : Nat → Prop} {ρ : Map} {h : Heap} {w : World}

theorem run_sizeOf (hT : TyOK P T) {t : TypeId} {ty : Ty} (ht : T t = some ty) (w : World) : (sizeOf t).run P w = .ok ty.size w := by
  obtain ⟨i, d, h1, _, h3, _⟩ := hT.ok t ty ht
  simp [sizeOf, typeInfo, h1, h3]

theorem run_und (hT : TyOK P T) {t : TypeId} {ty : Ty} (ht : T t = some ty) : ∃ d, (∀ w, (underlying t).run P w = .ok d w) ∧ DescOK ty d := by
  obtain ⟨i, d, _, h2, _, _, h5, _⟩ := hT.ok t ty ht
  exact ⟨d, fun w => by simp [underlying, h2], h5⟩

theorem run_isAgg_scalar (hT : TyOK P T) {t : TypeId} {ty : Ty} (ht : T t = some ty) (h1 : ty.tk ≠ .struct) (h2 : ty.tk ≠ .array) (h3 : ty.tk ≠ .other) (w : World) : (isAgg t).run P w = .ok false w := by
  obtain ⟨d, hd, ho⟩ := run_und hT ht
  unfold DescOK at ho
  simp only [isAgg, Sem.run_bind, hd, Result.andThen_ok]
  split at ho
  · subst ho; rfl
  · subst ho; rfl
  · subst ho; rfl
  · obtain ⟨e, rfl⟩ := ho; rfl
  · subst ho; rfl
  · rename_i e; exact absurd e h2
  · rename_i e; exact absurd e h1
  · rename_i e; exact absurd e h3

theorem run_isAgg_agg (hT : TyOK P T) {t : TypeId} {ty : Ty} (ht : T t = some ty) (h1 : ty.tk = .struct ∨ ty.tk = .array) (w : World) : (isAgg t).run P w = .ok true w := by
  obtain ⟨d, hd, ho⟩ := run_und hT ht
  unfold DescOK at ho
  simp only [isAgg, Sem.run_bind, hd, Result.andThen_ok]
  rcases h1 with h1 | h1
  · rw [h1] at ho
    obtain ⟨fs, rfl, _⟩ := ho
    rfl
  · rw [h1] at ho
    subst ho
    rfl

theorem HR.real (hr : HR N S ρ h w) {b : Nat} {x : Blk} {L : Loc} (hb : lk b h = some x) (hL : ρ b = some L) :
    ∃ cur fz, w.heap[L.g]? = some (.cells cur x.ty fz) ∧ L.n = segsLen x.segs ∧ L.q + L.n ≤ cur.size ∧ L.C = cur.size ∧
    RSegs ρ x.segs ((cur.toList.drop L.q).take L.n) ∧
    (x.own ≠ 0 → (∀ i, i < cur.size → ¬ (fz.1 ≤ i ∧ i < fz.2)) ∧ (S L.g ∨ N ≤ L.g)) ∧ (x.own = 2 → fz = (0, 0)) ∧ (x.own = 1 → L.q = 0) := by
  rcases hr.blk b x hb with ⟨_, h2, _⟩ | ⟨L', cur, fz, h1, h2⟩
  · rw [hL] at h2; cases h2
  · rw [hL] at h1
    simp only [Option.some.injEq] at h1
    subst h1
    exact ⟨cur, fz, h2⟩

theorem RSegs.at_ {segs : List Seg} {cur : Array Value} {q n : Nat} (h : RSegs ρ segs ((cur.toList.drop q).take n)) (hn : n = segsLen segs) (hl : q + n ≤ cur.size) {j : Nat} {c : Cell} (hc : getCell segs j = some c) :
    ∃ u, cur[q + j]? = some u ∧ RC ρ c u ∧ u.oneCell' = true := by
  have hj := getCell_lt hc
  have hlt : q + j < cur.size := by omega
  refine ⟨cur[q + j], Array.getElem?_eq_getElem hlt, h.2.2 j c _ hc ?_⟩
  rw [List.getElem?_take, if_pos (by omega), List.getElem?_drop]
  simp [hlt]

theorem load_range {L : Loc} {x : Blk} {cur : Array Value} {fz : Nat × Nat} (hg : w.heap[L.g]? = some (.cells cur x.ty fz)) (hn : L.n = segsLen x.segs) (hl : L.q + L.n ≤ cur.size)
    (hs : RSegs ρ x.segs ((cur.toList.drop L.q).take L.n)) {o m : Nat} {q : List Seg} (hw : segsWf q) (hq : segsLen q = m) (hle : o + m ≤ L.n) (hat : ∀ j, j < m → getCell q j = getCell x.segs (o + j)) :
    ∃ cs : List Value, (loadCells ⟨L.g, L.q + o, none⟩ m).run P w = .ok cs.toArray w ∧ RSegs ρ q cs := by
  refine ⟨(cur.toList.drop (L.q + o)).take m, ?_, ?_⟩
  · have hlen : ((cur.toList.drop (L.q + o)).take m).length = m := by
      rw [List.length_take, List.length_drop, Array.length_toList]; omega
    have := run_loadCells_list (P := P) w ⟨L.g, L.q + o, none⟩ ((cur.toList.drop (L.q + o)).take m) (fun j v hv => by
      rw [List.getElem?_take] at hv
      split at hv
      · rw [List.getElem?_drop] at hv
        rw [Addr.add_lit, cell_of_row w L.g _ cur x.ty fz hg]
        simpa using hv
      · cases hv)
    rwa [hlen] at this
  · refine ⟨by rw [List.length_take, List.length_drop, Array.length_toList]; omega, hw, fun j c v hc hv => ?_⟩
    have hj := getCell_lt hc
    rw [hat j (by omega)] at hc
    obtain ⟨u, hu, h1, h2⟩ := hs.at_ hn hl hc
    rw [List.getElem?_take, if_pos (by omega), List.getElem?_drop] at hv
    have : cur[L.q + (o + j)]? = some v := by rw [← Nat.add_assoc]; simpa using hv
    rw [hu] at this
    simp only [Option.some.injEq] at this
    subst this
    exact ⟨h1, h2⟩

theorem load_one {L : Loc} {x : Blk} {cur : Array Value} {fz : Nat × Nat} (hg : w.heap[L.g]? = some (.cells cur x.ty fz)) (hn : L.n = segsLen x.segs) (hl : L.q + L.n ≤ cur.size)
    (hs : RSegs ρ x.segs ((cur.toList.drop L.q).take L.n)) {o : Nat} {c : Cell} (hc : getCell x.segs o = some c) :
    ∃ u, w.cell? ⟨L.g, L.q + o, none⟩ = some u ∧ RC ρ c u := by
  obtain ⟨u, hu, h1, _⟩ := hs.at_ hn hl hc
  exact ⟨u, by rw [cell_of_row w L.g _ cur x.ty fz hg]; exact hu, h1⟩

theorem spot_spec {segs : List Seg} {o j m : Nat} {s : Seg} {r : Nat} (h : spot segs o j m = some (s, r)) (hw : segsWf segs) {z : Nat} (hz : j + z ≤ m) (hn : o + j + z ≤ segsLen segs) :
    r + z ≤ s.len ∧ s.wf ∧ (∀ i, i < z → getCell segs (o + j + i) = some (s.cell (r + i))) ∧
    ∀ x : Seg, x.len = s.len → x.wf → (∀ i, i < s.len → ¬ (r ≤ i ∧ i < r + z) → x.cell i = s.cell i) →
      segsLen (relay segs o x) = segsLen segs ∧ segsWf (relay segs o x) ∧ ∀ i, getCell (relay segs o x) i = if o + j ≤ i ∧ i < o + j + z then some (x.cell (r + (i - (o + j)))) else getCell segs i := by
  have many : ∀ (t : Seg) (q : Nat), locate segs o = some (t, q) → q + m ≤ t.len → s = t → r = q + j → r + z ≤ s.len ∧ s.wf ∧ (∀ i, i < z → getCell segs (o + j + i) = some (s.cell (r + i))) ∧
      ∀ x : Seg, x.len = s.len → x.wf → (∀ i, i < s.len → ¬ (r ≤ i ∧ i < r + z) → x.cell i = s.cell i) →
      segsLen (relay segs o x) = segsLen segs ∧ segsWf (relay segs o x) ∧ ∀ i, getCell (relay segs o x) i = if o + j ≤ i ∧ i < o + j + z then some (x.cell (r + (i - (o + j)))) else getCell segs i := by
    intro t q hloc hqm hs hr
    subst hs
    subst hr
    obtain ⟨l1, l2, l3⟩ := locate_spec hloc
    refine ⟨by omega, hw _ l1, fun i hi => ?_, fun x hx hxw hxc => ?_⟩
    · have := l3 (j + i) (by omega)
      rw [show o + j + i = o + (j + i) by omega, show q + j + i = q + (j + i) by omega]
      exact this
    · obtain ⟨r1, r2, r3⟩ := relay_spec hloc hx hw hxw (fun i hi => hxc i (by omega) (by omega))
      refine ⟨r1, r2, fun i => ?_⟩
      rw [r3]
      by_cases h1 : o ≤ i ∧ q + (i - o) < s.len
      · rw [if_pos h1]
        by_cases h2 : o + j ≤ i ∧ i < o + j + z
        · rw [if_pos h2]
          congr 2
          omega
        · rw [if_neg h2, hxc _ h1.2 (by omega)]
          have := l3 (i - o) h1.2
          rw [show o + (i - o) = i by omega] at this
          exact this.symm
      · rw [if_neg h1, if_neg (by omega)]
  unfold spot at h
  split at h
  · rename_i s'
    have hlen : segsLen [s'] = s'.len := by simp [segsLen]
    have key : s = s' ∧ r = o + j := by
      split at h
      · simp only [Option.some.injEq, Prod.mk.injEq] at h
        exact ⟨h.1.symm, by omega⟩
      · simp only [Option.some.injEq, Prod.mk.injEq] at h
        exact ⟨h.1.symm, by omega⟩
    obtain ⟨rfl, rfl⟩ := key
    rw [hlen] at hn
    have hget : ∀ i, getCell [s] i = if i < s.len then some (s.cell i) else none := fun i => by
      rw [getCell_cons]
      simp [getCell]
    refine ⟨hn, hw s List.mem_cons_self, fun i hi => by rw [hget, if_pos (by omega)], fun x hx hxw hxc => ?_⟩
    by_cases hz0 : z = 0 ∧ s.len ≤ o
    · -- nothing is turned
      obtain ⟨rfl, hle⟩ := hz0
      have ho : relay [s] o x = [s] ∨ relay [s] o x = [x] := by
        unfold relay
        split
        · exact .inr rfl
        · split
          · exact .inl (by simp [relay])
          · exact .inr rfl
      have hgx : ∀ i, getCell [x] i = getCell [s] i := fun i => by
        rw [hget, getCell_cons, hx]
        by_cases hi : i < s.len
        · rw [if_pos hi, if_pos hi, hxc i hi (by omega)]
        · rw [if_neg hi, if_neg hi]; rfl
      rcases ho with ho | ho <;> rw [ho]
      · exact ⟨rfl, hw, fun i => by rw [if_neg (by omega)]⟩
      · exact ⟨by simp [segsLen, hx], segsWf_cons.2 ⟨hxw, segsWf_nil⟩, fun i => by rw [if_neg (by omega), hgx]⟩
    · have ho : o < s.len ∨ o = 0 := by omega
      have hrel : relay [s] o x = [x] := by
        unfold relay
        split
        · rfl
        · rename_i o'
          have : Nat.ble s.len (o' + 1) = false := by
            cases hb : Nat.ble s.len (o' + 1)
            · rfl
            · have := ble_true hb; omega
          rw [this]
      rw [hrel]
      refine ⟨by simp [segsLen, hx], segsWf_cons.2 ⟨hxw, segsWf_nil⟩, fun i => ?_⟩
      rw [hget, getCell_cons, hx]
      by_cases hi : i < s.len
      · rw [if_pos hi, if_pos hi]
        by_cases h2 : o + j ≤ i ∧ i < o + j + z
        · rw [if_pos h2]; congr 2; omega
        · rw [if_neg h2, hxc i hi h2]
      · rw [if_neg hi, if_neg hi, if_neg (by omega)]; rfl
  · split at h
    · rename_i t q hloc
      split at h
      · rename_i hb
        have hb := ble_true hb
        split at h
        · simp only [Option.some.injEq, Prod.mk.injEq] at h
          exact many t 0 hloc hb h.1.symm (by omega)
        · simp only [Option.some.injEq, Prod.mk.injEq] at h
          exact many t _ hloc hb h.1.symm (by omega)
      · cases h
    · cases h

theorem rowOf_len (cols : List Col) (r : Nat) : segsLen (rowOf cols r) = cols.length := by
  induction cols with
  | nil => rfl
  | cons c q ih => simp only [rowOf, segsLen, Seg.len, ih, List.length_cons]; omega
theorem rowOf_wf (cols : List Col) (r : Nat) : segsWf (rowOf cols r) := by
  induction cols with
  | nil => exact segsWf_nil
  | cons c q ih => exact segsWf_cons.2 ⟨trivial, ih⟩
theorem rowOf_cell (cols : List Col) (r f : Nat) (hf : f < cols.length) : getCell (rowOf cols r) f = some (colsCell cols f r) := by
  induction cols generalizing f with
  | nil => simp at hf
  | cons c q ih =>
    simp only [rowOf]
    rw [getCell_cons]
    cases f with
    | zero => simp [Seg.len, Seg.cell, colsCell]
    | succ f =>
      have e1 : (Seg.one (c.cell r)).len = 1 := rfl
      rw [e1, if_neg (by omega)]
      exact ih f (by simpa using hf)

theorem recs_cell (cols : List Col) (n r f : Nat) (hf : f < cols.length) : (Seg.recs n cols).cell (r * cols.length + f) = colsCell cols f r := by
  simp only [Seg.cell]
  rw [Nat.mul_comm r, Nat.mul_add_mod, Nat.mod_eq_of_lt hf, Nat.mul_add_div (by omega), Nat.div_eq_of_lt hf, Nat.add_zero]

theorem loadE_sound (hT : TyOK P T) (hr : HR N S ρ h w) {t : TypeId} {av : AV} {v : V1} {p : Value} (hl : loadE h T t av = some v) (hp : RV ρ av p) :
    ∃ u, (Instr.loadAt t p).run P w = .ok u w ∧ RV1 ρ v u := by
  unfold loadE at hl
  split at hl
  · rename_i b o i
    split at hl
    · rename_i blk ty hb ht
      simp only [RV, RV1, RC] at hp
      obtain ⟨L, hL, hp⟩ := hp
      obtain ⟨cur, fz, hg, hn, hle, hC, hs, _⟩ := hr.real hb hL
      have hsz := run_sizeOf (P := P) hT ht w
      have agg : ∀ (oo : Nat), (ty.tk = .struct ∨ ty.tk = .array) → p = .pointer (some ⟨L.g, L.q + oo, none⟩) → ∀ q, segsWf q → segsLen q = ty.size → oo + ty.size ≤ L.n → (∀ j, j < ty.size → getCell q j = getCell blk.segs (oo + j)) →
          ∃ u, (Instr.loadAt t p).run P w = .ok u w ∧ RV1 ρ (.agg q) u := by
        intro oo htk hpp q hqw hql hql2 hat
        subst hpp
        obtain ⟨cs, hrun, hrs⟩ := load_range (P := P) hg hn hle hs hqw hql hql2 hat
        refine ⟨.agg cs.toArray, ?_, ⟨cs.toArray, rfl, by simpa using hrs⟩⟩
        simp [Instr.loadAt, Instr.sureAddr, loadVar, run_isAgg_agg hT ht htk, hsz, hrun]
      have sca : ∀ (oo : Nat), ty.tk ≠ .struct → ty.tk ≠ .array → ty.tk ≠ .other → p = .pointer (some ⟨L.g, L.q + oo, none⟩) → ∀ c, getCell blk.segs oo = some c → ∃ u, (Instr.loadAt t p).run P w = .ok u w ∧ RV1 ρ (.cell c) u := by
        intro oo h1 h2 h3 hpp c hc
        subst hpp
        obtain ⟨u, hrun, hrc⟩ := load_one hg hn hle hs hc
        refine ⟨u, ?_, hrc⟩
        simp [Instr.loadAt, Instr.sureAddr, loadVar, run_isAgg_scalar hT ht h1 h2 h3, hrun]
      cases i with
      | none =>
        have hp' : p = .pointer (some ⟨L.g, L.q + o, none⟩) := hp
        have aggCase : (ty.tk = .struct ∨ ty.tk = .array) → (match getRange blk.segs o ty.size with
            | some q => some (V1.agg q)
            | none => none) = some v → ∃ u, (Instr.loadAt t p).run P w = .ok u w ∧ RV1 ρ v u := by
          intro htk hl
          split at hl
          · rename_i q hq
            simp only [Option.some.injEq] at hl
            subst hl
            obtain ⟨g1, g2, g3, g4⟩ := getRange_spec hq hs.2.1
            rcases g3 with g3 | g3
            · exact agg o htk hp' q g2 g1 (by omega) g4
            · subst hp'
              refine ⟨.agg #[], ?_, ⟨#[], rfl, ⟨by simp; omega, g2, fun j c v hc hv => by simp at hv⟩⟩⟩
              simp [Instr.loadAt, Instr.sureAddr, loadVar, run_isAgg_agg hT ht htk, hsz, g3, loadCells, loadCellsFrom]
          · cases hl
        split at hl
        · rename_i htk
          exact aggCase (.inl htk) hl
        · rename_i htk
          exact aggCase (.inr htk) hl
        · cases hl
        · rename_i n1 n2 n3
          dsimp only at hl
          split at hl
          · rename_i c hc
            simp only [Option.some.injEq] at hl
            subst hl
            exact sca o n1 n2 n3 hp' c hc
          · cases hl
      | some x =>
        obtain ⟨hp1, hp2, hp3, hp4⟩ := hp
        have aggCase : (ty.tk = .struct ∨ ty.tk = .array) → (match Nat.ble ty.size x.z with
            | false => none
            | true => match blk.segs with
              | [.recs _ cols] => match Nat.beq x.rz cols.length && (Nat.beq x.f 0 && Nat.beq ty.size cols.length) with
                | true => some (.agg (rowOf cols x.r))
                | false => none
              | segs => match spot segs o x.j x.m with
                | some (.nums k _ l, r) => some (.agg [.nums k ty.size ((l.drop r).take ty.size)])
                | some (.ints k _ l, r) => some (.agg [.ints k ty.size ((l.drop r).take ty.size)])
                | _ => none) = some v → ∃ u, (Instr.loadAt t p).run P w = .ok u w ∧ RV1 ρ v u := by
          intro htk hl
          split at hl
          · cases hl
          · rename_i hz
            have hz := ble_true hz
            split at hl
            · rename_i n cols heq
              split at hl
              · rename_i hc
                simp only [Bool.and_eq_true] at hc
                have e1 := beq_true hc.1
                have e2 := beq_true hc.2.1
                have e3 := beq_true hc.2.2
                simp only [Option.some.injEq] at hl
                subst hl
                have hwf := hs.2.1
                rw [heq] at hwf
                have hpos := ((segsWf_cons.1 hwf).1).1
                obtain ⟨ho, hj⟩ := hp4 (by omega)
                rw [e2, e1, Nat.add_zero] at hj
                refine agg (o + x.j) htk (by rw [hp1, Nat.add_assoc]) _ (rowOf_wf _ _) (by rw [rowOf_len, e3]) (by omega) (fun j hj' => ?_)
                rw [rowOf_cell _ _ _ (by omega), heq, getCell_cons]
                have hlt : o + x.j + j < (Seg.recs n cols).len := by
                  have : segsLen blk.segs = (Seg.recs n cols).len := by rw [heq]; simp [segsLen]
                  omega
                rw [if_pos hlt, ho, Nat.zero_add, hj, recs_cell _ _ _ _ (by omega)]
              · cases hl
            · split at hl
              · rename_i k n l r hsp
                simp only [Option.some.injEq] at hl
                subst hl
                obtain ⟨s1, s2, s3, _⟩ := spot_spec hsp hs.2.1 hp2 (by omega)
                simp only [Seg.len] at s1
                simp only [Seg.wf] at s2
                refine agg (o + x.j) htk (by rw [hp1, Nat.add_assoc]) _ (segsWf_cons.2 ⟨by simp [Seg.wf]; omega, segsWf_nil⟩) (by simp [segsLen, Seg.len]) (by omega) (fun j hj' => ?_)
                rw [s3 j (by omega), getCell_cons, if_pos (by simpa [Seg.len] using hj')]
                simp only [Seg.cell, Option.some.injEq, Cell.nat.injEq, true_and]
                rw [List.getD_eq_getElem?_getD, List.getD_eq_getElem?_getD, List.getElem?_take, if_pos hj', List.getElem?_drop]
              · rename_i k n l r hsp
                simp only [Option.some.injEq] at hl
                subst hl
                obtain ⟨s1, s2, s3, _⟩ := spot_spec hsp hs.2.1 hp2 (by omega)
                simp only [Seg.len] at s1
                simp only [Seg.wf] at s2
                refine agg (o + x.j) htk (by rw [hp1, Nat.add_assoc]) _ (segsWf_cons.2 ⟨by simp [Seg.wf]; omega, segsWf_nil⟩) (by simp [segsLen, Seg.len]) (by omega) (fun j hj' => ?_)
                rw [s3 j (by omega), getCell_cons, if_pos (by simpa [Seg.len] using hj')]
                simp only [Seg.cell, Option.some.injEq, Cell.int.injEq, true_and]
                rw [List.getD_eq_getElem?_getD, List.getD_eq_getElem?_getD, List.getElem?_take, if_pos hj', List.getElem?_drop]
              · cases hl
        split at hl
        · rename_i htk
          exact aggCase (.inl htk) hl
        · rename_i htk
          exact aggCase (.inr htk) hl
        · cases hl
        · rename_i n1 n2 n3
          dsimp only at hl
          split at hl
          · cases hl
          · rename_i hz
            have hz := ble_true hz
            split at hl
            · rename_i n cols heq
              split at hl
              · rename_i hc
                simp only [Bool.and_eq_true] at hc
                have e1 := beq_true hc.1
                have e2 := blt_true hc.2
                simp only [Option.some.injEq] at hl
                subst hl
                obtain ⟨ho, hj⟩ := hp4 (by omega)
                rw [e1] at hj
                refine sca (o + x.j) n1 n2 n3 (by rw [hp1, Nat.add_assoc]) _ ?_
                rw [heq, getCell_cons]
                have hlt : o + x.j < (Seg.recs n cols).len := by
                  have : segsLen blk.segs = (Seg.recs n cols).len := by rw [heq]; simp [segsLen]
                  omega
                rw [if_pos hlt, ho, Nat.zero_add, hj, recs_cell _ _ _ _ e2]
              · cases hl
            · split at hl
              · rename_i sg r hsp
                simp only [Option.some.injEq] at hl
                subst hl
                obtain ⟨s1, s2, s3, _⟩ := spot_spec hsp hs.2.1 hp2 (by omega)
                exact sca (o + x.j) n1 n2 n3 (by rw [hp1, Nat.add_assoc]) _ (by have := s3 0 (by omega); simpa using this)
              · cases hl
    · cases hl
  · cases hl

end
end Go.Sx
