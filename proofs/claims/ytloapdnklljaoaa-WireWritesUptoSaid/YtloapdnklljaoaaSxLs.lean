import Derived.Test.YtloapdnklljaoaaSxLaw
import Derived.Test.YtloapdnklljaoaaSxHo
import Derived.ChangeSlices
import Derived.WideShapes
namespace Go.Sx
open Go.ChangeShapes Go.RowKit

inductive FK where
  | int (k : IntKind) | nat (k : IntKind) | str | bool
def FK.fits (k : FK) (d : TypeDesc) : Prop := match k with
  | .int kk => d = .int kk
  | .nat kk => d = .int kk ∧ kk.signed = false
  | .str => d = .string
  | .bool => d = .bool
def intOfV : Value → Int | .int _ a => a | _ => 0
def natOfV : Value → Nat | .int _ a => a.toNat | _ => 0
def strOfV : Value → List Nat | .string s => natsOf s | _ => []
def boolOfV : Value → Bool | .bool b => b | _ => false
def FK.has (k : FK) (v : Value) : Prop := match k with
  | .int kk => ∃ a, v = .int kk a ∧ (Lit.int kk a).wf = true
  | .nat kk => ∃ a, v = .int kk a ∧ (Lit.int kk a).wf = true ∧ kk.signed = false
  | .str => ∃ s : ByteArray, v = .string s ∧ s.size ≤ maxLen
  | .bool => ∃ b, v = .bool b
def FK.col (k : FK) (l : List Value) : Col := match k with
  | .int kk => .ints kk (l.map intOfV)
  | .nat kk => .nums kk (l.map natOfV)
  | .str => .strs (l.map strOfV)
  | .bool => .bools (l.map boolOfV)
theorem FK.col_len (k : FK) (l : List Value) : (k.col l).len = l.length := by cases k <;> simp [FK.col, Col.len]
theorem getD_map' {α β : Type} (f : α → β) (l : List α) (i : Nat) (d : β) (x : α) (h : l[i]? = some x) : (l.map f).getD i d = f x := by
  rw [List.getD_eq_getElem?_getD, List.getElem?_map, h]; rfl
theorem FK.col_rc {k : FK} {l : List Value} {i : Nat} {v : Value} (hv : l[i]? = some v) (hk : k.has v) (ρ : Map) : RC ρ ((k.col l).cell i) v ∧ v.oneCell' = true := by
  cases k with
  | int kk =>
    obtain ⟨a, rfl, _⟩ := hk
    refine ⟨?_, rfl⟩
    show RC ρ (.int kk ((l.map intOfV).getD i 0)) _
    rw [getD_map' _ _ _ _ _ hv]
    rfl
  | nat kk =>
    obtain ⟨a, rfl, hw, hs⟩ := hk
    refine ⟨?_, rfl⟩
    show RC ρ (.nat kk ((l.map natOfV).getD i 0)) _
    rw [getD_map' _ _ _ _ _ hv]
    exact rv_nat (ρ := ρ) hw hs
  | str =>
    obtain ⟨s, rfl, _⟩ := hk
    refine ⟨?_, rfl⟩
    show RC ρ (.str ((l.map strOfV).getD i [])) _
    rw [getD_map' _ _ _ _ _ hv]
    exact ⟨s, rfl, rfl⟩
  | bool =>
    obtain ⟨b, rfl⟩ := hk
    refine ⟨?_, rfl⟩
    show RC ρ (.bool ((l.map boolOfV).getD i false)) _
    rw [getD_map' _ _ _ _ _ hv]
    rfl
theorem FK.has_of {H : Type} {enc : TypeId × Value → H} {P : Program} {w : World} {held : Bool} {m : Nat} {t : TypeId} {cs : List Value} {y : DataW H × List MemPlace} {k : FK} {d : TypeDesc} (hu : P.underlying t = some d) (hk : k.fits d) (h : DataW.trod enc P w 0 (fun _ => true) held m t cs = some y) : ∃ v, cs = [v] ∧ k.has v := by
  cases k with
  | int kk =>
    obtain rfl : d = .int kk := hk
    obtain ⟨n, rfl, _, h2⟩ := DataW.trod_int hu h
    exact ⟨_, rfl, n, rfl, h2⟩
  | nat kk =>
    obtain ⟨rfl, hs⟩ := hk
    obtain ⟨n, rfl, _, h2⟩ := DataW.trod_int hu h
    exact ⟨_, rfl, n, rfl, h2, hs⟩
  | str =>
    obtain rfl : d = .string := hk
    obtain ⟨s, rfl, _, h2⟩ := DataW.trod_string hu h
    exact ⟨_, rfl, s, rfl, h2⟩
  | bool =>
    obtain rfl : d = .bool := hk
    obtain ⟨b, rfl, _⟩ := DataW.trod_bool hu h
    exact ⟨_, rfl, b, rfl⟩
theorem colsCell_get {cols : List Col} {f : Nat} {c : Col} (h : cols[f]? = some c) (r : Nat) : colsCell cols f r = c.cell r := by
  induction cols generalizing f with
  | nil => simp at h
  | cons x q ih =>
    cases f with
    | zero => simp only [List.getElem?_cons_zero, Option.some.injEq] at h; subst h; rfl
    | succ f => exact ih (by simpa using h)
def colsFor (ks : List FK) (n : Nat) (vs : List Value) : List Col := (List.range ks.length).map fun j => (ks.getD j .bool).col ((List.range n).map fun r => vs.getD (r * ks.length + j) undef)
theorem recs_rc {ks : List FK} {n : Nat} {vs : List Value} (h0 : 0 < ks.length) (hl : vs.length = n * ks.length) (hk : ∀ (r j : Nat) (k : FK), r < n → ks[j]? = some k → ∀ v, vs[r * ks.length + j]? = some v → k.has v) (ρ : Map) : RSegs ρ [.recs n (colsFor ks n vs)] vs := by
  have hcl : (colsFor ks n vs).length = ks.length := by simp [colsFor]
  have hcol : ∀ j, j < ks.length → (colsFor ks n vs)[j]? = some ((ks.getD j .bool).col ((List.range n).map fun r => vs.getD (r * ks.length + j) undef)) := by
    intro j hj
    unfold colsFor
    rw [List.getElem?_map, List.getElem?_range hj]
    rfl
  refine ⟨by simp [segsLen, Seg.len, hcl, hl], segsWf_cons.2 ⟨⟨by omega, fun c hc => ?_⟩, segsWf_nil⟩, fun i c v hc hv => ?_⟩
  · unfold colsFor at hc
    obtain ⟨j, _, rfl⟩ := List.mem_map.1 hc
    rw [FK.col_len]; simp
  · have hi : i < n * ks.length := by have := (List.getElem?_eq_some_iff.1 hv).1; omega
    have hr : i / ks.length < n := Nat.div_lt_of_lt_mul (by rw [Nat.mul_comm]; exact hi)
    have hm : i % ks.length < ks.length := Nat.mod_lt _ h0
    have he : i / ks.length * ks.length + i % ks.length = i := by rw [Nat.mul_comm]; exact Nat.div_add_mod i ks.length
    rw [getCell_cons, if_pos (by simp [Seg.len, hcl]; exact hi)] at hc
    simp only [Option.some.injEq, Seg.cell, hcl] at hc
    rw [colsCell_get (hcol _ hm)] at hc
    subst hc
    have hks : ks[i % ks.length]? = some (ks.getD (i % ks.length) .bool) := by
      rw [List.getD_eq_getElem?_getD, List.getElem?_eq_getElem hm]; rfl
    refine FK.col_rc ?_ (hk _ _ _ hr hks v (by rw [he]; exact hv)) ρ
    rw [List.getElem?_map, List.getElem?_range hr]
    show some (vs.getD (i / ks.length * ks.length + i % ks.length) undef) = some v
    rw [he, List.getD_eq_getElem?_getD, hv]
    rfl
theorem recs_has {H : Type} {enc : TypeId × Value → H} {P : Program} {w : World} {held : Bool} {e : TypeId} {fs : Array Field} {ks : List FK} {n : Nat} {vs : List Value} (he : P.underlying e = some (.struct fs)) (hz : P.cellsOf e = ks.length)
    (hf : ∀ (j : Nat) (k : FK), ks[j]? = some k → ∃ (f : Field) (d : TypeDesc), fs[j]? = some f ∧ f.offset = j ∧ P.cellsOf f.type = 1 ∧ P.underlying f.type = some d ∧ k.fits d)
    (h : ∀ i, i < n → ∃ m y, DataW.trod enc P w 0 (fun _ => true) held m e ((vs.drop (i * P.cellsOf e)).take (P.cellsOf e)) = some y) : ∀ (r j : Nat) (k : FK), r < n → ks[j]? = some k → ∀ v, vs[r * ks.length + j]? = some v → k.has v := by
  intro r j k hr hk v hv
  obtain ⟨m, y, hy⟩ := h r hr
  obtain ⟨xs, m', _, _, _, hxl, hel⟩ := DataW.trod_struct he hy
  obtain ⟨f, d, h1, h2, h3, h4, h5⟩ := hf j k hk
  have h6 := hel j f h1
  have hj : j < xs.length := by rw [hxl]; exact (Array.getElem?_eq_some_iff.1 h1).1
  rw [List.getElem?_eq_getElem hj] at h6
  obtain ⟨u, h7, h8⟩ := FK.has_of h4 h5 h6
  rw [h2, h3, hz] at h7
  have h9 : ((((vs.drop (r * ks.length)).take ks.length).drop j).take 1)[0]? = some u := by rw [h7]; rfl
  have hjk : j < ks.length := (List.getElem?_eq_some_iff.1 hk).1
  rw [List.getElem?_take_of_lt (by omega), List.getElem?_drop, Nat.add_zero, List.getElem?_take_of_lt hjk, List.getElem?_drop, hv] at h9
  simp only [Option.some.injEq] at h9
  subst h9
  exact h8
theorem HR_nil0 {w : World} (ρ : Map) : HR w.heap.size (fun _ => False) ρ [] w := ⟨Nat.le_refl _, fun b x hb => by simp [lk] at hb, fun b c x y L M hb => by simp [lk] at hb⟩
theorem HR_more {N : Nat} {S : Nat → Prop} {ρ : Map} {h : Heap} {w : World} {b : Nat} {x : Blk} (hr : HR N S ρ h w) (hb : BR N S ρ b x w) (h0 : x.own = 0) (hro : ∀ c y, lk c h = some y → y.own = 0) : HR N S ρ ((b, x) :: h) w := by
  refine ⟨hr.low, fun c y hc => ?_, fun c d y z L M hc hd _ _ _ how => ?_⟩
  · rw [lk_cons] at hc
    split at hc
    · rename_i e
      simp only [Option.some.injEq] at hc
      subst e; subst hc
      exact hb
    · exact hr.blk c y hc
  · have z : ∀ c y, lk c ((b, x) :: h) = some y → y.own = 0 := by
      intro c y hc
      rw [lk_cons] at hc
      split at hc
      · simp only [Option.some.injEq] at hc
        subst hc
        exact h0
      · exact hro c y hc
    rcases how with how | how
    · exact absurd (z _ _ hc) how
    · exact absurd (z _ _ hd) how
theorem ent_spec {o : Option (Bool × AV × Heap)} {v : AV} (h : o.map (fun p => (p.1, p.2.1)) = some (true, v)) : ∃ h', o = some (true, v, h') := by
  cases o with
  | none => cases h
  | some p =>
    obtain ⟨c, u, h'⟩ := p
    simp only [Option.map_some, Option.some.injEq, Prod.mk.injEq] at h
    obtain ⟨rfl, rfl⟩ := h
    exact ⟨h', rfl⟩
theorem law_walkH {P : Program} {f : FuncId} {us : Array Value} {vs : List AV} {h h' : Heap} {ρ : Map} {w : World} (hf : FnH P f vs h (.v (.cell (.bool true))) h') (hr : RVs ρ vs us.toList) (hh : HR w.heap.size (fun _ => False) ρ h w) (hc : (callFunc f us).run P w = .ok (.enter f us) w) :
    Calls P f us w fun e w' => e = .returned (.bool true) ∧ Below w.heap.size w w' := by
  have := hf _ _ ρ w us hh hr
  rw [hc] at this
  refine Calls.mono this.2 fun e w' he => ?_
  obtain ⟨u, ρ', rfl, h1, _, h2, _⟩ := he
  obtain rfl : u = .bool true := h1
  exact ⟨rfl, h2.os, h2.tape, h2.output, h2.size, fun k hk => h2.block k hk (fun h => h)⟩
end Go.Sx
