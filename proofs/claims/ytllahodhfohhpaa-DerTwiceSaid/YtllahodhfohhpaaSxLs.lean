import Derived.Test.YtllahodhfohhpaaSxLaw
import Derived.Test.YtllahodhfohhpaaSxHo
import Derived.ChangeSlices
import Derived.WideShapes
namespace Go.Sx
open Go.ChangeShapes Go.RowKit

theorem open_row {H : Type} {enc : TypeId × Value → H} {P : Program} {w : World} {t e : TypeId} {r : Reach} {b0 : Nat} {held : Bool} {v : Value} {d : DataW H} {ps : List MemPlace} (ht : P.underlying t = some (.slice e)) (hz : 0 < P.cellsOf e)
    (hval : Value.okWide P w r b0 t v) (hd : DataW.Trod enc P w 0 (fun _ => true) held t v d ps) (b : Nat) (N : Nat) (S : Nat → Prop) :
    ∃ (L : Option Loc) (n : Nat) (vs : List Value) (ty : TypeId), vs.length = n * P.cellsOf e ∧ (∀ i, i < n → ∃ m y, DataW.trod enc P w 0 (fun _ => true) held m e ((vs.drop (i * P.cellsOf e)).take (P.cellsOf e)) = some y) ∧
      (∀ ρ : Map, ρ b = L → RV ρ (.v (.cell (.sl b none n (P.cellsOf e)))) v) ∧ (∀ (ρ : Map) (segs : List Seg), ρ b = L → RSegs ρ segs vs → BR N S ρ b ⟨segs, ty, 0⟩ w) := by
  obtain ⟨a0, len, cap, rfl⟩ := WideShapes.okWide_slice ht hval
  simp only [Value.okWide, ht] at hval
  simp only [Cell.okWide, ht] at hval
  obtain ⟨fuel, hf⟩ := hd
  rcases DataW.trod_slice ht hf with ⟨hc, -⟩ | ⟨a, len1, cap1, elems, rest, m, -, hc, -, -, hlc, hcap, hel, hcells, hrest, -⟩
  · have hc : [Value.slice a0 len cap] = [Value.slice none 0 0] := hc
    simp only [List.cons.injEq, Value.slice.injEq, and_true] at hc
    obtain ⟨rfl, rfl, rfl⟩ := hc
    refine ⟨none, 0, [], 0, by simp, fun i hi => by omega, fun ρ hρ => .inl ⟨hρ, rfl, rfl⟩, fun ρ segs hρ hs => .inl ⟨(show (0 : Nat) ≠ 1 by decide), hρ, hs.1.symm, hs.2.1⟩⟩
  · have hc : [Value.slice a0 len cap] = [Value.slice (some a) len1 cap1] := hc
    simp only [List.cons.injEq, Value.slice.injEq, and_true] at hc
    obtain ⟨e1, e2, e3⟩ := hc
    cases e1; cases e2; cases e3
    simp only [Cell.ok, ht] at hval
    obtain ⟨_, _, _, hsp, row, cells, hsh, _⟩ := hval
    obtain ⟨ab, ao, asp⟩ := a
    simp only at hsp hsh
    subst hsp
    have hblk : ∃ cur fz, w.heap[ab]? = some (.cells cur row fz) := by
      unfold World.shape? at hsh
      split at hsh
      · rename_i c el fz hb
        simp only [Option.some.injEq, Prod.mk.injEq] at hsh
        obtain ⟨rfl, _⟩ := hsh
        exact ⟨_, _, hb⟩
      · cases hsh
    obtain ⟨cur, fz, hb⟩ := hblk
    generalize hzz : P.cellsOf e = z at hz hcells hrest ⊢
    have cellAt : ∀ i, w.cell? ⟨ab, i, none⟩ = cur[i]? := by
      intro i
      unfold World.cell?
      simp [hb]
    -- each element's cells can be read
    have get : ∀ i, i < cap → ∃ cs y, (∀ j, j < z → cur[ao + i * z + j]? = cs[j]?) ∧ cs.length = z ∧ DataW.trod enc P w 0 (fun _ => true) held m e cs = some y := by
      intro i hi
      have : ∃ y, (w.cells? 0 ((⟨ab, ao, none⟩ : Addr).add (i * z)) z).bind (DataW.trod enc P w 0 (fun _ => true) held m e) = some y := by
        by_cases h : i < len
        · have := hcells i h
          have h2 : ∃ y, elems[i]? = some y := ⟨_, List.getElem?_eq_getElem (by omega)⟩
          obtain ⟨y, hy⟩ := h2
          exact ⟨y, this.trans hy⟩
        · obtain ⟨h3, h4⟩ := hrest rfl
          have := h4 (i - len) (by omega)
          rw [show len + (i - len) = i by omega] at this
          have h2 : ∃ y, rest[i - len]? = some y := ⟨_, List.getElem?_eq_getElem (by omega)⟩
          obtain ⟨y, hy⟩ := h2
          exact ⟨y, this.trans hy⟩
      obtain ⟨y, hy⟩ := this
      obtain ⟨cs, h1, h2⟩ := Option.bind_eq_some_iff.1 hy
      obtain ⟨_, h3, h4⟩ := World.cells?_some h1
      refine ⟨cs, y, fun j hj => ?_, h3, h2⟩
      have h5 := h4 j hj
      rw [WideShapes.add_plain, WideShapes.add_plain, cellAt] at h5
      rw [h5]
    have bound : 0 < cap → ao + cap * z ≤ cur.size := by
      intro hc0
      obtain ⟨cs, y, h1, h2, _⟩ := get (cap - 1) (by omega)
      have h3 := h1 (z - 1) (by omega)
      have h4 : ∃ x, cs[z - 1]? = some x := ⟨_, List.getElem?_eq_getElem (by omega)⟩
      obtain ⟨x, hx⟩ := h4
      rw [hx] at h3
      have h5 := (Array.getElem?_eq_some_iff.1 h3).1
      have h6 : (cap - 1) * z + z = cap * z := by
        have : cap - 1 + 1 = cap := by omega
        rw [← Nat.succ_mul, Nat.succ_eq_add_one, this]
      omega
    by_cases hc0 : cap = 0
    · have hl0 : len = 0 := by omega
      subst hl0; subst hc0
      refine ⟨some ⟨ab, 0, cur.size, 0⟩, 0, [], row, by simp, fun i hi => by omega, fun ρ hρ => .inr ⟨⟨ab, 0, cur.size, 0⟩, _, 0, hρ, rfl, Nat.le_refl _, hcap, rfl, fun h => absurd h (Nat.lt_irrefl _), by simp [offO], by simp [offO]⟩, fun ρ segs hρ hs => ?_⟩
      refine .inr ⟨⟨ab, 0, cur.size, 0⟩, cur, fz, hρ, hb, hs.1, by simp, rfl, ?_, fun h => absurd rfl h, fun h => by cases h⟩
      simpa using hs
    · have hbd := bound (by omega)
      have hle : len * z ≤ cap * z := Nat.mul_le_mul_right _ hlc
      have hlen : ((cur.toList.drop ao).take (len * z)).length = len * z := by simp; omega
      refine ⟨some ⟨ab, ao, cur.size, len * z⟩, len, (cur.toList.drop ao).take (len * z), row, hlen, fun i hi => ?_, fun ρ hρ => .inr ⟨⟨ab, ao, cur.size, len * z⟩, _, cap, hρ, rfl, hlc, hcap, rfl, fun _ => rfl, by simp [offO], by simpa [offO] using hbd⟩, fun ρ segs hρ hs => ?_⟩
      · obtain ⟨cs, y, h1, h2, h3⟩ := get i (by omega)
        refine ⟨m, y, ?_⟩
        rw [← h3]
        congr 1
        have hiz : i * z + z ≤ len * z := by
          have := Nat.mul_le_mul_right z (show i + 1 ≤ len from hi)
          rw [Nat.succ_mul] at this
          exact this
        apply List.ext_getElem?
        intro j
        by_cases hj : j < z
        · rw [List.getElem?_take_of_lt hj, List.getElem?_drop, List.getElem?_take_of_lt (by omega), List.getElem?_drop, Array.getElem?_toList, ← h1 j hj]
          congr 1
          omega
        · rw [List.getElem?_eq_none (by simp; omega), List.getElem?_eq_none (by omega)]
      · exact .inr ⟨⟨ab, ao, cur.size, len * z⟩, cur, fz, hρ, hb, hlen.symm.trans hs.1, by show ao + len * z ≤ cur.size; omega, rfl, hs, fun h => absurd rfl h, fun h => by cases h⟩

inductive FK where
  | int (k : IntKind) | nat (k : IntKind) | str | bool
def FK.fits (k : FK) (d : TypeDesc) : Prop := match k with
  | .int kk => d = .int kk
  | .nat kk => d = .int kk ∧ kk.signed = false
  | .str => d = .string
  | .bool => d = .bool
def intOfV : Value → Int | .int _ a => a | _ => 0
def natOfV : Value → Nat | .int _ a => a.toNat | _ => 0
def strOfV : Value → List Nat | .string s => natsOf s | _ => []
def boolOfV : Value → Bool | .bool b => b | _ => false
def FK.has (k : FK) (v : Value) : Prop := match k with
  | .int kk => ∃ a, v = .int kk a ∧ (Lit.int kk a).wf = true
  | .nat kk => ∃ a, v = .int kk a ∧ (Lit.int kk a).wf = true ∧ kk.signed = false
  | .str => ∃ s : ByteArray, v = .string s ∧ s.size ≤ maxLen
  | .bool => ∃ b, v = .bool b
def FK.col (k : FK) (l : List Value) : Col := match k with
  | .int kk => .ints kk (l.map intOfV)
  | .nat kk => .nums kk (l.map natOfV)
  | .str => .strs (l.map strOfV)
  | .bool => .bools (l.map boolOfV)
theorem getD_map' {α β : Type} (f : α → β) (l : List α) (i : Nat) (d : β) (x : α) (h : l[i]? = some x) : (l.map f).getD i d = f x := by
  rw [List.getD_eq_getElem?_getD, List.getElem?_map, h]; rfl
theorem FK.col_rc {k : FK} {l : List Value} {i : Nat} {v : Value} (hv : l[i]? = some v) (hk : k.has v) (ρ : Map) : RC ρ ((k.col l).cell i) v ∧ v.oneCell' = true := by
  cases k with
  | int kk =>
    obtain ⟨a, rfl, _⟩ := hk
    refine ⟨?_, rfl⟩
    show RC ρ (.int kk ((l.map intOfV).getD i 0)) _
    rw [getD_map' _ _ _ _ _ hv]
    rfl
  | nat kk =>
    obtain ⟨a, rfl, hw, hs⟩ := hk
    refine ⟨?_, rfl⟩
    show RC ρ (.nat kk ((l.map natOfV).getD i 0)) _
    rw [getD_map' _ _ _ _ _ hv]
    exact rv_nat (ρ := ρ) hw hs
  | str =>
    obtain ⟨s, rfl, _⟩ := hk
    refine ⟨?_, rfl⟩
    show RC ρ (.str ((l.map strOfV).getD i [])) _
    rw [getD_map' _ _ _ _ _ hv]
    exact ⟨s, rfl, rfl⟩
  | bool =>
    obtain ⟨b, rfl⟩ := hk
    refine ⟨?_, rfl⟩
    show RC ρ (.bool ((l.map boolOfV).getD i false)) _
    rw [getD_map' _ _ _ _ _ hv]
    rfl
theorem FK.has_of {H : Type} {enc : TypeId × Value → H} {P : Program} {w : World} {held : Bool} {m : Nat} {t : TypeId} {cs : List Value} {y : DataW H × List MemPlace} {k : FK} {d : TypeDesc} (hu : P.underlying t = some d) (hk : k.fits d) (h : DataW.trod enc P w 0 (fun _ => true) held m t cs = some y) : ∃ v, cs = [v] ∧ k.has v := by
  cases k with
  | int kk =>
    obtain rfl : d = .int kk := hk
    obtain ⟨n, rfl, _, h2⟩ := DataW.trod_int hu h
    exact ⟨_, rfl, n, rfl, h2⟩
  | nat kk =>
    obtain ⟨rfl, hs⟩ := hk
    obtain ⟨n, rfl, _, h2⟩ := DataW.trod_int hu h
    exact ⟨_, rfl, n, rfl, h2, hs⟩
  | str =>
    obtain rfl : d = .string := hk
    obtain ⟨s, rfl, _, h2⟩ := DataW.trod_string hu h
    exact ⟨_, rfl, s, rfl, h2⟩
  | bool =>
    obtain rfl : d = .bool := hk
    obtain ⟨b, rfl, _⟩ := DataW.trod_bool hu h
    exact ⟨_, rfl, b, rfl⟩
def FK.seg (k : FK) (n : Nat) (l : List Value) : Seg := match k with
  | .int kk => .ints kk n (l.map intOfV)
  | .nat kk => .nums kk n (l.map natOfV)
  | .str => .strs n (l.map strOfV)
  | .bool => .one .top
theorem FK.seg_rc {k : FK} (hb : k ≠ .bool) {l : List Value} (hk : ∀ (i : Nat) (v : Value), l[i]? = some v → k.has v) (ρ : Map) : RSegs ρ [k.seg l.length l] l := by
  have hlen : segsLen [k.seg l.length l] = l.length := by cases k <;> first | (simp [FK.seg, segsLen, Seg.len]; done) | exact absurd rfl hb
  refine ⟨hlen.symm, ?_, fun j c v hc hv => ?_⟩
  · cases k <;> first | exact segsWf_cons.2 ⟨by simp [FK.seg, Seg.wf], segsWf_nil⟩ | exact absurd rfl hb
  · have hj : j < l.length := (List.getElem?_eq_some_iff.1 hv).1
    have hl : (k.seg l.length l).len = l.length := by simpa [segsLen] using hlen
    rw [getCell_cons, if_pos (by omega)] at hc
    simp only [Option.some.injEq] at hc
    subst hc
    have := FK.col_rc hv (hk j v hv) ρ
    cases k <;> first | exact this | exact absurd rfl hb
theorem strs_ok {l : List Value} (h : ∀ v ∈ l, FK.str.has v) : ∀ x ∈ l.map strOfV, (∀ b ∈ x, b < 256) ∧ x.length ≤ maxLen := by
  intro x hx
  obtain ⟨v, hv, rfl⟩ := List.mem_map.1 hx
  obtain ⟨s, rfl, hw⟩ := h v hv
  refine ⟨natsOf_lt s, ?_⟩
  show (natsOf s).length ≤ maxLen
  rw [natsOf_len]
  simpa using hw
theorem mem_has {k : FK} {vs : List Value} (h : ∀ (i : Nat) (v : Value), vs[i]? = some v → k.has v) : ∀ v ∈ vs, k.has v := by
  intro v hv
  obtain ⟨i, hi, rfl⟩ := List.mem_iff_getElem.1 hv
  exact h i _ (List.getElem?_eq_getElem hi)
theorem HR_nil0 {w : World} (ρ : Map) : HR w.heap.size (fun _ => False) ρ [] w := ⟨Nat.le_refl _, fun b x hb => by simp [lk] at hb, fun b c x y L M hb => by simp [lk] at hb⟩
theorem HR_more {N : Nat} {S : Nat → Prop} {ρ : Map} {h : Heap} {w : World} {b : Nat} {x : Blk} (hr : HR N S ρ h w) (hb : BR N S ρ b x w) (h0 : x.own = 0) (hro : ∀ c y, lk c h = some y → y.own = 0) : HR N S ρ ((b, x) :: h) w := by
  refine ⟨hr.low, fun c y hc => ?_, fun c d y z L M hc hd _ _ _ how => ?_⟩
  · rw [lk_cons] at hc
    split at hc
    · rename_i e
      simp only [Option.some.injEq] at hc
      subst e; subst hc
      exact hb
    · exact hr.blk c y hc
  · have z : ∀ c y, lk c ((b, x) :: h) = some y → y.own = 0 := by
      intro c y hc
      rw [lk_cons] at hc
      split at hc
      · simp only [Option.some.injEq] at hc
        subst hc
        exact h0
      · exact hro c y hc
    rcases how with how | how
    · exact absurd (z _ _ hc) how
    · exact absurd (z _ _ hd) how
theorem flat_has {H : Type} {enc : TypeId × Value → H} {P : Program} {w : World} {held : Bool} {e : TypeId} {k : FK} {d : TypeDesc} {n : Nat} {vs : List Value} (he : P.underlying e = some d) (hk : k.fits d) (hz : P.cellsOf e = 1) (hl : vs.length = n * P.cellsOf e)
    (h : ∀ i, i < n → ∃ m y, DataW.trod enc P w 0 (fun _ => true) held m e ((vs.drop (i * P.cellsOf e)).take (P.cellsOf e)) = some y) : ∀ (i : Nat) (v : Value), vs[i]? = some v → k.has v := by
  intro i v hv
  rw [hz, Nat.mul_one] at hl
  have hi : i < n := by have := (List.getElem?_eq_some_iff.1 hv).1; omega
  obtain ⟨m, y, hy⟩ := h i hi
  obtain ⟨u, h7, h8⟩ := FK.has_of he hk hy
  rw [hz, Nat.mul_one] at h7
  have h9 : ((vs.drop i).take 1)[0]? = some u := by rw [h7]; rfl
  rw [List.getElem?_take_of_lt (by omega), List.getElem?_drop, Nat.add_zero, hv] at h9
  simp only [Option.some.injEq] at h9
  subst h9
  exact h8
theorem ent_spec {o : Option (Bool × AV × Heap)} {v : AV} (h : o.map (fun p => (p.1, p.2.1)) = some (true, v)) : ∃ h', o = some (true, v, h') := by
  cases o with
  | none => cases h
  | some p =>
    obtain ⟨c, u, h'⟩ := p
    simp only [Option.map_some, Option.some.injEq, Prod.mk.injEq] at h
    obtain ⟨rfl, rfl⟩ := h
    exact ⟨h', rfl⟩
theorem law_walkH {P : Program} {f : FuncId} {us : Array Value} {vs : List AV} {h h' : Heap} {ρ : Map} {w : World} (hf : FnH P f vs h (.v (.cell (.bool true))) h') (hr : RVs ρ vs us.toList) (hh : HR w.heap.size (fun _ => False) ρ h w) (hc : (callFunc f us).run P w = .ok (.enter f us) w) :
    Calls P f us w fun e w' => e = .returned (.bool true) ∧ Below w.heap.size w w' := by
  have := hf _ _ ρ w us hh hr
  rw [hc] at this
  refine Calls.mono this.2 fun e w' he => ?_
  obtain ⟨u, ρ', rfl, h1, _, h2, _⟩ := he
  obtain rfl : u = .bool true := h1
  exact ⟨rfl, h2.os, h2.tape, h2.output, h2.size, fun k hk => h2.block k hk (fun h => h)⟩
end Go.Sx
