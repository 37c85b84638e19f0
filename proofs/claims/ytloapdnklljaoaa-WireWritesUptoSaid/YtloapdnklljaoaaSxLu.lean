import Derived.Test.YtloapdnklljaoaaSxLs
namespace Go.Sx
open Go.ChangeShapes Go.RowKit
theorem open_row_b {H : Type} {enc : TypeId × Value → H} {P : Program} {w : World} {t e : TypeId} {r : Reach} {b0 : Nat} {held : Bool} {v : Value} {d : DataW H} {ps : List MemPlace} (ht : P.underlying t = some (.slice e)) (hz : 0 < P.cellsOf e)
    (hval : Value.okWide P w r b0 t v) (hd : DataW.Trod enc P w 0 (fun _ => true) held t v d ps) (b : Nat) (N : Nat) (S : Nat → Prop) :
    ∃ (L : Option Loc) (n : Nat) (vs : List Value) (ty : TypeId), vs.length = n * P.cellsOf e ∧ (∀ i, i < n → ∃ m y, DataW.trod enc P w 0 (fun _ => true) held m e ((vs.drop (i * P.cellsOf e)).take (P.cellsOf e)) = some y ∧ ∃ es sp, d = DataW.slice es sp ∧ y.1 ∈ es) ∧
      (∀ ρ : Map, ρ b = L → RV ρ (.v (.cell (.sl b none n (P.cellsOf e)))) v) ∧ (∀ (ρ : Map) (segs : List Seg), ρ b = L → RSegs ρ segs vs → BR N S ρ b ⟨segs, ty, 0⟩ w) := by
  obtain ⟨a0, len, cap, rfl⟩ := WideShapes.okWide_slice ht hval
  simp only [Value.okWide, ht] at hval
  simp only [Cell.okWide, ht] at hval
  obtain ⟨fuel, hf⟩ := hd
  rcases DataW.trod_slice ht hf with ⟨hc, -⟩ | ⟨a, len1, cap1, elems, rest, m, -, hc, hxx, -, hlc, hcap, hel, hcells, hrest, -⟩
  · have hc : [Value.slice a0 len cap] = [Value.slice none 0 0] := hc
    simp only [List.cons.injEq, Value.slice.injEq, and_true] at hc
    obtain ⟨rfl, rfl, rfl⟩ := hc
    refine ⟨none, 0, [], 0, by simp, fun i hi => by omega, fun ρ hρ => .inl ⟨hρ, rfl, rfl⟩, fun ρ segs hρ hs => .inl ⟨(show (0 : Nat) ≠ 1 by decide), hρ, hs.1.symm, hs.2.1⟩⟩
  · have hc : [Value.slice a0 len cap] = [Value.slice (some a) len1 cap1] := hc
    simp only [List.cons.injEq, Value.slice.injEq, and_true] at hc
    obtain ⟨e1, e2, e3⟩ := hc
    cases e1; cases e2; cases e3
    simp only [Cell.ok, ht] at hval
    obtain ⟨_, _, _, hsp, row, cells, hsh, _⟩ := hval
    obtain ⟨ab, ao, asp⟩ := a
    simp only at hsp hsh
    subst hsp
    have hblk : ∃ cur fz, w.heap[ab]? = some (.cells cur row fz) := by
      unfold World.shape? at hsh
      split at hsh
      · rename_i c el fz hb
        simp only [Option.some.injEq, Prod.mk.injEq] at hsh
        obtain ⟨rfl, _⟩ := hsh
        exact ⟨_, _, hb⟩
      · cases hsh
    obtain ⟨cur, fz, hb⟩ := hblk
    generalize hzz : P.cellsOf e = z at hz hcells hrest ⊢
    have cellAt : ∀ i, w.cell? ⟨ab, i, none⟩ = cur[i]? := by
      intro i
      unfold World.cell?
      simp [hb]
    -- each element's cells can be read
    have get : ∀ i, i < cap → ∃ cs y, (∀ j, j < z → cur[ao + i * z + j]? = cs[j]?) ∧ cs.length = z ∧ DataW.trod enc P w 0 (fun _ => true) held m e cs = some y ∧ (i < len → y ∈ elems) := by
      intro i hi
      have : ∃ y, (w.cells? 0 ((⟨ab, ao, none⟩ : Addr).add (i * z)) z).bind (DataW.trod enc P w 0 (fun _ => true) held m e) = some y ∧ (i < len → y ∈ elems) := by
        by_cases h : i < len
        · have := hcells i h
          have h2 : ∃ y, elems[i]? = some y := ⟨_, List.getElem?_eq_getElem (by omega)⟩
          obtain ⟨y, hy⟩ := h2
          exact ⟨y, this.trans hy, fun _ => List.mem_of_getElem? hy⟩
        · obtain ⟨h3, h4⟩ := hrest rfl
          have := h4 (i - len) (by omega)
          rw [show len + (i - len) = i by omega] at this
          have h2 : ∃ y, rest[i - len]? = some y := ⟨_, List.getElem?_eq_getElem (by omega)⟩
          obtain ⟨y, hy⟩ := h2
          exact ⟨y, this.trans hy, fun q => absurd q h⟩
      obtain ⟨y, hy, hmem⟩ := this
      obtain ⟨cs, h1, h2⟩ := Option.bind_eq_some_iff.1 hy
      obtain ⟨_, h3, h4⟩ := World.cells?_some h1
      refine ⟨cs, y, fun j hj => ?_, h3, h2, hmem⟩
      have h5 := h4 j hj
      rw [WideShapes.add_plain, WideShapes.add_plain, cellAt] at h5
      rw [h5]
    have bound : 0 < cap → ao + cap * z ≤ cur.size := by
      intro hc0
      obtain ⟨cs, y, h1, h2, _, _⟩ := get (cap - 1) (by omega)
      have h3 := h1 (z - 1) (by omega)
      have h4 : ∃ x, cs[z - 1]? = some x := ⟨_, List.getElem?_eq_getElem (by omega)⟩
      obtain ⟨x, hx⟩ := h4
      rw [hx] at h3
      have h5 := (Array.getElem?_eq_some_iff.1 h3).1
      have h6 : (cap - 1) * z + z = cap * z := by
        have : cap - 1 + 1 = cap := by omega
        rw [← Nat.succ_mul, Nat.succ_eq_add_one, this]
      omega
    by_cases hc0 : cap = 0
    · have hl0 : len = 0 := by omega
      subst hl0; subst hc0
      refine ⟨some ⟨ab, 0, cur.size, 0⟩, 0, [], row, by simp, fun i hi => by omega, fun ρ hρ => .inr ⟨⟨ab, 0, cur.size, 0⟩, _, 0, hρ, rfl, Nat.le_refl _, hcap, rfl, fun h => absurd h (Nat.lt_irrefl _), by simp [offO], by simp [offO]⟩, fun ρ segs hρ hs => ?_⟩
      refine .inr ⟨⟨ab, 0, cur.size, 0⟩, cur, fz, hρ, hb, hs.1, by simp, rfl, ?_, fun h => absurd rfl h, fun h => by cases h⟩
      simpa using hs
    · have hbd := bound (by omega)
      have hle : len * z ≤ cap * z := Nat.mul_le_mul_right _ hlc
      have hlen : ((cur.toList.drop ao).take (len * z)).length = len * z := by simp; omega
      refine ⟨some ⟨ab, ao, cur.size, len * z⟩, len, (cur.toList.drop ao).take (len * z), row, hlen, fun i hi => ?_, fun ρ hρ => .inr ⟨⟨ab, ao, cur.size, len * z⟩, _, cap, hρ, rfl, hlc, hcap, rfl, fun _ => rfl, by simp [offO], by simpa [offO] using hbd⟩, fun ρ segs hρ hs => ?_⟩
      · obtain ⟨cs, y, h1, h2, h3, hm⟩ := get i (by omega)
        refine ⟨m, y, ?_, elems.map (·.1), rest.map (·.1), congrArg Prod.fst hxx, List.mem_map.2 ⟨y, hm hi, rfl⟩⟩
        rw [← h3]
        congr 1
        have hiz : i * z + z ≤ len * z := by
          have := Nat.mul_le_mul_right z (show i + 1 ≤ len from hi)
          rw [Nat.succ_mul] at this
          exact this
        apply List.ext_getElem?
        intro j
        by_cases hj : j < z
        · rw [List.getElem?_take_of_lt hj, List.getElem?_drop, List.getElem?_take_of_lt (by omega), List.getElem?_drop, Array.getElem?_toList, ← h1 j hj]
          congr 1
          omega
        · rw [List.getElem?_eq_none (by simp; omega), List.getElem?_eq_none (by omega)]
      · exact .inr ⟨⟨ab, ao, cur.size, len * z⟩, cur, fz, hρ, hb, hlen.symm.trans hs.1, by show ao + len * z ≤ cur.size; omega, rfl, hs, fun h => absurd rfl h, fun h => by cases h⟩

structure Msr {H : Type} (B : DataW H → Nat) : Prop where
  sl : ∀ es sp y, y ∈ es → B y ≤ B (.slice es sp)
  ag : ∀ ps y, y ∈ ps → B y ≤ B (.agg ps)
  st : ∀ b, b.length ≤ B (.lit (.string b))
theorem recs_short {H : Type} {B : DataW H → Nat} (hB : Msr B) {enc : TypeId × Value → H} {P : Program} {w : World} {held : Bool} {d : DataW H} {e : TypeId} {fs : Array Field} {z : Nat} {n : Nat} {vs : List Value} (he : P.underlying e = some (.struct fs)) (hz : P.cellsOf e = z)
    {j : Nat} (hj : j < z) (hf : ∃ f : Field, fs[j]? = some f ∧ f.offset = j ∧ P.cellsOf f.type = 1 ∧ P.underlying f.type = some .string)
    (h : ∀ i, i < n → ∃ m y, DataW.trod enc P w 0 (fun _ => true) held m e ((vs.drop (i * P.cellsOf e)).take (P.cellsOf e)) = some y ∧ ∃ es sp, d = DataW.slice es sp ∧ y.1 ∈ es) : ∀ r, r < n → ∀ v, vs[r * z + j]? = some v → (strOfV v).length ≤ B d := by
  intro r hr v hv
  obtain ⟨m, y, hy, es, sp, hd, hmem⟩ := h r hr
  obtain ⟨xs, m', _, hyx, _, hxl, hel⟩ := DataW.trod_struct he hy
  obtain ⟨f, h1, h2, h3, h4⟩ := hf
  have h6 := hel j f h1
  have hjx : j < xs.length := by rw [hxl]; exact (Array.getElem?_eq_some_iff.1 h1).1
  rw [List.getElem?_eq_getElem hjx] at h6
  obtain ⟨s, h7, h8, _⟩ := DataW.trod_string h4 h6
  rw [h2, h3, hz] at h7
  have h9 : ((((vs.drop (r * z)).take z).drop j).take 1)[0]? = some (Value.string s) := by rw [h7]; rfl
  rw [List.getElem?_take_of_lt (by omega), List.getElem?_drop, Nat.add_zero, List.getElem?_take_of_lt hj, List.getElem?_drop, hv] at h9
  simp only [Option.some.injEq] at h9
  subst h9
  have b1 := hB.st s.data.toList
  have b2 : B (.lit (.string s.data.toList)) ≤ B (.agg (xs.map (·.1))) := hB.ag _ _ (List.mem_map.2 ⟨xs[j], List.getElem_mem hjx, by rw [h8]⟩)
  have b3 : B y.1 ≤ B d := by rw [hd]; exact hB.sl _ _ _ hmem
  rw [hyx] at b3
  have b4 : (strOfV (Value.string s)).length = s.data.toList.length := by
    show (natsOf s).length = _
    rw [natsOf_len]
  rw [b4]
  exact Nat.le_trans b1 (Nat.le_trans b2 b3)
theorem col_all {n z j : Nat} {vs : List Value} (hl : vs.length = n * z) (hj : j < z) {Q : Value → Prop} (hq : ∀ r, r < n → ∀ v, vs[r * z + j]? = some v → Q v) : ∀ v ∈ (List.range n).map (fun r => vs.getD (r * z + j) undef), Q v := by
  intro v hv
  obtain ⟨r, hr, rfl⟩ := List.mem_map.1 hv
  have hr := List.mem_range.1 hr
  have : r * z + z ≤ n * z := by
    have := Nat.mul_le_mul_right z (show r + 1 ≤ n from hr)
    rw [Nat.succ_mul] at this
    exact this
  have hlt : r * z + j < vs.length := by omega
  refine hq r hr _ ?_
  rw [List.getD_eq_getElem?_getD, List.getElem?_eq_getElem hlt]
  rfl
end Go.Sx
