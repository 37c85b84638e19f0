import Derived.Test.YtkomlijabeedpaaDoorSxN
import Derived.Laws.BytesArg
import Derived.Laws.Slices
namespace Go.Sx

section
variable {P : Program} {T : Tys} {O : Orc} {N : Nat} {S : Nat → Prop} {ρ : Map} {h : Heap} {w : World} {e : Operand → Option AV} {a : Act} {R : Type} {r : R} {sid : Nat} {fr : Bool} {k : AV → Heap → List Nat → Option R}

theorem scalar_zero (hT : TyOK P T) {t : TypeId} {te : Ty} (ht : T t = some te) {c : Cell} (hz : te.zero = .cell c) :
    ∃ i z, P.info? t = some i ∧ i.zero = some z ∧ i.size = 1 ∧ i.bytes = te.bytes ∧ z.cells = #[z] ∧ (∀ ρ, RC ρ c z) ∧ z.oneCell' = true ∧ te.size = 1 := by
  obtain ⟨i, d, h1, _, h3, h4, _, z, h5, h6, h7, h8, h9⟩ := hT.ok t te ht
  rw [hz] at h6 h8 h9
  obtain ⟨g1, g2⟩ := RC_one h6 h8
  have hs : te.size = 1 := by rw [← h7, g2]; rfl
  refine ⟨i, z, h1, h5, by rw [h3, hs], h4, g2, fun ρ => RC_agree (fun b hb => ?_) h6, g1, hs⟩
  have := h9 b
  rw [show (V1.cell c).mentions b = c.mentions b from rfl] at this
  rw [this] at hb; cases hb

theorem makeSlice_sound (hT : TyOK P T) (hr : HR N S ρ h w) (hfr : fr = true → lk sid h = none ∧ heapFree sid h = true) {t : TypeId} {ty te : Ty} (ht : T t = some ty) (htk : ty.tk = .slice) (hte : T ty.elem = some te) {n m : Nat} {kl kc : IntKind} {q : List Seg}
    (hnm : n ≤ m) (hmax : m * te.bytes ≤ 140737488355328) (hm63 : m ≤ maxLen) (hq : zeroRow te.zero n = some q) (hk : newBlk sid h fr ⟨q, ty.elem, 2⟩ k (.v (.cell (.sl sid none n 1))) = some r) :
    ∃ v h' mv, k v h' mv = some r ∧ Good P N S ρ sid fr mv v h' w ((do pure (.value (← Instr.makeSlice t (.int kl (n : Int)) (.int kc (m : Int)))) : Sem Next).run P w) := by
  obtain ⟨hf, hk⟩ := newBlk_some hk
  refine ⟨_, _, _, hk, ?_⟩
  have main : ∀ (c : Cell), te.zero = .cell c → segsLen q = n → segsWf q → (∀ b, anyB (Seg.mentions b) q = false) → (∀ j, j < n → getCell q j = some c) →
      Good P N S ρ sid fr [] (.v (.cell (.sl sid none n 1))) ((sid, ⟨q, ty.elem, 2⟩) :: h) w ((do pure (.value (← Instr.makeSlice t (.int kl (n : Int)) (.int kc (m : Int)))) : Sem Next).run P w) := by
    intro c hc q1 q2 q3 q4
    obtain ⟨i, z, h1, h2, h3, h4, h5, h6, h7, h8⟩ := scalar_zero hT hte hc
    have hrun := run_make (P := P) w t ty.elem i z (und_slice hT ht htk) h1 h2 kl kc (n : Int) (m : Int) (by omega) (by omega) (by
      rw [h4, Int.mul_comm]
      have : ((m * te.bytes : Nat) : Int) ≤ 281474976710656 := by omega
      simpa using this) (by simp only [maxLen] at hm63; omega)
    simp only [Int.toNat_natCast, h3, Nat.mul_one, h5] at hrun
    have : ((do pure (.value (← Instr.makeSlice t (.int kl (n : Int)) (.int kc (m : Int)))) : Sem Next).run P w) = .ok (.value (.slice (some ⟨w.heap.size, 0, none⟩) n m)) (w.alloc (.cells (madeCells #[z] m) ty.elem)) := by
      simp only [Sem.run_bind, hrun, Result.andThen_ok, Sem.run_pure]
    rw [this]
    have hsz : (madeCells #[z] m).size = m := size_madeCells _ _
    refine Good.new (cur := madeCells #[z] m) (fz := (0, 0)) (n := n) hr hfr hf rfl rfl rfl rfl ⟨by rw [List.length_take, Array.length_toList, hsz, q1]; omega, q2, fun j c' v hc' hv => ?_⟩ (q3 sid) q1.symm (by omega) (fun i _ hi => by simp at hi) (fun _ => rfl) ?_
    · have hj := getCell_lt hc'
      rw [q4 j (by omega)] at hc'
      simp only [Option.some.injEq] at hc'
      subst hc'
      rw [List.getElem?_take, if_pos (by omega)] at hv
      have hv' : (madeCells #[z] m)[j]? = some v := by simpa using hv
      unfold madeCells at hv'
      rw [Array.getElem?_map] at hv'
      have hr2 : (Array.range m)[j]? = some j := by rw [Array.getElem?_range]; simp; omega
      rw [hr2] at hv'
      simp only [Option.map_some, Option.some.injEq] at hv'
      have : v = z := by rw [← hv']; simp [Nat.mod_one]
      subst this
      exact ⟨h6 ρ, h7⟩
    · refine .inr ⟨_, ⟨w.heap.size, 0, none⟩, m, setMap_self _ _ _, rfl, hnm, hm63, rfl, fun _ => by simp [offO], by simp [offO], by simp [offO, hsz]⟩
  unfold zeroRow at hq
  cases hz : te.zero with
  | agg l => rw [hz] at hq; cases hq
  | cell c =>
    rw [hz] at hq
    cases c with
    | nat kz x =>
      simp only [Option.some.injEq] at hq
      subst hq
      exact main _ hz (by simp [segsLen, Seg.len]) (segsWf_cons.2 ⟨by simp [Seg.wf], segsWf_nil⟩) (fun _ => rfl) (fun j hj => by rw [getCell_cons, if_pos (by exact hj)]; simp [Seg.cell, hj])
    | int kz x =>
      simp only [Option.some.injEq] at hq
      subst hq
      exact main _ hz (by simp [segsLen, Seg.len]) (segsWf_cons.2 ⟨by simp [Seg.wf], segsWf_nil⟩) (fun _ => rfl) (fun j hj => by rw [getCell_cons, if_pos (by exact hj)]; simp [Seg.cell, hj])
    | str x =>
      simp only [Option.some.injEq] at hq
      subst hq
      exact main _ hz (by simp [segsLen, Seg.len]) (segsWf_cons.2 ⟨by simp [Seg.wf], segsWf_nil⟩) (fun _ => rfl) (fun j hj => by rw [getCell_cons, if_pos (by exact hj)]; simp [Seg.cell, hj])
    | _ => cases hq

theorem toBytes_sound (hT : TyOK P T) (hr : HR N S ρ h w) (hfr : fr = true → lk sid h = none ∧ heapFree sid h = true) {sr d : TypeId} {ts ty te : Ty} (hs : T sr = some ts) (ht : T d = some ty) (htk : ty.tk = .slice) (hte : T ty.elem = some te) (htek : te.tk = .int .u8) {l : List Nat} {u : Value}
    (hu : RC ρ (.str l) u) (hlm : l.length ≤ maxLen) (hk : newBlk sid h fr ⟨[.nums .u8 l.length l], ty.elem, 1⟩ k (.v (.cell (.sl sid none l.length 1))) = some r) :
    ∃ v h' mv, k v h' mv = some r ∧ Good P N S ρ sid fr mv v h' w ((do pure (.value (← convert sr d u)) : Sem Next).run P w) := by
  obtain ⟨hf, hk⟩ := newBlk_some hk
  refine ⟨_, _, _, hk, ?_⟩
  obtain ⟨s, rfl, hsl⟩ := hu
  obtain ⟨ds, hds, _⟩ := und_eq hT hs
  have hlen : l.length = s.size := by rw [← hsl, natsOf_length]
  have hrun := Lib.run_convert_string_bytes (P := P) w sr d ty.elem s hds (und_slice hT ht htk) (und_int hT hte htek)
  have : ((do pure (.value (← convert sr d (.string s))) : Sem Next).run P w) = .ok (.value (.slice (some ⟨w.heap.size, 0, none⟩) s.size (grownCap w s.size 0 ty.elem))) (Lib.bytesWorld w ty.elem s) := by
    simp only [Sem.run_bind, hrun, Result.andThen_ok, Sem.run_pure]
  rw [this]
  have hge : s.size ≤ grownCap w s.size 0 ty.elem := grownCap_ge w _ _ _
  have hle := grownCap_le_maxLen w s.size 0 ty.elem (by omega)
  have hsz : (Lib.bytesCells w ty.elem s).size = grownCap w s.size 0 ty.elem := by
    unfold Lib.bytesCells
    simp only [Array.size_append, Array.size_map, Array.size_replicate]
    have : s.data.size = s.size := rfl
    omega
  refine Good.new (cur := Lib.bytesCells w ty.elem s) (fz := ((Lib.bytesCells w ty.elem s).size, (Lib.bytesCells w ty.elem s).size + 1)) (n := l.length) hr hfr hf ?_ rfl rfl rfl ⟨?_, segsWf_cons.2 ⟨rfl, segsWf_nil⟩, fun j c v hc hv => ?_⟩ rfl (by simp [segsLen, Seg.len]) (by rw [hsz]; omega) (fun i hi hh => by omega) (fun h => by cases h) ?_
  · apply Array.ext_getElem?
    intro i
    rcases Nat.lt_trichotomy i w.heap.size with hi | hi | hi
    · rw [Lib.bytesWorld_at_old w _ s i hi, allocOld _ _ _ hi]
    · subst hi
      rw [Lib.bytesWorld_at_new, heap_alloc_new]
    · rw [Array.getElem?_eq_none (by rw [Lib.bytesWorld_size]; omega), Array.getElem?_eq_none (by simp; omega)]
  · have hl2 : (Lib.bytesCells w ty.elem s).toList.length = grownCap w s.size 0 ty.elem := by rw [Array.length_toList, hsz]
    rw [List.length_take, hl2]; simp [segsLen, Seg.len]; omega
  · have hj := getCell_lt hc
    simp only [segsLen, Seg.len, Nat.add_zero] at hj
    rw [getCell_cons, if_pos (by exact hj)] at hc
    simp only [Seg.cell, Option.some.injEq] at hc
    subst hc
    rw [List.getElem?_take, if_pos hj] at hv
    have hv' : (Lib.bytesCells w ty.elem s)[j]? = some v := by simpa using hv
    have hjs : j < s.data.size := by have : s.data.size = s.size := rfl; omega
    unfold Lib.bytesCells at hv'
    rw [Array.getElem?_append_left (by simpa using hjs), Array.getElem?_map, Array.getElem?_eq_getElem hjs] at hv'
    simp only [Option.map_some, Option.some.injEq] at hv'
    have hx : l.getD j 0 = (s.data[j]).toNat := by
      rw [← hsl]
      unfold natsOf
      rw [List.getD_eq_getElem?_getD, List.getElem?_map, List.getElem?_eq_getElem (by simpa using hjs)]
      simp
    subst hv'
    exact ⟨⟨by rw [hx], by rw [hx]; exact UInt8.toNat_lt _, rfl⟩, rfl⟩
  · refine .inr ⟨_, ⟨w.heap.size, 0, none⟩, grownCap w s.size 0 ty.elem, setMap_self _ _ _, by rw [hlen], by omega, hle, rfl, fun _ => by simp [offO], by simp [offO], by simp [offO, hsz]⟩

theorem toText_sound (hT : TyOK P T) (hr : HR N S ρ h w) {sr d : TypeId} {ts ty te : Ty} (hs : T sr = some ts) (hsk : ts.tk = .slice) (ht : T d = some ty) (htk : ty.tk = .string) (hte : T ts.elem = some te) (htek : te.tk = .int .u8) {b : Nat} {o : Option Nat} {n z m : Nat} {l : List Nat} {u : Value}
    (hu : RC ρ (.sl b o n z) u) (hsg : sliceSeg h (.sl b o n z) = some (.nums .u8 m l)) : ∃ v, (convert sr d u).run P w = .ok v w ∧ RC ρ (.str l) v := by
  obtain ⟨cs, h1, _, _, _, h5⟩ := sliceSeg_sound (P := P) hr hsg hu
  have hconv : ∀ A n c, (convert sr d (.slice A n c)).run P w = (Conv.bytesToString (.slice A n c)).run P w := fun A n c =>
    run_convert_bytes_string w sr d ts.elem A n c (und_slice hT hs hsk) (und_int hT hte htek) (und_string hT ht htk)
  have hml : l.length = m := (segsWf_cons.1 h1.2.1).1
  have hcl : cs.length = m := by rw [h1.1]; simp [segsLen, Seg.len]
  have hcs : cs = (l.map fun (x : Nat) => (x : Int)).map (Value.int .u8) := by
    apply List.ext_getElem?
    intro j
    by_cases hj : j < m
    · have hjc : j < cs.length := by omega
      rw [List.getElem?_eq_getElem hjc, List.getElem?_map, List.getElem?_map, List.getElem?_eq_getElem (by omega)]
      have := (h1.2.2 j (.nat .u8 (l.getD j 0)) cs[j] (by rw [getCell_cons, if_pos (by exact hj)]; rfl) (List.getElem?_eq_getElem hjc)).1
      rw [this.1, List.getD_eq_getElem?_getD, List.getElem?_eq_getElem (by omega)]
      rfl
    · rw [List.getElem?_eq_none (by omega), List.getElem?_eq_none (by simp; omega)]
  have hlt : ∀ x ∈ l, x < 256 := by
    intro x hx
    obtain ⟨j, hj, rfl⟩ := List.mem_iff_getElem.1 hx
    have hjc : j < cs.length := by omega
    have := (h1.2.2 j (.nat .u8 (l.getD j 0)) cs[j] (by rw [getCell_cons, if_pos (by show j < m; omega)]; rfl) (List.getElem?_eq_getElem hjc)).1
    have h2 := this.2.1
    rw [List.getD_eq_getElem?_getD, List.getElem?_eq_getElem hj] at h2
    simpa [IntKind.bits] using h2
  have htext : natsOf (((l.map fun (x : Nat) => (x : Int))).foldl (fun r n => r.push (UInt8.ofNat n.toNat)) ByteArray.empty) = l := by
    rw [foldl_push_bytes]
    unfold natsOf
    simp only [List.map_map, Function.comp_def, Int.toNat_natCast]
    have : (ByteArray.empty.data ++ (l.map fun x => UInt8.ofNat x).toArray).toList = l.map fun x => UInt8.ofNat x := by
      simp [ByteArray.empty, ByteArray.emptyWithCapacity]
      rfl
    rw [this, List.map_map]
    conv => rhs; rw [← List.map_id l]
    apply List.map_congr_left
    intro x hx
    simp only [Function.comp, id]
    rw [UInt8.toNat_ofNat']
    exact Nat.mod_eq_of_lt (by simpa using hlt x hx)
  rcases h5 with ⟨s, hs'⟩ | hn | ⟨A, cap, hA, hload⟩
  · exfalso
    rcases hu with ⟨_, _, h⟩ | ⟨_, _, _, _, h, _⟩ <;> rw [hs'] at h <;> cases h
  · subst hn
    rcases hu with ⟨_, hn0, _⟩ | ⟨_, _, _, _, h, _⟩
    · refine ⟨.string .empty, by rw [hconv]; rfl, _, rfl, ?_⟩
      have : m = 0 := by
        have := hsg
        simp only [sliceSeg] at this
        split at this
        · split at this
          · split at this <;> simp only [Option.some.injEq, Seg.nums.injEq, reduceCtorEq] at this <;> omega
          · split at this <;> simp at this
          · split at this <;> simp at this
          · cases this
        · cases this
      have : l = [] := List.length_eq_zero_iff.1 (by omega)
      subst this
      rfl
    · cases h
  · subst hA
    refine ⟨.string _, by rw [hconv]; exact run_bytesToString w A m cap _ (by rw [← hcs]; exact hload), _, rfl, htext⟩

end
end Go.Sx
