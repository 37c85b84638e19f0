import Derived.Test.YtkomlijabeedpaaDoorSxC
import Derived.Laws.Rows
import Derived.Laws.CopyRow
import Derived.Laws.Cells
import Derived.Laws.Append
import Derived.Laws.AppendOwn
import Derived.Below
import Derived.RangeFuncOwn
import Derived.RangeFuncLeaves
import Derived.RangeFuncCalls
import Derived.OrdersIn
namespace Go.Sx

structure Loc where
  g : Nat
  q : Nat
  C : Nat
  n : Nat

abbrev Map := Nat → Option Loc

def RC (ρ : Map) : Cell → Value → Prop
  | .top, _ => True
  | .un, v => v = undef
  | .bool b, v => v = .bool b
  | .int k n, v => v = .int k n
  | .nat k n, v => v = .int k (n : Int) ∧ n < 2 ^ k.bits ∧ k.signed = false
  | .str s, v => ∃ b, v = .string b ∧ natsOf b = s
  | .nilp, v => v = .pointer none
  | .nils, v => v = .slice none 0 0
  | .ptr b o i, v => ∃ L, ρ b = some L ∧ (match i with
    | none => v = .pointer (some ⟨L.g, L.q + o, none⟩)
    | some x => v = .pointer (some ⟨L.g, L.q + o + x.j, none⟩) ∧ x.j + x.z ≤ x.m ∧ o + x.j + x.z ≤ L.n ∧ (x.rz ≠ 0 → o = 0 ∧ x.j = x.r * x.rz + x.f))
  | .sl b o n z, v => (ρ b = none ∧ n = 0 ∧ v = .slice none 0 0) ∨
    ∃ L a cap, ρ b = some L ∧ v = .slice (some a) n cap ∧ n ≤ cap ∧ cap ≤ maxLen ∧ a.block = L.g ∧ (0 < cap → a = ⟨L.g, L.q + offO o, none⟩) ∧
      offO o + n * z ≤ L.n ∧ L.q + offO o + cap * z ≤ L.C

def RSegs (ρ : Map) (segs : List Seg) (vs : List Value) : Prop :=
  vs.length = segsLen segs ∧ segsWf segs ∧ ∀ j c v, getCell segs j = some c → vs[j]? = some v → RC ρ c v ∧ v.oneCell' = true

def RV1 (ρ : Map) : V1 → Value → Prop
  | .cell c, v => RC ρ c v
  | .agg segs, v => ∃ cs, v = .agg cs ∧ RSegs ρ segs cs.toList

def RL (ρ : Map) (l : List V1) (vs : Array Value) : Prop := vs.size = l.length ∧ ∀ (i : Nat) x, l[i]? = some x → ∃ u, vs[i]? = some u ∧ RV1 ρ x u
def RV (ρ : Map) : AV → Value → Prop
  | .v x, v => RV1 ρ x v
  | .tup l, v => ∃ vs, v = .tuple vs ∧ vs.size = l.length ∧ ∀ (i : Nat) x, l[i]? = some x → ∃ u, vs[i]? = some u ∧ RV1 ρ x u
  | .fn f a c, v => ∃ xs ys, v = .func (.func f) xs ys ∧ RL ρ a xs ∧ RL ρ c ys
  | .yld b, v => ∃ L, ρ b = some L ∧ v = .func (.yield L.g) #[] #[]

def BR (N : Nat) (S : Nat → Prop) (ρ : Map) (b : Nat) (x : Blk) (w : World) : Prop :=
  (x.own ≠ 1 ∧ ρ b = none ∧ segsLen x.segs = 0 ∧ segsWf x.segs) ∨
  ∃ L cur fz, ρ b = some L ∧ w.heap[L.g]? = some (.cells cur x.ty fz) ∧ L.n = segsLen x.segs ∧ L.q + L.n ≤ cur.size ∧ L.C = cur.size ∧
    RSegs ρ x.segs ((cur.toList.drop L.q).take L.n) ∧
    (x.own ≠ 0 → (∀ i, i < cur.size → ¬ (fz.1 ≤ i ∧ i < fz.2)) ∧ (S L.g ∨ N ≤ L.g)) ∧ (x.own = 2 → fz = (0, 0)) ∧ (x.own = 1 → L.q = 0)

structure HR (N : Nat) (S : Nat → Prop) (ρ : Map) (h : Heap) (w : World) : Prop where
  low : N ≤ w.heap.size
  blk : ∀ b x, lk b h = some x → BR N S ρ b x w
  inj : ∀ b c x y L M, lk b h = some x → lk c h = some y → ρ b = some L → ρ c = some M → b ≠ c → (x.own ≠ 0 ∨ y.own ≠ 0) → L.g ≠ M.g

theorem allocOld (w : World) (o : Obj) (i : Nat) (h : i < w.heap.size) : (w.alloc o).heap[i]? = w.heap[i]? := by
  show (w.heap.push o)[i]? = _
  rw [Array.getElem?_push, if_neg (by omega)]

structure Fr (N : Nat) (S : Nat → Prop) (w w' : World) : Prop where
  os : w'.os = w.os
  tape : w'.tape = w.tape
  output : w'.output = w.output
  size : w.heap.size ≤ w'.heap.size
  block : ∀ k, k < N → ¬ S k → w'.heap[k]? = w.heap[k]?
  oth : ∀ (k : Nat) (o : Obj), w.heap[k]? = some o → o.isCells = false → w'.heap[k]? = some o

theorem Fr.refl (N : Nat) (S : Nat → Prop) (w : World) : Fr N S w w := ⟨rfl, rfl, rfl, Nat.le_refl _, fun _ _ _ => rfl, fun _ _ h _ => h⟩
theorem Fr.trans {N : Nat} {S : Nat → Prop} {a b c : World} (h : Fr N S a b) (k : Fr N S b c) : Fr N S a c :=
  ⟨k.os.trans h.os, k.tape.trans h.tape, k.output.trans h.output, Nat.le_trans h.size k.size, fun i hi hs => (k.block i hi hs).trans (h.block i hi hs), fun i o hi ho => k.oth i o (h.oth i o hi ho) ho⟩
theorem RC_agree {ρ ρ' : Map} {c : Cell} {v : Value} (h : ∀ b, c.mentions b = true → ρ' b = ρ b) (hc : RC ρ c v) : RC ρ' c v := by
  cases c with
  | ptr b o i =>
    have e := h b (by simp [Cell.mentions])
    simp only [RC] at hc ⊢
    rw [e]; exact hc
  | sl b o n z =>
    have e := h b (by simp [Cell.mentions])
    simp only [RC] at hc ⊢
    rw [e]; exact hc
  | _ => exact hc

theorem anyB_mem {α : Type} {p : α → Bool} {l : List α} {x : α} (hx : x ∈ l) (hp : p x = true) : anyB p l = true := by
  induction l with
  | nil => cases hx
  | cons y r ih =>
    unfold anyB
    split
    · rfl
    · rename_i hf
      cases hx with
      | head => rw [hp] at hf; cases hf
      | tail _ hx => exact ih hx

theorem getCell_mentions {segs : List Seg} {j b : Nat} {c : Cell} (h : getCell segs j = some c) (hm : c.mentions b = true) : anyB (Seg.mentions b) segs = true := by
  induction segs generalizing j with
  | nil => simp [getCell] at h
  | cons s r ih =>
    rw [getCell_cons] at h
    by_cases hj : j < s.len
    · rw [if_pos hj] at h
      simp only [Option.some.injEq] at h
      subst h
      refine anyB_mem (x := s) List.mem_cons_self ?_
      cases s with
      | one c => exact hm
      | nums k n l => simp [Seg.cell, Cell.mentions] at hm
      | ints k n l => simp [Seg.cell, Cell.mentions] at hm
      | strs n l => simp [Seg.cell, Cell.mentions] at hm
      | recs n cols =>
        exfalso
        simp only [Seg.cell] at hm
        revert hm
        generalize j % cols.length = f
        generalize j / cols.length = r
        have : ∀ (cols : List Col) (f : Nat), (colsCell cols f r).mentions b = true → False := by
          intro cols
          induction cols with
          | nil => intro f hm; cases f <;> simp [colsCell, Cell.mentions] at hm
          | cons c q ihc =>
            intro f hm
            cases f with
            | zero => cases c <;> simp [colsCell, Col.cell, Cell.mentions] at hm
            | succ f => exact ihc f hm
        exact this _ _
    · rw [if_neg hj] at h
      have := ih h
      unfold anyB
      split
      · rfl
      · exact this

theorem RSegs_agree {ρ ρ' : Map} {segs : List Seg} {vs : List Value} (h : ∀ b, anyB (Seg.mentions b) segs = true → ρ' b = ρ b) (hc : RSegs ρ segs vs) : RSegs ρ' segs vs :=
  ⟨hc.1, hc.2.1, fun j c v hj hv => by
    obtain ⟨h1, h2⟩ := hc.2.2 j c v hj hv
    exact ⟨RC_agree (fun b hb => h b (getCell_mentions hj hb)) h1, h2⟩⟩

theorem RV1_agree {ρ ρ' : Map} {x : V1} {v : Value} (h : ∀ b, x.mentions b = true → ρ' b = ρ b) (hc : RV1 ρ x v) : RV1 ρ' x v := by
  cases x with
  | cell c => exact RC_agree h hc
  | agg l =>
    obtain ⟨cs, e, hs⟩ := hc
    exact ⟨cs, e, RSegs_agree h hs⟩

theorem RL_agree {ρ ρ' : Map} {l : List V1} {vs : Array Value} (h : ∀ b, anyB (V1.mentions b) l = true → ρ' b = ρ b) (hc : RL ρ l vs) : RL ρ' l vs :=
  ⟨hc.1, fun i x hx => by
    obtain ⟨u, hu, hr⟩ := hc.2 i x hx
    exact ⟨u, hu, RV1_agree (fun b hb => h b (anyB_mem (List.mem_of_getElem? hx) hb)) hr⟩⟩
theorem fn_men {b f : Nat} {a c : List V1} : (AV.fn f a c).mentions b = true ↔ anyB (V1.mentions b) a = true ∨ anyB (V1.mentions b) c = true := by
  show (match anyB (V1.mentions b) a with
    | true => true
    | false => anyB (V1.mentions b) c) = true ↔ _
  cases anyB (V1.mentions b) a <;> simp
theorem RV_agree {ρ ρ' : Map} {x : AV} {v : Value} (h : ∀ b, x.mentions b = true → ρ' b = ρ b) (hc : RV ρ x v) : RV ρ' x v := by
  cases x with
  | v x => exact RV1_agree h hc
  | tup l =>
    obtain ⟨vs, e, hl, hs⟩ := hc
    refine ⟨vs, e, hl, fun i x hx => ?_⟩
    obtain ⟨u, hu, hr⟩ := hs i x hx
    exact ⟨u, hu, RV1_agree (fun b hb => h b (anyB_mem (List.mem_of_getElem? hx) hb)) hr⟩
  | yld b =>
    obtain ⟨L, h1, h2⟩ := hc
    exact ⟨L, (h b (show Nat.beq b b = true from Nat.beq_refl b)).trans h1, h2⟩
  | fn f a c =>
    obtain ⟨xs, ys, e, h1, h2⟩ := hc
    exact ⟨xs, ys, e, RL_agree (fun b hb => h b (fn_men.2 (.inl hb))) h1, RL_agree (fun b hb => h b (fn_men.2 (.inr hb))) h2⟩

theorem RC_one {ρ : Map} {c : Cell} {v : Value} (h : RC ρ c v) (ho : (V1.cell c).ok = true) : v.oneCell' = true ∧ v.cells = #[v] := by
  cases c with
  | top => simp [V1.ok] at ho
  | un => simp [V1.ok] at ho
  | bool b => simp only [RC] at h; subst h; exact ⟨rfl, rfl⟩
  | int k n => simp only [RC] at h; subst h; exact ⟨rfl, rfl⟩
  | nat k n => simp only [RC] at h; obtain ⟨rfl, _⟩ := h; exact ⟨rfl, rfl⟩
  | str s => simp only [RC] at h; obtain ⟨b, rfl, _⟩ := h; exact ⟨rfl, rfl⟩
  | nilp => simp only [RC] at h; subst h; exact ⟨rfl, rfl⟩
  | nils => simp only [RC] at h; subst h; exact ⟨rfl, rfl⟩
  | ptr b o i =>
    simp only [RC] at h
    obtain ⟨L, _, h⟩ := h
    split at h
    · subst h; exact ⟨rfl, rfl⟩
    · obtain ⟨rfl, _⟩ := h; exact ⟨rfl, rfl⟩
  | sl b o n z =>
    simp only [RC] at h
    rcases h with ⟨_, _, rfl⟩ | ⟨L, a, cap, _, rfl, _⟩ <;> exact ⟨rfl, rfl⟩

theorem RV1_cells {ρ : Map} {x : V1} {v : Value} (h : RV1 ρ x v) (ho : x.ok = true) : RSegs ρ x.segs v.cells.toList ∧ v.cells.size = segsLen x.segs := by
  cases x with
  | cell c =>
    obtain ⟨h1, h2⟩ := RC_one h ho
    rw [h2]
    refine ⟨⟨rfl, fun s hs => ?_, fun j c' v' hj hv => ?_⟩, rfl⟩
    · simp only [V1.segs, List.mem_singleton] at hs
      subst hs
      trivial
    · have hlt := getCell_lt hj
      have hj0 : j = 0 := by simp [V1.segs, segsLen, Seg.len] at hlt; omega
      subst hj0
      simp [V1.segs, getCell_cons, Seg.len, Seg.cell] at hj
      simp at hv
      subst hj; subst hv
      exact ⟨h, h1⟩
  | agg l =>
    obtain ⟨cs, rfl, hs⟩ := h
    exact ⟨hs, by have := hs.1; simpa [Value.cells, V1.segs] using this⟩

theorem HR_agree {N : Nat} {S : Nat → Prop} {ρ ρ' : Map} {h : Heap} {w : World} (hr : HR N S ρ h w) (hk : ∀ b x, lk b h = some x → ρ' b = ρ b)
    (hm : ∀ b x c, lk b h = some x → anyB (Seg.mentions c) x.segs = true → ρ' c = ρ c) : HR N S ρ' h w := by
  refine ⟨hr.low, fun b x hb => ?_, fun b c x y L M hb hc hL hM => ?_⟩
  · rcases hr.blk b x hb with ⟨h1, h2, h3⟩ | ⟨L, cur, fz, h1, h2, h3, h4, h5, h6, h7⟩
    · exact .inl ⟨h1, (hk b x hb).trans h2, h3⟩
    · exact .inr ⟨L, cur, fz, (hk b x hb).trans h1, h2, h3, h4, h5, RSegs_agree (fun c hc => hm b x c hb hc) h6, h7⟩
  · rw [hk b x hb] at hL
    rw [hk c y hc] at hM
    exact hr.inj b c x y L M hb hc hL hM

theorem heapFree_spec {b : Nat} {h : Heap} (hf : heapFree b h = true) {c : Nat} {x : Blk} (hx : lk c h = some x) : anyB (Seg.mentions b) x.segs = false := by
  induction h with
  | nil => simp [lk] at hx
  | cons p r ih =>
    obtain ⟨i, y⟩ := p
    unfold heapFree at hf
    split at hf
    · cases hf
    · rename_i hy
      rw [lk_cons] at hx
      split at hx
      · simp only [Option.some.injEq] at hx
        subst hx
        exact hy
      · exact ih hf hx

def setMap (ρ : Map) (b : Nat) (L : Loc) : Map := fun c => if c = b then some L else ρ c

theorem setMap_self (ρ : Map) (b : Nat) (L : Loc) : setMap ρ b L b = some L := by simp [setMap]
theorem setMap_ne (ρ : Map) {b c : Nat} (L : Loc) (h : c ≠ b) : setMap ρ b L c = ρ c := by simp [setMap, h]

theorem HR_alloc {N : Nat} {S : Nat → Prop} {ρ : Map} {h : Heap} {w : World} (hr : HR N S ρ h w) {b : Nat} (hn : lk b h = none) (hf : heapFree b h = true)
    {segs : List Seg} {cur : Array Value} {ty : TypeId} {fz : Nat × Nat} {own n : Nat} (hs : RSegs ρ segs (cur.toList.take n)) (hm : anyB (Seg.mentions b) segs = false) (hnn : n = segsLen segs) (hle : n ≤ cur.size)
    (hz : ∀ i, i < cur.size → ¬ (fz.1 ≤ i ∧ i < fz.2)) (hz2 : own = 2 → fz = (0, 0)) :
    HR N S (setMap ρ b ⟨w.heap.size, 0, cur.size, n⟩) ((b, ⟨segs, ty, own⟩) :: h) (w.alloc (.cells cur ty fz)) := by
  have keepk : ∀ c x, lk c h = some x → c ≠ b := by
    intro c x hx e
    subst e
    rw [hn] at hx; cases hx
  have keepm : ∀ c x d, lk c h = some x → anyB (Seg.mentions d) x.segs = true → d ≠ b := by
    intro c x d hx hd e
    subst e
    rw [heapFree_spec hf hx] at hd; cases hd
  have hr' := HR_agree (ρ' := setMap ρ b ⟨w.heap.size, 0, cur.size, n⟩) hr (fun c x hx => setMap_ne _ _ (keepk c x hx)) (fun c x d hx hd => setMap_ne _ _ (keepm c x d hx hd))
  have old : ∀ c x L, lk c h = some x → setMap ρ b ⟨w.heap.size, 0, cur.size, n⟩ c = some L → L.g < w.heap.size := by
    intro c x L hx hL
    rcases hr'.blk c x hx with ⟨_, h2, _⟩ | ⟨L', cur', fz', h1, h2, _⟩
    · rw [h2] at hL; cases hL
    · rw [h1] at hL
      simp only [Option.some.injEq] at hL
      subst hL
      exact (Array.getElem?_eq_some_iff.1 h2).1
  refine ⟨by have := hr.low; simp; omega, fun c x hx => ?_, fun c d x y L M hc hd hL hM hne ho => ?_⟩
  · rw [lk_cons] at hx
    split at hx
    · rename_i e
      subst e
      simp only [Option.some.injEq] at hx
      subst hx
      refine .inr ⟨⟨w.heap.size, 0, cur.size, n⟩, cur, fz, setMap_self _ _ _, heap_alloc_new w _, hnn, by simpa using hle, rfl, ?_, fun _ => ⟨hz, .inr hr.low⟩, hz2, fun _ => rfl⟩
      simp only [List.drop_zero]
      exact RSegs_agree (fun d hd => setMap_ne _ _ (fun e => by subst e; rw [hm] at hd; cases hd)) hs
    · rcases hr'.blk c x hx with h1 | ⟨L, cur', fz', h1, h2, h3⟩
      · exact .inl h1
      · exact .inr ⟨L, cur', fz', h1, by rw [allocOld _ _ _ (Array.getElem?_eq_some_iff.1 h2).1]; exact h2, h3⟩
  · rw [lk_cons] at hc hd
    split at hc <;> split at hd
    · rename_i e1 e2; exact absurd (e1.symm.trans e2) hne
    · rename_i e1 e2
      subst e1
      rw [setMap_self] at hL
      simp only [Option.some.injEq] at hL
      subst hL
      have := old d y M hd hM
      simp only
      omega
    · rename_i e1 e2
      subst e2
      rw [setMap_self] at hM
      simp only [Option.some.injEq] at hM
      subst hM
      have := old c x L hc hL
      simp only
      omega
    · exact hr'.inj c d x y L M hc hd hL hM hne ho

theorem Fr_alloc {N : Nat} {S : Nat → Prop} {w : World} (hN : N ≤ w.heap.size) (o : Obj) : Fr N S w (w.alloc o) :=
  ⟨rfl, rfl, rfl, by simp, fun k hk _ => allocOld w o k (by omega), fun k o' hk _ => (allocOld w o k (Array.getElem?_eq_some_iff.1 hk).1).trans hk⟩

theorem HR_drewN {N : Nat} {S : Nat → Prop} {ρ : Map} {h : Heap} {w w' : World} (hr : HR N S ρ h w) (hh : w'.heap = w.heap) : HR N S ρ h w' :=
  ⟨by rw [hh]; exact hr.low, fun b x hb => by
    rcases hr.blk b x hb with h1 | ⟨L, cur, fz, h1, h2, h3⟩
    · exact .inl h1
    · exact .inr ⟨L, cur, fz, h1, by rw [hh]; exact h2, h3⟩, hr.inj⟩

end Go.Sx
