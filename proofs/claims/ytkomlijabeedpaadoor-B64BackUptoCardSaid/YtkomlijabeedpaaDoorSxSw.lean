import Derived.Test.YtkomlijabeedpaaDoorSxW2
namespace Go.Sx

def swN (x i : Nat) : Nat :=
  match Nat.beq i x with
  | true => x + 1
  | false => match Nat.beq i (x + 1) with
    | true => x
    | false => i

def swE (x : Nat) : List Edge → List Edge
  | [] => []
  | e :: r => ⟨swN x e.on, e.ground⟩ :: swE x r

def swG (x : Nat) : Option (Nat × Bool) → Option (Nat × Bool)
  | some (g, b) => some (swN x g, b)
  | none => none

def swO (x : Nat) (o : Oper) : Oper := ⟨o.dst, o.op, o.type, o.pos, ⟨swE x o.after.toList⟩, swG x o.guard⟩

def swL (x : Nat) : List Oper → List Oper
  | [] => []
  | o :: r => swO x o :: swL x r

def swP : Nat → List Oper → List Oper
  | 0, a :: b :: r => b :: a :: r
  | n + 1, a :: r => a :: swP n r
  | _, l => l

def swOps (x : Nat) (ops : Array Oper) : Array Oper := ⟨swL x (swP x ops.toList)⟩

def fnCall (o : Oper) : Bool :=
  match o.op with
  | .call c => match c.callee with
    | .builtin _ => false
    | _ => true
  | _ => false

def swapAt : Nat → List Oper → Option Nat
  | i, a :: b :: r => match a.guard with
    | none => match calm a && (!(isMove a) && (fnCall b && !(edgeOn i b.after.toList))) with
      | true => some i
      | false => swapAt (i + 1) (b :: r)
    | some _ => swapAt (i + 1) (b :: r)
  | _, _ => none

theorem swN_eq (x i : Nat) : swN x i = if i = x then x + 1 else if i = x + 1 then x else i := by
  unfold swN
  cases h1 : Nat.beq i x with
  | true => rw [if_pos (Nat.eq_of_beq_eq_true h1)]
  | false =>
    rw [if_neg (Nat.ne_of_beq_eq_false h1)]
    cases h2 : Nat.beq i (x + 1) with
    | true => rw [if_pos (Nat.eq_of_beq_eq_true h2)]
    | false => rw [if_neg (Nat.ne_of_beq_eq_false h2)]

theorem swN_swN (x i : Nat) : swN x (swN x i) = i := by
  simp only [swN_eq]
  split <;> split <;> (try split) <;> omega

theorem swN_lt {x n i : Nat} (hx : x + 1 < n) : swN x i < n ↔ i < n := by
  simp only [swN_eq]
  split
  · omega
  · split <;> omega

theorem swP_length : ∀ (x : Nat) (l : List Oper), (swP x l).length = l.length
  | 0, [] => rfl
  | 0, [_] => rfl
  | 0, _ :: _ :: _ => rfl
  | n + 1, [] => rfl
  | n + 1, a :: r => by simp [swP, swP_length n r]

theorem swL_get (x : Nat) : ∀ (l : List Oper) (i : Nat), (swL x l)[i]? = (l[i]?).map (swO x)
  | [], i => by simp [swL]
  | o :: r, 0 => by simp [swL]
  | o :: r, i + 1 => by simpa [swL] using swL_get x r i

theorem swP_get : ∀ (x : Nat) (l : List Oper) (i : Nat), x + 1 < l.length → (swP x l)[swN x i]? = l[i]?
  | 0, a :: b :: r, i, _ => by
    match i with
    | 0 => simp [swP, swN_eq]
    | 1 => simp [swP, swN_eq]
    | i + 2 => simp [swP, swN_eq]
  | n + 1, a :: r, 0, h => by simp [swP, swN_eq]
  | n + 1, a :: r, i + 1, h => by
    have ih := swP_get n r i (by simpa using h)
    have e : swN (n + 1) (i + 1) = swN n i + 1 := by
      simp only [swN_eq]
      split <;> split <;> (try split) <;> (try split) <;> omega
    rw [e]
    simpa [swP] using ih
  | 0, [], _, h => by simp at h
  | 0, [_], _, h => by simp at h
  | n + 1, [], _, h => by simp at h

theorem swOps_get {x : Nat} {ops : Array Oper} (hx : x + 1 < ops.size) (i : Nat) : (swOps x ops)[swN x i]? = (ops[i]?).map (swO x) := by
  unfold swOps
  have h := swP_get x ops.toList i (by simpa using hx)
  have h2 := swL_get x (swP x ops.toList) (swN x i)
  rw [h] at h2
  simpa using h2

theorem swOps_size (x : Nat) (ops : Array Oper) : (swOps x ops).size = ops.size := by
  have : ∀ l : List Oper, (swL x l).length = l.length := fun l => by induction l with
    | nil => rfl
    | cons o r ih => simp [swL, ih]
  simp [swOps, this, swP_length]

theorem swapAt_lt : ∀ {i : Nat} {l : List Oper} {x : Nat}, swapAt i l = some x → x + 1 < i + l.length
  | i, [], x, h => by cases h
  | i, [_], x, h => by cases h
  | i, a :: b :: r, x, h => by
    simp only [swapAt] at h
    split at h
    · split at h
      · simp at h ⊢; omega
      · have := swapAt_lt h; simp at this ⊢; omega
    · have := swapAt_lt h; simp at this ⊢; omega

theorem mem_swE {x : Nat} {e : Edge} : ∀ {l : List Edge}, e ∈ swE x l ↔ ∃ e' ∈ l, e = ⟨swN x e'.on, e'.ground⟩
  | [] => by simp [swE]
  | d :: r => by simp [swE, mem_swE (l := r)]

theorem mem_swL {x : Nat} {o : Oper} : ∀ {l : List Oper}, o ∈ swL x l → ∃ p ∈ l, o = swO x p
  | [], h => by cases h
  | a :: r, h => by
    simp only [swL, List.mem_cons] at h
    rcases h with h | h
    · exact ⟨a, by simp, h⟩
    · obtain ⟨p, h1, h2⟩ := mem_swL h
      exact ⟨p, by simp [h1], h2⟩

theorem mem_swP {o : Oper} : ∀ {x : Nat} {l : List Oper}, o ∈ swP x l → o ∈ l
  | 0, [], h => h
  | 0, [_], h => h
  | 0, a :: b :: r, h => by
    simp only [swP, List.mem_cons] at h ⊢
    rcases h with h | h | h
    · exact .inr (.inl h)
    · exact .inl h
    · exact .inr (.inr h)
  | n + 1, [], h => h
  | n + 1, a :: r, h => by
    simp only [swP, List.mem_cons] at h ⊢
    exact h.imp id mem_swP

theorem swOps_dst {x : Nat} {ops : Array Oper} {o : Oper} (h : o ∈ (swOps x ops).toList) : ∃ p ∈ ops.toList, o.dst = p.dst := by
  obtain ⟨p, h1, rfl⟩ := mem_swL (l := swP x ops.toList) h
  exact ⟨p, mem_swP h1, rfl⟩

section
variable {F : Fence} {n : Nat} {P : Program} {Q : Exit → Act → World → Prop} {md : Region.Mode}

theorem yielded_sw {x : Nat} {ops : Array Oper} (hx : x + 1 < ops.size) (tmps : Array Value) (j : Nat) : yielded (swOps x ops) tmps (swN x j) = yielded ops tmps j := by
  unfold yielded
  rw [swOps_get hx]
  cases ops[j]? <;> rfl

theorem wanted_sw {x : Nat} {ops : Array Oper} (hx : x + 1 < ops.size) (tmps : Array Value) (o : Oper) : Region.wanted (swO x o) (yielded (swOps x ops) tmps) = Region.wanted o (yielded ops tmps) := by
  obtain ⟨dst, op, type, pos, after, guard⟩ := o
  cases guard with
  | none => rfl
  | some g =>
    obtain ⟨g, b⟩ := g
    simp only [Region.wanted, swO, swG, yielded_sw hx]

theorem wpIn_sw (x : Nat) (o : Oper) (a : Act) (w : World) (K : Act → World → Prop) : (swO x o).wpIn F n P a w K Q = o.wpIn F n P a w K Q := rfl

theorem wpOpIn_sw {x : Nat} {ops : Array Oper} (hx : x + 1 < ops.size) {i : Nat} {K : Act → World → Prop} {a : Act} {w : World} :
    wpOpIn F n P (swOps x ops) Q (swN x i) K a w ↔ wpOpIn F n P ops Q i K a w := by
  unfold wpOpIn
  rw [swOps_get hx]
  cases ops[i]? with
  | none => rfl
  | some o =>
    simp only [Option.map_some, wanted_sw hx, wpIn_sw]
    rfl

theorem ready_sw {x : Nat} {ops : Array Oper} (hx : x + 1 < ops.size) {L L' : Array Bool} (hL : ∀ i d, L'.getD (swN x i) d = L.getD i d) {i : Nat} :
    swN x i ∈ Region.ready md (swOps x ops) L' ↔ i ∈ Region.ready md ops L := by
  rw [mem_ready, mem_ready, hL]
  refine and_congr Iff.rfl ?_
  rw [swOps_get hx]
  constructor
  · rintro ⟨o', h1, h2⟩
    cases ho : ops[i]? with
    | none => rw [ho] at h1; cases h1
    | some o =>
      rw [ho] at h1
      obtain rfl := Option.some.inj h1
      refine ⟨o, rfl, fun e he hb => ?_⟩
      have := h2 ⟨swN x e.on, e.ground⟩ (by simp only [swO]; rw [← Array.mem_toList_iff]; exact mem_swE.2 ⟨e, Array.mem_toList_iff.2 he, rfl⟩) hb
      rwa [hL] at this
  · rintro ⟨o, h1, h2⟩
    refine ⟨swO x o, by rw [h1]; rfl, fun e he hb => ?_⟩
    simp only [swO] at he
    rw [← Array.mem_toList_iff] at he
    obtain ⟨e', q1, rfl⟩ := mem_swE.1 he
    simp only [hL]
    exact h2 e' (Array.mem_toList_iff.1 q1) hb

theorem wpAnyIn_sw {x : Nat} {ops : Array Oper} (hx : x + 1 < ops.size) : ∀ (fuel : Nat) (L L' : Array Bool) (a : Act) (w : World), L.size = L'.size → x + 1 < L.size → (∀ i d, L'.getD (swN x i) d = L.getD i d) →
    wpAnyIn F n P md (swOps x ops) Q fuel L' a w → wpAnyIn F n P md ops Q fuel L a w := by
  intro fuel
  have nil : ∀ {L L' : Array Bool}, (∀ i d, L'.getD (swN x i) d = L.getD i d) → (Region.ready md ops L = [] → Region.ready md (swOps x ops) L' = []) := fun {L L'} hL h => by
    refine List.eq_nil_iff_forall_not_mem.2 fun j hj => ?_
    have := (ready_sw (md := md) hx hL (i := swN x j)).1 (by rw [swN_swN]; exact hj)
    rw [h] at this
    cases this
  have lin : ∀ {L L' : Array Bool}, (∀ i d, L'.getD (swN x i) d = L.getD i d) → (Region.ready md (swOps x ops) L' = [] → Region.ready md ops L = []) := fun {L L'} hL h => by
    refine List.eq_nil_iff_forall_not_mem.2 fun j hj => ?_
    have := (ready_sw (md := md) hx hL (i := j)).2 hj
    rw [h] at this
    cases this
  induction fuel with
  | zero =>
    intro L L' a w _ _ hL h
    exact ⟨lin hL h.1, h.2⟩
  | succ fuel ih =>
    intro L L' a w hs hxs hL h
    refine ⟨fun h0 => h.1 (nil hL h0), fun i hi => ?_⟩
    have h1 := h.2 _ ((ready_sw hx hL).2 hi)
    rw [wpOpIn_sw hx] at h1
    refine wpOpIn_mono (fun a w h2 => ih _ _ _ _ (by simp [hs]) (by simpa using hxs) (fun j d => ?_) h2) h1
    simp only [Array.getD_eq_getD_getElem?, Array.getElem?_setIfInBounds]
    have hLj := hL j d
    simp only [Array.getD_eq_getD_getElem?] at hLj
    by_cases hij : i = j
    · subst hij
      simp only [if_true]
      by_cases hl : i < L.size
      · rw [if_pos (by rw [← hs]; exact (swN_lt hxs).2 hl), if_pos hl]
      · rw [if_neg (by rw [← hs]; exact fun hh => hl ((swN_lt hxs).1 hh)), if_neg hl]
    · have : ¬ swN x i = swN x j := fun e => hij (by rw [← swN_swN x i, e, swN_swN])
      rw [if_neg this, if_neg hij]
      exact hLj

end
end Go.Sx
