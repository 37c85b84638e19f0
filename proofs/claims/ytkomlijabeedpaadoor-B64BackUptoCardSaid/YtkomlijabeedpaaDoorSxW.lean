import Derived.Test.YtkomlijabeedpaaDoorSxU
namespace Go.Sx

section
variable {P : Program} {T : Tys} {O : Orc} {N : Nat} {S : Nat → Prop} {ρ₀ : Map} {w₀ : World} {cx : Cx} {F : Fence} {fu : Nat} {R : Type} {r : R}

theorem allLt_spec {p : Nat → Bool} {n : Nat} (h : allLt p n = true) : ∀ i, i < n → p i = true := by
  induction n with
  | zero => intro i hi; omega
  | succ n ih =>
    simp only [allLt, Bool.and_eq_true] at h
    intro i hi
    rcases Nat.lt_or_eq_of_le (Nat.le_of_lt_succ hi) with h1 | h1
    · exact ih h.2 i h1
    · subst h1; exact h.1

theorem allL_spec {α : Type} {p : α → Bool} {l : List α} (h : allL p l = true) : ∀ x ∈ l, p x = true := by
  induction l with
  | nil => intro x hx; cases hx
  | cons y q ih =>
    simp only [allL, Bool.and_eq_true] at h
    intro x hx
    cases hx with
    | head => exact h.1
    | tail _ hx => exact ih h.2 x hx

abbrev Lst (listed : Array Bool) (i : Nat) : Prop := listed.getD i false = true

def Dc (tab : List Nat) (listed : Array Bool) : Prop := ∀ j i, Lst listed j → (tab.getD j 0).testBit i = true → Lst listed i

theorem maskOf_listed {tab : List Nat} {listed : Array Bool} (hd : Dc tab listed) {es : List Edge} (h : ∀ e ∈ es, Region.binds .any e = true → Lst listed e.on) {i : Nat} (hi : (maskOf tab es).testBit i = true) : Lst listed i := by
  induction es with
  | nil => simp [maskOf] at hi
  | cons e q ih =>
    simp only [maskOf] at hi
    split at hi
    · rename_i hb
      have h1 := h e List.mem_cons_self hb
      rw [Nat.testBit_or, Nat.testBit_or, Bool.or_eq_true, Bool.or_eq_true, Nat.testBit_two_pow] at hi
      rcases hi with (hi | hi) | hi
      · simp only [decide_eq_true_eq] at hi
        subst hi
        exact h1
      · exact hd _ _ h1 hi
      · exact ih (fun e he => h e (List.mem_cons_of_mem _ he)) hi
    · exact ih (fun e he => h e (List.mem_cons_of_mem _ he)) hi

theorem afterLt_spec {j : Nat} {es : List Edge} (h : afterLt j es = true) : ∀ e ∈ es, Region.binds .any e = true → e.on < j := by
  induction es with
  | nil => intro e he; cases he
  | cons x q ih =>
    intro e he hb
    simp only [afterLt] at h
    split at h
    · rename_i hx
      simp only [Bool.and_eq_true] at h
      cases he with
      | head => exact blt_true h.1
      | tail _ he => exact ih h.2 e he hb
    · rename_i hx
      cases he with
      | head => rw [hx] at hb; cases hb
      | tail _ he => exact ih h e he hb

theorem menOk_spec {base mask : Nat} {v : AV} {nb : Option Blk} {grp : List Nat} (h : menOk base mask v nb grp = true) : ∀ m ∈ grp, (v.mentions (base + m) || nbMen nb (base + m)) = true → mask.testBit m = true := by
  induction grp with
  | nil => intro m hm; cases hm
  | cons x q ih =>
    intro m hm hv
    simp only [menOk] at h
    split at h
    · simp only [Bool.and_eq_true] at h
      cases hm with
      | head => exact h.1
      | tail _ hm => exact ih h.2 m hm hv
    · rename_i hx
      cases hm with
      | head => rw [hx] at hv; cases hv
      | tail _ hm => exact ih h m hm hv

structure Chk (ops : Array Oper) (tab : List Nat) : Prop where
  mask : ∀ (i : Nat) (o : Oper), ops[i]? = some o → tab.getD i 0 = maskOf tab o.after.toList
  lt : ∀ (i : Nat) (o : Oper), ops[i]? = some o → ∀ e ∈ o.after.toList, Region.binds .any e = true → e.on < i
  read : ∀ (i : Nat) (o : Oper), ops[i]? = some o → ∀ t ∈ o.looksAt ops, ∀ (j : Nat) (oj : Oper), ops[j]? = some oj → oj.dst = some t → (j < i ∧ (tab.getD i 0).testBit j = true) ∨ (i < j ∧ (tab.getD j 0).testBit i = true)
  dst : ∀ (i : Nat) (o : Oper), ops[i]? = some o → ∀ d, o.dst = some d → ∀ (j : Nat) (oj : Oper), ops[j]? = some oj → j ≠ i → oj.dst ≠ some d

theorem get_lt {ops : Array Oper} {i : Nat} {o : Oper} (h : ops[i]? = some o) : i < ops.size := (Array.getElem?_eq_some_iff.1 h).1

theorem dstIs_some {o : Oper} {t : Nat} (h : o.dst = some t) : dstIs o t = true := by
  unfold dstIs
  rw [h]
  exact Nat.beq_refl t

theorem drawOk_spec {ops : Array Oper} {tab : List Nat} (h : drawOk ops tab = true) : Chk ops tab := by
  have hh := allLt_spec h
  have each : ∀ i o, ops[i]? = some o → (Nat.beq (tab.getD i 0) (maskOf tab o.after.toList) && (afterLt i o.after.toList && (allL (readOk ops.toList tab ops.size i) (o.looksAt ops) && (match o.dst with
      | some d => allLt (fun j => match Nat.beq j i with
        | true => true
        | false => match ops.toList[j]? with
          | some oj => !dstIs oj d
          | none => true) ops.size
      | none => true)))) = true := by
    intro i o hi
    have := hh i (get_lt hi)
    rw [Array.getElem?_toList, hi] at this
    exact this
  refine ⟨fun i o hi => ?_, fun i o hi => ?_, fun i o hi t ht j oj hj hd => ?_, fun i o hi d hd j oj hj hne e => ?_⟩
  · have := each i o hi
    simp only [Bool.and_eq_true] at this
    exact beq_true this.1
  · have := each i o hi
    simp only [Bool.and_eq_true] at this
    exact afterLt_spec this.2.1
  · have := each i o hi
    simp only [Bool.and_eq_true] at this
    have := allLt_spec (allL_spec this.2.2.1 t ht) j (get_lt hj)
    rw [Array.getElem?_toList, hj] at this
    simp only [dstIs_some hd] at this
    split at this
    · rename_i hb; exact .inl ⟨blt_true hb, this⟩
    · simp only [Bool.and_eq_true] at this
      exact .inr ⟨blt_true this.1, this.2⟩
  · have := each i o hi
    simp only [Bool.and_eq_true] at this
    have h4 := this.2.2.2
    rw [hd] at h4
    have h5 := allLt_spec h4 j (get_lt hj)
    have hb : Nat.beq j i = false := by
      cases hb : Nat.beq j i with
      | false => rfl
      | true => exact absurd (beq_true hb) hne
    rw [Array.getElem?_toList, hj] at h5
    simp only [hb, dstIs_some e] at h5
    cases h5

theorem wall_before {ops : Array Oper} {tab : List Nat} {n i : Nat} (h : wall ops tab n i = true) {j : Nat} (hj : j < i) (hi : i < n) : (tab.getD i 0).testBit j = true ∨ freeOp ops tab j = true := by
  have := allLt_spec h j (by omega)
  have hb : Nat.blt j i = true := Nat.ble_eq_true_of_le (show j + 1 ≤ i from hj)
  simp only [hb] at this
  split at this
  · rename_i h1; exact .inl h1
  · exact .inr this
theorem gate_before {ops : Array Oper} {tab : List Nat} {n i : Nat} (h : gate ops tab n i = true) {j : Nat} (hj : j < i) (hi : i < n) : (tab.getD i 0).testBit j = true ∨ freeOp ops tab j = true := by
  unfold gate at h
  rw [Bool.and_eq_true] at h
  have := allLt_spec h.2 j (by omega)
  have hb : Nat.blt j i = true := Nat.ble_eq_true_of_le (show j + 1 ≤ i from hj)
  simp only [hb] at this
  split at this
  · rename_i h1; exact .inl h1
  · exact .inr this
theorem gated_gate {ops : Array Oper} {tab : List Nat} {n i : Nat} (h : gated ops tab n i = true) : gate ops tab n i = true ∧ near ops tab n i = true ∧ wall ops tab n i = false := by
  unfold gated at h
  simp only [Bool.and_eq_true, Bool.not_eq_true'] at h
  exact ⟨h.2.1, h.2.2, h.1⟩
theorem barrier_before {ops : Array Oper} {tab : List Nat} {n i : Nat} (h : barrier ops tab n i = true) {j : Nat} (hj : j < i) (hi : i < n) : (tab.getD i 0).testBit j = true ∨ freeOp ops tab j = true := by
  unfold barrier at h
  rw [Bool.or_eq_true] at h
  rcases h with h | h
  · exact wall_before h hj hi
  · exact gate_before (gated_gate h).1 hj hi
theorem early_spec {tab : List Nat} {i j : Nat} : early tab i j = true ↔ i < j ∧ (tab.getD j 0).testBit i = false := by
  unfold early
  rw [Bool.and_eq_true, Bool.not_eq_true']
  constructor
  · exact fun h => ⟨blt_true h.1, h.2⟩
  · exact fun h => ⟨Nat.ble_eq_true_of_le (show i + 1 ≤ j from h.1), h.2⟩
theorem near_spec {ops : Array Oper} {tab : List Nat} {n i : Nat} (h : near ops tab n i = true) {j : Nat} (he : early tab i j = true) (hj : j < n) {b : Nat} (h1 : i < b) (h2 : b ≤ j) : barrier ops tab n b = false := by
  have h3 := allLt_spec h j hj
  simp only [he] at h3
  have h4 := allLt_spec h3 b (by omega)
  have hb : (Nat.blt i b && Nat.ble b j) = true := by
    rw [Bool.and_eq_true]
    exact ⟨Nat.ble_eq_true_of_le (show i + 1 ≤ b from h1), Nat.ble_eq_true_of_le h2⟩
  simp only [hb] at h4
  simp only [Bool.not_eq_true', Bool.or_eq_false_iff] at h4
  unfold barrier gated
  rw [h4.1, h4.2]
  rfl

theorem edgeOn_spec {i : Nat} {l : List Edge} (h : edgeOn i l = true) : ∃ e ∈ l, Region.binds .any e = true ∧ e.on = i := by
  induction l with
  | nil => cases h
  | cons x q ih =>
    simp only [edgeOn, Bool.or_eq_true, Bool.and_eq_true] at h
    rcases h with ⟨h1, h2⟩ | h
    · exact ⟨x, List.mem_cons_self, h1, beq_true h2⟩
    · obtain ⟨e, g1, g2⟩ := ih h
      exact ⟨e, List.mem_cons_of_mem _ g1, g2⟩

theorem freeOp_spec {ops : Array Oper} {tab : List Nat} {i : Nat} (h : freeOp ops tab i = true) : ∃ oi, ops[i]? = some oi ∧ ((∃ x, oi.op = .move x) ∨ ∃ x j, oi.op = .extract x j) ∧ oi.guard = none ∧
    (∀ (j : Nat) (o : Oper) cs b, ops[j]? = some o → o.op ≠ .select cs b) ∧
    ∀ j oj, ops[j]? = some oj → j ≠ i → (tab.getD i 0).testBit j = false → (∀ e ∈ oj.after, Region.binds .any e = true → e.on ≠ i) → oi.apart ops oj = true := by
  unfold freeOp at h
  split at h
  · rename_i oi hi
    rw [Array.getElem?_toList] at hi
    simp only [Bool.and_eq_true] at h
    obtain ⟨h1, h2⟩ := h
    unfold isMove at h1
    have fin : ((∃ x, oi.op = .move x) ∨ ∃ x j, oi.op = .extract x j) → oi.guard = none → ∃ oi, ops[i]? = some oi ∧ ((∃ x, oi.op = .move x) ∨ ∃ x j, oi.op = .extract x j) ∧ oi.guard = none ∧
      (∀ (j : Nat) (o : Oper) cs b, ops[j]? = some o → o.op ≠ .select cs b) ∧
      ∀ j oj, ops[j]? = some oj → j ≠ i → (tab.getD i 0).testBit j = false → (∀ e ∈ oj.after, Region.binds .any e = true → e.on ≠ i) → oi.apart ops oj = true := by
      intro g1 g2
      refine ⟨oi, hi, g1, g2, fun j o cs b ho e => ?_, fun j oj hj hne htb hno => ?_⟩
      · have h3 := allLt_spec h2 j (get_lt ho)
        rw [Array.getElem?_toList, ho] at h3
        simp only [Bool.and_eq_true] at h3
        have h4 := h3.1
        unfold notSel at h4
        rw [e] at h4
        cases h4
      · have h3 := allLt_spec h2 j (get_lt hj)
        rw [Array.getElem?_toList, hj] at h3
        simp only [Bool.and_eq_true, Bool.or_eq_true] at h3
        rcases h3.2 with h4 | h4 | h4 | h4
        · exact absurd (beq_true h4) hne
        · rw [htb] at h4; cases h4
        · obtain ⟨e, e1, e2, e3⟩ := edgeOn_spec h4
          exact absurd e3 (hno e (by simpa using e1) e2)
        · exact h4
    split at h1
    · rename_i x g1 g2
      exact fin (.inl ⟨x, g1⟩) g2
    · rename_i x k g1 g2
      exact fin (.inr ⟨x, k, g1⟩) g2
    · cases h1
  · cases h

theorem wall_after {ops : Array Oper} {tab : List Nat} {n i : Nat} (h : wall ops tab n i = true) {j : Nat} (hj : i < j) (hn : j < n) : (tab.getD j 0).testBit i = true := by
  have := allLt_spec h j hn
  have hb : Nat.blt j i = false := by
    cases hb : Nat.blt j i with
    | false => rfl
    | true => have := blt_true hb; omega
  have hb2 : Nat.beq j i = false := by
    cases hb2 : Nat.beq j i with
    | false => rfl
    | true => have := beq_true hb2; omega
  simpa only [hb, hb2] using this

theorem heapFree_cons {c b : Nat} {x : Blk} {h : Heap} (hf : heapFree c ((b, x) :: h) = true) : heapFree c h = true := by
  unfold heapFree at hf
  split at hf
  · cases hf
  · exact hf

theorem mem_pick {α : Type} {s : List (Nat × α)} {l : List Nat} {t : Nat} {v : α} (h : lk t (pick s l) = some v) : t ∈ l := by
  induction l with
  | nil => simp [pick, lk] at h
  | cons x q ih =>
    simp only [pick] at h
    split at h
    · rw [lk_cons] at h
      split at h
      · rename_i e; subst e; exact List.mem_cons_self
      · exact List.mem_cons_of_mem _ (ih h)
    · exact List.mem_cons_of_mem _ (ih h)

theorem lk_mem {α : Type} {s : List (Nat × α)} {t : Nat} {v : α} (h : lk t s = some v) : (t, v) ∈ s := by
  induction s with
  | nil => simp [lk] at h
  | cons p q ih =>
    obtain ⟨i, x⟩ := p
    rw [lk_cons] at h
    split at h
    · rename_i e
      subst e
      simp only [Option.some.injEq] at h
      subst h
      exact List.mem_cons_self
    · exact List.mem_cons_of_mem _ (ih h)

theorem heL_spec {base mask : Nat} {grp : List Nat} {h he : Heap} {b : Nat} {x : Blk} (hb : lk b (heL base mask grp h he) = some x) : lk b he = some x ∨ ∃ m, mask.testBit m = true ∧ b = base + m ∧ lk b h = some x := by
  induction grp with
  | nil => exact .inl hb
  | cons m r ih =>
    simp only [heL] at hb
    split at hb
    · rename_i hm
      split at hb
      · rename_i y hy
        rw [lk_cons] at hb
        split at hb
        · rename_i e
          simp only [Option.some.injEq] at hb
          subst hb
          exact .inr ⟨m, hm, e.symm, by rw [← e]; exact hy⟩
        · exact ih hb
      · exact ih hb
    · exact ih hb
theorem heL_sub {base mask : Nat} {grp : List Nat} {h he : Heap} (hs : ∀ b x, lk b he = some x → lk b h = some x) {b : Nat} {x : Blk} (hb : lk b (heL base mask grp h he) = some x) : lk b h = some x := by
  rcases heL_spec hb with h1 | ⟨m, _, _, h1⟩
  · exact hs b x h1
  · exact h1
theorem heL_free {base mask : Nat} {grp : List Nat} {h he : Heap} {c : Nat} (hc : heapFree c h = true) (hf : heapFree c he = true) : heapFree c (heL base mask grp h he) = true := by
  induction grp with
  | nil => exact hf
  | cons m r ih =>
    simp only [heL]
    split
    · split
      · rename_i y hy
        simp only [heapFree]
        split
        · rename_i hx
          have := heapFree_spec hc hy
          rw [show anyB (Seg.mentions c) y.segs = true from hx] at this
          cases this
        · exact ih
      · exact ih
    · exact ih

structure Text (P : Program) (ops : Array Oper) (tab : List Nat) (base p q : Nat) (st : Nat → St) (V : Nat → AV) (NB : Nat → Option Blk) : Prop where
  next : ∀ i o, p ≤ i → i < q → ops[i]? = some o → st (i + 1) = put (st i) o.dst (V i) (consNb (base + i) (NB i) (st i).hp)
  light : ∀ i o, p ≤ i → i < q → ops[i]? = some o → ∃ HE : Heap, (∀ b x, lk b HE = some x → lk b (st p).hp = some x ∨ ∃ m, (tab.getD i 0).testBit m = true ∧ b = base + m ∧ lk b (st i).hp = some x) ∧ LightOk P ops i o (base + i) (pick (st i).sl (o.looksAt ops)) HE (V i) (NB i)
  fresh : ∀ i, p ≤ i → i < q → NB i ≠ none → freshIn (base + i) (st i) = true
  men : ∀ i j, p ≤ j → j < i → i < q → ((V i).mentions (base + j) || nbMen (NB i) (base + j)) = true → (tab.getD i 0).testBit j = true

section
variable {ops : Array Oper} {tab : List Nat} {base p q : Nat} {st : Nat → St} {V : Nat → AV} {NB : Nat → Option Blk}

theorem Text.hp (h : Text P ops tab base p q st V NB) (hq : q ≤ ops.size) {i : Nat} (hp : p ≤ i) (hi : i < q) : (st (i + 1)).hp = consNb (base + i) (NB i) (st i).hp ∧ ((∃ o, ops[i]? = some o ∧ (st (i + 1)).sl = match o.dst with
    | some d => (d, V i) :: (st i).sl
    | none => (st i).sl)) := by
  have ho : ops[i]? = some ops[i] := Array.getElem?_eq_getElem (by omega)
  rw [h.next i _ hp hi ho]
  refine ⟨?_, _, ho, ?_⟩
  · unfold put; split <;> rfl
  · unfold put; split <;> rename_i e <;> simp only [e]

theorem Text.slots (h : Text P ops tab base p q st V NB) (hq : q ≤ ops.size) (n : Nat) (hn : p + n ≤ q) {t : Nat} {v : AV} (hv : lk t (st (p + n)).sl = some v) :
    (∃ j o, p ≤ j ∧ j < p + n ∧ ops[j]? = some o ∧ o.dst = some t ∧ v = V j) ∨ (lk t (st p).sl = some v ∧ ∀ j o, p ≤ j → j < p + n → ops[j]? = some o → o.dst ≠ some t) := by
  induction n with
  | zero => exact .inr ⟨hv, fun j o h1 h2 => by omega⟩
  | succ n ih =>
    obtain ⟨_, o, ho, hs⟩ := h.hp hq (i := p + n) (by omega) (by omega)
    rw [← Nat.add_assoc, hs] at hv
    have old : lk t (st (p + n)).sl = some v → o.dst ≠ some t → (∃ j o, p ≤ j ∧ j < p + (n + 1) ∧ ops[j]? = some o ∧ o.dst = some t ∧ v = V j) ∨ (lk t (st p).sl = some v ∧ ∀ j o, p ≤ j → j < p + (n + 1) → ops[j]? = some o → o.dst ≠ some t) := by
      intro hv hne
      rcases ih (by omega) hv with ⟨j, oj, g1, g2, g3⟩ | ⟨g1, g2⟩
      · exact .inl ⟨j, oj, g1, by omega, g3⟩
      · refine .inr ⟨g1, fun j oj h1 h2 h3 => ?_⟩
        by_cases hj : j = p + n
        · subst hj
          rw [ho] at h3
          simp only [Option.some.injEq] at h3
          subst h3
          exact hne
        · exact g2 j oj h1 (by omega) h3
    split at hv
    · rename_i d hd
      rw [lk_cons] at hv
      split at hv
      · rename_i e
        subst e
        simp only [Option.some.injEq] at hv
        exact .inl ⟨p + n, o, by omega, by omega, ho, hd, hv.symm⟩
      · rename_i e
        exact old hv (by rw [hd]; simpa using e)
    · rename_i hd
      exact old hv (by rw [hd]; simp)

theorem Text.raw (h : Text P ops tab base p q st V NB) (hq : q ≤ ops.size) (n : Nat) (hn : p + n ≤ q) : (∀ x ∈ (st p).sl, x ∈ (st (p + n)).sl) ∧ ∀ j o d, p ≤ j → j < p + n → ops[j]? = some o → o.dst = some d → (d, V j) ∈ (st (p + n)).sl := by
  induction n with
  | zero => exact ⟨fun x hx => hx, fun j o d h1 h2 => by omega⟩
  | succ n ih =>
    obtain ⟨i1, i2⟩ := ih (by omega)
    obtain ⟨_, o, ho, hs⟩ := h.hp hq (i := p + n) (by omega) (by omega)
    have sup : ∀ x ∈ (st (p + n)).sl, x ∈ (st (p + n + 1)).sl := by
      intro x hx
      rw [hs]
      split
      · exact List.mem_cons_of_mem _ hx
      · exact hx
    refine ⟨fun x hx => sup x (i1 x hx), fun j oj d h1 h2 h3 h4 => ?_⟩
    by_cases hj : j = p + n
    · subst hj
      rw [ho] at h3
      simp only [Option.some.injEq] at h3
      subst h3
      show (d, V (p + n)) ∈ (st (p + n + 1)).sl
      rw [hs, h4]
      exact List.mem_cons_self
    · exact sup _ (i2 j oj d h1 (by omega) h3 h4)

theorem Text.heap (h : Text P ops tab base p q st V NB) (hq : q ≤ ops.size) (n : Nat) (hn : p + n ≤ q) :
    (∀ b x, lk b (st p).hp = some x → lk b (st (p + n)).hp = some x) ∧ (∀ j x, p ≤ j → j < p + n → NB j = some x → lk (base + j) (st (p + n)).hp = some x) ∧
    (∀ b x, lk b (st (p + n)).hp = some x → (∃ j, p ≤ j ∧ j < p + n ∧ b = base + j ∧ NB j = some x) ∨ lk b (st p).hp = some x) ∧ (∀ c, heapFree c (st (p + n)).hp = true → heapFree c (st p).hp = true) := by
  induction n with
  | zero => exact ⟨fun b x hb => hb, fun j x h1 h2 => by omega, fun b x hb => .inr hb, fun c hc => hc⟩
  | succ n ih =>
    obtain ⟨i1, i2, i3, i4⟩ := ih (by omega)
    obtain ⟨hh, _⟩ := h.hp hq (i := p + n) (by omega) (by omega)
    rw [← Nat.add_assoc, hh]
    cases hnb : NB (p + n) with
    | none =>
      simp only [consNb]
      refine ⟨i1, fun j x h1 h2 h3 => ?_, fun b x hb => ?_, i4⟩
      · by_cases hj : j = p + n
        · subst hj; rw [hnb] at h3; cases h3
        · exact i2 j x h1 (by omega) h3
      · rcases i3 b x hb with ⟨j, g1, g2, g3⟩ | g
        · exact .inl ⟨j, g1, by omega, g3⟩
        · exact .inr g
    | some blk =>
      have hfr := (freshIn_spec (h.fresh (p + n) (by omega) (by omega) (by rw [hnb]; simp))).1
      simp only [consNb]
      refine ⟨fun b x hb => ?_, fun j x h1 h2 h3 => ?_, fun b x hb => ?_, fun c hc => i4 c (heapFree_cons hc)⟩
      · rw [lk_cons, if_neg (fun e => by have := i1 b x hb; rw [← e, hfr] at this; cases this)]
        exact i1 b x hb
      · by_cases hj : j = p + n
        · subst hj
          rw [hnb] at h3
          rw [lk_cons, if_pos rfl]
          exact h3
        · rw [lk_cons, if_neg (by omega)]
          exact i2 j x h1 (by omega) h3
      · rw [lk_cons] at hb
        split at hb
        · rename_i e
          exact .inl ⟨p + n, by omega, by omega, e.symm, by rw [hnb]; exact hb⟩
        · rcases i3 b x hb with ⟨j, g1, g2, g3⟩ | g
          · exact .inl ⟨j, g1, by omega, g3⟩
          · exact .inr g

end
end
end Go.Sx
