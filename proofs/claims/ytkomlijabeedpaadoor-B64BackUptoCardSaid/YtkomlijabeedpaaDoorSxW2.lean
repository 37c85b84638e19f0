import Derived.Test.YtkomlijabeedpaaDoorSxW
namespace Go.Sx

section
variable {P : Program} {T : Tys} {O : Orc} {N : Nat} {S : Nat → Prop} {ρ₀ : Map} {w₀ : World} {cx : Cx} {F : Fence} {fu : Nat} {R : Type} {r : R}
variable {ops : Array Oper} {tab : List Nat} {base : Nat} {k : St → Option R}

theorem drop_get {α : Type} {l : List α} {i : Nat} {x : α} {q : List α} (h : l.drop i = x :: q) : l[i]? = some x ∧ l.drop (i + 1) = q ∧ i < l.length := by
  have h1 : (l.drop i)[0]? = some x := by rw [h]; rfl
  rw [List.getElem?_drop] at h1
  simp only [Nat.add_zero] at h1
  exact ⟨h1, by rw [← List.drop_drop, h]; rfl, (List.getElem?_eq_some_iff.1 h1).1⟩

theorem extract (hT : TyOK P T) (hO : OSound P O) (hD : ODet O) (p : Nat) (he : Heap) (g : Option Gt) (rest : List Oper) :
    ∀ (i : Nat) (s : St) (grp : List Nat), p ≤ i → i ≤ ops.size → ops.toList.drop i = rest → drawD realA T O ops tab base i rest s he grp g k = some r → (∀ b x, lk b he = some x → lk b s.hp = some x) → (∀ c, heapFree c s.hp = true → heapFree c he = true) →
      (∀ gt, g = some gt → (∀ b x, lk b gt.e = some x → lk b he = some x) ∧ ∀ c, heapFree c he = true → heapFree c gt.e = true) →
      (∀ m, p ≤ m → m < i → m ∈ grp) →
      ∃ (q : Nat) (st : Nat → St) (V : Nat → AV) (NB : Nat → Option Blk) (grp' : List Nat), i ≤ q ∧ q ≤ ops.size ∧ st i = s ∧ drawD realA T O ops tab base q (ops.toList.drop q) (st q) he grp' g k = some r ∧ (q < ops.size → (wall ops tab ops.size q || gatedS ops tab ops.size q (st q)) = true) ∧ (∀ m, p ≤ m → m < q → m ∈ grp') ∧
        (∀ (j : Nat) (o : Oper), i ≤ j → j < q → ops[j]? = some o → st (j + 1) = put (st j) o.dst (V j) (consNb (base + j) (NB j) (st j).hp) ∧ (∃ HE : Heap, (∀ b x, lk b HE = some x → lk b he = some x ∨ ∃ m, (tab.getD j 0).testBit m = true ∧ b = base + m ∧ lk b (st j).hp = some x) ∧ LightOk P ops j o (base + j) (pick (st j).sl (o.looksAt ops)) HE (V j) (NB j)) ∧
          ∀ gt, g = some gt → early tab gt.i j = true → NB j = none ∧ noBad (V j) gt.bad = true ∧ LightOk P ops j o (base + j) (pick (st j).sl (o.looksAt ops)) gt.e (V j) none) ∧
        (∀ j, i ≤ j → j < q → (NB j ≠ none → freshIn (base + j) (st j) = true) ∧ ∀ m, p ≤ m → m < j → ((V j).mentions (base + m) || nbMen (NB j) (base + m)) = true → (tab.getD j 0).testBit m = true) := by
  induction rest with
  | nil =>
    intro i s grp hp hi hl hk _ _ _ hgrp
    refine ⟨i, fun _ => s, fun _ => .v (.cell .top), fun _ => none, grp, Nat.le_refl _, hi, rfl, by rw [hl]; exact hk, fun h => ?_, hgrp, fun j o h1 h2 => by omega, fun j h1 h2 => by omega⟩
    have : ops.toList.length ≤ i := by simpa using hl
    rw [Array.length_toList] at this
    omega
  | cons o rest ih =>
    intro i s grp hp hi hl hk hsub hfree hgt hgrp
    obtain ⟨g1, g2, g3⟩ := drop_get hl
    have hoi : ops[i]? = some o := by rw [← Array.getElem?_toList]; exact g1
    have hlt := get_lt hoi
    cases hb : (wall ops tab ops.size i || gatedS ops tab ops.size i s) with
    | true => exact ⟨i, fun _ => s, fun _ => .v (.cell .top), fun _ => none, grp, Nat.le_refl _, hi, rfl, by rw [hl]; exact hk, fun _ => hb, hgrp, fun j o h1 h2 => by omega, fun j h1 h2 => by omega⟩
    | false =>
      have hbw : wall ops tab ops.size i = false ∧ gatedS ops tab ops.size i s = false := by
        rwa [Bool.or_eq_false_iff] at hb
      have step : ∀ (v : AV) (nb : Option Blk), (nb ≠ none → freshIn (base + i) s = true) → (∃ HE : Heap, (∀ b x, lk b HE = some x → lk b he = some x ∨ ∃ m, (tab.getD i 0).testBit m = true ∧ b = base + m ∧ lk b s.hp = some x) ∧ LightOk P ops i o (base + i) (pick s.sl (o.looksAt ops)) HE v nb) →
          (∀ gt, g = some gt → early tab gt.i i = true → nb = none ∧ noBad v gt.bad = true ∧ LightOk P ops i o (base + i) (pick s.sl (o.looksAt ops)) gt.e v none) → menOk base (tab.getD i 0) v nb grp = true → drawD realA T O ops tab base (i + 1) rest (put s o.dst v (consNb (base + i) nb s.hp)) he (i :: grp) g k = some r →
          ∃ (q : Nat) (st : Nat → St) (V : Nat → AV) (NB : Nat → Option Blk) (grp' : List Nat), i ≤ q ∧ q ≤ ops.size ∧ st i = s ∧ drawD realA T O ops tab base q (ops.toList.drop q) (st q) he grp' g k = some r ∧ (q < ops.size → (wall ops tab ops.size q || gatedS ops tab ops.size q (st q)) = true) ∧ (∀ m, p ≤ m → m < q → m ∈ grp') ∧
        (∀ (j : Nat) (o : Oper), i ≤ j → j < q → ops[j]? = some o → st (j + 1) = put (st j) o.dst (V j) (consNb (base + j) (NB j) (st j).hp) ∧ (∃ HE : Heap, (∀ b x, lk b HE = some x → lk b he = some x ∨ ∃ m, (tab.getD j 0).testBit m = true ∧ b = base + m ∧ lk b (st j).hp = some x) ∧ LightOk P ops j o (base + j) (pick (st j).sl (o.looksAt ops)) HE (V j) (NB j)) ∧
          ∀ gt, g = some gt → early tab gt.i j = true → NB j = none ∧ noBad (V j) gt.bad = true ∧ LightOk P ops j o (base + j) (pick (st j).sl (o.looksAt ops)) gt.e (V j) none) ∧
        (∀ j, i ≤ j → j < q → (NB j ≠ none → freshIn (base + j) (st j) = true) ∧ ∀ m, p ≤ m → m < j → ((V j).mentions (base + m) || nbMen (NB j) (base + m)) = true → (tab.getD j 0).testBit m = true) := by
        intro v nb hfr hlight hearly hmen hk1
        have hmen := menOk_spec hmen
        have hhp : (put s o.dst v (consNb (base + i) nb s.hp)).hp = consNb (base + i) nb s.hp := by unfold put; split <;> rfl
        obtain ⟨q, st, V, NB, grp', e1, e2, e3, e4, e5, eg, e6, e7⟩ := ih (i + 1) _ (i :: grp) (by omega) hlt g2 hk1 (fun b x hbx => by
            rw [hhp]
            cases nb with
            | none => exact hsub b x hbx
            | some blk =>
              simp only [consNb]
              have := (freshIn_spec (hfr (by simp))).1
              rw [lk_cons, if_neg (fun e => by have h2 := hsub b x hbx; rw [← e, this] at h2; cases h2)]
              exact hsub b x hbx) (fun c hc => by
            rw [hhp] at hc
            cases nb with
            | none => exact hfree c hc
            | some blk => exact hfree c (heapFree_cons hc)) hgt (fun m h1 h2 => by
            by_cases hm : m = i
            · subst hm; exact List.mem_cons_self
            · exact List.mem_cons_of_mem _ (hgrp m h1 (by omega)))
        refine ⟨q, fun j => if j = i then s else st j, fun j => if j = i then v else V j, fun j => if j = i then nb else NB j, grp', by omega, e2, if_pos rfl, by simp only [if_neg (show ¬ q = i by omega)]; exact e4, fun hq => by simp only [if_neg (show ¬ q = i by omega)]; exact e5 hq, eg, fun j oj h1 h2 h3 => ?_, fun j h1 h2 => ?_⟩
        · by_cases hj : j = i
          · subst hj
            rw [hoi] at h3
            simp only [Option.some.injEq] at h3
            subst h3
            simp only [if_true]
            rw [if_neg (by omega)]
            exact ⟨e3, hlight, hearly⟩
          · simp only [if_neg hj]
            rw [if_neg (by omega)]
            exact e6 j oj (by omega) h2 h3
        · by_cases hj : j = i
          · subst hj
            simp only [if_true]
            exact ⟨hfr, fun m h3 h4 h5 => hmen m (hgrp m h3 h4) h5⟩
          · simp only [if_neg hj]
            exact e7 j (by omega) h2
      simp only [drawD, hbw.1, hbw.2] at hk
      have second : lightD realA T O ops (base + i) o s (heL base (tab.getD i 0) grp s.hp he) (fun v nb => match menOk base (tab.getD i 0) v nb grp with
          | true => force (isG ops.toList o.dst ops.toList) v fun v => drawD realA T O ops tab base (i + 1) rest (put s o.dst v (consNb (base + i) nb s.hp)) he (i :: grp) g k
          | false => none) = some r → (∀ gt, g = some gt → early tab gt.i i = false) → ∃ (q : Nat) (st : Nat → St) (V : Nat → AV) (NB : Nat → Option Blk) (grp' : List Nat), i ≤ q ∧ q ≤ ops.size ∧ st i = s ∧ drawD realA T O ops tab base q (ops.toList.drop q) (st q) he grp' g k = some r ∧ (q < ops.size → (wall ops tab ops.size q || gatedS ops tab ops.size q (st q)) = true) ∧ (∀ m, p ≤ m → m < q → m ∈ grp') ∧
        (∀ (j : Nat) (o : Oper), i ≤ j → j < q → ops[j]? = some o → st (j + 1) = put (st j) o.dst (V j) (consNb (base + j) (NB j) (st j).hp) ∧ (∃ HE : Heap, (∀ b x, lk b HE = some x → lk b he = some x ∨ ∃ m, (tab.getD j 0).testBit m = true ∧ b = base + m ∧ lk b (st j).hp = some x) ∧ LightOk P ops j o (base + j) (pick (st j).sl (o.looksAt ops)) HE (V j) (NB j)) ∧
          ∀ gt, g = some gt → early tab gt.i j = true → NB j = none ∧ noBad (V j) gt.bad = true ∧ LightOk P ops j o (base + j) (pick (st j).sl (o.looksAt ops)) gt.e (V j) none) ∧
        (∀ j, i ≤ j → j < q → (NB j ≠ none → freshIn (base + j) (st j) = true) ∧ ∀ m, p ≤ m → m < j → ((V j).mentions (base + m) || nbMen (NB j) (base + m)) = true → (tab.getD j 0).testBit m = true) := by
        intro hk hne
        obtain ⟨v, nb, hk1, hfr, hlight⟩ := light_sound hT hO hD hoi (fun b x hb => heL_sub hsub hb) (fun hf => heL_free hf (hfree _ hf)) hk
        split at hk1
        · rename_i hmen
          rw [force_eq] at hk1
          exact step v nb hfr ⟨_, fun b x hb => heL_spec hb, hlight⟩ (fun gt e h => by rw [hne gt e] at h; cases h) hmen hk1
        · cases hk1
      rcases g with _ | gt
      · simp only at hk
        exact second hk (fun gt e => by cases e)
      · simp only at hk
        split at hk
        · rename_i hearly
          obtain ⟨q1, q2⟩ := hgt gt rfl
          obtain ⟨v, nb, hk1, hfr, hlight⟩ := light_sound hT hO hD hoi (fun b x hb => hsub b x (q1 b x hb)) (fun hf => q2 _ (hfree _ hf)) hk
          split at hk1
          · split at hk1
            · rename_i hm
              rw [Bool.and_eq_true] at hm
              rw [force_eq] at hk1
              exact step v none (fun e => absurd rfl e) ⟨_, fun b x hb => .inl (q1 b x hb), hlight⟩ (fun gt2 e _ => by cases e; exact ⟨rfl, hm.1, hlight⟩) hm.2 hk1
            · cases hk1
          · cases hk1
        · rename_i hne
          exact second hk (fun gt2 e => by cases e; exact hne)

structure Ax where
  b : Bool
  v : AV
  h : Heap
  hp : Heap
  q : Nat
  st : Nat → St
  V : Nat → AV
  NB : Nat → Option Blk
  grp : List Nat

structure Ahead (P : Program) (T : Tys) (O : Orc) (ops : Array Oper) (tab : List Nat) (base : Nat) (k : St → Option R) (r : R) (q : Nat) (o : Oper) (s : St) (grp : List Nat) (X : Ax) : Prop where
  want : ∀ (R' : Type) (k' : Bool → Option R'), wantD ops.toList o s k' = k' X.b
  op : X.b = true → ∀ (R' : Type) (k' : AV → Heap → List Nat → Option R'), opD realA T O (base + q) o ⟨s.sl, (cutA ops tab base q grp s).2⟩ k' = k' X.v X.h []
  no : X.b = false → X.v = .v (.cell .un)
  old : X.b = true → oldOrOwn (cutA ops tab base q grp s).2 X.h = true
  mem : X.b = true → X.hp = (cutA ops tab base q grp s).1 ++ X.h
  memF : X.b = false → X.hp = s.hp
  dst : dstFree ops.toList ops.size tab q s.sl = true
  fresh : freshIn (base + q) s = true
  own : ownAll (cutA ops tab base q grp s).1 = true
  start : X.st (q + 1) = put s o.dst X.v X.hp
  le : q + 1 ≤ X.q
  le2 : X.q ≤ ops.size
  text : Text P ops tab base (q + 1) X.q X.st X.V X.NB
  ing : ∀ m, q + 1 ≤ m → m < X.q → m ∈ X.grp
  draw : drawD realA T O ops tab base X.q (ops.toList.drop X.q) (X.st X.q) X.hp X.grp (some ⟨q, (cutA ops tab base q grp s).1, (base + q) :: grp.map (base + ·)⟩) k = some r
  bar : X.q < ops.size → (wall ops tab ops.size X.q || gatedS ops tab ops.size X.q (X.st X.q)) = true
  erl : ∀ (j : Nat) (oj : Oper), q < j → j < X.q → ops[j]? = some oj → early tab q j = true → X.NB j = none ∧ noBad (X.V j) ((base + q) :: grp.map (base + ·)) = true ∧ LightOk P ops j oj (base + j) (pick (X.st j).sl (oj.looksAt ops)) (cutA ops tab base q grp s).1 (X.V j) none

theorem put_hp (s : St) (d : Option Nat) (v : AV) (h : Heap) : (put s d v h).hp = h := by unfold put; split <;> rfl

theorem heapFree_cut {c : Nat} {p : Nat → Bool} {h : Heap} (hf : heapFree c h = true) : heapFree c (cutH p h).1 = true := by
  induction h with
  | nil => rfl
  | cons q r ih =>
    obtain ⟨b, x⟩ := q
    simp only [heapFree] at hf
    split at hf
    · cases hf
    · rename_i hx
      simp only [cutH]
      split
      · simp only [heapFree]
        split
        · rename_i hy
          rw [show anyB (Seg.mentions c) x.segs = true from hy] at hx
          cases hx
        · exact ih hf
      · exact ih hf

theorem heapFree_left {c : Nat} {a b : Heap} (hf : heapFree c (a ++ b) = true) : heapFree c a = true := by
  induction a with
  | nil => rfl
  | cons q r ih =>
    obtain ⟨i, x⟩ := q
    simp only [List.cons_append, heapFree] at hf ⊢
    cases hx : anyB (Seg.mentions c) x.segs with
    | true => rw [hx] at hf; cases hf
    | false => rw [hx] at hf; exact ih hf

theorem gs_g {n i : Nat} {s : St} (h : gatedS ops tab n i s = true) : gated ops tab n i = true := by
  unfold gatedS at h
  rw [Bool.and_eq_true] at h
  exact h.1
theorem stop_b {n i : Nat} {s : St} (h : (wall ops tab n i || gatedS ops tab n i s) = true) : barrier ops tab n i = true := by
  unfold barrier
  rw [Bool.or_eq_true] at h ⊢
  exact h.imp id gs_g

theorem ahead (hT : TyOK P T) (hO : OSound P O) (hD : ODet O) {q : Nat} {o : Oper} {s : St} {he : Heap} {grp : List Nat} {g : Option Gt} (ho : ops[q]? = some o) (hg : gatedS ops tab ops.size q s = true) (hk : drawD realA T O ops tab base q (ops.toList.drop q) s he grp g k = some r) :
    ∃ X, Ahead P T O ops tab base k r q o s grp X := by
  have hqn := get_lt ho
  obtain ⟨_, _, hw⟩ := gated_gate (gs_g hg)
  have hdrop : ops.toList.drop q = o :: ops.toList.drop (q + 1) := by
    have : q < ops.toList.length := by simpa using hqn
    rw [List.drop_eq_getElem_cons this]
    congr 1
    have h2 : ops[q]? = some ops[q] := Array.getElem?_eq_getElem hqn
    rw [h2] at ho
    simpa using ho
  rw [hdrop] at hk
  simp only [drawD, hw, hg] at hk
  split at hk
  · rename_i hchk
    rw [Bool.and_eq_true, Bool.and_eq_true] at hchk
    obtain ⟨hdst, hfr, hown⟩ := hchk
    obtain ⟨b, hk1, hdet⟩ := wantD_det hk
    have fin : ∀ (v : AV) (h hp : Heap), (b = true → ∀ (R' : Type) (k' : AV → Heap → List Nat → Option R'), opD realA T O (base + q) o ⟨s.sl, (cutA ops tab base q grp s).2⟩ k' = k' v h []) → (b = false → v = .v (.cell .un)) → (b = true → oldOrOwn (cutA ops tab base q grp s).2 h = true) → (b = true → hp = (cutA ops tab base q grp s).1 ++ h) → (b = false → hp = s.hp) →
        drawD realA T O ops tab base (q + 1) (ops.toList.drop (q + 1)) (put s o.dst v hp) hp [] (some ⟨q, (cutA ops tab base q grp s).1, (base + q) :: grp.map (base + ·)⟩) k = some r → ∃ X, Ahead P T O ops tab base k r q o s grp X := by
      intro v h hp a1 a2 a3 a4 a5 hk2
      obtain ⟨q2, st, V, NB, grp', e1, e2, e3, e4, e5, eg, e6, e7⟩ := extract hT hO hD (q + 1) hp (some ⟨q, (cutA ops tab base q grp s).1, (base + q) :: grp.map (base + ·)⟩) _ (q + 1) (put s o.dst v hp) [] (Nat.le_refl _) hqn rfl hk2 (fun b x hb => by rw [put_hp]; exact hb) (fun c hc => by rw [put_hp] at hc; exact hc) (fun gt e => by
        cases e
        cases b with
        | true =>
          rw [a4 rfl]
          exact ⟨fun b x hb => by rw [lk_append, hb], fun c hc => heapFree_left hc⟩
        | false =>
          rw [a5 rfl]
          exact ⟨fun b x hb => (cut1 hb).2, fun c hc => heapFree_cut hc⟩) (fun m g1 g2 => by omega)
      exact ⟨⟨b, v, h, hp, q2, st, V, NB, grp'⟩, hdet, a1, a2, a3, a4, a5, hdst, hfr, hown, e3, e1, e2, ⟨fun i o g1 g2 g3 => (e6 i o g1 g2 g3).1, fun i o g1 g2 g3 => by
        have h6 := (e6 i o g1 g2 g3).2.1
        have e3' : hp = (st (q + 1)).hp := by rw [e3, put_hp]
        rw [e3'] at h6
        exact h6, fun i g1 g2 => (e7 i g1 g2).1, fun i j g1 g2 g3 => (e7 i (by omega) g3).2 j g1 g2⟩, eg, e4, e5, fun j oj g1 g2 g3 g4 => (e6 j oj g1 g2 g3).2.2 _ rfl g4⟩
    cases b with
    | true =>
      simp only at hk1
      obtain ⟨v, h', mv, hk2, hdet1⟩ := opE_det hD hk1
      split at hk2
      · split at hk2
        · rename_i hold
          rw [force_eq] at hk2
          exact fin v h' _ (fun _ => hdet1) (fun e => by cases e) (fun _ => hold) (fun _ => rfl) (fun e => by cases e) hk2
        · cases hk2
      · cases hk2
    | false => exact fin _ [] _ (fun e => by cases e) (fun _ => rfl) (fun e => by cases e) (fun e => by cases e) (fun _ => rfl) hk1
  · cases hk

def Aft (P : Program) (T : Tys) (O : Orc) (ops : Array Oper) (tab : List Nat) (base : Nat) (k : St → Option R) (r : R) (q : Nat) (s : St) (grp : List Nat) (listed : Array Bool) (ρ : Map) (a : Act) : Prop :=
  (∀ j, q ≤ j → Lst listed j → q < j ∧ gatedS ops tab ops.size q s = true) ∧
  ∀ o, ops[q]? = some o → gatedS ops tab ops.size q s = true → ∃ X, Ahead P T O ops tab base k r q o s grp X ∧ ∀ (j : Nat) (oj : Oper), q < j → Lst listed j → ops[j]? = some oj → early tab q j = true ∧ ∀ t, oj.dst = some t → RV ρ (X.V j) (a.tmps.getD t undef)

def Phase (P : Program) (T : Tys) (O : Orc) (N : Nat) (S : Nat → Prop) (ρ₀ : Map) (w₀ : World) (cx : Cx) (ops : Array Oper) (tab : List Nat) (base : Nat) (k : St → Option R) (r : R) (listed : Array Bool) (a : Act) (w : World) : Prop :=
  ∃ (p q : Nat) (st : Nat → St) (V : Nat → AV) (NB : Nat → Option Blk) (grp : List Nat) (g : Option Gt) (ρ : Map) (h : Heap), p ≤ q ∧ q ≤ ops.size ∧ Text P ops tab base p q st V NB ∧ drawD realA T O ops tab base q (ops.toList.drop q) (st q) (st p).hp grp g k = some r ∧ (q < ops.size → (wall ops tab ops.size q || gatedS ops tab ops.size q (st q)) = true) ∧ (∀ m, p ≤ m → m < q → m ∈ grp) ∧
    listed.size = ops.size ∧ (∀ j, j < p → Lst listed j) ∧ Aft P T O ops tab base k r q (st q) grp listed ρ a ∧ Dc tab listed ∧
    HR N S ρ h w ∧ (∀ j x, p ≤ j → j < q → Lst listed j → NB j = some x → lk (base + j) h = some x) ∧ (∀ b, (∀ j, p ≤ j → j < q → Lst listed j → NB j ≠ none → b ≠ base + j) → lk b h = lk b (st p).hp) ∧
    (∀ t v, lk t (st p).sl = some v → (∀ (j : Nat) (o : Oper), p ≤ j → j < q → Lst listed j → ops[j]? = some o → o.dst ≠ some t) → RV ρ v (a.tmps.getD t undef)) ∧
    (∀ (j : Nat) (o : Oper) t, p ≤ j → j < q → Lst listed j → ops[j]? = some o → o.dst = some t → RV ρ (V j) (a.tmps.getD t undef)) ∧
    a.tmps.size = cx.nt ∧ DfOk cx a w ∧ Fr N S w₀ w ∧ ∀ b, b < cx.pb → ρ b = ρ₀ b

theorem Phase.mk (hT : TyOK P T) (hO : OSound P O) (hD : ODet O) {p q : Nat} {st : Nat → St} {V : Nat → AV} {NB : Nat → Option Blk} {grp : List Nat} {g : Option Gt} (e1 : p ≤ q) (e2 : q ≤ ops.size) (htx : Text P ops tab base p q st V NB) (hk : drawD realA T O ops tab base q (ops.toList.drop q) (st q) (st p).hp grp g k = some r) (hbar : q < ops.size → (wall ops tab ops.size q || gatedS ops tab ops.size q (st q)) = true) (hgrp : ∀ m, p ≤ m → m < q → m ∈ grp)
    {listed : Array Bool} (hsz : listed.size = ops.size) (h1 : ∀ j, j < p → Lst listed j) (h2 : ∀ j, q ≤ j → ¬ Lst listed j) (hdc : Dc tab listed) {ρ : Map} {a : Act} {w : World} (h : Rel N S ρ₀ w₀ cx ρ (st p) a w) (hnb : ∀ j, p ≤ j → Lst listed j → NB j = none)
    (hv : ∀ (j : Nat) (o : Oper) t, p ≤ j → j < q → Lst listed j → ops[j]? = some o → o.dst = some t → RV ρ (V j) (a.tmps.getD t undef)) : Phase P T O N S ρ₀ w₀ cx ops tab base k r listed a w :=
  have c1 : ∀ j x, p ≤ j → j < q → Lst listed j → NB j = some x → lk (base + j) (st p).hp = some x := by
    intro j x g1 _ g3 g4
    rw [hnb j g1 g3] at g4; cases g4
  ⟨p, q, st, V, NB, grp, g, ρ, (st p).hp, e1, e2, htx, hk, hbar, hgrp, hsz, h1, ⟨fun j hj hl => absurd hl (h2 j hj), fun o ho hg => by
    obtain ⟨X, hX⟩ := ahead hT hO hD ho hg hk
    exact ⟨X, hX, fun j oj hj hl => absurd hl (h2 j (by omega))⟩⟩, hdc,
    h.hr, c1, fun b _ => rfl, fun t v hv _ => h.sl t v hv, hv, h.sz, h.df, h.fr, h.pin⟩

theorem Phase.start (hT : TyOK P T) (hO : OSound P O) (hD : ODet O) {p : Nat} (hp : p ≤ ops.size) {listed : Array Bool} (hsz : listed.size = ops.size) (h1 : ∀ j, j < p → Lst listed j) (h2 : ∀ j, p ≤ j → ¬ Lst listed j) (hdc : Dc tab listed)
    {ρ : Map} {s : St} {a : Act} {w : World} (h : Rel N S ρ₀ w₀ cx ρ s a w) (hk : drawD realA T O ops tab base p (ops.toList.drop p) s s.hp [] none k = some r) : Phase P T O N S ρ₀ w₀ cx ops tab base k r listed a w := by
  obtain ⟨q, st, V, NB, grp', e1, e2, e3, e4, e5, eg, e6, e7⟩ := extract hT hO hD p s.hp none _ p s [] (Nat.le_refl _) hp rfl hk (fun b x hb => hb) (fun c hc => hc) (fun gt e => by cases e) (fun m g1 g2 => by omega)
  exact Phase.mk hT hO hD e1 e2 ⟨fun i o g1 g2 g3 => (e6 i o g1 g2 g3).1, fun i o g1 g2 g3 => by rw [e3]; exact (e6 i o g1 g2 g3).2.1, fun i g1 g2 => (e7 i g1 g2).1, fun i j g1 g2 g3 => (e7 i (by omega) g3).2 j g1 g2⟩ (by rw [e3]; exact e4) e5 eg hsz h1 (fun j hj => h2 j (by omega)) hdc (by rw [e3]; exact h) (fun j g1 g3 => absurd g3 (h2 j g1)) (fun j o t g1 _ g3 => absurd g3 (h2 j g1))

theorem noBad_spec {v : AV} {l : List Nat} (h : noBad v l = true) : ∀ b ∈ l, v.mentions b = false := by
  induction l with
  | nil => intro b hb; cases hb
  | cons x r ih =>
    simp only [noBad, Bool.and_eq_true, Bool.not_eq_true'] at h
    intro b hb
    cases hb with
    | head => exact h.1
    | tail _ hb => exact ih h.2 b hb

theorem gate_near {q : Nat} {o : Oper} {s : St} {grp : List Nat} {X : Ax} (hX : Ahead P T O ops tab base k r q o s grp X) {j : Nat} (hj : q < j) (hn : j < ops.size) (hg : near ops tab ops.size q = true) (he : early tab q j = true) : j < X.q := by
  rcases Nat.lt_or_ge j X.q with h | h
  · exact h
  · have h1 := hX.bar (by omega)
    have h1 := stop_b h1
    rw [near_spec hg he hn (by have := hX.le; omega) h] at h1
    cases h1

theorem lst_set {listed : Array Bool} {i j : Nat} (hi : i < listed.size) : Lst (listed.setIfInBounds i true) j ↔ (j = i ∨ Lst listed j) := by
  by_cases hj : j = i
  · subst hj
    simp [Lst, hi]
  · have : i ≠ j := fun e => hj e.symm
    simp only [Lst, getD_set_ne false this]
    constructor
    · exact .inr
    · rintro (e | e)
      · exact absurd e hj
      · exact e

theorem first_not {f : Nat → Prop} [DecidablePred f] {n : Nat} (h : ¬ ∀ j, j < n → f j) : ∃ j, j < n ∧ ¬ f j ∧ ∀ i, i < j → f i := by
  induction n with
  | zero => exact absurd (fun j hj => by omega) h
  | succ n ih =>
    by_cases h1 : ∀ j, j < n → f j
    · refine ⟨n, by omega, fun hf => h fun j hj => ?_, h1⟩
      rcases Nat.lt_or_eq_of_le (Nat.le_of_lt_succ hj) with g | g
      · exact h1 j g
      · subst g; exact hf
    · obtain ⟨j, g1, g2, g3⟩ := ih h1
      exact ⟨j, by omega, g2, g3⟩

theorem phase_done {listed : Array Bool} {a : Act} {w : World} (hph : Phase P T O N S ρ₀ w₀ cx ops tab base k r listed a w) (hall : ∀ j, j < ops.size → Lst listed j) :
    ∃ ρ s, k s = some r ∧ Rel N S ρ₀ w₀ cx ρ s a w := by
  obtain ⟨p, q, st, V, NB, grp, g, ρ, h, hpq, hq, htx, hk, hbar, hgrp, hsz, hl1, hl2, hdc, hr, c1, c2, s1, s2, z1, z2, z3, z4⟩ := hph
  have hqe : q = ops.size := by
    rcases Nat.lt_or_eq_of_le hq with g | g
    · have := (hl2.1 q (Nat.le_refl _) (hall q g)).1
      omega
    · exact g
  have hnil : ops.toList.drop q = [] := by rw [hqe, ← Array.length_toList]; exact List.drop_length
  rw [hnil] at hk
  simp only [drawD] at hk
  have hpn : p + (q - p) = q := by omega
  refine ⟨ρ, st q, hk, ⟨⟨hr.low, fun b x hb => ?_, fun b c x y L M hb hc => ?_⟩, fun t v hv => ?_, z1, z2, z3, z4⟩⟩
  · have := htx.heap hq (q - p) (by omega)
    rw [hpn] at this
    refine hr.blk b x ?_
    rcases this.2.2.1 b x hb with ⟨j, g1, g2, rfl, g3⟩ | g
    · exact c1 j x g1 g2 (hall j (by omega)) g3
    · by_cases hx : ∀ j, p ≤ j → j < q → Lst listed j → NB j ≠ none → b ≠ base + j
      · rw [c2 b hx]; exact g
      · have : ∃ j, p ≤ j ∧ j < q ∧ NB j ≠ none ∧ b = base + j := by
          refine Classical.byContradiction fun hcon => hx fun j g1 g2 g3 g4 e => hcon ⟨j, g1, g2, g4, e⟩
        obtain ⟨j, g1, g2, g3, rfl⟩ := this
        have hf := (freshIn_spec (htx.fresh j g1 g2 g3)).1
        have := (htx.heap hq (j - p) (by omega)).1 _ _ g
        rw [show p + (j - p) = j by omega, hf] at this
        cases this
  · have sub : ∀ b x, lk b (st q).hp = some x → lk b h = some x := by
      intro b x hb
      have := htx.heap hq (q - p) (by omega)
      rw [hpn] at this
      rcases this.2.2.1 b x hb with ⟨j, g1, g2, rfl, g3⟩ | g
      · exact c1 j x g1 g2 (hall j (by omega)) g3
      · by_cases hx : ∀ j, p ≤ j → j < q → Lst listed j → NB j ≠ none → b ≠ base + j
        · rw [c2 b hx]; exact g
        · have : ∃ j, p ≤ j ∧ j < q ∧ NB j ≠ none ∧ b = base + j := by
            refine Classical.byContradiction fun hcon => hx fun j g1 g2 g3 g4 e => hcon ⟨j, g1, g2, g4, e⟩
          obtain ⟨j, g1, g2, g3, rfl⟩ := this
          have hf := (freshIn_spec (htx.fresh j g1 g2 g3)).1
          have := (htx.heap hq (j - p) (by omega)).1 _ _ g
          rw [show p + (j - p) = j by omega, hf] at this
          cases this
    exact hr.inj b c x y L M (sub b x hb) (sub c y hc)
  · have := htx.slots hq (q - p) (by omega) (t := t) (v := v)
    rw [hpn] at this
    rcases this hv with ⟨j, o, g1, g2, g3, g4, rfl⟩ | ⟨g1, g2⟩
    · exact s2 j o t g1 g2 (hall j (by omega)) g3 g4
    · exact s1 t v g1 fun j o h1 h2 _ h4 => g2 j o h1 h2 h4

theorem phase_light (hF : WideF F) (hc : Chk ops tab) (hdst : ∀ o ∈ ops.toList, ∀ d, o.dst = some d → cx.ok d) (hbase : 500 ≤ base) {listed : Array Bool} {a : Act} {w : World} {i : Nat} {o : Oper} (hi : ops[i]? = some o) (hun : ¬ Lst listed i) (hpre : ∀ m, (tab.getD i 0).testBit m = true → Lst listed m)
    {p q : Nat} {st : Nat → St} {V : Nat → AV} {NB : Nat → Option Blk} {grp : List Nat} {g : Option Gt} {ρ : Map} {h : Heap} (hpq : p ≤ q) (hq : q ≤ ops.size) (htx : Text P ops tab base p q st V NB) (hk : drawD realA T O ops tab base q (ops.toList.drop q) (st q) (st p).hp grp g k = some r) (hbar : q < ops.size → (wall ops tab ops.size q || gatedS ops tab ops.size q (st q)) = true) (hgrp : ∀ m, p ≤ m → m < q → m ∈ grp)
    (hsz : listed.size = ops.size) (hl1 : ∀ j, j < p → Lst listed j) (hl2 : Aft P T O ops tab base k r q (st q) grp listed ρ a) (hdc : Dc tab listed)
    (hr : HR N S ρ h w) (c1 : ∀ j x, p ≤ j → j < q → Lst listed j → NB j = some x → lk (base + j) h = some x) (c2 : ∀ b, (∀ j, p ≤ j → j < q → Lst listed j → NB j ≠ none → b ≠ base + j) → lk b h = lk b (st p).hp)
    (s1 : ∀ t v, lk t (st p).sl = some v → (∀ (j : Nat) (o : Oper), p ≤ j → j < q → Lst listed j → ops[j]? = some o → o.dst ≠ some t) → RV ρ v (a.tmps.getD t undef))
    (s2 : ∀ (j : Nat) (o : Oper) t, p ≤ j → j < q → Lst listed j → ops[j]? = some o → o.dst = some t → RV ρ (V j) (a.tmps.getD t undef))
    (z1 : a.tmps.size = cx.nt) (z2 : DfOk cx a w) (z3 : Fr N S w₀ w) (z4 : ∀ b, b < cx.pb → ρ b = ρ₀ b) (hpi : p ≤ i) (hiq : i < q) {Q : Exit → Act → World → Prop} {K : Act → World → Prop}
    (hK : ∀ a w, Phase P T O N S ρ₀ w₀ cx ops tab base k r (listed.setIfInBounds i true) a w → K a w) : wpOpIn F fu P ops Q i K a w := by
  have hil : i < listed.size := by omega
  have hpn : p + (i - p) = i := by omega
  have hheap := htx.heap hq (i - p) (by omega)
  have hraw := htx.raw hq (i - p) (by omega)
  have hslots := fun t v => htx.slots hq (i - p) (by omega) (t := t) (v := v)
  rw [hpn] at hheap hraw hslots
  have ho : o ∈ ops.toList := by rw [← Array.getElem?_toList] at hi; exact List.mem_of_getElem? hi
  -- a listed new block's name is none of the region's start
  have newid : ∀ j, p ≤ j → j < q → NB j ≠ none → lk (base + j) (st p).hp = none := by
    intro j g1 g2 g3
    have hf := (freshIn_spec (htx.fresh j g1 g2 g3)).1
    cases hl : lk (base + j) (st p).hp with
    | none => rfl
    | some x =>
      have := (htx.heap hq (j - p) (by omega)).1 _ _ hl
      rw [show p + (j - p) = j by omega, hf] at this
      cases this
  have menj : ∀ j, p ≤ j → j < q → Lst listed j → i < j → ((V j).mentions (base + i) || nbMen (NB j) (base + i)) = false := by
    intro j g1 g2 g3 g4
    cases hm : ((V j).mentions (base + i) || nbMen (NB j) (base + i)) with
    | false => rfl
    | true => exact absurd (hdc j i g3 (htx.men j i hpi g4 g2 hm)) hun
  obtain ⟨HE, hHE, hlo⟩ := htx.light i o hpi hiq hi
  refine hlo F fu hF N S ρ h a w hr (fun b x hb => ?_) (fun t x hx => ?_) (fun hnb => ?_) Q K (fun ρ' u w' hv hr' hf hρ hρ2 => hK _ _ ?_)
  · have old : lk b (st p).hp = some x → lk b h = some x := by
      intro hb
      rw [c2 b (fun j g1 g2 g3 g4 e => by subst e; rw [newid j g1 g2 g4] at hb; cases hb)]
      exact hb
    rcases hHE b x hb with hb | ⟨m, hm, rfl, hb⟩
    · exact old hb
    · rcases hheap.2.2.1 _ x hb with ⟨j, g1, g2, g3, g4⟩ | g
      · have e : m = j := by omega
        subst e
        exact c1 m x g1 (by omega) (hpre m hm) g4
      · exact old g
  · have ht := mem_pick hx
    have hx := lk_pick2 hx
    rcases hslots t x hx with ⟨j, oj, g1, g2, g3, g4, rfl⟩ | ⟨g1, g2⟩
    · exact s2 j oj t g1 (by omega) (hpre j ((hc.read i o hi t ht j oj g3 g4).resolve_right (fun h => by omega)).2) g3 g4
    · exact s1 t x g1 fun j oj h1 h2 h3 h4 h5 => (hc.read i o hi t ht j oj h4 h5).elim (fun h => g2 j oj h1 h.1 h4 h5) (fun h => hun (hdc j i h3 h.2))
  · have hfr := htx.fresh i hpi hiq hnb
    obtain ⟨f1, f2, _⟩ := freshIn_spec hfr
    refine ⟨?_, fun c x hcx => ?_⟩
    · rw [c2 (base + i) (fun j g1 g2 g3 g4 e => by have : i = j := (by omega); subst this; exact hun g3)]
      exact newid i hpi hiq hnb
    · by_cases hx : ∀ j, p ≤ j → j < q → Lst listed j → NB j ≠ none → c ≠ base + j
      · rw [c2 c hx] at hcx
        exact heapFree_spec f2 (hheap.1 c x hcx)
      · have : ∃ j, p ≤ j ∧ j < q ∧ Lst listed j ∧ NB j ≠ none ∧ c = base + j := by
          refine Classical.byContradiction fun hcon => hx fun j g1 g2 g3 g4 e => hcon ⟨j, g1, g2, g3, g4, e⟩
        obtain ⟨j, g1, g2, g3, g4, rfl⟩ := this
        cases hnbj : NB j with
        | none => exact absurd hnbj g4
        | some y =>
          have := c1 j y g1 g2 g3 hnbj
          rw [hcx] at this
          simp only [Option.some.injEq] at this
          subst this
          rcases Nat.lt_trichotomy j i with h1 | h1 | h1
          · exact heapFree_spec f2 (hheap.2.1 j x g1 h1 hnbj)
          · subst h1; exact absurd g3 hun
          · have := menj j g1 g2 g3 h1
            rw [hnbj, Bool.or_eq_false_iff] at this
            exact this.2
  · -- the new state
    have keepv : ∀ v : AV, (NB i ≠ none → v.mentions (base + i) = false) → ∀ u, RV ρ v u → RV ρ' v u := by
      intro v hm u hv
      cases hnb : NB i with
      | none => rw [hρ2 hnb]; exact hv
      | some y =>
        refine RV_agree (fun b hb => hρ b (fun e => ?_)) hv
        subst e
        rw [hm (by rw [hnb]; simp)] at hb
        cases hb
    have rawm : NB i ≠ none → ∀ x ∈ (st i).sl, x.2.mentions (base + i) = false := fun hnb => freshIn_raw (htx.fresh i hpi hiq hnb)
    have get : ∀ t, (o.dst ≠ some t) → (a.put o.dst u).tmps.getD t undef = a.tmps.getD t undef := by
      intro t ht
      cases hd : o.dst with
      | none => rfl
      | some d =>
        rw [hd] at ht
        simp only [Act.put]
        rw [Array.getD_eq_getD_getElem?, Array.getElem?_setIfInBounds_ne (by intro e; exact ht (by rw [e])), ← Array.getD_eq_getD_getElem?]
    refine ⟨p, q, st, V, NB, grp, g, ρ', consNb (base + i) (NB i) h, hpq, hq, htx, hk, hbar, hgrp, by simp [hsz], fun j hj => (lst_set hil).2 (.inr (hl1 j hj)), ⟨fun j hj hl => ?_, fun oq hoq hgq => ?_⟩, fun j m hj hm => ?_, hr', fun j x g1 g2 g3 g4 => ?_, fun b hb => ?_, fun t v hv' hno => ?_, fun j oj t g1 g2 g3 g4 g5 => ?_, ?_, ?_, z3.trans hf, fun b hb => (hρ b (by have := cx.le; omega)).trans (z4 b hb)⟩
    · rcases (lst_set hil).1 hl with e | e
      · omega
      · exact hl2.1 j hj e
    · obtain ⟨X, hX, hXv⟩ := hl2.2 oq hoq hgq
      refine ⟨X, hX, fun j oj hj hl hoj => ?_⟩
      have hlj : Lst listed j := ((lst_set hil).1 hl).resolve_left (by omega)
      obtain ⟨y1, y2⟩ := hXv j oj hj hlj hoj
      refine ⟨y1, fun t ht => ?_⟩
      rw [get t (fun e => hc.dst i o hi t e j oj hoj (by omega) ht)]
      have hjq : j < X.q := gate_near hX hj (get_lt hoj) (gated_gate (gs_g hgq)).2.1 y1
      exact keepv (X.V j) (fun _ => noBad_spec (hX.erl j oj hj hjq hoj y1).2.1 _ (List.mem_cons_of_mem _ (List.mem_map.2 ⟨i, hgrp i hpi hiq, rfl⟩))) _ (y2 t ht)
    · refine (lst_set hil).2 ?_
      rcases (lst_set hil).1 hj with e | e
      · subst e; exact .inr (hpre m hm)
      · exact .inr (hdc j m e hm)
    · rcases (lst_set hil).1 g3 with e | e
      · subst e
        rw [g4]
        simp only [consNb]
        rw [lk_cons, if_pos rfl]
      · have := c1 j x g1 g2 e g4
        cases hnb : NB i with
        | none => exact this
        | some y =>
          simp only [consNb]
          rw [lk_cons, if_neg (fun e2 => by have : i = j := (by omega); subst this; exact hun e)]
          exact this
    · have h1 := c2 b (fun j g1 g2 g3 g4 => hb j g1 g2 ((lst_set hil).2 (.inr g3)) g4)
      cases hnb : NB i with
      | none => exact h1
      | some y =>
        simp only [consNb]
        rw [lk_cons, if_neg (fun e => hb i hpi hiq ((lst_set hil).2 (.inl rfl)) (by rw [hnb]; simp) e.symm)]
        exact h1
    · have hne : o.dst ≠ some t := hno i o hpi hiq ((lst_set hil).2 (.inl rfl)) hi
      rw [get t hne]
      refine keepv v (fun hnb => rawm hnb (t, v) (hraw.1 _ (lk_mem hv'))) _ (s1 t v hv' fun j oj g1 g2 g3 => hno j oj g1 g2 ((lst_set hil).2 (.inr g3)))
    · by_cases hji : j = i
      · subst hji
        rw [hi] at g4
        simp only [Option.some.injEq] at g4
        subst g4
        have hlt : t < a.tmps.size := by rw [z1]; exact (hdst o ho t g5).1
        rw [g5]
        simp only [Act.put]
        rw [Array.getD_eq_getD_getElem?, Array.getElem?_setIfInBounds_self_of_lt hlt]
        exact hv
      · have hlj : Lst listed j := ((lst_set hil).1 g3).resolve_left hji
        rw [get t (fun e => hc.dst i o hi t e j oj g4 hji g5)]
        refine keepv (V j) (fun hnb => ?_) _ (s2 j oj t g1 g2 hlj g4 g5)
        rcases Nat.lt_trichotomy j i with h1 | h1 | h1
        · exact rawm hnb (t, V j) (hraw.2 j oj t g1 h1 g4 g5)
        · exact absurd h1 hji
        · have := menj j g1 g2 hlj h1
          rw [Bool.or_eq_false_iff] at this
          exact this.1
    · cases hd : o.dst with
      | none => exact z1
      | some d => simp [Act.put, z1]
    · exact (z2.put (hdst o ho) u).world hf.oth

theorem dstFree_spec {q : Nat} {sl : Slots} (h : dstFree ops.toList ops.size tab q sl = true) {j : Nat} {oj : Oper} (hoj : ops[j]? = some oj) (he : early tab q j = true) {d : Nat} (hd : oj.dst = some d) : lk d sl = none := by
  have h1 := allLt_spec h j (get_lt hoj)
  simp only [he] at h1
  rw [Array.getElem?_toList, hoj] at h1
  simp only [hd] at h1
  unfold lkNone at h1
  split at h1
  · cases h1
  · assumption

theorem inGrp_of {b : Nat} {grp : List Nat} {m : Nat} (hm : m ∈ grp) : inGrp base b grp = true ∨ b ≠ base + m := by
  induction grp with
  | nil => cases hm
  | cons x r ih =>
    simp only [inGrp, Bool.or_eq_true]
    cases hm with
    | head =>
      by_cases e : b = base + m
      · exact .inl (.inl (by rw [e]; exact Nat.beq_refl _))
      · exact .inr e
    | tail _ hm => exact (ih hm).imp .inr id

theorem mem_lk {α : Type} {s : List (Nat × α)} {t : Nat} {v : α} (h : (t, v) ∈ s) : lk t s ≠ none := by
  induction s with
  | nil => cases h
  | cons p r ih =>
    obtain ⟨i, x⟩ := p
    rw [lk_cons]
    by_cases e : i = t
    · rw [if_pos e]; simp
    · rw [if_neg e]
      cases h with
      | head => exact absurd rfl e
      | tail _ h => exact ih h

theorem phase_early (hF : WideF F) (hc : Chk ops tab) (hdst : ∀ o ∈ ops.toList, ∀ d, o.dst = some d → cx.ok d) {listed : Array Bool} {a : Act} {w : World} {i : Nat} {o : Oper} (hi : ops[i]? = some o) (hpre : ∀ m, (tab.getD i 0).testBit m = true → Lst listed m)
    {p q : Nat} {st : Nat → St} {V : Nat → AV} {NB : Nat → Option Blk} {grp : List Nat} {g : Option Gt} {ρ : Map} {h : Heap} (hpq : p ≤ q) (hq : q ≤ ops.size) (htx : Text P ops tab base p q st V NB) (hk : drawD realA T O ops tab base q (ops.toList.drop q) (st q) (st p).hp grp g k = some r) (hbar : q < ops.size → (wall ops tab ops.size q || gatedS ops tab ops.size q (st q)) = true) (hgrp : ∀ m, p ≤ m → m < q → m ∈ grp)
    (hsz : listed.size = ops.size) (hl1 : ∀ j, j < p → Lst listed j) (hl2 : Aft P T O ops tab base k r q (st q) grp listed ρ a) (hdc : Dc tab listed)
    (hr : HR N S ρ h w) (c1 : ∀ j x, p ≤ j → j < q → Lst listed j → NB j = some x → lk (base + j) h = some x) (c2 : ∀ b, (∀ j, p ≤ j → j < q → Lst listed j → NB j ≠ none → b ≠ base + j) → lk b h = lk b (st p).hp)
    (s1 : ∀ t v, lk t (st p).sl = some v → (∀ (j : Nat) (o : Oper), p ≤ j → j < q → Lst listed j → ops[j]? = some o → o.dst ≠ some t) → RV ρ v (a.tmps.getD t undef))
    (s2 : ∀ (j : Nat) (o : Oper) t, p ≤ j → j < q → Lst listed j → ops[j]? = some o → o.dst = some t → RV ρ (V j) (a.tmps.getD t undef))
    (z1 : a.tmps.size = cx.nt) (z2 : DfOk cx a w) (z3 : Fr N S w₀ w) (z4 : ∀ b, b < cx.pb → ρ b = ρ₀ b) {oq : Oper} (hoq : ops[q]? = some oq) (hgq : gatedS ops tab ops.size q (st q) = true) (hea : early tab q i = true) {Q : Exit → Act → World → Prop} {K : Act → World → Prop}
    (hK : ∀ a w, Phase P T O N S ρ₀ w₀ cx ops tab base k r (listed.setIfInBounds i true) a w → K a w) : wpOpIn F fu P ops Q i K a w := by
  obtain ⟨X, hX, hXv⟩ := hl2.2 oq hoq hgq
  have hqi := (early_spec.1 hea).1
  have hnot := (early_spec.1 hea).2
  have hin := get_lt hi
  have hil : i < listed.size := by omega
  have hiX := gate_near hX hqi hin (gated_gate (gs_g hgq)).2.1 hea
  obtain ⟨hnb, hbad, hlo⟩ := hX.erl i o hqi hiX hi hea
  have hpn : p + (q - p) = q := by omega
  have hheap := htx.heap hq (q - p) (by omega)
  have hraw := htx.raw hq (q - p) (by omega)
  have hslots := fun t v => htx.slots hq (q - p) (by omega) (t := t) (v := v)
  rw [hpn] at hheap hraw hslots
  have ho : o ∈ ops.toList := by rw [← Array.getElem?_toList] at hi; exact List.mem_of_getElem? hi
  refine hlo F fu hF N S ρ h a w hr (fun b x hb => ?_) (fun t x hx => ?_) (fun e => absurd rfl e) Q K (fun ρ' u w' hv hr' hf hρ hρ2 => ?_)
  · -- the memory
    obtain ⟨hp, hb⟩ := cut1 hb
    rw [Bool.and_eq_true, Bool.not_eq_true'] at hp
    have ng : ∀ j, p ≤ j → j < q → b ≠ base + j := fun j g1 g2 => (inGrp_of (hgrp j g1 g2)).resolve_left (by rw [hp.2]; simp)
    rw [c2 b (fun j g1 g2 _ _ => ng j g1 g2)]
    rcases hheap.2.2.1 b x hb with ⟨j, g1, g2, g3, _⟩ | g
    · exact absurd g3 (ng j g1 g2)
    · exact g
  · -- the slots
    have ht := mem_pick hx
    have hx := lk_pick2 hx
    have hs := hX.text.slots hX.le2 (i - (q + 1)) (by omega) (t := t) (v := x)
    rw [show q + 1 + (i - (q + 1)) = i by omega] at hs
    rcases hs hx with ⟨j, oj, g1, g2, g3, g4, rfl⟩ | ⟨g1, _⟩
    · have hlj := hpre j ((hc.read i o hi t ht j oj g3 g4).resolve_right (fun h => by omega)).2
      exact (hXv j oj (by omega) hlj g3).2 t g4
    · have hne : oq.dst ≠ some t := fun e => by
        have := ((hc.read i o hi t ht q oq hoq e).resolve_right (fun h => by omega)).2
        rw [hnot] at this; cases this
      rw [hX.start] at g1
      have g1 : lk t (st q).sl = some x := by
        unfold put at g1
        split at g1
        · rename_i d hd
          simp only at g1
          rw [lk_cons, if_neg (fun e => hne (by rw [hd, e]))] at g1
          exact g1
        · exact g1
      rcases hslots t x g1 with ⟨j, oj, y1, y2, y3, y4, rfl⟩ | ⟨y1, y2⟩
      · exact s2 j oj t y1 y2 (hpre j ((hc.read i o hi t ht j oj y3 y4).resolve_right (fun h => by omega)).2) y3 y4
      · exact s1 t x y1 fun j oj h1 h2 _ h4 => y2 j oj h1 h2 h4
  · have hρe := hρ2 rfl
    subst hρe
    have get : ∀ t, (o.dst ≠ some t) → (a.put o.dst u).tmps.getD t undef = a.tmps.getD t undef := by
      intro t ht
      cases hd : o.dst with
      | none => rfl
      | some d =>
        rw [hd] at ht
        simp only [Act.put]
        rw [Array.getD_eq_getD_getElem?, Array.getElem?_setIfInBounds_ne (by intro e; exact ht (by rw [e])), ← Array.getD_eq_getD_getElem?]
    refine hK _ _ ⟨p, q, st, V, NB, grp, g, ρ', h, hpq, hq, htx, hk, hbar, hgrp, by simp [hsz], fun j hj => (lst_set hil).2 (.inr (hl1 j hj)), ⟨fun j hj hl => ?_, fun oq2 hoq2 _ => ⟨X, by rw [hoq] at hoq2; cases hoq2; exact hX, fun j oj hj hl hoj => ?_⟩⟩, fun j m hj hm => ?_, hr', fun j x g1 g2 g3 g4 => ?_, fun b hb => ?_, fun t v hv' hno => ?_, fun j oj t g1 g2 g3 g4 g5 => ?_, ?_, ?_, z3.trans hf, z4⟩
    · rcases (lst_set hil).1 hl with e | e
      · exact ⟨by omega, hgq⟩
      · exact hl2.1 j hj e
    · by_cases hji : j = i
      · subst hji
        rw [hi] at hoj
        simp only [Option.some.injEq] at hoj
        subst hoj
        refine ⟨hea, fun t ht => ?_⟩
        have hlt : t < a.tmps.size := by rw [z1]; exact (hdst o ho t ht).1
        rw [ht]
        simp only [Act.put]
        rw [Array.getD_eq_getD_getElem?, Array.getElem?_setIfInBounds_self_of_lt hlt]
        exact hv
      · obtain ⟨y1, y2⟩ := hXv j oj hj (((lst_set hil).1 hl).resolve_left hji) hoj
        refine ⟨y1, fun t ht => ?_⟩
        rw [get t (fun e => hc.dst i o hi t e j oj hoj hji ht)]
        exact y2 t ht
    · refine (lst_set hil).2 ?_
      rcases (lst_set hil).1 hj with e | e
      · subst e; exact .inr (hpre m hm)
      · exact .inr (hdc j m e hm)
    · exact c1 j x g1 g2 (((lst_set hil).1 g3).resolve_left (by omega)) g4
    · exact c2 b fun j g1 g2 g3 g4 => hb j g1 g2 ((lst_set hil).2 (.inr g3)) g4
    · have hne : o.dst ≠ some t := fun e => by
        have := dstFree_spec hX.dst hi hea e
        exact mem_lk (hraw.1 _ (lk_mem hv')) this
      rw [get t hne]
      exact s1 t v hv' fun j oj g1 g2 g3 => hno j oj g1 g2 ((lst_set hil).2 (.inr g3))
    · rw [get t (fun e => hc.dst i o hi t e j oj g4 (by omega) g5)]
      exact s2 j oj t g1 g2 (((lst_set hil).1 g3).resolve_left (by omega)) g4 g5
    · cases hd : o.dst with
      | none => exact z1
      | some d => simp [Act.put, z1]
    · exact (z2.put (hdst o ho) u).world hf.oth

theorem draw_sound (hF : WideF F) (hro : F.round = none) (hT : TyOK P T) (hO : OSound P O) (hD : ODet O) (hY : YSound P O cx.pb ρ₀ w₀) (hbase : 500 ≤ base) (hc : Chk ops tab) (hdst : ∀ o ∈ ops.toList, ∀ d, o.dst = some d → cx.ok d) {Q : Exit → Act → World → Prop} (hQ : ∀ ρ s a w, k s = some r → Rel N S ρ₀ w₀ cx ρ s a w → Q .normal a w) (hQp : ∀ c a w, ¬ Q (.panic c) a w) (fuel : Nat) :
    ∀ (listed : Array Bool) (a : Act) (w : World), Phase P T O N S ρ₀ w₀ cx ops tab base k r listed a w → listed.toList.count false ≤ fuel → wpAnyIn F fu P .any ops Q fuel listed a w := by
  have done : ∀ (listed : Array Bool) (a : Act) (w : World), Phase P T O N S ρ₀ w₀ cx ops tab base k r listed a w → Region.ready .any ops listed = [] → Q .normal a w := by
    intro listed a w hph hre
    have hsz : listed.size = ops.size := by obtain ⟨p, q, st, V, NB, grp, g, ρ, h, _, _, _, _, _, _, hsz, _⟩ := hph; exact hsz
    have hall : ∀ j, j < ops.size → Lst listed j := by
      refine Classical.byContradiction fun hcon => ?_
      obtain ⟨j, g1, g2, g3⟩ := first_not (f := Lst listed) (n := ops.size) hcon
      have hoj : ops[j]? = some ops[j] := Array.getElem?_eq_getElem g1
      have : j ∈ Region.ready .any ops listed := by
        rw [mem_ready]
        refine ⟨?_, ops[j], hoj, fun e he hb => g3 _ (hc.lt j _ hoj e (by simpa using he) hb)⟩
        have hlt : j < listed.size := by omega
        simp only [Lst, Array.getD_eq_getD_getElem?, Array.getElem?_eq_getElem hlt, Option.getD_some] at g2 ⊢
        simpa using g2
      rw [hre] at this
      cases this
    obtain ⟨ρ, s, g1, g2⟩ := phase_done hph hall
    exact hQ ρ s a w g1 g2
  have count : ∀ (listed : Array Bool) (i fuel : Nat), i < listed.size → ¬ Lst listed i → listed.toList.count false ≤ fuel + 1 → (listed.setIfInBounds i true).toList.count false ≤ fuel := by
    intro listed i fuel hi hun hle
    have hlt : i < listed.toList.length := by simpa using hi
    have hv : listed.toList[i] = false := by
      simp only [Lst, Array.getD_eq_getD_getElem?, Array.getElem?_eq_getElem hi, Option.getD_some] at hun
      simpa using hun
    rw [Array.toList_setIfInBounds, List.count_set hlt]
    simp only [hv]
    have : 0 < listed.toList.count false := List.count_pos_iff.2 (by rw [← hv]; exact List.getElem_mem hlt)
    rw [if_pos (show (false == false) = true from rfl), if_neg (show ¬ (true == false) = true by decide)]
    omega
  induction fuel with
  | zero =>
    intro listed a w hph hle
    have hn : Region.ready .any ops listed = [] := by
      cases hre : Region.ready .any ops listed with
      | nil => rfl
      | cons j _ =>
        have hj : j ∈ Region.ready .any ops listed := by rw [hre]; exact List.mem_cons_self
        rw [mem_ready] at hj
        obtain ⟨g1, _⟩ := hj
        have hsz : listed.size = ops.size := by obtain ⟨p, q, st, V, NB, grp, g, ρ, h, _, _, _, _, _, _, hsz, _⟩ := hph; exact hsz
        have hlt : j < listed.size := by
          rcases Nat.lt_or_ge j listed.size with g | g
          · exact g
          · simp [Array.getD_eq_getD_getElem?, Array.getElem?_eq_none g] at g1
        have : false ∈ listed.toList := by
          simp only [Array.getD_eq_getD_getElem?, Array.getElem?_eq_getElem hlt, Option.getD_some] at g1
          rw [← g1]
          simp
        have := List.count_pos_iff.2 this
        omega
    exact ⟨hn, done listed a w hph hn⟩
  | succ fuel ih =>
    intro listed a w hph hle
    have hph0 := hph
    obtain ⟨p, q, st, V, NB, grp, g, ρ, h, hpq, hq, htx, hk, hbar, hgrp, hsz, hl1, hl2, hdc, hr, c1, c2, s1, s2, z1, z2, z3, z4⟩ := hph0
    by_cases hfr : ∃ j, j < q ∧ freeOp ops tab j = true ∧ j ∈ Region.ready .any ops listed
    · obtain ⟨j, hjq, hfj, hrj⟩ := hfr
      obtain ⟨oj, hoj, hmv, hgd, hsel, hap⟩ := freeOp_spec hfj
      obtain ⟨hj0, o', ho', hall⟩ := mem_ready.1 hrj
      rw [hoj] at ho'
      simp only [Option.some.injEq] at ho'
      subst ho'
      have hjl : j < listed.size := by have := get_lt hoj; omega
      have hun : ¬ Lst listed j := by
        simp only [Lst, Array.getD_eq_getD_getElem?, Array.getElem?_eq_getElem hjl, Option.getD_some] at hj0 ⊢
        simp [hj0]
      have hpj : p ≤ j := by
        rcases Nat.lt_or_ge j p with g | g
        · exact absurd (hl1 j g) hun
        · exact g
      have hpre : ∀ m, (tab.getD j 0).testBit m = true → Lst listed m := by
        intro m hm
        rw [hc.mask j oj hoj] at hm
        exact maskOf_listed hdc (fun e he hb => hall e (by simpa using he) hb) hm
      have hw : Region.wanted oj (yielded ops a.tmps) = true := by unfold Region.wanted; rw [hgd]
      have habo : ∀ w, oj.about P w a.eval = none := by
        intro w
        obtain ⟨dst, op, type, pos, after, guard⟩ := oj
        simp only at hmv
        rcases hmv with ⟨x, rfl⟩ | ⟨x, k, rfl⟩ <;> rfl
      have hrun : (∃ u, ∀ w, (execOp a.eval oj).run P w = .ok (.value u) w) ∨ ∀ w, ∃ m, (execOp a.eval oj).run P w = .halt (.stuck m) w := by
        obtain ⟨dst, op, type, pos, after, guard⟩ := oj
        simp only at hmv
        rcases hmv with ⟨x, rfl⟩ | ⟨x, k, rfl⟩
        · exact .inl ⟨_, fun w => rfl⟩
        · cases hx : a.eval x with
          | tuple vs =>
            cases hk : vs[k]? with
            | some u => exact .inl ⟨u, fun w => by simp [execOp, Instr.extract, hx, hk]⟩
            | none => exact .inr fun w => ⟨_, by simp [execOp, Instr.extract, hx, hk]; rfl⟩
          | _ => exact .inr fun w => ⟨_, by simp [execOp, Instr.extract, hx]; rfl⟩
      have hl := phase_light (F := F) (fu := fu) hF (Q := fun _ _ _ => False) (K := fun a' w' => Phase P T O N S ρ₀ w₀ cx ops tab base k r (listed.setIfInBounds j true) a' w') hc hdst hbase hoj hun hpre hpq hq htx hk hbar hgrp hsz hl1 hl2 hdc hr c1 c2 s1 s2 z1 z2 z3 z4 hpj hjq (fun _ _ h => h)
      rcases hrun with ⟨u, hrun⟩ | hrun
      · have hph' : Phase P T O N S ρ₀ w₀ cx ops tab base k r (listed.setIfInBounds j true) (a.put oj.dst u) w := by
          unfold wpOpIn at hl
          simp only [hoj, hw, if_true] at hl
          have hl := hl.2
          rw [hro, Oper.semAt_none, hrun w] at hl
          exact hl
        exact wpAnyIn_first hro hoj hsel (fun c a w h => absurd h (hQp c _ w)) fuel listed a w (fun i oi hi hne hul hno => hap i oi hi hne (by
          cases htb : (tab.getD j 0).testBit i with
          | false => rfl
          | true =>
            have hl1 := hpre i htb
            have hlt : i < listed.size := by have := get_lt hi; omega
            simp only [Lst, Array.getD_eq_getD_getElem?, Array.getElem?_eq_getElem hlt, Option.getD_some] at hl1 hul
            rw [hl1] at hul
            cases hul) hno) hrj ⟨.inl ⟨hw, hrun⟩, habo⟩ (ih _ _ _ hph' (count listed j fuel hjl hun hle))
      · exfalso
        unfold wpOpIn at hl
        simp only [hoj, hw, if_true] at hl
        have hl := hl.2
        obtain ⟨m, hm⟩ := hrun w
        rw [hro, Oper.semAt_none, hm] at hl
        exact hl.elim
    refine ⟨done listed a w hph, fun i hi => ?_⟩
    rw [mem_ready] at hi
    obtain ⟨hi0, o, ho, hall⟩ := hi
    have hlt : i < listed.size := by
      rcases Nat.lt_or_ge i listed.size with g | g
      · exact g
      · simp [Array.getD_eq_getD_getElem?, Array.getElem?_eq_none g] at hi0
    have hun : ¬ Lst listed i := by
      simp only [Lst, Array.getD_eq_getD_getElem?, Array.getElem?_eq_getElem hlt, Option.getD_some] at hi0 ⊢
      simp [hi0]
    have hpre : ∀ m, (tab.getD i 0).testBit m = true → Lst listed m := by
      intro m hm
      rw [hc.mask i o ho] at hm
      exact maskOf_listed hdc (fun e he hb => hall e (by simpa using he) hb) hm
    have hio := get_lt ho
    have next : ∀ a w, Phase P T O N S ρ₀ w₀ cx ops tab base k r (listed.setIfInBounds i true) a w → wpAnyIn F fu P .any ops Q fuel (listed.setIfInBounds i true) a w := fun a w hp => ih _ a w hp (count listed i fuel hlt hun hle)
    by_cases hiq : i < q
    · have hpi : p ≤ i := by
        rcases Nat.lt_or_ge i p with g | g
        · exact absurd (hl1 i g) hun
        · exact g
      exact phase_light hF hc hdst hbase ho hun hpre hpq hq htx hk hbar hgrp hsz hl1 hl2 hdc hr c1 c2 s1 s2 z1 z2 z3 z4 hpi hiq next
    · have hqn : q < ops.size := by omega
      have hb := hbar hqn
      have hqo : ops[q]? = some ops[q] := Array.getElem?_eq_getElem hqn
      by_cases hqi : q = i
      rotate_left
      · -- ahead of a gate
        have hlt2 : q < i := by omega
        have hnb : (tab.getD i 0).testBit q = false := by
          cases htb : (tab.getD i 0).testBit q with
          | false => rfl
          | true => have := (hl2.1 q (Nat.le_refl _) (hpre q htb)).1; omega
        have hg : gatedS ops tab ops.size q (st q) = true := by
          rw [Bool.or_eq_true] at hb
          rcases hb with hb | hb
          · rw [wall_after hb hlt2 hio] at hnb; cases hnb
          · exact hb
        exact phase_early hF hc hdst ho hpre hpq hq htx hk hbar hgrp hsz hl1 hl2 hdc hr c1 c2 s1 s2 z1 z2 z3 z4 hqo hg (early_spec.2 ⟨hlt2, hnb⟩) next
      subst hqi
      have hbef : ∀ j, j < q → Lst listed j := by
        intro j
        induction j using Nat.strongRecOn with
        | ind j ihj =>
          intro hj
          rcases barrier_before (stop_b hb) hj hqn with g | g
          · exact hpre j g
          · refine Classical.byContradiction fun hunj => hfr ⟨j, hj, g, ?_⟩
            have hjl : j < listed.size := by omega
            have hoj : ops[j]? = some ops[j] := Array.getElem?_eq_getElem (by omega)
            refine mem_ready.2 ⟨?_, ops[j], hoj, fun e he hb2 => ?_⟩
            · simp only [Lst, Array.getD_eq_getD_getElem?, Array.getElem?_eq_getElem hjl, Option.getD_some] at hunj ⊢
              simpa using hunj
            · have := hc.lt j _ hoj e (by simpa using he) hb2
              exact ihj e.on this (by omega)
      -- all ahead of the barrier is done
      have hdrop : ops.toList.drop q = o :: ops.toList.drop (q + 1) := by
        have : q < ops.toList.length := by simpa using hqn
        rw [List.drop_eq_getElem_cons this]
        congr 1
        have h2 : ops[q]? = some ops[q] := Array.getElem?_eq_getElem hqn
        rw [h2] at ho
        simpa using ho
      have hrel : Rel N S ρ₀ w₀ cx ρ (st q) a w := by
        have hpn : p + (q - p) = q := by omega
        have hheap := htx.heap hq (q - p) (by omega)
        have hslots := fun t v => htx.slots hq (q - p) (by omega) (t := t) (v := v)
        rw [hpn] at hheap hslots
        have sub : ∀ b x, lk b (st q).hp = some x → lk b h = some x := by
          intro b x hb
          rcases hheap.2.2.1 b x hb with ⟨j, g1, g2, rfl, g3⟩ | g
          · exact c1 j x g1 g2 (hbef j g2) g3
          · by_cases hx : ∀ j, p ≤ j → j < q → Lst listed j → NB j ≠ none → b ≠ base + j
            · rw [c2 b hx]; exact g
            · have : ∃ j, p ≤ j ∧ j < q ∧ NB j ≠ none ∧ b = base + j := by
                refine Classical.byContradiction fun hcon => hx fun j g1 g2 g3 g4 e => hcon ⟨j, g1, g2, g4, e⟩
              obtain ⟨j, g1, g2, g3, rfl⟩ := this
              have hf := (freshIn_spec (htx.fresh j g1 g2 g3)).1
              have := (htx.heap hq (j - p) (by omega)).1 _ _ g
              rw [show p + (j - p) = j by omega, hf] at this
              cases this
        refine ⟨⟨hr.low, fun b x hb => hr.blk b x (sub b x hb), fun b c x y L M hb hc => hr.inj b c x y L M (sub b x hb) (sub c y hc)⟩, fun t v hv => ?_, z1, z2, z3, z4⟩
        rcases hslots t v hv with ⟨j, o, g1, g2, g3, g4, rfl⟩ | ⟨g1, g2⟩
        · exact s2 j o t g1 g2 (hbef j g2) g3 g4
        · exact s1 t v g1 fun j o h1 h2 _ h4 => g2 j o h1 h2 h4
      have hom : o ∈ ops.toList := by rw [← Array.getElem?_toList] at ho; exact List.mem_of_getElem? ho
      have unl : ∀ j, q < j → Lst listed j → gatedS ops tab ops.size q (st q) = true := fun j hj hl => (hl2.1 j (by omega) hl).2
      have dcs : Dc tab (listed.setIfInBounds q true) := by
        intro j m hj hm
        refine (lst_set hlt).2 ?_
        rcases (lst_set hlt).1 hj with e | e
        · subst e; exact .inr (hpre m hm)
        · exact .inr (hdc j m e hm)
      have upto : ∀ j, j < q + 1 → Lst (listed.setIfInBounds q true) j := by
        intro j hj
        refine (lst_set hlt).2 ?_
        rcases Nat.lt_or_eq_of_le (Nat.le_of_lt_succ hj) with g | g
        · exact .inr (hbef j g)
        · exact .inl g
      cases hgt : gatedS ops tab ops.size q (st q) with
      | false =>
        have hw : wall ops tab ops.size q = true := by
          rw [hgt, Bool.or_false] at hb
          exact hb
        have restart : ∀ {ρ' s' a' w'}, Rel N S ρ₀ w₀ cx ρ' s' a' w' → drawD realA T O ops tab base (q + 1) (ops.toList.drop (q + 1)) s' s'.hp [] none k = some r → wpAnyIn F fu P .any ops Q fuel (listed.setIfInBounds q true) a' w' := by
          intro ρ' s' a' w' hrel' hk'
          refine next _ _ (Phase.start hT hO hD (p := q + 1) (by omega) (by simp [hsz]) upto (fun j hj hl => ?_) dcs hrel' hk')
          rcases (lst_set hlt).1 hl with e | e
          · omega
          · have := unl j (by omega) e
            rw [hgt] at this; cases this
        rw [hdrop] at hk
        simp only [drawD, hw] at hk
        obtain ⟨b, hk, hw⟩ := want_sound hrel hk
        simp only [wpOpIn, ho]
        rw [hw]
        cases b with
        | true =>
          simp only [if_true]
          refine (oper_sound hF hT hO hY hrel (by omega) (hdst o hom) hk fun v hh mv ρ' a' w' hk' hrel' => restart hrel' ?_)
          rw [put_hp]
          rw [force_eq] at hk'
          exact hk'
        | false =>
          simp only [Bool.false_eq_true, if_false]
          refine ⟨fun f _ => hF.fn f, restart (hrel.step (sid := base + q) (mv := []) (by omega) rfl (show RV ρ (.v (.cell .un)) undef from rfl) hrel.hr (Fr.refl _ _ _) (fun _ _ _ => rfl) (hdst o hom)) ?_⟩
          rw [put_hp]
          exact hk
      | true =>
        obtain ⟨X, hX, hXv⟩ := hl2.2 o ho hgt
        have hsz2 : (listed.setIfInBounds q true).size = ops.size := by simp [hsz]
        have inX : ∀ j, q < j → Lst listed j → j < X.q ∧ early tab q j = true ∧ ∃ oj, ops[j]? = some oj := by
          intro j hj hl
          have hjl : j < ops.size := by
            rcases Nat.lt_or_ge j ops.size with g | g
            · exact g
            · have h3 : listed.getD j false = true := hl
              rw [Array.getD_eq_getD_getElem?, Array.getElem?_eq_none (by omega)] at h3
              cases h3
          have hoj : ops[j]? = some ops[j] := Array.getElem?_eq_getElem hjl
          have := (hXv j _ hj hl hoj).1
          exact ⟨gate_near hX hj hjl (gated_gate (gs_g hgt)).2.1 this, this, _, hoj⟩
        have restart : ∀ {ρ' u w'}, Rel N S ρ₀ w₀ cx ρ' (put ⟨(st q).sl, (st q).hp⟩ o.dst X.v X.hp) (a.put o.dst u) w' → (∀ b, b ≠ base + q → ρ' b = ρ b) → wpAnyIn F fu P .any ops Q fuel (listed.setIfInBounds q true) (a.put o.dst u) w' := by
          intro ρ' u w' hrel' hρ
          have hst : X.st (q + 1) = put ⟨(st q).sl, (st q).hp⟩ o.dst X.v X.hp := hX.start
          have hhp : (X.st (q + 1)).hp = X.hp := by rw [hst, put_hp]
          refine next _ _ (Phase.mk hT hO hD hX.le hX.le2 hX.text (by rw [hhp]; exact hX.draw) hX.bar hX.ing hsz2 upto (fun j hj hl => ?_) dcs (by rw [hst]; exact hrel') (fun j hj hl => ?_) (fun j oj t hj hj2 hl hoj ht => ?_))
          · rcases (lst_set hlt).1 hl with e | e
            · have := hX.le; omega
            · have := (inX j (by have := hX.le; omega) e).1
              omega
          · have hl : Lst listed j := ((lst_set hlt).1 hl).resolve_left (by omega)
            obtain ⟨y1, y2, oj, y3⟩ := inX j (by omega) hl
            exact (hX.erl j oj (by omega) y1 y3 y2).1
          · have hl : Lst listed j := ((lst_set hlt).1 hl).resolve_left (by omega)
            obtain ⟨y1, y2⟩ := hXv j oj (by omega) hl hoj
            have hne : o.dst ≠ some t := fun e => hc.dst q o ho t e j oj hoj (by omega) ht
            have hget : (a.put o.dst u).tmps.getD t undef = a.tmps.getD t undef := by
              cases hd : o.dst with
              | none => rfl
              | some d =>
                rw [hd] at hne
                simp only [Act.put]
                rw [Array.getD_eq_getD_getElem?, Array.getElem?_setIfInBounds_ne (by intro e; exact hne (by rw [e])), ← Array.getD_eq_getD_getElem?]
            rw [hget]
            have hbad := (hX.erl j oj (by omega) hj2 hoj y1).2.1
            exact RV_agree (fun b hb2 => hρ b (fun e => by subst e; rw [noBad_spec hbad _ List.mem_cons_self] at hb2; cases hb2)) (y2 t ht)
        obtain ⟨b, hk2, hw⟩ := want_sound hrel (hX.want Bool (fun b => some b) ▸ (rfl : (some X.b : Option Bool) = some X.b) : wantD ops.toList o (st q) (fun b => some b) = some X.b)
        simp only [Option.some.injEq] at hk2
        subst hk2
        simp only [wpOpIn, ho]
        rw [hw]
        cases hb2 : X.b with
        | false =>
          simp only [Bool.false_eq_true, if_false]
          refine ⟨fun f _ => hF.fn f, restart (ρ' := ρ) ?_ (fun b _ => ?_)⟩
          · have := hrel.step (sid := base + q) (mv := []) (by omega) rfl (show RV ρ (.v (.cell .un)) undef from rfl) hrel.hr (Fr.refl _ _ _) (fun _ _ _ => rfl) (hdst o hom)
            rw [hX.no hb2, hX.memF hb2]
            exact this
          · rfl
        | true =>
          simp only [if_true]
          obtain ⟨f1, f2, f3⟩ := freshIn_spec hX.fresh
          have sub2 : ∀ b x, lk b (cutA ops tab base q grp (st q)).2 = some x → lk b (st q).hp = some x := fun b x hb => (cut2 hb).2
          have hP := HR_part hrel.hr sub2
          have hfr : freshIn (base + q) ⟨(st q).sl, (cutA ops tab base q grp (st q)).2⟩ = true → lk (base + q) (cutA ops tab base q grp (st q)).2 = none ∧ heapFree (base + q) (cutA ops tab base q grp (st q)).2 = true := fun hf => ⟨(freshIn_spec hf).1, (freshIn_spec hf).2.1⟩
          obtain ⟨v', h'', mv', e1, hg⟩ := op_sound (P := P) (fr := freshIn (base + q) ⟨(st q).sl, (cutA ops tab base q grp (st q)).2⟩) hT hO (hY _ _ _ _ _ hrel.pin hrel.fr.oth hP) hP hfr (fun hf => noMen_ev (freshIn_spec hf).2.2) (er_sl (a := a) (s := ⟨(st q).sl, (cutA ops tab base q grp (st q)).2⟩) hrel.sl) o (hX.op hb2 _ fun v h mv => some (v, h, mv))
          simp only [Option.some.injEq, Prod.mk.injEq] at e1
          obtain ⟨e2, e3, e4⟩ := e1
          rw [e2, e3, e4] at hg
          have fin : ∀ u w' ρ', RV ρ' X.v u → HR w.heap.size (Of ρ (cutA ops tab base q grp (st q)).2) ρ' X.h w' → Fr w.heap.size (Of ρ (cutA ops tab base q grp (st q)).2) w w' → (∀ b, b ∉ ([] : List Nat) → (b = base + q → freshIn (base + q) ⟨(st q).sl, (cutA ops tab base q grp (st q)).2⟩ = false) → ρ' b = ρ b) → wpAnyIn F fu P .any ops Q fuel (listed.setIfInBounds q true) (a.put o.dst u) w' := by
            intro u w' ρ' hv hr' hf hm
            have hm' : ∀ b, b ≠ base + q → ρ' b = ρ b := fun b hb => hm b (by simp) (fun e => absurd e hb)
            obtain ⟨j1, j2⟩ := HR_join hrel.hr (fun b x hb => (cut1 hb).2) sub2 (fun b x hb => (lk_cutT _ _ b (cut1 hb).1).2) (fun b x hb => ownAll_spec hX.own hb) f1 f2 hr' hf hm' (fun b x hb h0 => oldOrOwn_spec (hX.old hb2) hb h0)
            refine restart ?_ hm'
            have := hrel.step (sid := base + q) (mv := []) (dst := o.dst) (by omega) rfl hv j1 j2 (fun b _ hb => hm' b (fun e => by have := hb e; subst e; rw [hX.fresh] at this; cases this)) (hdst o hom)
            rw [hX.mem hb2]
            exact this
          refine ⟨fun f _ => hF.fn f, ?_⟩
          rw [hro, Oper.semAt_none]
          generalize (execOp a.eval o).run P w = res at hg ⊢
          unfold Good at hg
          split at hg
          · obtain ⟨ρ', q1, q2, q3, q4⟩ := hg
            exact fin _ _ ρ' q1 q2 q3 q4
          · obtain ⟨ρ', q1, q2, q3, q4⟩ := hg
            exact fin _ _ ρ' q1 q2 q3 q4
          · obtain ⟨e1, hcc⟩ := hg
            subst e1
            refine ⟨fun q => (by rw [hF.depth] at q; cases q), (hF.calls hcc).mono fun e w'' he => ?_⟩
            obtain ⟨u, ρ', e2, q1, q2, q3, q4⟩ := he
            subst e2
            exact fin _ _ ρ' q1 q2 q3 q4
          · obtain ⟨e1, hcc⟩ := hg
            subst e1
            refine ⟨fun q => (by rw [hF.depth] at q; cases q), (hcc F _ hF).mono fun e w'' he => ?_⟩
            obtain ⟨u, ρ', e2, q1, q2, q3, q4⟩ := he
            subst e2
            exact fin _ _ ρ' q1 q2 q3 q4
          · exact hg.elim

end
end Go.Sx
