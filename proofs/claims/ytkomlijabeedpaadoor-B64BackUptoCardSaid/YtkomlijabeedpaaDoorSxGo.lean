import Derived.Test.YtkomlijabeedpaaDoorSxW2
import Derived.Test.YtkomlijabeedpaaDoorSxRn
import Derived.Test.YtkomlijabeedpaaDoorSxSw
import Derived.Scope
import Derived.Lib.OthersKept
namespace Go.Sx

section
variable {R : Type}

def hasP (h : Heap) : List (Nat × Nat) → List (Nat × Nat)
  | [] => []
  | (a, c) :: r => match hasKey a h with
    | true => (a, c) :: hasP h r
    | false => hasP h r

def keepG (pb : Nat) (an : Ann) (id : Nat) (s : St) : St :=
  match lk (id + 1000000) an with
  | some (fs, ts) => renS pb (hasP (keep an id s).hp (zipP fs ts)) (keep an id s)
  | none => keep an id s

def keepF (pb : Nat) (an : Ann) (c : Code) (s : St) : St :=
  match firstReg c with
  | some i => keepG pb an i s
  | none => s

def isCut (cut : List Nat) (c : Code) : Bool :=
  match firstReg c with
  | some i => anyB (Nat.beq i) cut
  | none => false

def goC (pb : Nat) (an : Ann) (b : Bool) (t : St → Option R) (c : Code) (f : St → Option R) (s : St) : Option R :=
  match b with
  | true => t (keepF pb an c s)
  | false => f s

def tokReady (h : Heap) : Bool :=
  match lk 448 h with
  | some x => Nat.beq x.ty 0
  | none => false
def tokEq (h h' : Heap) : Bool :=
  match lk 448 h' with
  | none => true
  | some y => match lk 448 h with
    | some x => Nat.beq x.ty y.ty
    | none => false
def ycall (o : Oper) (s : St) : Option (List AV) :=
  match o.op with
  | .call c => match c.callee with
    | .value (.tmp t) => match lk t s.sl with
      | some (.yld b) => match Nat.beq b 449 with
        | true => evs (ev s) c.args.toList
        | false => none
      | _ => none
    | _ => none
  | _ => none

def opsY (A : Ar) (T : Tys) (O : Orc) (ops : List Oper) : Nat → List Oper → St → (St → Option R) → (Heap → St → Option R) → Option R
  | _, [], s, k, _ => k s
  | sid, o :: r, s, k, kx => wantD ops o s fun b => match b with
    | true => match ycall o s with
      | some vs => caseG (O.ylg vs s.hp) fun p => match p with
        | (false, h') => match pinOk (mvOf h') with
          | true => opsD A T O.noYl ops (sid + 1) r (put ⟨invals (mvOf h') s.sl, s.hp⟩ o.dst (.v (.cell (.bool false))) h') (kx h')
          | false => none
        | (true, h') => match pinOk (mvOf h') with
          | true => opsY A T O ops (sid + 1) r (put ⟨invals (mvOf h') s.sl, s.hp⟩ o.dst (.v (.cell (.bool true))) h') k kx
          | false => none
      | none => opD A T O sid o s fun v h mv => match pinOk mv with
        | true => force (isG ops o.dst ops) v fun v => opsY A T O ops (sid + 1) r (put ⟨invals mv s.sl, s.hp⟩ o.dst v h) k kx
        | false => none
    | false => opsY A T O ops (sid + 1) r (put s o.dst (.v (.cell .un)) s.hp) k kx

def drawR0 (A : Ar) (T : Tys) (O : Orc) (ops : Array Oper) (base : Nat) (s : St) (k : St → Option R) : Option R :=
  match drawOk ops (tabOf [] ops.toList) with
  | true => drawD A T O ops (tabOf [] ops.toList) base 0 ops.toList s s.hp [] none k
  | false => none
def drawR (A : Ar) (T : Tys) (O : Orc) (ops : Array Oper) (base : Nat) (s : St) (k : St → Option R) : Option R :=
  match swapAt 0 ops.toList with
  | none => drawR0 A T O ops base s k
  | some x => drawR0 A T O (swOps x ops) base s k
def tokK (h : Heap) (k : St → Option R) (s : St) : Option R :=
  match tokEq h s.hp with
  | true => k s
  | false => none
def runeN (s : List Nat) (p : Nat) : Nat := (Utf8.decode ⟨(s.map UInt8.ofNat).toArray⟩ p).1
def stepN (s : List Nat) (p : Nat) : Nat := p + (Utf8.decode ⟨(s.map UInt8.ofNat).toArray⟩ p).2
def itK (h : Heap) (k : St → Option R) (s : St) : Option R :=
  match lk 409 h with
  | some x => k ⟨s.sl, hset 409 ⟨[], x.ty, 0⟩ s.hp⟩
  | none => match lk 409 s.hp with
    | none => k s
    | some _ => none
def isNx (t : Nat) : List Oper → Option (Nat × List Oper)
  | [] => none
  | o :: r => match o.op, o.dst, o.guard with
    | .next (.tmp x) true, some d, none => match Nat.beq x t with
      | true => some (d, r)
      | false => none
    | _, _, _ => none
def nextI (A : Ar) (T : Tys) (O : Orc) (sI : List Nat) (ops : List Oper) (base : Nat) (d : Nat) (r : List Oper) (s : St) (k : St → Option R) : Option R :=
  match lk 409 s.hp with
  | some x => match A.lt x.ty sI.length with
    | true => opsD A T O ops (base + 1) r (put s (some d) (.tup [.cell (.bool true), .cell (.int .i64 (A.ofN x.ty)), .cell (.int .i32 (A.ofN (runeN sI x.ty)))]) (hset 409 ⟨[], stepN sI x.ty, 0⟩ s.hp)) (itK (hset 409 ⟨[], stepN sI x.ty, 0⟩ s.hp) k)
    | false => opsD A T O ops (base + 1) r (put s (some d) (.tup [.cell (.bool false)]) s.hp) (itK s.hp k)
  | none => none
def regI (A : Ar) (T : Tys) (O : Orc) (t : Nat) (sI : List Nat) (ops : Array Oper) (base : Nat) (draw : Bool) (s : St) (k : St → Option R) : Option R :=
  match isNx t ops.toList with
  | some (d, r) => match draw with
    | false => nextI A T O sI ops.toList base d r s k
    | true => none
  | none => match draw with
    | false => opsD A T O ops.toList base ops.toList s (itK s.hp k)
    | true => drawR A T O ops base s (itK s.hp k)
def regN0 (A : Ar) (T : Tys) (O : Orc) (ops : Array Oper) (base : Nat) (draw : Bool) (s : St) (k : St → Option R) : Option R :=
  match O.tk with
  | false => match draw with
    | false => opsD A T O ops.toList base ops.toList s k
    | true => drawR A T O ops base s k
  | true => match tokReady s.hp with
    | true => match draw with
      | false => opsY A T O ops.toList base ops.toList s (tokK s.hp k) (fun h' => tokK h' k)
      | true => drawR A T O ops base s (tokK s.hp k)
    | false => match draw with
      | false => opsD A T O.noYl ops.toList base ops.toList s (tokK s.hp k)
      | true => none

def regN (A : Ar) (T : Tys) (O : Orc) (ops : Array Oper) (base : Nat) (draw : Bool) (s : St) (k : St → Option R) : Option R :=
  match O.nx with
  | none => regN0 A T O ops base draw s k
  | some (t, sI) => match O.tk with
    | true => none
    | false => regI A T O t sI ops base draw s k

def Cell.low : Cell → Bool
  | .ptr b _ _ => Nat.blt b 448
  | .sl b _ _ _ => Nat.blt b 448
  | _ => true
def segsLow : List Seg → Bool
  | [] => true
  | .one c :: r => c.low && segsLow r
  | _ :: r => segsLow r
def V1.low : V1 → Bool
  | .cell c => c.low
  | .agg l => segsLow l
def AV.low : AV → Bool
  | .v x => x.low
  | .tup l => allL V1.low l
  | .fn _ a c => allL V1.low a && allL V1.low c
  | .yld _ => false
def slLow : Slots → Bool
  | [] => true
  | (_, v) :: r => v.low && slLow r
def rgId (as bd : Code) : Option Nat :=
  match firstReg as with
  | some i => some i
  | none => firstReg bd
def nxK (O : Orc) (K : Ex → St → Option R) : Ex → St → Option R :=
  match O.nx with
  | none => K
  | some _ => fun ex s' => match lk 409 s'.hp with
    | none => K ex s'
    | some _ => none
def rngN (O : Orc) (i : Nat) (g : Operand) (s : St) (K : Ex → St → Option R) : Option R :=
  match O.tk with
  | true => none
  | false => match ev s g with
    | some v => match slLow s.sl with
      | true => caseG (O.rngg i v s.sl s.hp) fun p => match p with
        | (ex, h') => K ex ⟨s.sl, h'⟩
      | false => none
    | none => none

def codeN (A : Ar) (T : Tys) (O : Orc) (an : Ann) (cut : List Nat) (tbl : List Bool → St → Option R) : List Bool → Code → (Ex → St → Option R) → St → Option R
  | _, .skip, K, s => K .normal s
  | _, .region id ops draw, K, s => regN A T O ops ((id + 1) * 1000) draw (keepG O.pb an id s) (K .normal)
  | p, .seq a b, K, s => codeN A T O an cut tbl (false :: p) a (seqC (goC O.pb an (isCut cut b) (tbl (true :: p)) b (codeN A T O an cut tbl (true :: p) b K)) K) s
  | p, .cond c a b, K, s => match ev s c with
    | some (.v (.cell (.bool t))) => match t with
      | true => codeN A T O an cut tbl (false :: p) a K s
      | false => codeN A T O an cut tbl (true :: p) b K s
    | _ => none
  | p, .block id c, K, s => codeN A T O an cut tbl (false :: p) c (blockK id K) s
  | p, .loop c, _, s => tbl (false :: p) (keepF O.pb an c s)
  | _, .exit i, K, s => K (.exit i) s
  | _, .label _, K, s => K .normal s
  | p, .scope c, K, s => codeN A T O an cut tbl (false :: p) c K s
  | _, .ret, K, s => K .ret s
  | _, .rangeFunc g _ as bd, K, s => match rgId as bd with
    | some i => rngN O i g (keepG O.pb an (i + 2000000) s) (nxK O K)
    | none => none
  | _, _, _, _ => none

def posN (A : Ar) (T : Tys) (O : Orc) (an : Ann) (cut : List Nat) (tbl : List Bool → St → Option R) (body : Code) (K0 : Ex → St → Option R) : List Bool → Option (Code × (Ex → St → Option R))
  | [] => some (body, K0)
  | d :: p => match posN A T O an cut tbl body K0 p with
    | some (c, K) => match c with
      | .seq a b => match d with
        | true => some (b, K)
        | false => some (a, seqC (goC O.pb an (isCut cut b) (tbl (true :: p)) b (codeN A T O an cut tbl (true :: p) b K)) K)
      | .cond _ a b => match d with
        | true => some (b, K)
        | false => some (a, K)
      | .block id c => some (c, blockK id K)
      | .loop c => match d with
        | true => none
        | false => some (c, seqC (fun s => tbl (false :: p) (keepF O.pb an c s)) K)
      | .scope c => some (c, K)
      | _ => none
    | none => none

def nodeN (A : Ar) (T : Tys) (O : Orc) (an : Ann) (cut : List Nat) (tbl : List Bool → St → Option R) (body : Code) (K0 : Ex → St → Option R) (p : List Bool) (s : St) : Option R :=
  match posN A T O an cut tbl body K0 p with
  | some (c, K) => codeN A T O an cut tbl p c K s
  | none => none

def goD (A : Ar) (T : Tys) (O : Orc) (an : Ann) (cut : List Nat) (body : Code) (K0 : Ex → St → Option R) : Nat → List Bool → St → Option R
  | 0, _, _ => none
  | m + 1, p, s => nodeN A T O an cut (goD A T O an cut body K0 m) body K0 p s

section det
variable {A : Ar} {T : Tys} {O : Orc} {r : R}

theorem wantD_det' {ops : List Oper} {o : Oper} {s : St} {k : Bool → Option R} (hk : wantD ops o s k = some r) : ∃ b, k b = some r ∧ ∀ (R' : Type) (k' : Bool → Option R'), wantD ops o s k' = k' b := by
  unfold wantD at hk
  (repeat' (split at hk)) <;> first
    | (cases hk; done)
    | exact ⟨_, hk, fun R' k' => by simp only [wantD, *]⟩

theorem opsD_det (hD : ODet O) {ops : List Oper} (l : List Oper) : ∀ (sid : Nat) (s : St) (k : St → Option R), opsD A T O ops sid l s k = some r → ∃ s', k s' = some r ∧ ∀ k' : St → Option R, opsD A T O ops sid l s k' = k' s' := by
  induction l with
  | nil => intro sid s k hk; exact ⟨s, hk, fun k' => rfl⟩
  | cons o l ih =>
    intro sid s k hk
    simp only [opsD] at hk
    obtain ⟨b, h1, h2⟩ := wantD_det' hk
    cases b with
    | true =>
      obtain ⟨v, h, mv, g1, g2⟩ := opE_det hD h1
      split at g1
      · rename_i hp
        rw [force_eq] at g1
        obtain ⟨s', e1, e2⟩ := ih _ _ _ g1
        refine ⟨s', e1, fun k' => ?_⟩
        simp only [opsD]
        rw [h2]
        simp only [opD]
        rw [g2]
        simp only [hp, force_eq]
        exact e2 k'
      · cases g1
    | false =>
      obtain ⟨s', e1, e2⟩ := ih _ _ _ h1
      refine ⟨s', e1, fun k' => ?_⟩
      simp only [opsD]
      rw [h2]
      exact e2 k'

theorem lightD_det (hD : ODet O) {ops : Array Oper} {sid : Nat} {o : Oper} {s : St} {he : Heap} {k : AV → Option Blk → Option R} (hk : lightD A T O ops sid o s he k = some r) : ∃ v nb, k v nb = some r ∧ ∀ k' : AV → Option Blk → Option R, lightD A T O ops sid o s he k' = k' v nb := by
  rw [lightD_eq] at hk
  obtain ⟨b, h1, h2⟩ := wantD_det' hk
  cases b with
  | false => exact ⟨_, _, h1, fun k' => by rw [lightD_eq, h2]⟩
  | true =>
    obtain ⟨v, h', mv, g1, g2⟩ := opE_det (O := O.noYl) hD h1
    obtain ⟨nb, e1, _, e3, _⟩ := lightK_spec g1
    exact ⟨v, nb, e1, fun k' => by rw [lightD_eq, h2]; simp only; rw [g2]; exact e3 _ k'⟩

theorem drawD_det (hD : ODet O) {ops : Array Oper} {tab : List Nat} {base : Nat} (l : List Oper) : ∀ (i : Nat) (s : St) (he : Heap) (grp : List Nat) (g : Option Gt) (k : St → Option R), drawD A T O ops tab base i l s he grp g k = some r → ∃ s', k s' = some r ∧ ∀ k' : St → Option R, drawD A T O ops tab base i l s he grp g k' = k' s' := by
  induction l with
  | nil => intro i s he grp g k hk; exact ⟨s, hk, fun k' => rfl⟩
  | cons o l ih =>
    intro i s he grp g k hk
    simp only [drawD] at hk
    split at hk
    · rename_i hb
      obtain ⟨b, h1, h2⟩ := wantD_det' hk
      cases b with
      | true =>
        obtain ⟨v, h, mv, g1, g2⟩ := opE_det hD h1
        split at g1
        · rename_i hp
          rw [force_eq] at g1
          obtain ⟨s', e1, e2⟩ := ih _ _ _ _ _ _ g1
          refine ⟨s', e1, fun k' => ?_⟩
          simp only [drawD, hb]
          rw [h2]
          simp only [opD]
          rw [g2]
          simp only [hp, force_eq]
          exact e2 k'
        · cases g1
      | false =>
        obtain ⟨s', e1, e2⟩ := ih _ _ _ _ _ _ h1
        refine ⟨s', e1, fun k' => ?_⟩
        simp only [drawD, hb]
        rw [h2]
        exact e2 k'
    · rename_i hb
      split at hk
      · rename_i hg
        split at hk
        · rename_i hc
          obtain ⟨b, h1, h2⟩ := wantD_det' hk
          cases b with
          | true =>
            obtain ⟨v, h, mv, g1, g2⟩ := opE_det hD h1
            split at g1
            · split at g1
              · rename_i ho
                rw [force_eq] at g1
                obtain ⟨s', e1, e2⟩ := ih _ _ _ _ _ _ g1
                refine ⟨s', e1, fun k' => ?_⟩
                simp only [drawD, hb, hg, hc]
                rw [h2]
                simp only [opD]
                rw [g2]
                simp only [ho, force_eq]
                exact e2 k'
              · cases g1
            · cases g1
          | false =>
            obtain ⟨s', e1, e2⟩ := ih _ _ _ _ _ _ h1
            refine ⟨s', e1, fun k' => ?_⟩
            simp only [drawD, hb, hg, hc]
            rw [h2]
            exact e2 k'
        · cases hk
      · rename_i hg
        have second : lightD A T O ops (base + i) o s (heL base (tab.getD i 0) grp s.hp he) (fun v nb => match menOk base (tab.getD i 0) v nb grp with
          | true => force (isG ops.toList o.dst ops.toList) v fun v => drawD A T O ops tab base (i + 1) l (put s o.dst v (consNb (base + i) nb s.hp)) he (i :: grp) g k
          | false => none) = some r → ∃ s', k s' = some r ∧ ∀ k' : St → Option R, lightD A T O ops (base + i) o s (heL base (tab.getD i 0) grp s.hp he) (fun v nb => match menOk base (tab.getD i 0) v nb grp with
          | true => force (isG ops.toList o.dst ops.toList) v fun v => drawD A T O ops tab base (i + 1) l (put s o.dst v (consNb (base + i) nb s.hp)) he (i :: grp) g k'
          | false => none) = k' s' := by
          intro hk
          obtain ⟨v, nb, h1, h2⟩ := lightD_det hD hk
          split at h1
          · rename_i hm
            rw [force_eq] at h1
            obtain ⟨s', e1, e2⟩ := ih _ _ _ _ _ _ h1
            refine ⟨s', e1, fun k' => ?_⟩
            rw [h2]
            simp only [hm, force_eq]
            exact e2 k'
          · cases h1
        rcases g with _ | gt
        · simp only at hk
          obtain ⟨s', e1, e2⟩ := second hk
          refine ⟨s', e1, fun k' => ?_⟩
          simp only [drawD, hb, hg]
          exact e2 k'
        · simp only at hk
          split at hk
          · rename_i he2
            obtain ⟨v, nb, h1, h2⟩ := lightD_det hD hk
            split at h1
            · split at h1
              · rename_i hm
                rw [force_eq] at h1
                obtain ⟨s', e1, e2⟩ := ih _ _ _ _ _ _ h1
                refine ⟨s', e1, fun k' => ?_⟩
                simp only [drawD, hb, hg, he2]
                rw [h2]
                simp only [hm, force_eq]
                exact e2 k'
              · cases h1
            · cases h1
          · rename_i he2
            obtain ⟨s', e1, e2⟩ := second hk
            refine ⟨s', e1, fun k' => ?_⟩
            simp only [drawD, hb, hg, he2]
            exact e2 k'

def LeK (K K' : Ex → St → Option R) : Prop := ∀ e s r, K e s = some r → K' e s = some r
def LeT (t t' : List Bool → St → Option R) : Prop := ∀ p s r, t p s = some r → t' p s = some r

theorem LeK.seqC {f f' : St → Option R} {K K' : Ex → St → Option R} (h : LeK K K') (hf : ∀ s r, f s = some r → f' s = some r) : LeK (seqC f K) (seqC f' K') := by
  intro e s r hh
  cases e with
  | normal => exact hf s r hh
  | exit i => exact h (.exit i) s r hh
  | ret => exact h .ret s r hh
theorem LeK.blockK {i : Nat} {K K' : Ex → St → Option R} (h : LeK K K') : LeK (blockK i K) (blockK i K') := by
  intro e s r hh
  cases e with
  | normal => exact h .normal s r hh
  | exit j =>
    unfold Sx.blockK at hh ⊢
    simp only at hh ⊢
    split at hh
    · exact h _ _ _ hh
    · exact h _ _ _ hh
  | ret => exact h .ret s r hh
theorem goC_le {pb : Nat} {an : Ann} {b : Bool} {t t' : St → Option R} {c : Code} {f f' : St → Option R} (ht : ∀ s r, t s = some r → t' s = some r) (hf : ∀ s r, f s = some r → f' s = some r) : ∀ s r, goC pb an b t c f s = some r → goC pb an b t' c f' s = some r := by
  intro s r h
  cases b with
  | true => exact ht _ _ h
  | false => exact hf _ _ h

theorem opsY_det (hD : ODet O) {ops : List Oper} (l : List Oper) : ∀ (sid : Nat) (s : St) (k : St → Option R) (kx : Heap → St → Option R), opsY A T O ops sid l s k kx = some r → (∃ s', k s' = some r ∧ ∀ (k' : St → Option R) (kx' : Heap → St → Option R), opsY A T O ops sid l s k' kx' = k' s') ∨ ∃ h' s', kx h' s' = some r ∧ ∀ (k' : St → Option R) (kx' : Heap → St → Option R), opsY A T O ops sid l s k' kx' = kx' h' s' := by
  induction l with
  | nil => intro sid s k kx hk; exact .inl ⟨s, hk, fun _ _ => rfl⟩
  | cons o l ih =>
    intro sid s k kx hk
    simp only [opsY] at hk
    obtain ⟨b, h1, h2⟩ := wantD_det' hk
    cases b with
    | true =>
      simp only at h1
      split at h1
      · rename_i vs hx
        rw [caseG_eq] at h1
        split at h1
        · rename_i q hy
          obtain ⟨b', h'⟩ := q
          cases b' with
          | false =>
            simp only at h1
            split at h1
            · rename_i hp
              obtain ⟨s', e1, e2⟩ := opsD_det (O := O.noYl) hD _ _ _ _ h1
              refine .inr ⟨h', s', e1, fun k' kx' => ?_⟩
              simp only [opsY]
              rw [h2]
              simp only [hx, caseG_eq, hy, hp]
              exact e2 _
            · cases h1
          | true =>
            simp only at h1
            split at h1
            · rename_i hp
              rcases ih _ _ _ _ h1 with ⟨s', e1, e2⟩ | ⟨h'', s', e1, e2⟩
              · refine .inl ⟨s', e1, fun k' kx' => ?_⟩
                simp only [opsY]
                rw [h2]
                simp only [hx, caseG_eq, hy, hp]
                exact e2 k' kx'
              · refine .inr ⟨h'', s', e1, fun k' kx' => ?_⟩
                simp only [opsY]
                rw [h2]
                simp only [hx, caseG_eq, hy, hp]
                exact e2 k' kx'
            · cases h1
        · cases h1
      · rename_i hx
        obtain ⟨v, h, mv, g1, g2⟩ := opE_det hD h1
        split at g1
        · rename_i hp
          rw [force_eq] at g1
          rcases ih _ _ _ _ g1 with ⟨s', e1, e2⟩ | ⟨h', s', e1, e2⟩
          · refine .inl ⟨s', e1, fun k' kx' => ?_⟩
            simp only [opsY]
            rw [h2]
            simp only [hx, opD]
            rw [g2]
            simp only [hp, force_eq]
            exact e2 k' kx'
          · refine .inr ⟨h', s', e1, fun k' kx' => ?_⟩
            simp only [opsY]
            rw [h2]
            simp only [hx, opD]
            rw [g2]
            simp only [hp, force_eq]
            exact e2 k' kx'
        · cases g1
    | false =>
      rcases ih _ _ _ _ h1 with ⟨s', e1, e2⟩ | ⟨h', s', e1, e2⟩
      · refine .inl ⟨s', e1, fun k' kx' => ?_⟩
        simp only [opsY]
        rw [h2]
        exact e2 k' kx'
      · refine .inr ⟨h', s', e1, fun k' kx' => ?_⟩
        simp only [opsY]
        rw [h2]
        exact e2 k' kx'
theorem drawR0_det (hD : ODet O) {ops : Array Oper} {base : Nat} {s : St} {k : St → Option R} (hk : drawR0 A T O ops base s k = some r) : ∃ s', k s' = some r ∧ ∀ k' : St → Option R, drawR0 A T O ops base s k' = k' s' := by
  unfold drawR0 at hk ⊢
  split at hk
  · rename_i h
    obtain ⟨s', h1, h2⟩ := drawD_det hD _ _ _ _ _ _ _ hk
    exact ⟨s', h1, h2⟩
  · cases hk
theorem drawR_det (hD : ODet O) {ops : Array Oper} {base : Nat} {s : St} {k : St → Option R} (hk : drawR A T O ops base s k = some r) : ∃ s', k s' = some r ∧ ∀ k' : St → Option R, drawR A T O ops base s k' = k' s' := by
  unfold drawR at hk ⊢
  split at hk
  · exact drawR0_det hD hk
  · exact drawR0_det hD hk
theorem tokK_le {h : Heap} {k k' : St → Option R} (hK : ∀ s r, k s = some r → k' s = some r) {s : St} (hk : tokK h k s = some r) : tokK h k' s = some r := by
  unfold tokK at hk ⊢
  split at hk
  · exact hK _ _ hk
  · cases hk
theorem itK_le {h : Heap} {k k' : St → Option R} (hK : ∀ s r, k s = some r → k' s = some r) {s : St} (hk : itK h k s = some r) : itK h k' s = some r := by
  unfold itK at hk ⊢
  split at hk
  · exact hK _ _ hk
  · split at hk
    · exact hK _ _ hk
    · cases hk
theorem regI_le (hD : ODet O) {t : Nat} {sI : List Nat} {ops : Array Oper} {base : Nat} {draw : Bool} {s : St} {k k' : St → Option R} (hK : ∀ s r, k s = some r → k' s = some r) (hk : regI A T O t sI ops base draw s k = some r) : regI A T O t sI ops base draw s k' = some r := by
  unfold regI at hk ⊢
  split at hk
  · cases draw with
    | true => cases hk
    | false =>
      simp only at hk ⊢
      unfold nextI at hk ⊢
      split at hk
      · split at hk
        · obtain ⟨s', h1, h2⟩ := opsD_det hD _ _ _ _ hk
          rw [h2]; exact itK_le hK h1
        · obtain ⟨s', h1, h2⟩ := opsD_det hD _ _ _ _ hk
          rw [h2]; exact itK_le hK h1
      · cases hk
  · cases draw with
    | false =>
      obtain ⟨s', h1, h2⟩ := opsD_det hD _ _ _ _ hk
      simp only
      rw [h2]; exact itK_le hK h1
    | true =>
      obtain ⟨s', h1, h2⟩ := drawR_det hD hk
      simp only
      rw [h2]; exact itK_le hK h1
theorem regN_le (hD : ODet O) {ops : Array Oper} {base : Nat} {draw : Bool} {s : St} {k k' : St → Option R} (hK : ∀ s r, k s = some r → k' s = some r) (hk : regN A T O ops base draw s k = some r) : regN A T O ops base draw s k' = some r := by
  unfold regN at hk ⊢
  split at hk
  case h_2 =>
    split at hk
    · cases hk
    · exact regI_le hD hK hk
  unfold regN0 at hk ⊢
  cases htk : O.tk with
  | false =>
    rw [htk] at hk
    cases draw with
    | false =>
      obtain ⟨s', h1, h2⟩ := opsD_det hD _ _ _ _ hk
      simp only
      rw [h2]; exact hK _ _ h1
    | true =>
      obtain ⟨s', h1, h2⟩ := drawR_det hD hk
      simp only
      rw [h2]; exact hK _ _ h1
  | true =>
    rw [htk] at hk
    cases ht : tokReady s.hp with
    | true =>
      rw [ht] at hk
      cases draw with
      | false =>
        rcases opsY_det hD _ _ _ _ _ hk with ⟨s', h1, h2⟩ | ⟨h', s', h1, h2⟩
        · simp only
          rw [h2]; exact tokK_le hK h1
        · simp only
          rw [h2]; exact tokK_le hK h1
      | true =>
        obtain ⟨s', h1, h2⟩ := drawR_det hD hk
        simp only
        rw [h2]; exact tokK_le hK h1
    | false =>
      rw [ht] at hk
      cases draw with
      | false =>
        obtain ⟨s', h1, h2⟩ := opsD_det (O := O.noYl) hD _ _ _ _ hk
        simp only
        rw [h2]; exact tokK_le hK h1
      | true => cases hk

theorem nxK_le {K K' : Ex → St → Option R} (hK : LeK K K') : LeK (nxK O K) (nxK O K') := by
  intro ex s r h
  unfold nxK at h ⊢
  cases hnx : O.nx with
  | none =>
    simp only [hnx] at h ⊢
    exact hK _ _ _ h
  | some q =>
    simp only [hnx] at h ⊢
    split at h
    · exact hK _ _ _ h
    · cases h
theorem codeN_le (hD : ODet O) {an : Ann} {cut : List Nat} {t t' : List Bool → St → Option R} (ht : LeT t t') (c : Code) : ∀ (p : List Bool) (K K' : Ex → St → Option R), LeK K K' → ∀ s r, codeN A T O an cut t p c K s = some r → codeN A T O an cut t' p c K' s = some r := by
  induction c with
  | skip => intro p K K' hK s r h; exact hK _ _ _ h
  | label l => intro p K K' hK s r h; exact hK _ _ _ h
  | exit i => intro p K K' hK s r h; exact hK _ _ _ h
  | ret => intro p K K' hK s r h; exact hK _ _ _ h
  | region id ops draw =>
    intro p K K' hK s r h
    simp only [codeN] at h ⊢
    exact regN_le hD (fun s r => hK .normal s r) h
  | seq a b iha ihb =>
    intro p K K' hK s r h
    simp only [codeN] at h ⊢
    exact iha _ _ _ (hK.seqC (goC_le (fun s r => ht _ s r) (fun s r => ihb _ _ _ hK s r))) _ _ h
  | cond x a b iha ihb =>
    intro p K K' hK s r h
    simp only [codeN] at h ⊢
    split at h
    · split at h
      · exact iha _ _ _ hK _ _ h
      · exact ihb _ _ _ hK _ _ h
    · cases h
  | block id c ih => intro p K K' hK s r h; exact ih _ _ _ hK.blockK _ _ h
  | loop c ih => intro p K K' hK s r h; exact ht _ _ _ h
  | scope c ih => intro p K K' hK s r h; exact ih _ _ _ hK _ _ h
  | rangeFunc g ps as bd iha ihb =>
    intro p K K' hK s r h
    simp only [codeN] at h ⊢
    split at h
    · unfold rngN at h ⊢
      split at h
      · cases h
      · rename_i htk
        split at h
        · rename_i v hv
          split at h
          · rename_i hl
            rw [caseG_eq] at h ⊢
            split at h
            · rename_i q hr
              obtain ⟨ex, h'⟩ := q
              exact nxK_le hK _ _ _ h
            · cases h
          · cases h
        · cases h
    · cases h
  | _ => intro p K K' hK s r h; simp [codeN] at h

theorem posN_le (hD : ODet O) {an : Ann} {cut : List Nat} {t t' : List Bool → St → Option R} (ht : LeT t t') {body : Code} {K0 : Ex → St → Option R} : ∀ (p : List Bool) (c : Code) (K : Ex → St → Option R), posN A T O an cut t body K0 p = some (c, K) → ∃ K', posN A T O an cut t' body K0 p = some (c, K') ∧ LeK K K' := by
  intro p
  induction p with
  | nil =>
    intro c K h
    simp only [posN, Option.some.injEq, Prod.mk.injEq] at h
    obtain ⟨rfl, rfl⟩ := h
    exact ⟨_, rfl, fun _ _ _ h => h⟩
  | cons d p ih =>
    intro c K h
    simp only [posN] at h ⊢
    split at h
    · rename_i c0 K1 h0
      obtain ⟨K1', g1, g2⟩ := ih _ _ h0
      rw [g1]
      cases c0 with
      | seq a b =>
        cases d with
        | true =>
          simp only [Option.some.injEq, Prod.mk.injEq] at h ⊢
          obtain ⟨rfl, rfl⟩ := h
          exact ⟨_, ⟨rfl, rfl⟩, g2⟩
        | false =>
          simp only [Option.some.injEq, Prod.mk.injEq] at h ⊢
          obtain ⟨rfl, rfl⟩ := h
          exact ⟨_, ⟨rfl, rfl⟩, g2.seqC (goC_le (fun s r => ht _ s r) (fun s r => codeN_le hD ht _ _ _ _ g2 s r))⟩
      | cond x a b =>
        cases d <;>
        · simp only [Option.some.injEq, Prod.mk.injEq] at h ⊢
          obtain ⟨rfl, rfl⟩ := h
          exact ⟨_, ⟨rfl, rfl⟩, g2⟩
      | block id c =>
        simp only [Option.some.injEq, Prod.mk.injEq] at h ⊢
        obtain ⟨rfl, rfl⟩ := h
        exact ⟨_, ⟨rfl, rfl⟩, g2.blockK⟩
      | loop c =>
        cases d with
        | true => cases h
        | false =>
          simp only [Option.some.injEq, Prod.mk.injEq] at h ⊢
          obtain ⟨rfl, rfl⟩ := h
          exact ⟨_, ⟨rfl, rfl⟩, g2.seqC (fun s r => ht _ _ r)⟩
      | scope c =>
        simp only [Option.some.injEq, Prod.mk.injEq] at h ⊢
        obtain ⟨rfl, rfl⟩ := h
        exact ⟨_, ⟨rfl, rfl⟩, g2⟩
      | _ => cases h
    · cases h

theorem goD_le1 (hD : ODet O) {an : Ann} {cut : List Nat} {body : Code} {K0 : Ex → St → Option R} (m : Nat) : LeT (goD A T O an cut body K0 m) (goD A T O an cut body K0 (m + 1)) := by
  induction m with
  | zero => intro p s r h; cases h
  | succ m ih =>
    intro p s r h
    simp only [goD] at h
    show nodeN A T O an cut (goD A T O an cut body K0 (m + 1)) body K0 p s = some r
    unfold nodeN at h ⊢
    split at h
    · rename_i c K hc
      obtain ⟨K', g1, g2⟩ := posN_le hD ih _ _ _ hc
      rw [g1]
      exact codeN_le hD ih _ _ _ _ g2 _ _ h
    · cases h
theorem goD_le (hD : ODet O) {an : Ann} {cut : List Nat} {body : Code} {K0 : Ex → St → Option R} {m n : Nat} (h : m ≤ n) : LeT (goD A T O an cut body K0 m) (goD A T O an cut body K0 n) := by
  induction h with
  | refl => exact fun _ _ _ h => h
  | step _ ih => exact fun p s r h => goD_le1 hD _ _ _ _ (ih _ _ _ h)
end det
end

section
variable {P : Program} {T : Tys} {O : Orc} {N : Nat} {S : Nat → Prop} {G I : Nat → World → Prop} {ρ₀ : Map} {w₀ : World} {cx : Cx} {F : Fence} {fu : Nat} {R : Type} {r : R}

theorem Rel.drewG {ρ : Map} {s : St} {a : Act} {w w' : World} (h : Rel N S ρ₀ w₀ cx ρ s a w) (hh : w'.heap = w.heap) (h1 : w'.os = w.os) (h2 : w'.tape = w.tape) (h3 : w'.output = w.output) : Rel N S ρ₀ w₀ cx ρ s a w' :=
  ⟨HR_drewN h.hr hh, h.sl, h.sz, h.df.world fun k o hk _ => by rw [hh]; exact hk, ⟨h1.trans h.fr.os, h2.trans h.fr.tape, h3.trans h.fr.output, by rw [hh]; exact h.fr.size, fun k hk hs => by rw [hh]; exact h.fr.block k hk hs, fun k o hk ho => by rw [hh]; exact h.fr.oth k o hk ho⟩, h.pin⟩
theorem Rel.here {ρ : Map} {s : St} {a : Act} {w : World} (h : Rel N S ρ₀ w₀ cx ρ s a w) : Rel N S ρ w cx ρ s a w := ⟨h.hr, h.sl, h.sz, h.df, Fr.refl _ _ _, fun _ _ => rfl⟩
theorem Rel.from {ρ ρ' : Map} {s s' : St} {a a' : Act} {w w' : World} (h : Rel N S ρ₀ w₀ cx ρ s a w) (h' : Rel N S ρ w cx ρ' s' a' w') : Rel N S ρ₀ w₀ cx ρ' s' a' w' :=
  ⟨h'.hr, h'.sl, h'.sz, h'.df, h.fr.trans h'.fr, fun b hb => (h'.pin b hb).trans (h.pin b hb)⟩

structure RelG (N : Nat) (S : Nat → Prop) (G I : Nat → World → Prop) (ρ₀ : Map) (w₀ : World) (cx : Cx) (ρ : Map) (s : St) (a : Act) (w : World) : Prop where
  rel : Rel N S ρ₀ w₀ cx ρ s a w
  tok : ∀ x, lk 448 s.hp = some x → G x.ty w
  itk : ∀ x, lk 409 s.hp = some x → I x.ty w

theorem keep_hp {an : Ann} {id b : Nat} {s : St} {x : Blk} (h : lk b (keep an id s).hp = some x) : lk b s.hp = some x := by
  unfold keep at h
  split at h
  · exact lk_pick2 h
  · exact h
theorem RelG.keepG {ρ : Map} {s : St} {a : Act} {w : World} (h : RelG N S G I ρ₀ w₀ cx ρ s a w) (an : Ann) (id : Nat) : ∃ ρ', RelG N S G I ρ₀ w₀ cx ρ' (keepG cx.pb an id s) a w := by
  unfold Sx.keepG
  split
  · rename_i fs ts _
    obtain ⟨ρ', h1⟩ := (h.rel.keep an id).ren (hasP (keep an id s).hp (zipP fs ts))
    refine ⟨ρ', h1, fun x hx => ?_, fun x hx => ?_⟩
    · unfold renS at hx
      split at hx
      · rename_i hm
        obtain ⟨b, y, g1, g2, rfl⟩ := lk_hpRen hx
        rcases isTo_rnD (m := hasP (keep an id s).hp (zipP fs ts)) (b := b) with g | g
        · rw [g] at g2
          subst g2
          exact h.tok y (keep_hp g1)
        · rw [g2, isTo_tok hm] at g
          cases g
      · cases hx
    · unfold renS at hx
      split at hx
      · rename_i hm
        obtain ⟨b, y, g1, g2, rfl⟩ := lk_hpRen hx
        rcases isTo_rnD (m := hasP (keep an id s).hp (zipP fs ts)) (b := b) with g | g
        · rw [g] at g2
          subst g2
          exact h.itk y (keep_hp g1)
        · rw [g2, isTo_it hm] at g
          cases g
      · cases hx
  · exact ⟨ρ, h.rel.keep an id, fun x hx => h.tok x (keep_hp hx), fun x hx => h.itk x (keep_hp hx)⟩
theorem RelG.keepF {ρ : Map} {s : St} {a : Act} {w : World} (h : RelG N S G I ρ₀ w₀ cx ρ s a w) (an : Ann) (c : Code) : ∃ ρ', RelG N S G I ρ₀ w₀ cx ρ' (keepF cx.pb an c s) a w := by
  unfold Sx.keepF
  split
  · exact h.keepG an _
  · exact ⟨ρ, h⟩

def YExit (P : Program) (O : Orc) (N : Nat) (S : Nat → Prop) (G : Nat → World → Prop) (pb : Nat) (ρ₀ : Map) (w₀ : World) : Prop := ∀ (ρ : Map) (h : Heap) (w : World) (vs : List AV) (h' : Heap) (us : Array Value) (L : Loc), (∀ b, b < pb → ρ b = ρ₀ b) → G 0 w → Fr N S w₀ w → HR N S ρ h w → O.yl vs h = some (false, h') → RVs ρ vs us.toList → ρ 449 = some L →
  ∃ fn tmps as bd, (Instr.yield L.g us).run P w = .ok (.round L.g fn tmps as bd) w ∧ ∀ (F : Fence) (n : Nat), WideF F → RoundIn F n P L.g fn tmps as bd w fun e w'' => ∃ ρ', e = .returned (.bool false) ∧ HR N S ρ' h' w'' ∧ Fr N S w₀ w'' ∧ (∀ (k : Nat) (o : Obj), w.heap[k]? = some o → (∃ D, o = .deferred D) → w''.heap[k]? = some o) ∧ (∀ b, b ∉ mvOf h' → ρ' b = ρ b) ∧ ∀ x, lk 448 h' = some x → G x.ty w''
theorem yexit_none (hy : ∀ vs h, O.yl vs h = none) {pb : Nat} : YExit P O N S G pb ρ₀ w₀ := fun _ _ _ vs _ _ _ _ _ _ _ e => by rw [hy] at e; cases e

theorem ycall_spec {o : Oper} {s : St} {vs : List AV} (h : ycall o s = some vs) : ∃ c t, o.op = .call c ∧ c.callee = .value (.tmp t) ∧ lk t s.sl = some (.yld 449) ∧ evs (ev s) c.args.toList = some vs := by
  unfold ycall at h
  split at h
  · rename_i c hc
    split at h
    · rename_i t ht
      split at h
      · rename_i b hb
        split at h
        · rename_i h1
          have h1 := beq_true h1
          subst h1
          exact ⟨c, t, hc, ht, hb, h⟩
        · cases h
      · cases h
    · cases h
  · cases h
theorem opD_yld {A : Ar} {T : Tys} {R : Type} {sid : Nat} {o : Oper} {s : St} {vs : List AV} {h' : Heap} (h : ycall o s = some vs) (hy : O.yl vs s.hp = some (true, h')) (k : AV → Heap → List Nat → Option R) : opD A T O sid o s k = k (.v (.cell (.bool true))) h' (mvOf h') := by
  obtain ⟨c, t, hc, ht, hyl, hvs⟩ := ycall_spec h
  have hy : pickG (O.ylg vs s.hp) = some (true, h') := hy
  have he : ev s (.tmp t) = some (.yld 449) := hyl
  simp only [opD, opE, hc, ht, he, hvs, Nat.beq_refl, caseG_eq, hy]

theorem tokEq_spec {h h' : Heap} (he : tokEq h h' = true) {y : Blk} (hy : lk 448 h' = some y) : ∃ x, lk 448 h = some x ∧ x.ty = y.ty := by
  unfold tokEq at he
  rw [hy] at he
  simp only at he
  split at he
  · rename_i x hx; exact ⟨x, hx, beq_true he⟩
  · cases he
theorem RelG.close {ρ ρ' : Map} {s s' : St} {a a' : Act} {w w' : World} (hIt : ∀ c w, I c w) (hGs : ∀ c w w', G c w → Oth w w' → G c w') (h : RelG N S G I ρ₀ w₀ cx ρ s a w) (h' : Rel N S ρ w cx ρ' s' a' w') (he : tokEq s.hp s'.hp = true) : RelG N S G I ρ₀ w₀ cx ρ' s' a' w' :=
  ⟨h.rel.from h', fun y hy => by obtain ⟨x, hx, e⟩ := tokEq_spec he hy; rw [← e]; exact hGs _ _ _ (h.tok x hx) h'.fr.oth, fun _ _ => hIt _ _⟩
theorem tokK_spec {h : Heap} {k : St → Option R} {s : St} (hk : tokK h k s = some r) : tokEq h s.hp = true ∧ k s = some r := by
  unfold tokK at hk
  split at hk
  · rename_i h1; exact ⟨h1, hk⟩
  · cases hk

theorem opsY_sound (hIt : ∀ c w, I c w) (hF : WideF F) (hT : TyOK P T) (hO : OSound P O) (hGs : ∀ c w w', G c w → Oth w w' → G c w') (hX : YExit P O N S G cx.pb ρ₀ w₀) {ρr : Map} {sr : St} {ar : Act} {wr : World} (h0 : RelG N S G I ρ₀ w₀ cx ρr sr ar wr) (hg0 : G 0 wr) (hY : YSound P O cx.pb ρr wr) {ops : Array Oper} {base : Nat} (hb : 500 ≤ base) (hok : ∀ o ∈ ops.toList, ∀ d, o.dst = some d → cx.ok d) {k : St → Option R} {Q : Exit → Act → World → Prop}
    (hQ : ∀ ρ s a w, k s = some r → RelG N S G I ρ₀ w₀ cx ρ s a w → Q .normal a w) (l : List Oper) :
    ∀ (i : Nat) (ρ : Map) (s : St) (a : Act) (w : World), ops.toList.drop i = l → opsY realA T O ops.toList (base + i) l s (tokK sr.hp k) (fun h' => tokK h' k) = some r → Rel N S ρr wr cx ρ s a w → wpOpsIn F fu P ops Q (List.range' i l.length) a w := by
  induction l with
  | nil =>
    intro i ρ s a w _ hk h
    obtain ⟨h1, h2⟩ := tokK_spec hk
    exact hQ ρ s a w h2 (h0.close hIt hGs h h1)
  | cons o l ih =>
    intro i ρ s a w hl hk h
    have hi : ops[i]? = some o := by
      have : (ops.toList.drop i)[0]? = some o := by rw [hl]; rfl
      rw [List.getElem?_drop] at this
      simpa using this
    have ho : o ∈ ops.toList := by
      have : o ∈ ops.toList.drop i := by rw [hl]; exact List.mem_cons_self
      exact List.mem_of_mem_drop this
    have hl' : ops.toList.drop (i + 1) = l := by
      rw [← List.drop_drop, hl]; rfl
    simp only [List.length_cons, List.range'_succ, wpOpsIn, hi]
    simp only [opsY] at hk
    obtain ⟨b, hk, hw⟩ := want_sound h hk
    rw [hw]
    cases b with
    | true =>
      simp only [if_true]
      simp only at hk
      split at hk
      · rename_i vs hx
        rw [caseG_eq] at hk
        split at hk
        · rename_i q hy
          obtain ⟨qb, h'⟩ := q
          cases qb with
          | true =>
            refine (oper_sound hF hT hO hY h (by omega) (hok o ho) (k := fun v h mv => opsY realA T O ops.toList (base + i + 1) l (put ⟨invals mv s.sl, s.hp⟩ o.dst v h) (tokK sr.hp k) (fun h' => tokK h' k)) ((opD_yld hx hy _).trans hk) fun v h' mv ρ' a' w' hk' h' => ih (i + 1) _ _ _ _ hl' (by rw [← Nat.add_assoc]; exact hk') h')
          | false =>
            simp only at hk
            split at hk
            · rename_i hpin
              obtain ⟨c, t, hc, ht, hyl, hvs⟩ := ycall_spec hx
              obtain ⟨L, hL, hf⟩ := h.sl t _ hyl
              have hus : RVs ρ vs (c.args.map a.eval).toList := by simpa using evs_sound h.er hvs
              obtain ⟨fn, tmps, as, bd, e1, hR⟩ := hX ρ s.hp w vs h' (c.args.map a.eval) L (fun b hb => (h.pin b hb).trans (h0.rel.pin b hb)) (hGs _ _ _ hg0 h.fr.oth) (h0.rel.fr.trans h.fr) h.hr hy hus hL
              refine ⟨fun f _ => hF.fn f, ?_⟩
              rw [Oper.semAt_eq _ _ _ (fun c' e => by rw [hc] at e; cases e)]
              have hrun : (execOp a.eval o).run P w = .ok (.round L.g fn tmps as bd) w := by
                rw [← e1]
                simp only [execOp, hc]
                simp [resolve, ht, Deferred.ofValue, show a.eval (.tmp t) = _ from hf, invoke]
              rw [hrun]
              refine ⟨fun q => (by rw [hF.depth] at q; cases q), (hR F _ hF).mono fun e w'' he => ?_⟩
              obtain ⟨ρ', e2, g1, g2, g3, g4, g5⟩ := he
              subst e2
              have hpn := pinOk_spec hpin
              have hrel : RelG N S G I ρ₀ w₀ cx ρ' (put ⟨invals (mvOf h') s.sl, s.hp⟩ o.dst (.v (.cell (.bool false))) h') (a.put o.dst (.bool false)) w'' := by
                have old : ∀ t x, lk t (invals (mvOf h') s.sl) = some x → RV ρ' x (a.tmps.getD t undef) := by
                  intro t x hx
                  obtain ⟨q1, q2⟩ := lk_invals2 hx
                  rcases q2 with q2 | rfl
                  · refine RV_agree (fun b hb => g4 b (fun hb' => ?_)) (h.sl t x q2)
                    rw [q1 b hb'] at hb; cases hb
                  · trivial
                have df0 : DfOk cx a w'' := ⟨fun d hd => by obtain ⟨D, q1, q2, q3⟩ := h.df.m d hd; exact ⟨D, q1, q2, g3 D _ q3 ⟨_, rfl⟩⟩, h.df.n, h.df.b⟩
                have df := df0.put (hok o ho) (.bool false)
                have pin : ∀ b, b < cx.pb → ρ' b = ρ₀ b := fun b hb => (g4 b (fun hb' => by have := hpn b hb'; have := cx.le; omega)).trans ((h.pin b hb).trans (h0.rel.pin b hb))
                refine ⟨?_, fun x hx => g5 x (by rw [put_hp] at hx; exact hx), fun _ _ => hIt _ _⟩
                cases hd : o.dst with
                | none => rw [hd] at df; exact ⟨g1, old, h.sz, df, g2, pin⟩
                | some d =>
                  rw [hd] at df
                  refine ⟨g1, fun t x hx => ?_, by simp [Act.put, h.sz], df, g2, pin⟩
                  simp only [put] at hx
                  rw [lk_cons] at hx
                  split at hx
                  · rename_i e
                    subst e
                    simp only [Option.some.injEq] at hx
                    subst hx
                    have hlt : d < a.tmps.size := by rw [h.sz]; exact (hok o ho d hd).1
                    show RV ρ' _ ((a.tmps.setIfInBounds d _).getD d undef)
                    rw [Array.getD_eq_getD_getElem?, Array.getElem?_setIfInBounds_self_of_lt hlt]
                    rfl
                  · rename_i e
                    show RV ρ' _ ((a.tmps.setIfInBounds d _).getD t undef)
                    rw [Array.getD_eq_getD_getElem?, Array.getElem?_setIfInBounds_ne e, ← Array.getD_eq_getD_getElem?]
                    exact old t x hx
              have := ops_sound (P := P) (O := O.noYl) (N := N) (S := S) (ρ₀ := ρ') (w₀ := w'') (fu := fu) (Q := Q) hF hT hO (ysound_none fun _ _ => rfl) (base := base) hb hok (fun ρ2 s2 a2 w2 hk2 h2 => by
                obtain ⟨q1, q2⟩ := tokK_spec hk2
                exact hQ ρ2 s2 a2 w2 q2 (hrel.close hIt hGs h2 (by rw [put_hp]; exact q1))) l (i + 1) ρ' _ _ w'' hl' (by rw [← Nat.add_assoc]; exact hk) hrel.rel.here
              exact this
            · cases hk
        · cases hk
      · refine (oper_sound hF hT hO hY h (by omega) (hok o ho) hk fun v h' mv ρ' a' w' hk' h' => ih (i + 1) _ _ _ _ hl' (by rw [← Nat.add_assoc]; rw [force_eq] at hk'; exact hk') h')
    | false =>
      simp only [Bool.false_eq_true, if_false]
      refine ⟨fun f _ => hF.fn f, ih (i + 1) ρ _ _ _ hl' (by rw [← Nat.add_assoc]; exact hk) ?_⟩
      exact h.step (sid := base + i) (mv := []) (by omega) rfl (show RV ρ (.v (.cell .un)) undef from rfl) h.hr (Fr.refl _ _ _) (fun _ _ _ => rfl) (hok o ho)

def noDraw : Code → Bool
  | .region _ _ d => !d
  | .seq a b => noDraw a && noDraw b
  | .cond _ a b => noDraw a && noDraw b
  | .block _ c => noDraw c
  | .loop c => noDraw c
  | .scope _ => false
  | _ => true

theorem ready_spec {h : Heap} (hr : tokReady h = true) : ∃ x, lk 448 h = some x ∧ x.ty = 0 := by
  unfold tokReady at hr
  split at hr
  · rename_i x hx; exact ⟨x, hx, beq_true hr⟩
  · cases hr

theorem drawR_sound (hF : WideF F) (hro : F.round = none) (hM : P.follows .mixedOrders = true) (hT : TyOK P T) (hO : OSound P O) (hD : ODet O) (hY : YSound P O cx.pb ρ₀ w₀) {id base : Nat} {ops : Array Oper} (hb : 500 ≤ base) (hok : ∀ o ∈ ops.toList, ∀ d, o.dst = some d → cx.ok d) {k : St → Option R} {Q : Exit → Act → World → Prop} (hQp : ∀ c a w, ¬ Q (.panic c) a w)
    (hQ : ∀ ρ s a w, k s = some r → Rel N S ρ₀ w₀ cx ρ s a w → Q .normal a w) {ρ : Map} {s : St} {a : Act} {w : World} (hk : drawR realA T O ops base s k = some r) (h : Rel N S ρ₀ w₀ cx ρ s a w) : (Code.region id ops true).wpIn F fu P Q a w := by
  have one : ∀ ops' : Array Oper, (∀ o ∈ ops'.toList, ∀ d, o.dst = some d → cx.ok d) → drawR0 realA T O ops' base s k = some r → wpAnyIn F fu P .any ops' Q ops'.size (Array.replicate ops'.size false) a { w with drawn := w.drawn + 1 } := fun ops hok hk => by
    unfold drawR0 at hk
    split at hk
    · rename_i hok2
      have hrel : Rel N S ρ₀ w₀ cx ρ s a { w with drawn := w.drawn + 1 } := h.drewG rfl rfl rfl rfl
      refine draw_sound (P := P) hF hro hT hO hD hY (base := base) hb (drawOk_spec hok2) hok hQ hQp ops.size _ a _ (Phase.start hT hO hD (Nat.zero_le _) (by simp) (fun j hj => by omega) (fun j _ hl => ?_) (fun j m hj _ => ?_) hrel hk) ?_
      · simp only [Lst, Array.getD_eq_getD_getElem?, Array.getElem?_replicate] at hl
        split at hl <;> simp at hl
      · simp only [Lst, Array.getD_eq_getD_getElem?, Array.getElem?_replicate] at hj
        split at hj <;> simp at hj
      · rw [Array.toList_replicate]
        have := List.count_le_length (a := false) (l := List.replicate ops.size false)
        rw [List.length_replicate] at this
        exact this
    · cases hk
  refine wpIn_region_any hM ?_
  unfold drawR at hk
  split at hk
  · exact one ops hok hk
  · rename_i x hx
    have hlt : x + 1 < ops.size := by simpa using swapAt_lt hx
    have h1 := one (swOps x ops) (fun o ho d hd => by
      obtain ⟨p, h1, h2⟩ := swOps_dst ho
      exact hok p h1 d (by rw [← h2]; exact hd)) hk
    rw [swOps_size] at h1
    refine wpAnyIn_sw hlt ops.size _ _ a _ rfl (by simpa using hlt) (fun i d => ?_) h1
    simp only [Array.getD_eq_getD_getElem?, Array.getElem?_replicate, swN_lt hlt]

theorem regN0_sound (hIt : ∀ c w, I c w) (hF : WideF F) {draw : Bool} (hdr : F.round = none ∨ draw = false) (hM : P.follows .mixedOrders = true) (hT : TyOK P T) (hO : OSound P O) (hD : ODet O) (hGs : ∀ c w w', G c w → Oth w w' → G c w') (hG0 : O.tk = false → ∀ c w, G c w) (hY : ∀ ρ w, (∀ b, b < cx.pb → ρ b = ρ₀ b) → G 0 w → YSound P O cx.pb ρ w) (hX : YExit P O N S G cx.pb ρ₀ w₀) {id base : Nat} {ops : Array Oper} (hb : 500 ≤ base) (hok : ∀ o ∈ ops.toList, ∀ d, o.dst = some d → cx.ok d) {k : St → Option R} {Q : Exit → Act → World → Prop} (hQp : ∀ c a w, ¬ Q (.panic c) a w)
    (hQ : ∀ ρ s a w, k s = some r → RelG N S G I ρ₀ w₀ cx ρ s a w → Q .normal a w) {ρ : Map} {s : St} {a : Act} {w : World} (hk : regN0 realA T O ops base draw s k = some r) (h : RelG N S G I ρ₀ w₀ cx ρ s a w) : (Code.region id ops draw).wpIn F fu P Q a w := by
  have txt : ∀ {O' : Orc} {k' : St → Option R}, OSound P O' → YSound P O' cx.pb ρ w → (∀ ρ' s' a' w', k' s' = some r → Rel N S ρ w cx ρ' s' a' w' → Q .normal a' w') → opsD realA T O' ops.toList base ops.toList s k' = some r → (Code.region id ops false).wpIn F fu P Q a w := by
    intro O' k' hO' hY' hQ' hk'
    refine wpIn_region ?_
    rw [List.range_eq_range']
    have := ops_sound (P := P) (O := O') (fu := fu) (Q := Q) hF hT hO' hY' hb hok hQ' ops.toList 0 ρ s a w rfl (by rw [Nat.add_zero]; exact hk') h.rel.here
    simpa using this
  unfold regN0 at hk
  split at hk
  · rename_i htk
    have triv := hG0 htk
    have hYr := hY ρ w h.rel.pin (triv _ _)
    have fin : ∀ ρ' s' a' w', k s' = some r → Rel N S ρ w cx ρ' s' a' w' → Q .normal a' w' := fun ρ' s' a' w' h1 h2 => hQ ρ' s' a' w' h1 ⟨h.rel.from h2, fun x _ => triv _ _, fun _ _ => hIt _ _⟩
    split at hk
    · exact txt hO hYr fin hk
    · exact drawR_sound hF (hdr.resolve_right (by simp)) hM hT hO hD hYr hb hok hQp fin hk h.rel.here
  · have fin : ∀ ρ' s' a' w', tokK s.hp k s' = some r → Rel N S ρ w cx ρ' s' a' w' → Q .normal a' w' := fun ρ' s' a' w' h1 h2 => by
      obtain ⟨q1, q2⟩ := tokK_spec h1
      exact hQ ρ' s' a' w' q2 (h.close hIt hGs h2 q1)
    split at hk
    · rename_i hrd
      obtain ⟨x, hx, h0⟩ := ready_spec hrd
      have hg0 : G 0 w := by rw [← h0]; exact h.tok x hx
      have hYr := hY ρ w h.rel.pin hg0
      split at hk
      · refine wpIn_region ?_
        rw [List.range_eq_range']
        have := opsY_sound hIt (P := P) (fu := fu) (Q := Q) hF hT hO hGs hX h hg0 hYr hb hok hQ ops.toList 0 ρ s a w rfl (by rw [Nat.add_zero]; exact hk) h.rel.here
        simpa using this
      · exact drawR_sound hF (hdr.resolve_right (by simp)) hM hT hO hD hYr hb hok hQp fin hk h.rel.here
    · split at hk
      · exact txt (O' := O.noYl) hO (ysound_none fun _ _ => rfl) fin hk
      · cases hk


def NxOk (N : Nat) (I : Nat → World → Prop) (ρ₀ : Map) (w₀ : World) (cx : Cx) (t : Nat) (sI : List Nat) : Prop := ∃ (g : Nat) (s' : ByteArray), natsOf s' = sI ∧ memB t cx.L = true ∧ cx.base t = .pointer (some ⟨g, 0, none⟩) ∧ ρ₀ 409 = none ∧ 409 < cx.pb ∧ N ≤ w₀.heap.size ∧ w₀.heap.size ≤ g ∧ ∀ c w, I c w ↔ w.heap[g]? = some (.stringIter s' c)
theorem bytes_natsOf (s : ByteArray) : (⟨((natsOf s).map UInt8.ofNat).toArray⟩ : ByteArray) = s := by
  have : (natsOf s).map UInt8.ofNat = s.data.toList := by
    unfold natsOf
    rw [List.map_map]
    conv => rhs; rw [← List.map_id s.data.toList]
    apply List.map_congr_left
    intro x _
    simp
  rw [this]
theorem isNx_spec {t : Nat} {l : List Oper} {d : Nat} {r : List Oper} (h : isNx t l = some (d, r)) : ∃ o, l = o :: r ∧ o.op = .next (.tmp t) true ∧ o.dst = some d ∧ o.guard = none := by
  unfold isNx at h
  split at h
  · cases h
  · split at h
    · rename_i h1 h2 h3
      split at h
      · rename_i hb
        have := beq_true hb
        subst this
        simp only [Option.some.injEq, Prod.mk.injEq] at h
        obtain ⟨rfl, rfl⟩ := h
        exact ⟨_, rfl, h1, h2, h3⟩
      · cases h
    · cases h
theorem lk_hset_ne {b c : Nat} {x : Blk} (h : c ≠ b) : ∀ hp : Heap, lk c (hset b x hp) = lk c hp
  | [] => by simp only [hset, lk_cons, if_neg (Ne.symm h)]
  | (i, v) :: r => by
    simp only [hset]
    split
    · rename_i e
      have := beq_true e
      subst this
      simp only [lk_cons, if_neg (Ne.symm h)]
    · simp only [lk_cons]
      split
      · rfl
      · exact lk_hset_ne h r
theorem lk_hset_same {b : Nat} {x : Blk} : ∀ hp : Heap, lk b (hset b x hp) = some x
  | [] => by simp only [hset, lk_cons, if_true]
  | (i, v) :: r => by
    simp only [hset]
    split
    · rename_i e
      have := beq_true e
      subst this
      simp only [lk_cons, if_true]
    · rename_i e
      simp only [lk_cons]
      rw [if_neg (by intro q; subst q; simp at e)]
      exact lk_hset_same r
theorem HR_tok {ρ : Map} {h : Heap} {w : World} {p' : Nat} (hr : HR N S ρ h w) (hρ : ρ 409 = none) : HR N S ρ (hset 409 ⟨[], p', 0⟩ h) w := by
  refine ⟨hr.low, fun b x hb => ?_, fun b c x y L M hb hc hL hM hne how => ?_⟩
  · by_cases hb9 : b = 409
    · subst hb9
      rw [lk_hset_same] at hb
      simp only [Option.some.injEq] at hb
      subst hb
      exact .inl ⟨(by decide : (0 : Nat) ≠ 1), hρ, rfl, segsWf_nil⟩
    · rw [lk_hset_ne hb9] at hb
      exact hr.blk b x hb
  · have nb : b ≠ 409 := fun e => by subst e; rw [hρ] at hL; cases hL
    have nc : c ≠ 409 := fun e => by subst e; rw [hρ] at hM; cases hM
    rw [lk_hset_ne nb] at hb
    rw [lk_hset_ne nc] at hc
    exact hr.inj b c x y L M hb hc hL hM hne how
theorem itK_spec {ρ ρ' : Map} {s s' : St} {a a' : Act} {w w' : World} {k : St → Option R} (hGt : ∀ c w, G c w) (hIs : ∀ c w w', I c w → Oth w w' → I c w') (hk : itK s.hp k s' = some r) (h : RelG N S G I ρ₀ w₀ cx ρ s a w) (h' : Rel N S ρ w cx ρ' s' a' w') (hρ : ρ' 409 = none) : ∃ s'', k s'' = some r ∧ RelG N S G I ρ₀ w₀ cx ρ' s'' a' w' := by
  unfold itK at hk
  split at hk
  · rename_i x hx
    have hR := h.rel.from h'
    refine ⟨_, hk, ⟨HR_tok hR.hr hρ, hR.sl, hR.sz, hR.df, hR.fr, hR.pin⟩, fun _ _ => hGt _ _, fun y hy => ?_⟩
    rw [lk_hset_same] at hy
    simp only [Option.some.injEq] at hy
    subst hy
    exact hIs _ _ _ (h.itk x hx) h'.fr.oth
  · split at hk
    · rename_i hn
      exact ⟨_, hk, h.rel.from h', fun _ _ => hGt _ _, fun y hy => by rw [hn] at hy; cases hy⟩
    · cases hk
theorem HR_iter {ρ : Map} {h : Heap} {w : World} {g : Nat} {s' : ByteArray} {p p' : Nat} (hr : HR N S ρ h w) (hg : w.heap[g]? = some (.stringIter s' p)) (hρ : ρ 409 = none) : HR N S ρ (hset 409 ⟨[], p', 0⟩ h) (w.iterAt g s' p') := by
  have cell : ∀ {L : Loc} {cur ty fz}, w.heap[L.g]? = some (.cells cur ty fz) → (w.iterAt g s' p').heap[L.g]? = some (.cells cur ty fz) := by
    intro L cur ty fz h2
    rw [Lib.iterAt_other _ _ _ _ _ (fun e => by rw [e, hg] at h2; cases h2)]
    exact h2
  refine ⟨by rw [Lib.iterAt_size]; exact hr.low, fun b x hb => ?_, fun b c x y L M hb hc hL hM hne how => ?_⟩
  · by_cases hb9 : b = 409
    · subst hb9
      rw [lk_hset_same] at hb
      simp only [Option.some.injEq] at hb
      subst hb
      exact .inl ⟨(by decide : (0 : Nat) ≠ 1), hρ, rfl, segsWf_nil⟩
    · rw [lk_hset_ne hb9] at hb
      rcases hr.blk b x hb with h1 | ⟨L, cur, fz, h1, h2, h3⟩
      · exact .inl h1
      · exact .inr ⟨L, cur, fz, h1, cell h2, h3⟩
  · have nb : b ≠ 409 := fun e => by subst e; rw [hρ] at hL; cases hL
    have nc : c ≠ 409 := fun e => by subst e; rw [hρ] at hM; cases hM
    rw [lk_hset_ne nb] at hb
    rw [lk_hset_ne nc] at hc
    exact hr.inj b c x y L M hb hc hL hM hne how
theorem regI_sound (hF : WideF F) {draw : Bool} (hdr : F.round = none ∨ draw = false) (hM : P.follows .mixedOrders = true) (hT : TyOK P T) (hO : OSound P O) (hD : ODet O) (hGt : ∀ c w, G c w) (hIs : ∀ c w w', I c w → Oth w w' → I c w') (hY : ∀ ρ w, (∀ b, b < cx.pb → ρ b = ρ₀ b) → G 0 w → YSound P O cx.pb ρ w) {t : Nat} {sI : List Nat} (hN : NxOk N I ρ₀ w₀ cx t sI) {id base : Nat} {ops : Array Oper} (hb : 500 ≤ base) (hok : ∀ o ∈ ops.toList, ∀ d, o.dst = some d → cx.ok d) {k : St → Option R} {Q : Exit → Act → World → Prop} (hQp : ∀ c a w, ¬ Q (.panic c) a w)
    (hQ : ∀ ρ s a w, k s = some r → RelG N S G I ρ₀ w₀ cx ρ s a w → Q .normal a w) {ρ : Map} {s : St} {a : Act} {w : World} (hk : regI realA T O t sI ops base draw s k = some r) (h : RelG N S G I ρ₀ w₀ cx ρ s a w) : (Code.region id ops draw).wpIn F fu P Q a w := by
  have hYr : ∀ {ρ s a w}, RelG N S G I ρ₀ w₀ cx ρ s a w → YSound P O cx.pb ρ w := fun h => hY _ _ h.rel.pin (hGt _ _)
  have fin : ∀ {ρ s a w}, RelG N S G I ρ₀ w₀ cx ρ s a w → ∀ ρ' s' a' w', itK s.hp k s' = some r → Rel N S ρ w cx ρ' s' a' w' → Q .normal a' w' := fun h ρ' s' a' w' h1 h2 => by
    obtain ⟨_, _, _, _, _, hρ0, hpb9, _⟩ := hN
    have hρ9 : ρ' 409 = none := by rw [h2.pin 409 hpb9, h.rel.pin 409 hpb9]; exact hρ0
    obtain ⟨s'', q1, q2⟩ := itK_spec hGt hIs h1 h h2 hρ9
    exact hQ ρ' s'' a' w' q1 q2
  unfold regI at hk
  split at hk
  · rename_i d rr hnx
    obtain ⟨o, hl, ho, hd, hgd⟩ := isNx_spec hnx
    cases draw with
    | true => cases hk
    | false =>
      simp only at hk
      refine wpIn_region ?_
      have hsz : ops.size = rr.length + 1 := by rw [← Array.length_toList, hl]; rfl
      have hi : ops[0]? = some o := by rw [← Array.getElem?_toList, hl]; rfl
      have hl' : ops.toList.drop 1 = rr := by rw [hl]; rfl
      have hdo := hok o (by rw [hl]; exact List.mem_cons_self) d hd
      rw [hsz, List.range_eq_range', List.range'_succ]
      simp only [wpOpsIn, hi]
      have hw : Region.wanted o (yielded ops a.tmps) = true := by unfold Region.wanted; rw [hgd]
      rw [hw]
      simp only [if_true]
      refine ⟨fun f _ => hF.fn f, ?_⟩
      rw [Oper.semAt_eq _ _ _ (fun c' e => by rw [ho] at e; cases e)]
      obtain ⟨g, s', hs', hLm, hbase, hρ0, hpb9, hNw, hwg, hI⟩ := hN
      have hev : a.eval (.tmp t) = .pointer (some ⟨g, 0, none⟩) := by
        show a.tmps.getD t undef = _
        rw [h.rel.df.b t hLm, hbase]
      unfold nextI at hk
      split at hk
      · rename_i x hx
        have hit : w.heap[g]? = some (.stringIter s' x.ty) := (hI _ _).1 (h.itk x hx)
        have hρ9 : ρ 409 = none := by rw [h.rel.pin 409 hpb9]; exact hρ0
        have hlen : sI.length = s'.size := by rw [← hs', natsOf_length]
        have put_rel : ∀ {v : AV} {u : Value} {h' : Heap} {w' : World}, RV ρ v u → HR N S ρ h' w' → Fr N S w₀ w' → DfOk cx a w' → Rel N S ρ₀ w₀ cx ρ (put s (some d) v h') (a.put (some d) u) w' := by
          intro v u h' w' hv hr' hf' hdf
          refine ⟨hr', fun y z hz => ?_, by simp [Act.put, h.rel.sz], hdf.put (dst := some d) (fun _ e => by cases e; exact hdo) u, hf', h.rel.pin⟩
          simp only [put] at hz
          rw [lk_cons] at hz
          split at hz
          · rename_i e
            subst e
            simp only [Option.some.injEq] at hz
            subst hz
            have hlt : d < a.tmps.size := by rw [h.rel.sz]; exact hdo.1
            show RV ρ _ ((a.tmps.setIfInBounds d _).getD d undef)
            rw [Array.getD_eq_getD_getElem?, Array.getElem?_setIfInBounds_self_of_lt hlt]
            exact hv
          · rename_i e
            show RV ρ _ ((a.tmps.setIfInBounds d _).getD y undef)
            rw [Array.getD_eq_getD_getElem?, Array.getElem?_setIfInBounds_ne e, ← Array.getD_eq_getD_getElem?]
            exact h.rel.sl y z hz
        have go : ∀ {s2 : St} {a2 : Act} {w2 : World}, RelG N S G I ρ₀ w₀ cx ρ s2 a2 w2 → opsD realA T O ops.toList (base + 1) rr s2 (itK s2.hp k) = some r → wpOpsIn F fu P ops Q (List.range' 1 rr.length) a2 w2 := by
          intro s2 a2 w2 hg2 hk2
          exact ops_sound (P := P) (O := O) (fu := fu) (Q := Q) hF hT hO (hYr hg2) hb hok (fin hg2) rr 1 ρ s2 a2 w2 hl' hk2 hg2.rel.here
        split at hk
        · rename_i hlt
          have hlt' : x.ty < s'.size := by rw [← hlen]; exact of_decide_eq_true hlt
          have hrun : (execOp a.eval o).run P w = .ok (.value (.tuple #[.bool true, .int .i64 x.ty, .int .i32 (Utf8.decode s' x.ty).1])) (w.iterAt g s' (x.ty + (Utf8.decode s' x.ty).2)) := by
            simp only [execOp, ho, hev]
            rw [Sem.run_bind, Lib.run_next_any_at w g s' x.ty _ hit hlt']
            rfl
          rw [hrun, Oper.uponIn_value, hd]
          have hdec : Utf8.decode ⟨(sI.map UInt8.ofNat).toArray⟩ x.ty = Utf8.decode s' x.ty := by rw [← hs', bytes_natsOf]
          have hstep : stepN sI x.ty = x.ty + (Utf8.decode s' x.ty).2 := by unfold stepN; rw [hdec]
          have hrune : runeN sI x.ty = (Utf8.decode s' x.ty).1 := by unfold runeN; rw [hdec]
          rw [hstep, hrune] at hk
          refine go ⟨put_rel ?_ (HR_iter h.rel.hr hit hρ9) ?_ ?_, fun _ _ => hGt _ _, fun y hy => ?_⟩ (by rw [put_hp]; exact hk)
          · refine ⟨_, rfl, rfl, fun i y hy => ?_⟩
            match i, hy with
            | 0, hy => simp at hy; subst hy; exact ⟨_, rfl, rfl⟩
            | 1, hy => simp at hy; subst hy; exact ⟨_, rfl, rfl⟩
            | 2, hy => simp at hy; subst hy; exact ⟨_, rfl, rfl⟩
            | i + 3, hy => simp at hy
          · refine ⟨h.rel.fr.os, h.rel.fr.tape, h.rel.fr.output, by rw [Lib.iterAt_size]; exact h.rel.fr.size, fun k hk hs => ?_, fun k o' hk ho' => ?_⟩
            · rw [Lib.iterAt_other _ _ _ _ _ (by omega)]; exact h.rel.fr.block k hk hs
            · have := (Array.getElem?_eq_some_iff.1 hk).1
              rw [Lib.iterAt_other _ _ _ _ _ (by omega)]; exact h.rel.fr.oth k o' hk ho'
          · refine ⟨fun d' hd' => ?_, h.rel.df.n, h.rel.df.b⟩
            obtain ⟨D, q1, q2, q3⟩ := h.rel.df.m d' hd'
            refine ⟨D, q1, q2, ?_⟩
            rw [Lib.iterAt_other _ _ _ _ _ (fun e => by rw [e, hit] at q3; cases q3)]
            exact q3
          · rw [put_hp, lk_hset_same] at hy
            simp only [Option.some.injEq] at hy
            subst hy
            exact (hI _ _).2 (Lib.iterAt_heap w g s' _ _ hit)
        · rename_i hlt
          have hlt' : ¬ x.ty < s'.size := by rw [← hlen]; exact of_decide_eq_false hlt
          have hrun : (execOp a.eval o).run P w = .ok (.value (.tuple #[.bool false])) w := by
            simp only [execOp, ho, hev]
            rw [Sem.run_bind, Lib.run_next_end_at w g s' x.ty _ hit hlt']
            rfl
          rw [hrun, Oper.uponIn_value, hd]
          refine go ⟨put_rel ?_ h.rel.hr h.rel.fr h.rel.df, fun _ _ => hGt _ _, fun y hy => ?_⟩ (by rw [put_hp]; exact hk)
          · refine ⟨_, rfl, rfl, fun i y hy => ?_⟩
            match i, hy with
            | 0, hy => simp at hy; subst hy; exact ⟨_, rfl, rfl⟩
            | i + 1, hy => simp at hy
          · rw [put_hp] at hy
            exact h.itk y hy
      · cases hk
  · split at hk
    · refine wpIn_region ?_
      rw [List.range_eq_range']
      have := ops_sound (P := P) (O := O) (fu := fu) (Q := Q) hF hT hO (hYr h) hb hok (fin h) ops.toList 0 ρ s a w rfl (by rw [Nat.add_zero]; exact hk) h.rel.here
      simpa using this
    · exact drawR_sound hF (hdr.resolve_right (by simp)) hM hT hO hD (hYr h) hb hok hQp (fin h) hk h.rel.here
theorem regN_sound (hF : WideF F) {draw : Bool} (hdr : F.round = none ∨ draw = false) (hM : P.follows .mixedOrders = true) (hT : TyOK P T) (hO : OSound P O) (hD : ODet O) (hGs : ∀ c w w', G c w → Oth w w' → G c w') (hG0 : O.tk = false → ∀ c w, G c w) (hIs : ∀ c w w', I c w → Oth w w' → I c w') (hI0 : O.nx = none → ∀ c w, I c w) (hN : ∀ t sI, O.nx = some (t, sI) → NxOk N I ρ₀ w₀ cx t sI) (hY : ∀ ρ w, (∀ b, b < cx.pb → ρ b = ρ₀ b) → G 0 w → YSound P O cx.pb ρ w) (hX : YExit P O N S G cx.pb ρ₀ w₀) {id base : Nat} {ops : Array Oper} (hb : 500 ≤ base) (hok : ∀ o ∈ ops.toList, ∀ d, o.dst = some d → cx.ok d) {k : St → Option R} {Q : Exit → Act → World → Prop} (hQp : ∀ c a w, ¬ Q (.panic c) a w)
    (hQ : ∀ ρ s a w, k s = some r → RelG N S G I ρ₀ w₀ cx ρ s a w → Q .normal a w) {ρ : Map} {s : St} {a : Act} {w : World} (hk : regN realA T O ops base draw s k = some r) (h : RelG N S G I ρ₀ w₀ cx ρ s a w) : (Code.region id ops draw).wpIn F fu P Q a w := by
  unfold regN at hk
  split at hk
  · rename_i hnx
    exact regN0_sound (hI0 hnx) hF hdr hM hT hO hD hGs hG0 hY hX hb hok hQp hQ hk h
  · rename_i t sI hnx
    split at hk
    · cases hk
    · rename_i htk
      exact regI_sound hF hdr hM hT hO hD (hG0 htk) hIs hY (hN _ _ hnx) hb hok hQp hQ hk h

def PostG (N : Nat) (S : Nat → Prop) (G I : Nat → World → Prop) (ρ₀ : Map) (w₀ : World) (cx : Cx) (K : Ex → St → Option R) (r : R) : Exit → Act → World → Prop
  | .normal, a, w => ∃ ρ s, K .normal s = some r ∧ RelG N S G I ρ₀ w₀ cx ρ s a w
  | .exit i, a, w => ∃ ρ s, K (.exit i) s = some r ∧ RelG N S G I ρ₀ w₀ cx ρ s a w
  | .ret, a, w => ∃ ρ s, K .ret s = some r ∧ RelG N S G I ρ₀ w₀ cx ρ s a w
  | _, _, _ => False
theorem post_le {K K' : Ex → St → Option R} (h : LeK K K') {e : Exit} {a : Act} {w : World} (hp : PostG N S G I ρ₀ w₀ cx K r e a w) : PostG N S G I ρ₀ w₀ cx K' r e a w := by
  cases e with
  | normal => obtain ⟨ρ, s, g1, g2⟩ := hp; exact ⟨ρ, s, h _ _ _ g1, g2⟩
  | exit i => obtain ⟨ρ, s, g1, g2⟩ := hp; exact ⟨ρ, s, h _ _ _ g1, g2⟩
  | ret => obtain ⟨ρ, s, g1, g2⟩ := hp; exact ⟨ρ, s, h _ _ _ g1, g2⟩
  | _ => exact hp.elim

def rngs : Code → List Code
  | .seq a b => rngs a ++ rngs b
  | .cond _ a b => rngs a ++ rngs b
  | .block _ c => rngs c
  | .loop c => rngs c
  | .scope c => rngs c
  | .rangeFunc g ps as bd => [.rangeFunc g ps as bd]
  | _ => []
theorem rngs_pos {A : Ar} {an : Ann} {cut : List Nat} {t : List Bool → St → Option R} {body : Code} {K0 : Ex → St → Option R} : ∀ (p : List Bool) (c : Code) (K : Ex → St → Option R), posN A T O an cut t body K0 p = some (c, K) → ∀ x ∈ rngs c, x ∈ rngs body
  | [], c, K, h => by
    simp only [posN, Option.some.injEq, Prod.mk.injEq] at h
    obtain ⟨rfl, _⟩ := h
    exact fun x hx => hx
  | d :: p, c, K, h => by
    simp only [posN] at h
    split at h
    · rename_i c0 K1 h0
      have ih := rngs_pos p c0 K1 h0
      intro x hx
      refine ih x ?_
      cases c0 with
      | seq a b =>
        cases d with
        | true =>
          simp only [Option.some.injEq, Prod.mk.injEq] at h
          obtain ⟨rfl, _⟩ := h
          exact List.mem_append_right _ hx
        | false =>
          simp only [Option.some.injEq, Prod.mk.injEq] at h
          obtain ⟨rfl, _⟩ := h
          exact List.mem_append_left _ hx
      | cond y a b =>
        cases d with
        | true =>
          simp only [Option.some.injEq, Prod.mk.injEq] at h
          obtain ⟨rfl, _⟩ := h
          exact List.mem_append_right _ hx
        | false =>
          simp only [Option.some.injEq, Prod.mk.injEq] at h
          obtain ⟨rfl, _⟩ := h
          exact List.mem_append_left _ hx
      | block i c1 =>
        simp only [Option.some.injEq, Prod.mk.injEq] at h
        obtain ⟨rfl, _⟩ := h
        exact hx
      | loop c1 =>
        cases d with
        | true => cases h
        | false =>
          simp only [Option.some.injEq, Prod.mk.injEq] at h
          obtain ⟨rfl, _⟩ := h
          exact hx
      | scope c1 =>
        simp only [Option.some.injEq, Prod.mk.injEq] at h
        obtain ⟨rfl, _⟩ := h
        exact hx
      | _ => cases h
    · cases h

def exOf : Ex → Exit
  | .normal => .normal
  | .exit i => .exit i
  | .ret => .ret
def RngOk (P : Program) (O : Orc) (F : Fence) (fu : Nat) (N : Nat) (S : Nat → Prop) (ρ₀ : Map) (w₀ : World) (cx : Cx) (L : List Code) : Prop := ∀ (g : Operand) (ps : Array Tmp) (as bd : Code) (i : Nat), .rangeFunc g ps as bd ∈ L → rgId as bd = some i → ∀ (s : St) (v : AV) (ex : Ex) (h' : Heap) (ρ : Map) (a : Act) (w : World), O.rng i v s.sl s.hp = some (ex, h') → ev s g = some v → slLow s.sl = true → Rel N S ρ₀ w₀ cx ρ s a w →
  (Code.rangeFunc g ps as bd).wpIn F fu P (fun e a' w' => e = exOf ex ∧ ∃ ρ', Rel N S ρ₀ w₀ cx ρ' ⟨s.sl, h'⟩ a' w') a w
theorem rng_none (h : ∀ i v sl hp, O.rng i v sl hp = none) {L : List Code} : RngOk P O F fu N S ρ₀ w₀ cx L := fun _ _ _ _ i _ _ s v ex h' _ _ _ e => by rw [h] at e; cases e

theorem go_sound (hF : WideF F) (hM : P.follows .mixedOrders = true) (hT : TyOK P T) (hO : OSound P O) (hD : ODet O) (hpb : cx.pb = O.pb) (hGs : ∀ c w w', G c w → Oth w w' → G c w') (hG0 : O.tk = false → ∀ c w, G c w) (hIs : ∀ c w w', I c w → Oth w w' → I c w') (hI0 : O.nx = none → ∀ c w, I c w) (hN : ∀ t sI, O.nx = some (t, sI) → NxOk N I ρ₀ w₀ cx t sI) (hY : ∀ ρ w, (∀ b, b < cx.pb → ρ b = ρ₀ b) → G 0 w → YSound P O cx.pb ρ w) (hX : YExit P O N S G cx.pb ρ₀ w₀) {an : Ann} {cut : List Nat} {body : Code} (hR : RngOk P O F fu N S ρ₀ w₀ cx (rngs body)) {K0 : Ex → St → Option R} (m : Nat) :
    ∀ (c : Code) (p : List Bool) (K : Ex → St → Option R), posN realA T O an cut (goD realA T O an cut body K0 m) body K0 p = some (c, K) → codeOkL cx.nt cx.L c = true → (F.round = none ∨ noDraw c = true) → ∀ (s : St) (ρ : Map) (a : Act) (w : World), codeN realA T O an cut (goD realA T O an cut body K0 m) p c K s = some r → RelG N S G I ρ₀ w₀ cx ρ s a w → c.wpIn F fu P (PostG N S G I ρ₀ w₀ cx K r) a w := by
  induction m using Nat.strongRecOn with
  | ind m ihm =>
  intro c
  induction c with
  | skip => intro p K _ _ _ s ρ a w hk h; exact wpIn_skip ⟨ρ, s, hk, h⟩
  | label l => intro p K _ _ _ s ρ a w hk h; exact wpIn_label ⟨ρ, s, hk, h⟩
  | exit i => intro p K _ _ _ s ρ a w hk h; exact wpIn_exit ⟨ρ, s, hk, h⟩
  | ret => intro p K _ _ _ s ρ a w hk h; exact wpIn_ret ⟨ρ, s, hk, h⟩
  | region id ops draw =>
    intro p K _ hok hdr s ρ a w hk h
    simp only [codeN] at hk
    rw [← hpb] at hk
    obtain ⟨ρ1, h1⟩ := h.keepG an id
    exact regN_sound (P := P) hF (hdr.imp (fun q => q) fun q => by simpa [noDraw] using q) hM hT hO hD hGs hG0 hIs hI0 hN hY hX (base := (id + 1) * 1000) (by omega) (opsOk_spec hok) (fun _ _ _ h => h) (fun ρ s a w hk h => ⟨ρ, s, hk, h⟩) hk h1
  | seq x y ihx ihy =>
    intro p K hp hok hdr s ρ a w hk h
    simp only [codeOkL, Bool.and_eq_true] at hok
    have hdx : F.round = none ∨ noDraw x = true := hdr.imp (fun q => q) fun q => by simp only [noDraw, Bool.and_eq_true] at q; exact q.1
    have hdy : F.round = none ∨ noDraw y = true := hdr.imp (fun q => q) fun q => by simp only [noDraw, Bool.and_eq_true] at q; exact q.2
    simp only [codeN] at hk
    have hp1 : posN realA T O an cut (goD realA T O an cut body K0 m) body K0 (false :: p) = some (x, seqC (goC O.pb an (isCut cut y) (goD realA T O an cut body K0 m (true :: p)) y (codeN realA T O an cut (goD realA T O an cut body K0 m) (true :: p) y K)) K) := by simp only [posN, hp]
    have hp2 : posN realA T O an cut (goD realA T O an cut body K0 m) body K0 (true :: p) = some (y, K) := by simp only [posN, hp]
    refine wpIn_seq (wpIn_mono (ihx _ _ hp1 hok.1 hdx s ρ a w hk h) fun e a' w' hq => ?_)
    cases e with
    | normal =>
      obtain ⟨ρ', s', g1, g2⟩ := hq
      change goC O.pb an (isCut cut y) _ y _ s' = some r at g1
      cases hc : isCut cut y with
      | false =>
        rw [hc] at g1
        exact ihy _ _ hp2 hok.2 hdy _ _ _ _ g1 g2
      | true =>
        rw [hc] at g1
        change goD realA T O an cut body K0 m (true :: p) (keepF O.pb an y s') = some r at g1
        rw [← hpb] at g1
        cases m with
        | zero => cases g1
        | succ m =>
          simp only [goD, nodeN] at g1
          split at g1
          · rename_i c' K' hc'
            obtain ⟨K'', e1, e2⟩ := posN_le hD (goD_le1 hD m) _ _ _ hc'
            rw [hp2] at e1
            simp only [Option.some.injEq, Prod.mk.injEq] at e1
            obtain ⟨rfl, rfl⟩ := e1
            obtain ⟨ρ2, g3⟩ := g2.keepF an y
            exact wpIn_mono (ihm m (Nat.lt_succ_self _) _ _ _ hc' hok.2 hdy _ _ _ _ g1 g3) fun _ _ _ hq => post_le e2 hq
          · cases g1
    | exit i => exact hq
    | ret => exact hq
    | _ => exact hq.elim
  | cond c x y ihx ihy =>
    intro p K hp hok hdr s ρ a w hk h
    simp only [codeOkL, Bool.and_eq_true] at hok
    have hdx : F.round = none ∨ noDraw x = true := hdr.imp (fun q => q) fun q => by simp only [noDraw, Bool.and_eq_true] at q; exact q.1
    have hdy : F.round = none ∨ noDraw y = true := hdr.imp (fun q => q) fun q => by simp only [noDraw, Bool.and_eq_true] at q; exact q.2
    simp only [codeN] at hk
    split at hk
    · rename_i t hc
      have hv : a.eval c = .bool t := h.rel.er c _ hc
      split at hk
      · exact wpIn_cond_true hv (ihx (false :: p) K (by simp only [posN, hp]) hok.1 hdx s ρ a w hk h)
      · exact wpIn_cond_false hv (ihy (true :: p) K (by simp only [posN, hp]) hok.2 hdy s ρ a w hk h)
    · cases hk
  | block id c ih =>
    intro p K hp hok hdr s ρ a w hk h
    simp only [codeN] at hk
    refine wpIn_block (wpIn_mono (ih (false :: p) _ (by simp only [posN, hp]) hok (hdr.imp (fun q => q) fun q => q) s ρ a w hk h) fun e a' w' hq => ?_)
    cases e with
    | normal => exact hq
    | exit i =>
      obtain ⟨ρ', s', g1, g2⟩ := hq
      simp only [Exit.inBlock]
      unfold blockK at g1
      simp only at g1
      split at g1
      · rename_i hi
        rw [if_pos (beq_true hi)]
        exact ⟨ρ', s', g1, g2⟩
      · rename_i hi
        rw [if_neg (by intro e; subst e; simp at hi)]
        exact ⟨ρ', s', g1, g2⟩
    | ret => exact hq
    | _ => exact hq.elim
  | loop c ih =>
    intro p K hp hok hdr s ρ a w hk h b k cs hro hfn hroom
    simp only [codeN] at hk
    rw [← hpb] at hk
    have key : ∀ j, j ≤ m → ∀ s ρ a w, goD realA T O an cut body K0 j (false :: p) s = some r → RelG N S G I ρ₀ w₀ cx ρ s a w →
        ∃ e a' w', PostG N S G I ρ₀ w₀ cx K r e a' w' ∧ ArrivesIn (Machine.fenced P F) P (lone (b.atR a (.code c :: .inLoop c :: k)) cs w) b k cs e a' w' := by
      intro j
      induction j with
      | zero => intro _ s ρ a w hk; cases hk
      | succ j ihj =>
        intro hj s ρ a w hk h
        simp only [goD, nodeN] at hk
        split at hk
        · rename_i c' K' hc'
          have hc2 := hc'
          simp only [posN] at hc2
          split at hc2
          · rename_i c0 K1 h0
            obtain ⟨K1', e1, e2⟩ := posN_le hD (goD_le hD (show j ≤ m by omega)) _ _ _ h0
            rw [hp] at e1
            simp only [Option.some.injEq, Prod.mk.injEq] at e1
            obtain ⟨rfl, rfl⟩ := e1
            simp only [Option.some.injEq, Prod.mk.injEq] at hc2
            obtain ⟨rfl, rfl⟩ := hc2
            obtain ⟨e, a₁, w₁, hq, harr⟩ := ihm j (by omega) _ _ _ hc' hok (hdr.imp (fun q => q) fun q => q) _ _ _ _ hk h b (.inLoop c :: k) cs hro hfn hroom
            cases e with
            | normal =>
              obtain ⟨ρ', s', g1, g2⟩ := hq
              rw [← hpb] at g1
              obtain ⟨ρ2, g3⟩ := g2.keepF an c
              obtain ⟨e₂, a₂, w₂, hq₂, harr₂⟩ := ihj (by omega) _ _ _ _ g1 g3
              exact ⟨e₂, a₂, w₂, hq₂, .of_steps (StepsIn.trans harr (.one (fenced_calm (fr := b.atR a₁ (.inLoop c :: k)) hfn hroom rfl) stepR_inLoop)) harr₂⟩
            | exit id =>
              obtain ⟨ρ', s', g1, g2⟩ := hq
              exact ⟨.exit id, a₁, w₁, ⟨ρ', s', e2 _ _ _ g1, g2⟩, .pass (x := .inLoop c) rfl (fun _ _ => .inl (by simp)) harr⟩
            | ret =>
              obtain ⟨ρ', s', g1, g2⟩ := hq
              exact ⟨.ret, a₁, w₁, ⟨ρ', s', e2 _ _ _ g1, g2⟩, .pass (x := .inLoop c) rfl (fun _ _ => .inl (by simp)) harr⟩
            | _ => exact hq.elim
          · cases hc2
        · cases hk
    obtain ⟨ρ1, h1⟩ := h.keepF an c
    obtain ⟨e, a', w', hq, harr⟩ := key m (Nat.le_refl _) _ ρ1 a w hk h1
    exact ⟨e, a', w', hq, .of_steps (.one (fenced_calm (fr := b.atR a (.code (.loop c) :: k)) hfn hroom rfl) stepR_loop) harr⟩
  | scope c ih =>
    intro p K hp hok hdr s ρ a w hk h
    simp only [codeN] at hk
    have hro : F.round = none := hdr.resolve_right (by simp [noDraw])
    have hw : F = Fence.wide := by
      rcases hF with e | ⟨l, e⟩
      · exact e
      · rw [e] at hro; cases hro
    have h1 := ih (false :: p) _ (by simp only [posN, hp]) hok (.inl hro) s ρ a w hk h
    rw [hw] at h1 ⊢
    refine wpIn_wide.2 (wp_scope_straight (wp_mono (wpIn_wide.1 h1) fun e a' w' hq => ?_))
    cases e with
    | goto l => exact hq.elim
    | _ => exact hq
  | rangeFunc g ps as bd iha ihb =>
    intro p K hp hok hdr s ρ a w hk h
    simp only [codeN] at hk
    split at hk
    · rename_i i hi
      rw [← hpb] at hk
      obtain ⟨ρ1, h1⟩ := h.keepG an (i + 2000000)
      unfold rngN at hk
      split at hk
      · cases hk
      · rename_i htk
        split at hk
        · rename_i v hv
          split at hk
          · rename_i hl
            rw [caseG_eq] at hk
            split at hk
            · rename_i q hr
              obtain ⟨ex, h'⟩ := q
              refine wpIn_mono (hR g ps as bd i (rngs_pos p _ _ hp _ List.mem_cons_self) hi _ v ex h' ρ1 a w hr hv hl h1.rel) fun e a' w' hq => ?_
              obtain ⟨rfl, ρ', hq⟩ := hq
              change nxK O K ex ⟨(keepG cx.pb an (i + 2000000) s).sl, h'⟩ = some r at hk
              have hg : K ex ⟨(keepG cx.pb an (i + 2000000) s).sl, h'⟩ = some r ∧ RelG N S G I ρ₀ w₀ cx ρ' ⟨(keepG cx.pb an (i + 2000000) s).sl, h'⟩ a' w' := by
                unfold nxK at hk
                cases hnx : O.nx with
                | none =>
                  simp only [hnx] at hk
                  exact ⟨hk, hq, fun x _ => hG0 htk _ _, fun x _ => hI0 hnx _ _⟩
                | some q =>
                  simp only [hnx] at hk
                  split at hk
                  · rename_i h9
                    exact ⟨hk, hq, fun x _ => hG0 htk _ _, fun x hx => by rw [h9] at hx; cases hx⟩
                  · cases hk
              obtain ⟨hk, hg⟩ := hg
              cases ex with
              | normal => exact ⟨ρ', _, hk, hg⟩
              | exit j => exact ⟨ρ', _, hk, hg⟩
              | ret => exact ⟨ρ', _, hk, hg⟩
            · cases hk
          · cases hk
        · cases hk
    · cases hk
  | _ => intro p K _ _ _ s ρ a w hk h; simp [codeN] at hk
end
def Prs {R : Type} (f : Nat → Option R) (a : Option R) : Prop := ∀ r, a = some r → ∃ m, f m = some r
theorem pn {R : Type} : Prs (fun _ => (none : Option R)) none := fun _ h => by cases h
theorem pn0 {R : Type} {f : Nat → Option R} : Prs f none := fun _ h => by cases h
theorem pf {R : Type} (a : Option R) : Prs (fun _ => a) a := fun _ h => ⟨0, h⟩
theorem pc {R : Type} {f g : Nat → Option R} {a : Option R} (h : Prs f a) (e : f = g) : Prs g a := e ▸ h
def Stp {R : Type} (nd : (List Bool → St → Option R) → List Bool → St → Option R) (tb : Nat → List Bool → St → Option R) : Prop := ∀ p s r m, nd (tb m) p s = some r → ∃ k, tb k p s = some r
theorem Stp.g {R : Type} {nd : (List Bool → St → Option R) → List Bool → St → Option R} {tb : Nat → List Bool → St → Option R} (h : Stp nd tb) {p : List Bool} {s : St} {a : Option R} (hp : Prs (fun m => nd (tb m) p s) a) : Prs (fun m => tb m p s) a := fun r hr => by
  obtain ⟨m, hm⟩ := hp r hr
  exact h p s r m hm

def funN {R : Type} (A : Ar) (T : Tys) (O : Orc) (an : Ann) (cut : List Nat) (c : Code) (rs : List ResultVar) (args : List AV) (h : Heap) (k : AV → Heap → Option R) (tb : List Bool → St → Option R) : Option R :=
  codeN A T O an cut tb [] c (finD T rs k) ⟨slotsOf 0 args, h⟩

theorem goD_stp {R : Type} {A : Ar} {T : Tys} {O : Orc} {an : Ann} {cut : List Nat} {body : Code} {K0 : Ex → St → Option R} : Stp (fun t p s => nodeN A T O an cut t body K0 p s) (goD A T O an cut body K0) := fun p s r m h => ⟨m + 1, h⟩
end Go.Sx
