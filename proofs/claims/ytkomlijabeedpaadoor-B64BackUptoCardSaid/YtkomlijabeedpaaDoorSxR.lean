import Derived.Test.YtkomlijabeedpaaDoorSxQ
namespace Go.Sx

section
variable {P : Program} {T : Tys} {O : Orc} {N : Nat} {S : Nat → Prop} {ρ : Map} {h : Heap} {w : World} {e : Operand → Option AV} {a : Act} {R : Type} {r : R} {sid : Nat} {fr : Bool} {k : AV → Heap → List Nat → Option R}

theorem run_fieldPlace (hT : TyOK P T) {A : Addr} {fd : Field} {fty : Ty} (hft : T fd.type = some fty) (hs : fty.size ≠ 0) (w : World) : (fieldPlace A fd).run P w = .ok (A.add fd.offset) w := by
  simp [fieldPlace, run_sizeOf hT hft, hs]

theorem fieldAddr_sound (hT : TyOK P T) (hr : HR N S ρ h w) (he : ER ρ e a) {t : TypeId} {x : Operand} {f : Nat} {o : Oper} (ho : o.op = .fieldAddr t x f) (hk : opE realA T O sid o e h fr k = some r) :
    ∃ v h' mv, k v h' mv = some r ∧ Good P N S ρ sid fr mv v h' w ((execOp a.eval o).run P w) := by
  simp only [opE, ho] at hk
  simp only [execOp, ho]
  split at hk
  · rename_i b oo i ty hx ht
    split at hk
    · rename_i off ft hf
      split at hk
      · rename_i fty hft
        obtain ⟨fs, fd, hu, hfd, e1, e2⟩ := fieldOf_spec hT ht hf
        subst e1; subst e2
        have hrun : ∀ A : Addr, fty.size ≠ 0 → a.eval x = .pointer (some A) → ((do pure (.value (← Instr.fieldAt t (a.eval x) f)) : Sem Next).run P w) = .ok (.value (.pointer (some (A.add fd.offset)))) w := by
          intro A hs hA
          rw [hA]
          simp [Instr.fieldAt, run_underlying hu, hfd, Instr.sureAddr, run_fieldPlace hT hft hs]
        obtain ⟨L, hL, hx'⟩ := he x _ hx
        split at hk
        · cases hk
        · rename_i hne
          split at hk
          · refine ⟨_, _, _, hk, ?_⟩
            rw [hrun _ (fun e0 => hne e0) hx', Addr.add_lit]
            exact Good.pure_ hr ⟨L, hL, by simp only [Nat.add_assoc]⟩
          · rename_i xx
            obtain ⟨q1, q2, q3, q4⟩ := hx'
            split at hk
            · rename_i hle
              have hle := ble_true hle
              refine ⟨_, _, _, hk, ?_⟩
              rw [hrun _ (fun e0 => hne e0) q1, Addr.add_lit]
              refine Good.pure_ hr ⟨L, hL, by simp only [Nat.add_assoc], by simp only; omega, by simp only; omega, fun hz => ?_⟩
              obtain ⟨g1, g2⟩ := q4 hz
              exact ⟨g1, by simp only; omega⟩
            · cases hk
      · cases hk
    · cases hk
  · cases hk

theorem index_ok (hT : TyOK P T) {t : TypeId} {A : Addr} {len el n : Nat} {te : Ty} (hte : T el = some te) {kd : IntKind} {j : Nat} (hj : j < n) (hu : P.underlying t = some (.array n el)) (w : World) :
    (Instr.indexAt t (.pointer (some A)) (.int kd (j : Int))).run P w = .ok (.pointer (some (A.add (j * te.size)))) w := by
  have h1 : (0 : Int) ≤ (j : Int) ∧ (j : Int) < (n : Int) := by omega
  simp [Instr.indexAt, asIntOf, run_underlying hu, Instr.sureAddr, h1, run_sizeOf hT hte]
  intro h2
  omega

theorem index_ok_slice (hT : TyOK P T) {t : TypeId} {A : Addr} {el n cap : Nat} {te : Ty} (hte : T el = some te) {kd : IntKind} {j : Nat} (hj : j < n) (hu : P.underlying t = some (.slice el)) (w : World) :
    (Instr.indexAt t (.slice (some A) n cap) (.int kd (j : Int))).run P w = .ok (.pointer (some (A.add (j * te.size)))) w := by
  have h1 : (0 : Int) ≤ (j : Int) ∧ (j : Int) < (n : Int) := by omega
  simp [Instr.indexAt, asIntOf, run_underlying hu, h1, run_sizeOf hT hte]
  intro h2
  omega

theorem indexAddr_sound (hT : TyOK P T) (hr : HR N S ρ h w) (he : ER ρ e a) {t : TypeId} {x ix : Operand} {o : Oper} (ho : o.op = .indexAddr t x ix) (hk : opE realA T O sid o e h fr k = some r) :
    ∃ v h' mv, k v h' mv = some r ∧ Good P N S ρ sid fr mv v h' w ((execOp a.eval o).run P w) := by
  simp only [opE, ho] at hk
  simp only [execOp, ho]
  split at hk
  · -- an array's address
    rename_i ty b oo i ht hx
    split at hk
    · rename_i te htk hte
      have hu := und_array hT ht htk
      obtain ⟨L, hL, hx'⟩ := he x _ hx
      have hrun : ∀ (A : Addr) (kd : IntKind) (j : Nat), j < ty.len → a.eval x = .pointer (some A) → a.eval ix = .int kd (j : Int) → ((do pure (.value (← Instr.indexAt t (a.eval x) (a.eval ix))) : Sem Next).run P w) = .ok (.value (.pointer (some (A.add (j * te.size))))) w := by
        intro A kd j hj hA hi
        rw [hA, hi]
        simp only [Sem.run_bind, index_ok (len := 0) hT hte hj hu w, Result.andThen_ok, Sem.run_pure]
      split at hk
      · rename_i kd j
        split at hk
        · rename_i hb
          have hb := blt_true hb
          refine ⟨_, _, _, hk, ?_⟩
          rw [hrun _ kd j hb hx' rfl, Addr.add_lit]
          exact Good.pure_ hr ⟨L, hL, by simp only [Nat.add_assoc]⟩
        · rename_i xx hb
          have hb := blt_true hb
          obtain ⟨q1, q2, q3, q4⟩ := hx'
          split at hk
          · rename_i hle
            have hle := ble_true hle
            refine ⟨_, _, _, hk, ?_⟩
            rw [hrun _ kd j hb q1 rfl, Addr.add_lit]
            refine Good.pure_ hr ⟨L, hL, by simp only [Nat.add_assoc], by simp only; omega, by simp only; omega, fun hz => ?_⟩
            obtain ⟨g1, g2⟩ := q4 hz
            exact ⟨g1, by simp only; omega⟩
          · cases hk
        · cases hk
      · split at hk
        · split at hk
          · rename_i blk hb
            split at hk
            · rename_i hle
              have hle := ble_true hle
              obtain ⟨j, kd, hj, hk, hi⟩ := idxD_sound he hk
              obtain ⟨cur, fz, _, hn, _⟩ := hr.real hb hL
              refine ⟨_, _, _, hk, ?_⟩
              rw [hrun _ kd j hj hx' hi, Addr.add_lit, mulZ_eq]
              have hm : j * te.size + te.size ≤ ty.len * te.size := by rw [← Nat.succ_mul]; exact Nat.mul_le_mul_right _ hj
              exact Good.pure_ hr ⟨L, hL, rfl, hm, by simp only; omega, fun hz => absurd rfl hz⟩
            · cases hk
          · cases hk
        · rename_i xx
          obtain ⟨q1, q2, q3, q4⟩ := hx'
          split at hk
          · rename_i hle
            have hle := ble_true hle
            obtain ⟨j, kd, hj, hk, hi⟩ := idxD_sound he hk
            refine ⟨_, _, _, hk, ?_⟩
            rw [hrun _ kd j hj q1 hi, Addr.add_lit, mulZ_eq]
            have hm : j * te.size + te.size ≤ ty.len * te.size := by rw [← Nat.succ_mul]; exact Nat.mul_le_mul_right _ hj
            exact Good.pure_ hr ⟨L, hL, by simp only [Nat.add_assoc], by simp only; omega, by simp only; omega, fun hz => absurd rfl hz⟩
          · cases hk
    · cases hk
  · -- a slice
    rename_i ty b oo n z ht hx
    split at hk
    · rename_i htk
      split at hk
      · rename_i te hte
        split at hk
        · rename_i hz
          have hz := beq_true hz
          have hu := und_slice hT ht htk
          obtain ⟨j, kd, hj, hk, hi⟩ := idxD_sound he hk
          rcases he x _ hx with ⟨_, q2, _⟩ | ⟨L, A, cap, q1, q2, q3, q4, q5, q6, q7, q8⟩
          · omega
          · have hA := q6 (by omega)
            subst hA
            have hrun : ((do pure (.value (← Instr.indexAt t (a.eval x) (a.eval ix))) : Sem Next).run P w) = .ok (.value (.pointer (some ⟨L.g, L.q + offO oo + j * te.size, none⟩))) w := by
              rw [q2, hi]
              simp only [Sem.run_bind, index_ok_slice hT hte hj hu w, Result.andThen_ok, Sem.run_pure, Addr.add_lit]
            have hm : j * z + z ≤ n * z := by rw [← Nat.succ_mul]; exact Nat.mul_le_mul_right _ hj
            split at hk
            · refine ⟨_, _, _, hk, ?_⟩
              rw [hrun, hz]
              simp only [mulZ_eq, offO] at *
              exact Good.pure_ hr ⟨L, q1, by simp only [Nat.add_zero], hm, by simp only; omega, fun _ => ⟨rfl, by simp only [Nat.add_zero]⟩⟩
            · refine ⟨_, _, _, hk, ?_⟩
              rw [hrun, hz]
              simp only [mulZ_eq, offO] at *
              exact Good.pure_ hr ⟨L, q1, by simp only [Nat.add_zero, Nat.add_assoc], by simp only; omega, by simp only; omega, fun hz => absurd rfl hz⟩
        · cases hk
      · cases hk
    · cases hk
  · cases hk

theorem extract_sound (hr : HR N S ρ h w) (he : ER ρ e a) {x : Operand} {i : Nat} {o : Oper} (ho : o.op = .extract x i) (hk : opE realA T O sid o e h fr k = some r) :
    ∃ v h' mv, k v h' mv = some r ∧ Good P N S ρ sid fr mv v h' w ((execOp a.eval o).run P w) := by
  simp only [opE, ho] at hk
  simp only [execOp, ho]
  split at hk
  · rename_i l hx
    split at hk
    · rename_i v hv
      obtain ⟨vs, h1, h2, h3⟩ := he x _ hx
      obtain ⟨u, hu, hru⟩ := h3 i v hv
      refine ⟨_, _, _, hk, ?_⟩
      have : ((do pure (.value (← Instr.extract (a.eval x) i)) : Sem Next).run P w) = .ok (.value u) w := by
        rw [h1]; simp [Instr.extract, hu]
      rw [this]
      exact Good.pure_ hr hru
    · cases hk
  · cases hk

theorem convert_sound (hT : TyOK P T) (hr : HR N S ρ h w) (hfr : fr = true → lk sid h = none ∧ heapFree sid h = true) (he : ER ρ e a) {sr d : TypeId} {x : Operand} {o : Oper} (ho : o.op = .convert sr d x) (hk : opE realA T O sid o e h fr k = some r) :
    ∃ v h' mv, k v h' mv = some r ∧ Good P N S ρ sid fr mv v h' w ((execOp a.eval o).run P w) := by
  simp only [opE, ho] at hk
  simp only [execOp, ho]
  split at hk
  · rename_i ty c ts ht hx hs
    have hxv : RC ρ c (a.eval x) := he x _ hx
    obtain ⟨ds, hds, _⟩ := und_eq hT hs
    split at hk
    · rename_i k' htk
      split at hk
      · rename_i dd hd
        obtain ⟨kk, n, v, h1, h2, h3⟩ := convE_sound (P := P) (w := w) hd hxv
        refine ⟨_, _, _, hk, ?_⟩
        have : ((do pure (.value (← convert sr d (a.eval x))) : Sem Next).run P w) = .ok (.value v) w := by
          rw [h1]
          simp only [convert, Sem.run_bind, run_underlying hds, run_underlying (und_int hT ht htk), Result.andThen_ok, h2, Sem.run_pure]
        rw [this]
        exact Good.pure_ hr h3
      · cases hk
    · rename_i htk
      split at hk
      · rename_i l
        obtain ⟨b, hb, hbl⟩ := hxv
        refine ⟨_, _, _, hk, ?_⟩
        have : ((do pure (.value (← convert sr d (a.eval x))) : Sem Next).run P w) = .ok (.value (.string b)) w := by
          rw [hb]
          simp only [convert, Sem.run_bind, run_underlying hds, run_underlying (und_string hT ht htk), Result.andThen_ok, Sem.run_pure]
        rw [this]
        exact Good.pure_ hr ⟨b, rfl, hbl⟩
      · rename_i kk i
        have hxv : a.eval x = .int kk i := hxv
        refine ⟨_, _, _, hk, ?_⟩
        have : ((do pure (.value (← convert sr d (a.eval x))) : Sem Next).run P w) = .ok (.value (.string (Utf8.encode i))) w := by
          rw [hxv]
          simp only [convert, Conv.intToString, Sem.run_bind, run_underlying hds, run_underlying (und_string hT ht htk), Result.andThen_ok, Sem.run_pure]
        rw [this]
        exact Good.pure_ hr ⟨Utf8.encode i, rfl, rfl⟩
      · have hxv : a.eval x = .slice none 0 0 := hxv
        split at hk
        · rename_i te hsk hte
          split at hk
          · rename_i htek
            refine ⟨_, _, _, hk, ?_⟩
            have : ((do pure (.value (← convert sr d (a.eval x))) : Sem Next).run P w) = .ok (.value (.string .empty)) w := by
              rw [hxv]
              simp only [Sem.run_bind, run_convert_bytes_string w sr d ts.elem none 0 0 (und_slice hT hs hsk) (und_int hT hte htek) (und_string hT ht htk), Conv.bytesToString, Result.andThen_ok, Sem.run_pure]
            rw [this]
            exact Good.pure_ hr ⟨ByteArray.empty, rfl, rfl⟩
          · cases hk
        · cases hk
      · rename_i b oo n z
        split at hk
        · rename_i te _ l hsk hte hsg
          split at hk
          · rename_i htek
            obtain ⟨v, h1, h2⟩ := toText_sound (P := P) hT hr hs hsk ht htk hte htek hxv hsg
            refine ⟨_, _, _, hk, ?_⟩
            have : ((do pure (.value (← convert sr d (a.eval x))) : Sem Next).run P w) = .ok (.value v) w := by
              simp only [Sem.run_bind, h1, Result.andThen_ok, Sem.run_pure]
            rw [this]
            exact Good.pure_ hr h2
          · cases hk
        · cases hk
      · cases hk
    · rename_i htk
      split at hk
      · rename_i l te hte
        split at hk
        · rename_i htek
          split at hk
          · rename_i hle
            simp only [realA, decide_eq_true_eq] at hle
            exact toBytes_sound hT hr hfr hs ht htk hte htek hxv (by simp only [maxLen]; omega) hk
          · cases hk
        · cases hk
      · cases hk
    · cases hk
  · cases hk

theorem emptyCols_ok : ∀ l : List KD, (emptyCols l).length = l.length ∧ ∀ c ∈ emptyCols l, c.len = 0
  | [] => ⟨rfl, fun c hc => by cases hc⟩
  | k :: r => by
    obtain ⟨h1, h2⟩ := emptyCols_ok r
    refine ⟨by simp [emptyCols, h1], fun c hc => ?_⟩
    simp only [emptyCols] at hc
    cases hc with
    | head =>
      unfold emptyCol
      split
      · split <;> rfl
      · rfl
      · rfl
    | tail _ hc => exact h2 c hc
theorem emptySegs_ok (tk : TK) : segsLen (emptySegs tk) = 0 ∧ segsWf (emptySegs tk) := by
  unfold emptySegs
  split
  · split <;> exact ⟨rfl, segsWf_cons.2 ⟨rfl, segsWf_nil⟩⟩
  · exact ⟨rfl, segsWf_cons.2 ⟨rfl, segsWf_nil⟩⟩
  · exact ⟨rfl, segsWf_nil⟩
theorem emptyRow_ok (T : Tys) (t : TypeId) (te : Ty) : segsLen (emptyRow T t te) = 0 ∧ segsWf (emptyRow T t te) := by
  unfold emptyRow
  split
  · split
    · rename_i a b l _
      obtain ⟨h1, h2⟩ := emptyCols_ok (a :: b :: l)
      exact ⟨by simp [segsLen, Seg.len], segsWf_cons.2 ⟨⟨by rw [h1]; simp, h2⟩, segsWf_nil⟩⟩
    · exact ⟨rfl, segsWf_nil⟩
  · exact emptySegs_ok _
theorem virtual_sound (hr : HR N S ρ h w) (hfr : fr = true → lk sid h = none ∧ heapFree sid h = true) {segs : List Seg} (hsg : segsLen segs = 0 ∧ segsWf segs) {ty : TypeId} {z : Nat} (hk : newBlk sid h fr ⟨segs, ty, 2⟩ k (.v (.cell (.sl sid none 0 z))) = some r) :
    ∃ v h' mv, k v h' mv = some r ∧ Good P N S ρ sid fr mv v h' w (.ok (.value (.slice none 0 0)) w) := by
  obtain ⟨hf, hk⟩ := newBlk_some hk
  obtain ⟨h1, h2⟩ := hfr hf
  refine ⟨_, _, _, hk, ?_⟩
  let ρ' : Map := fun c => if c = sid then none else ρ c
  have ne : ∀ c, c ≠ sid → ρ' c = ρ c := fun c hc => if_neg hc
  have hs : ρ' sid = none := if_pos rfl
  have hr' : HR N S ρ' h w := HR_agree hr (fun b x hb => ne b (fun e => by subst e; rw [h1] at hb; cases hb)) (fun b x c hb hc => ne c (fun e => by subst e; rw [heapFree_spec h2 hb] at hc; cases hc))
  refine ⟨ρ', .inl ⟨hs, rfl, rfl⟩, ⟨hr'.low, fun b x hb => ?_, fun b c x y L M hb hc hL hM hne how => ?_⟩, Fr.refl _ _ _, fun b _ hb => ne b (fun e => by have := hb e; rw [hf] at this; cases this)⟩
  · rw [lk_cons] at hb
    split at hb
    · rename_i e
      subst e
      simp only [Option.some.injEq] at hb
      subst hb
      exact .inl ⟨(show (2 : Nat) ≠ 1 by decide), hs, hsg.1, hsg.2⟩
    · exact hr'.blk b x hb
  · rw [lk_cons] at hb hc
    split at hb
    · rename_i e
      subst e
      rw [hs] at hL; cases hL
    · split at hc
      · rename_i e
        subst e
        rw [hs] at hM; cases hM
      · exact hr'.inj b c x y L M hb hc hL hM hne how

theorem appendN_sound (hT : TyOK P T) (hr : HR N S ρ h w) (hfr : fr = true → lk sid h = none ∧ heapFree sid h = true) {t t' : TypeId} {ty ty' : Ty} {y : AV} {v : Value} {k : AV → Heap → List Nat → Option R} (ht : T t = some ty) (htk : ty.tk = .slice) (ht' : T t' = some ty') (htk' : ty'.tk = .slice ∨ ty'.tk = .string)
    (hy : RV ρ y v) (hmy : fr = true → y.mentions sid = false) (hk : appendN realA T sid fr t h y k = some r) (rt : TypeId) :
    fr = true ∧ ∃ z h' u' w' ρ', k z h' [] = some r ∧ (Builtin.append_ #[t, t'] rt #[.slice none 0 0, v]).run P w = .ok u' w' ∧ RV ρ' z u' ∧ HR N S ρ' h' w' ∧ Fr N S w w' ∧ ∀ c, c ≠ sid → ρ' c = ρ c := by
  unfold appendN at hk
  split at hk
  · split at hk
    · rename_i tt htt
      split at hk
      · rename_i te hte
        obtain ⟨z0, h0, mv0, hk0, ρ1, v1, r1, f1, a1⟩ := virtual_sound (P := P) (N := N) (S := S) (ρ := ρ) (w := w) (R := AV × Heap × List Nat) (k := fun v h' mv => some (v, h', mv)) (r := (.v (.cell (.sl sid none 0 te.size)), (sid, (⟨emptyRow T tt.elem te, tt.elem, 2⟩ : Blk)) :: h, [])) (z := te.size) (ty := tt.elem) (segs := emptyRow T tt.elem te) (fr := true) hr hfr (emptyRow_ok _ _ _) rfl
        simp only [Option.some.injEq, Prod.mk.injEq] at hk0
        obtain ⟨e1, e2, e3⟩ := hk0
        subst e1; subst e2; subst e3
        have ag : ∀ c, c ≠ sid → ρ1 c = ρ c := fun c hc => a1 c (by simp) (fun e => absurd e hc)
        have hy1 : RV ρ1 y v := RV_agree (fun b hb => ag b (fun e => by subst e; rw [hmy rfl] at hb; cases hb)) hy
        obtain ⟨b, z, h', u', w', ρ', g1, g2, g3, g4, g5, g6⟩ := appendD_sound (P := P) hT r1 ht htk ht' htk' v1 hy1 hk rt
        simp only at g1
        split at g1
        · rename_i hb
          have hbs := beq_true hb
          exact ⟨rfl, z, h', u', w', ρ', g1, g2, g3, g4, g5, fun c hc => (g6 c (fun e => hc (e.trans hbs))).trans (ag c hc)⟩
        · cases g1
      · cases hk
    · cases hk
  · cases hk
theorem builtin_sound (hT : TyOK P T) (hr : HR N S ρ h w) (hfr : fr = true → lk sid h = none ∧ heapFree sid h = true) (hnm : fr = true → NoMen sid e) (he : ER ρ e a) {b : Builtin} {args : Array Operand} {types : Array TypeId} {ty : TypeId} {consts : Array Bool} (hk : builtinD realA T b e sid fr h args.toList types.toList k = some r) :
    ∃ v h' mv, k v h' mv = some r ∧ Good P N S ρ sid fr mv v h' w ((builtin b types ty consts (args.map a.eval)).run P w) := by
  unfold builtinD at hk
  split at hk
  · -- len
    split at hk
    · rename_i x t rest hargs htypes
      have ha : args = #[x] := by apply Array.ext'; simpa using hargs
      subst ha
      have ht0 : types[0]? = some t := by rw [← Array.getElem?_toList, htypes]; rfl
      split at hk
      · rename_i tt l htt hx
        split at hk
        · rename_i htk
          obtain ⟨s, hs, hsl⟩ := he x _ hx
          refine ⟨_, _, _, hk, ?_⟩
          have : ((builtin .len types ty consts (#[x].map a.eval)).run P w) = .ok (.value (.int .i64 (s.size : Int))) w := by
            simp [builtin, Builtin.len_, ht0, run_underlying (und_string hT htt htk), hs, goInt]
          rw [this]
          refine Good.pure_ hr ?_
          show Value.int .i64 (s.size : Int) = Value.int .i64 ((l.length : Nat) : Int)
          rw [← hsl, natsOf_length]
        · cases hk
      · rename_i tt b' o' n z htt hx
        split at hk
        · rename_i htk
          have hv : ∃ A cap, a.eval x = .slice A n cap := by
            rcases he x _ hx with ⟨_, q2, q3⟩ | ⟨L, A, cap, _, q2, _⟩
            · exact ⟨none, 0, by rw [q3, q2]⟩
            · exact ⟨some A, cap, q2⟩
          obtain ⟨A, cap, hv⟩ := hv
          refine ⟨_, _, _, hk, ?_⟩
          have : ((builtin .len types ty consts (#[x].map a.eval)).run P w) = .ok (.value (.int .i64 (n : Int))) w := by
            simp [builtin, Builtin.len_, ht0, run_underlying (und_slice hT htt htk), hv, goInt]
          rw [this]
          exact Good.pure_ hr rfl
        · cases hk
      · rename_i tt htt hx
        split at hk
        · rename_i htk
          have hv : a.eval x = .slice none 0 0 := he x _ hx
          refine ⟨_, _, _, hk, ?_⟩
          have : ((builtin .len types ty consts (#[x].map a.eval)).run P w) = .ok (.value (.int .i64 ((0 : Nat) : Int))) w := by
            simp [builtin, Builtin.len_, ht0, run_underlying (und_slice hT htt htk), hv, goInt]
          rw [this]
          exact Good.pure_ hr rfl
        · cases hk
      · cases hk
    · cases hk
  · -- min
    split at hk
    · rename_i x y hargs
      have ha : args = #[x, y] := by apply Array.ext'; simpa using hargs
      subst ha
      split at hk
      · rename_i p q hx hy
        have h1 : a.eval x = .int .i64 p := he x _ hx
        have h2 : a.eval y = .int .i64 q := he y _ hy
        refine ⟨_, _, _, hk, ?_⟩
        have : ((builtin .min types ty consts (#[x, y].map a.eval)).run P w) = .ok (.value (.int .i64 (realA.mn p q))) w := by
          simp [builtin, Builtin.min_, h1, h2, Builtin.min2, realA]
        rw [this]
        exact Good.pure_ hr rfl
      · cases hk
    · cases hk
  · -- max
    split at hk
    · rename_i x y hargs
      have ha : args = #[x, y] := by apply Array.ext'; simpa using hargs
      subst ha
      split at hk
      · rename_i p q hx hy
        have h1 : a.eval x = .int .i64 p := he x _ hx
        have h2 : a.eval y = .int .i64 q := he y _ hy
        refine ⟨_, _, _, hk, ?_⟩
        have : ((builtin .max types ty consts (#[x, y].map a.eval)).run P w) = .ok (.value (.int .i64 (realA.mx p q))) w := by
          simp [builtin, Builtin.max_, h1, h2, Builtin.max2, realA]
        rw [this]
        exact Good.pure_ hr rfl
      · cases hk
    · cases hk
  · -- append
    split at hk
    · rename_i x y t t' hargs htypes
      have ha : args = #[x, y] := by apply Array.ext'; simpa using hargs
      have hty : types = #[t, t'] := by apply Array.ext'; simpa using htypes
      subst ha; subst hty
      split at hk
      · rename_i p q tt tt' hx hy htt htt'
        split at hk
        · rename_i htk
          have main : (tt'.tk = .slice ∨ tt'.tk = .string) → appendD realA T t h p q k = some r → ∃ v h' mv, k v h' mv = some r ∧ Good P N S ρ sid fr mv v h' w ((builtin .append #[t, t'] ty consts (#[x, y].map a.eval)).run P w) := by
            intro htk' hk
            obtain ⟨b, z, h', u', w', ρ', g1, g2, g3, g4, g5, g6⟩ := appendD_sound (P := P) hT hr htt htk htt' htk' (he x _ hx) (he y _ hy) hk ty
            refine ⟨z, h', [b], g1, ?_⟩
            have : ((builtin .append #[t, t'] ty consts (#[x, y].map a.eval)).run P w) = .ok (.value u') w' := by
              simp only [builtin, List.map_toArray, List.map_cons, List.map_nil, Sem.run_bind, g2, Result.andThen_ok, Sem.run_pure]
            rw [this]
            exact ⟨ρ', g3, g4, g5, fun c hc _ => g6 c (fun e1 => hc (by rw [e1]; exact List.mem_singleton_self _))⟩
          have all : (tt'.tk = .slice ∨ tt'.tk = .string) → (match (generalizing := false) p with
              | .v (.cell .nils) => appendN realA T sid fr t h q k
              | a => appendD realA T t h a q k) = some r → ∃ v h' mv, k v h' mv = some r ∧ Good P N S ρ sid fr mv v h' w ((builtin .append #[t, t'] ty consts (#[x, y].map a.eval)).run P w) := by
            intro htk' hk
            split at hk
            · rename_i hp
              have hx0 : a.eval x = .slice none 0 0 := he x _ hx
              obtain ⟨hfr1, z, h', u', w', ρ', g1, g2, g3, g4, g5, g6⟩ := appendN_sound (P := P) hT hr hfr htt htk htt' htk' (he y _ hy) (fun hf => hnm hf y _ hy) hk ty
              refine ⟨z, h', [], g1, ?_⟩
              have : ((builtin .append #[t, t'] ty consts (#[x, y].map a.eval)).run P w) = .ok (.value u') w' := by
                simp only [builtin, List.map_toArray, List.map_cons, List.map_nil, hx0, Sem.run_bind, g2, Result.andThen_ok, Sem.run_pure]
              rw [this]
              exact ⟨ρ', g3, g4, g5, fun c _ hc => g6 c (fun e => by have := hc e; rw [hfr1] at this; cases this)⟩
            · exact main htk' hk
          split at hk
          · rename_i htk'; exact all (.inl htk') hk
          · rename_i htk'; exact all (.inr htk') hk
          · cases hk
        · cases hk
      · cases hk
    · cases hk
  · cases hk


theorem allSize_spec {z : Nat} {vs : List V1} (h : allSize z vs = true) : ∀ v ∈ vs, segsLen v.segs = z := by
  induction vs with
  | nil => intro v hv; cases hv
  | cons x r ih =>
    simp only [allSize, Bool.and_eq_true] at h
    intro v hv
    cases hv with
    | head => exact beq_true h.1
    | tail _ hv => exact ih h.2 v hv

theorem move_aux (hr : HR N S ρ h w) (hfr : fr = true → lk sid h = none ∧ heapFree sid h = true) (he : ER ρ e a) {x : Operand} {t : TypeId} (main : (match x with
    | .const (.slice none 0 0) => match T t with
      | some ty => match T ty.elem with
        | some te => newBlk sid h fr ⟨emptyRow T ty.elem te, ty.elem, 2⟩ k (.v (.cell (.sl sid none 0 te.size)))
        | none => none
      | none => none
    | x => match e x with
      | some v => k v h []
      | none => none) = some r) : ∃ v h' mv, k v h' mv = some r ∧ Good P N S ρ sid fr mv v h' w (.ok (.value (a.eval x)) w) := by
  split at main
  · split at main
    · split at main
      · exact virtual_sound hr hfr (emptyRow_ok _ _ _) main
      · cases main
    · cases main
  · split at main
    · rename_i v hv
      exact ⟨_, _, _, main, Good.pure_ hr (he _ _ hv)⟩
    · cases main

theorem move_sound (hr : HR N S ρ h w) (hfr : fr = true → lk sid h = none ∧ heapFree sid h = true) (he : ER ρ e a) {x : Operand} {o : Oper} (ho : o.op = .move x ∨ o.op = .assign x) (hk : opE realA T O sid o e h fr k = some r) :
    ∃ v h' mv, k v h' mv = some r ∧ Good P N S ρ sid fr mv v h' w ((execOp a.eval o).run P w) := by
  have hx : (execOp a.eval o).run P w = .ok (.value (a.eval x)) w := by
    rcases ho with ho | ho <;> simp [execOp, ho]
  rw [hx]
  refine move_aux hr hfr he (T := T) (t := o.type) ?_
  rcases ho with ho | ho <;> (simp only [opE, ho] at hk; exact hk)

theorem field_sound (hT : TyOK P T) (hr : HR N S ρ h w) (he : ER ρ e a) {t : TypeId} {x : Operand} {f : Nat} {o : Oper} (ho : o.op = .field t x f) (hk : opE realA T O sid o e h fr k = some r) :
    ∃ v h' mv, k v h' mv = some r ∧ Good P N S ρ sid fr mv v h' w ((execOp a.eval o).run P w) := by
  simp only [opE, ho] at hk
  simp only [execOp, ho]
  split at hk
  · rename_i q ty hx ht
    split at hk
    · rename_i off ft hf
      split at hk
      · rename_i fty hft
        obtain ⟨fs, fd, hu, hfd, e1, e2⟩ := fieldOf_spec hT ht hf
        subst e1; subst e2
        obtain ⟨cs, hcs, hseg⟩ := he x _ hx
        have fin : ∀ v, (match fty.tk with
            | .struct | .array => match getRange q fd.offset fty.size with
              | some p => some (V1.agg p)
              | none => none
            | .other => none
            | _ => match getCell q fd.offset with
              | some c => some (V1.cell c)
              | none => none) = some v → k (.v v) h [] = some r →
            ∃ v h' mv, k v h' mv = some r ∧ Good P N S ρ sid fr mv v h' w ((do pure (.value (← Instr.field t (a.eval x) f)) : Sem Next).run P w) := by
          intro v hv hk
          obtain ⟨u, hu1, hu2⟩ := run_part_sound (P := P) (w := w) hT hft hseg hv
          refine ⟨_, _, _, hk, ?_⟩
          have : ((do pure (.value (← Instr.field t (a.eval x) f)) : Sem Next).run P w) = .ok (.value u) w := by
            rw [hcs]
            simp [Instr.field, run_underlying hu, hfd, asAgg, hu1]
          rw [this]
          exact Good.pure_ hr hu2
        split at hk
        · rename_i htk
          split at hk
          · rename_i p hp
            exact fin (.agg p) (by simp only [htk, hp]) hk
          · cases hk
        · rename_i htk
          split at hk
          · rename_i p hp
            exact fin (.agg p) (by simp only [htk, hp]) hk
          · cases hk
        · cases hk
        · rename_i n1 n2 n3
          split at hk
          · rename_i c hc
            refine fin (.cell c) ?_ hk
            split
            · rename_i hh; exact absurd hh n1
            · rename_i hh; exact absurd hh n2
            · rename_i hh; exact absurd hh n3
            · rw [hc]
          · cases hk
      · cases hk
    · cases hk
  · cases hk

theorem index_sound (hT : TyOK P T) (hr : HR N S ρ h w) (he : ER ρ e a) {t : TypeId} {x ix : Operand} {o : Oper} (ho : o.op = .index t x ix) (hk : opE realA T O sid o e h fr k = some r) :
    ∃ v h' mv, k v h' mv = some r ∧ Good P N S ρ sid fr mv v h' w ((execOp a.eval o).run P w) := by
  simp only [opE, ho] at hk
  simp only [execOp, ho]
  split at hk
  · rename_i l ht hx
    obtain ⟨b, hb, hbl⟩ := he x _ hx
    obtain ⟨j, kd, hj, hk, hi⟩ := idxD_sound he hk
    refine ⟨_, _, _, hk, ?_⟩
    have hjb : j < b.data.toList.length := by rw [← hbl] at hj; unfold natsOf at hj; simpa using hj
    have hjs : j < b.size := by simpa using hjb
    have hg : l.getD j 0 = (b[j]'hjs).toNat := by
      rw [← hbl]
      unfold natsOf
      rw [List.getD_eq_getElem?_getD, List.getElem?_map, List.getElem?_eq_getElem hjb]
      simp only [Option.map_some, Option.getD_some, Array.getElem_toList]
      rfl
    have : ((do pure (.value (← Instr.index t (a.eval x) (a.eval ix))) : Sem Next).run P w) = .ok (.value (.int .u8 ((b[j]'hjs).toNat : Int))) w := by
      rw [hb, hi]
      have h0 : (0 : Int) ≤ (j : Int) := by omega
      simp [Instr.index, asIntOf, run_underlying (und_string hT ht rfl), h0, hjs]
    rw [this]
    refine Good.pure_ hr ?_
    refine ⟨by rw [hg], ?_, rfl⟩
    rw [hg]
    have := (b[j]'hjs).toNat_lt
    simpa [IntKind.bits] using this
  · rename_i sz by_ z fl n el eq s ht hx
    split at hk
    · rename_i te hte
      split at hk
      · rename_i hok
        simp only [Bool.and_eq_true] at hok
        obtain ⟨o1, o2, o3⟩ := hok
        obtain ⟨cs, hcs, hseg⟩ := he x _ hx
        obtain ⟨j, kd, hj, hk, hi⟩ := idxD_sound he hk
        have hc : getCell [s] (j * 1) = some (s.cell j) := by
          rw [Nat.mul_one, getCell_cons, if_pos (by rw [beq_true o3]; exact hj)]
        obtain ⟨u, hu1, hu2⟩ := run_part_sound (P := P) (w := w) (v := .cell (s.cell j)) hT hte hseg (off := j * 1) (by
          cases htk : te.tk <;> simp only [htk, plainT] at o1 ⊢ <;> first | (cases o1; done) | (rw [hc]))
        refine ⟨_, _, _, hk, ?_⟩
        have : ((do pure (.value (← Instr.index t (a.eval x) (a.eval ix))) : Sem Next).run P w) = .ok (.value u) w := by
          rw [hcs, hi]
          have h0 : (0 : Int) ≤ (j : Int) := by omega
          have h2 : (j : Int) < (n : Int) := by omega
          have hsz := run_sizeOf (P := P) hT hte w
          rw [beq_true o2] at hsz
          rw [Nat.mul_one] at hu1
          simp [Instr.index, asIntOf, run_underlying (und_array hT ht rfl), h0, h2, hsz, hu1]
          intro h3
          omega
        rw [this]
        exact Good.pure_ hr hu2
      · cases hk
    · cases hk
  · cases hk

theorem RVs_append {ρ : Map} {l l' : List AV} {us us' : List Value} (h1 : RVs ρ l us) (h2 : RVs ρ l' us') : RVs ρ (l ++ l') (us ++ us') := by
  refine ⟨by rw [List.length_append, List.length_append, h1.1, h2.1], fun i v u hv hu => ?_⟩
  by_cases hi : i < l.length
  · rw [List.getElem?_append_left hi] at hv
    rw [List.getElem?_append_left (by rw [h1.1]; exact hi)] at hu
    exact h1.2 i v u hv hu
  · rw [List.getElem?_append_right (by omega)] at hv
    rw [List.getElem?_append_right (by rw [h1.1]; omega), h1.1] at hu
    exact h2.2 _ v u hv hu
theorem vAV_rvs {ρ : Map} {a : List V1} {xs : Array Value} (h : RL ρ a xs) {l : List AV} {us : List Value} (hl : RVs ρ l us) : RVs ρ (vAV a l) (xs.toList ++ us) := by
  have e : vAV a l = a.map AV.v ++ l := by
    clear h
    induction a with
    | nil => rfl
    | cons x r ih => simp [vAV, ih]
  rw [e]
  refine RVs_append ⟨by simp [h.1], fun i v u hv hu => ?_⟩ hl
  rw [List.getElem?_map] at hv
  cases ha : a[i]? with
  | none => rw [ha] at hv; cases hv
  | some x =>
    rw [ha] at hv
    simp only [Option.map_some, Option.some.injEq] at hv
    subst hv
    obtain ⟨w, hw, hr⟩ := h.2 i x ha
    rw [Array.getElem?_toList, hw] at hu
    simp only [Option.some.injEq] at hu
    subst hu
    exact hr
theorem v1s_rl {ρ : Map} : ∀ {l : List AV} {a : List V1} {us : Array Value}, v1s l = some a → RVs ρ l us.toList → RL ρ a us := by
  have key : ∀ (l : List AV) (a : List V1) (us : List Value), v1s l = some a → RVs ρ l us → us.length = a.length ∧ ∀ (i : Nat) x, a[i]? = some x → ∃ u, us[i]? = some u ∧ RV1 ρ x u := by
    intro l
    induction l with
    | nil =>
      intro a us h hr
      simp only [v1s, Option.some.injEq] at h
      subst h
      exact ⟨hr.1, fun i x hx => by simp at hx⟩
    | cons y l ih =>
      intro a us h hr
      cases y with
      | v x =>
        simp only [v1s] at h
        split at h
        · rename_i q hq
          simp only [Option.some.injEq] at h
          subst h
          cases us with
          | nil => have := hr.1; simp at this
          | cons u us =>
            obtain ⟨g1, g2⟩ := ih q us hq ⟨by have := hr.1; simpa using this, fun i v u hv hu => hr.2 (i + 1) v u (by simpa using hv) (by simpa using hu)⟩
            refine ⟨by simp [g1], fun i x' hx => ?_⟩
            cases i with
            | zero =>
              simp at hx
              subst hx
              exact ⟨u, rfl, hr.2 0 _ u rfl rfl⟩
            | succ i => simpa using g2 i x' (by simpa using hx)
        · cases h
      | tup l => simp [v1s] at h
      | fn f a c => simp [v1s] at h
      | yld b => simp [v1s] at h
  intro l a us h hr
  obtain ⟨g1, g2⟩ := key l a us.toList h hr
  exact ⟨by simpa using g1, fun i x hx => by simpa using g2 i x hx⟩

theorem op_sound (hT : TyOK P T) (hO : OSound P O) (hY : YOk P O N S ρ h w) (hr : HR N S ρ h w) (hfr : fr = true → lk sid h = none ∧ heapFree sid h = true) (hm : fr = true → NoMen sid e) (he : ER ρ e a) (o : Oper) (hk : opE realA T O sid o e h fr k = some r) :
    ∃ v h' mv, k v h' mv = some r ∧ Good P N S ρ sid fr mv v h' w ((execOp a.eval o).run P w) := by
  cases ho : o.op with
  | slice t x lo hi mx => exact slice_sound hT hr he ho hk
  | fieldAddr t x f => exact fieldAddr_sound hT hr he ho hk
  | indexAddr t x ix => exact indexAddr_sound hT hr he ho hk
  | extract x i => exact extract_sound hr he ho hk
  | convert sr d x => exact convert_sound hT hr hfr he ho hk
  | move x => exact move_sound hr hfr he (.inl ho) hk
  | assign x => exact move_sound hr hfr he (.inr ho) hk
  | pick c x y =>
    simp only [opE, ho] at hk
    simp only [execOp, ho]
    split at hk
    · rename_i t hc
      have hcv : a.eval c = .bool t := he c _ hc
      split at hk
      · split at hk
        · rename_i v hv
          refine ⟨_, _, _, hk, ?_⟩
          rw [hcv]
          simp only [asBool, Sem.run_bind, Sem.run_pure, Result.andThen_ok, if_true]
          exact Good.pure_ hr (he _ _ hv)
        · cases hk
      · split at hk
        · rename_i v hv
          refine ⟨_, _, _, hk, ?_⟩
          rw [hcv]
          simp only [asBool, Sem.run_bind, Sem.run_pure, Result.andThen_ok]
          exact Good.pure_ hr (he _ _ hv)
        · cases hk
    · cases hk
  | alloc t =>
    simp only [opE, ho] at hk
    simp only [execOp, ho]
    split at hk
    · rename_i ty ht
      exact alloc_sound hT hr hfr ht hk
    · cases hk
  | box t x =>
    simp only [opE, ho] at hk
    simp only [execOp, ho]
    split at hk
    · rename_i v ty hx ht
      split at hk
      · rename_i hok
        exact box_sound hr hfr (show RV1 ρ v (a.eval x) from he x _ hx) hok (fun hf => hm hf x _ hx) hk
      · cases hk
    · cases hk
  | build t parts =>
    simp only [opE, ho] at hk
    simp only [execOp, ho]
    split at hk
    · rename_i ty ht
      split at hk
      · rename_i hagg
        split at hk
        · rename_i ps hp
          split at hk
          · rename_i q hq
            obtain ⟨u, hu, hru⟩ := build_sound (P := P) (w := w) hT he ht hagg hp hq
            refine ⟨_, _, _, hk, ?_⟩
            have : ((do pure (.value (← Instr.build t (parts.map fun (i, x) => (i, a.eval x)))) : Sem Next).run P w) = .ok (.value u) w := by
              simp only [Sem.run_bind, hu, Result.andThen_ok, Sem.run_pure]
            rw [this]
            exact Good.pure_ hr hru
          · cases hk
        · cases hk
      · cases hk
    · cases hk
  | buildSlice t n parts =>
    simp only [opE, ho] at hk
    simp only [execOp, ho]
    split at hk
    · rename_i ty ht
      split at hk
      · rename_i te htk hte
        split at hk
        · rename_i ps hp
          split at hk
          · rename_i vs hvs
            split at hk
            · rename_i hc
              simp only [Bool.and_eq_true] at hc
              obtain ⟨c1, c2, c3, c4⟩ := hc
              split at hk
              · rename_i q hq
                split at hk
                · rename_i hql
                  exact buildSlice_sound hT hr hfr he hm ht htk hte hp hvs (beq_true c1) (ble_true c2) hq (beq_true hql) (allSize_spec c4) (ble_true c3) hk
                · cases hk
              · cases hk
            · cases hk
          · cases hk
        · cases hk
      · cases hk
    · cases hk
  | load t x =>
    simp only [opE, ho] at hk
    simp only [execOp, ho]
    split at hk
    · rename_i p hx
      split at hk
      · rename_i v hv
        obtain ⟨u, hu, hru⟩ := loadE_sound (P := P) hT hr hv (he x _ hx)
        refine ⟨_, _, _, hk, ?_⟩
        have : ((do pure (.value (← Instr.loadAt t (a.eval x))) : Sem Next).run P w) = .ok (.value u) w := by
          simp only [Sem.run_bind, hu, Result.andThen_ok, Sem.run_pure]
        rw [this]
        exact Good.pure_ hr hru
      · cases hk
    · cases hk
  | store t x y =>
    simp only [opE, ho] at hk
    simp only [execOp, ho]
    split at hk
    · rename_i p v hx hy
      split at hk
      · rename_i h' hh
        obtain ⟨w', hrun, g1, g2⟩ := storeE_sound (P := P) hT hr hh (he x _ hx) (he y _ hy)
        refine ⟨_, _, _, hk, ?_⟩
        have : ((do Instr.storeAt t (a.eval x) (a.eval y); pure .skip : Sem Next).run P w) = .ok .skip w' := by
          simp only [Sem.run_bind, hrun, Result.andThen_ok, Sem.run_pure]
        rw [this]
        exact ⟨ρ, rfl, g1, g2, fun _ _ _ => rfl⟩
      · cases hk
    · cases hk
  | nilCheck x =>
    simp only [opE, ho] at hk
    simp only [execOp, ho]
    split at hk
    · rename_i b oo i hx
      have hv := he x _ hx
      refine ⟨_, _, _, hk, ?_⟩
      have hp : ∃ A, a.eval x = .pointer (some A) := by
        obtain ⟨L, _, hx'⟩ := hv
        split at hx'
        · exact ⟨_, hx'⟩
        · exact ⟨_, hx'.1⟩
      obtain ⟨A, hA⟩ := hp
      rw [hA] at hv ⊢
      exact Good.pure_ hr hv
    · cases hk
  | binOp op t x y u =>
    simp only [opE, ho] at hk
    simp only [execOp, ho]
    split at hk
    · rename_i hq
      obtain ⟨c, v, g1, g2, g3⟩ := binD_sound (P := P) (w := w) hT he hq hk
      refine ⟨_, _, _, g1, ?_⟩
      have : ((do pure (.value (← (do eqGuard op t x y (a.eval x) (a.eval y); binOp op t (a.eval x) (a.eval y)))) : Sem Next).run P w) = .ok (.value v) w := by
        rw [Sem.run_bind, g2]; rfl
      rw [this]
      exact Good.pure_ hr g3
    · cases hk
  | unOp op t x =>
    simp only [opE, ho] at hk
    simp only [execOp, ho]
    split at hk
    · rename_i c hx
      split at hk
      · rename_i d hd
        obtain ⟨v, g1, g2⟩ := unE_sound (P := P) (w := w) hd (show RC ρ c (a.eval x) from he x _ hx)
        refine ⟨_, _, _, hk, ?_⟩
        have : ((do pure (.value (← Op.unary op (a.eval x))) : Sem Next).run P w) = .ok (.value v) w := by
          simp only [Sem.run_bind, g1, Result.andThen_ok, Sem.run_pure]
        rw [this]
        exact Good.pure_ hr g2
      · cases hk
    · cases hk
  | makeSlice t l c =>
    simp only [opE, ho] at hk
    simp only [execOp, ho]
    split at hk
    · rename_i f1 f2 f3 f4 f5 el f7 ht
      split at hk
      · rename_i te hte
        obtain ⟨n, kl, hk, hl⟩ := countD_sound he hk
        obtain ⟨m, kc, hk, hc⟩ := countD_sound he hk
        split at hk
        · rename_i hnm
          simp only [realA, decide_eq_true_eq] at hnm
          split at hk
          · rename_i hb
            simp only [Bool.and_eq_true, realA, decide_eq_true_eq, mulZ_eq] at hb
            have hb1 := ble_true hb.1
            split at hk
            · rename_i q hq
              have hm63 : m ≤ maxLen := by
                have := Nat.le_mul_of_pos_right m (show 0 < te.bytes by omega)
                simp only [maxLen]
                omega
              rw [hl, hc]
              exact makeSlice_sound hT hr hfr ht rfl hte hnm hb.2 hm63 hq hk
            · cases hk
          · cases hk
        · cases hk
      · cases hk
    · cases hk
  | field t x f => exact field_sound hT hr he ho hk
  | index t x ix => exact index_sound hT hr he ho hk
  | call c =>
    simp only [opE, ho] at hk
    simp only [execOp, ho]
    split at hk
    · rename_i b hb
      obtain ⟨v, h', mv, g1, g2⟩ := builtin_sound (P := P) (ty := o.type) (consts := c.args.map fun | .const _ => true | _ => false) hT hr hfr hm he hk
      refine ⟨v, h', mv, g1, ?_⟩
      simp only [resolve, hb, Sem.run_bind, Sem.run_pure, Result.andThen_ok, invoke]
      exact g2
    · rename_i f hf
      split at hk
      · rename_i vs hvs
        split at hk
        · obtain ⟨h1, h2⟩ := hfr rfl
          obtain ⟨v, h', mv, g1, g2⟩ := hO f sid vs h k r hk N S ρ w (c.args.map a.eval) hr h1 h2 (by simpa using evs_sound he hvs)
          refine ⟨v, h', mv, g1, ?_⟩
          have : ((do let d ← resolve a.eval c o.type; invoke d.target d.args : Sem Next).run P w) = (callFunc f (c.args.map a.eval)).run P w := by
            simp [resolve, hf, Deferred.ofValue, Act.eval, invoke]
          rw [this]
          exact g2
        · cases hk
      · cases hk
    · rename_i t ht
      split at hk
      · rename_i f fa fq vs hfn hvs
        split at hk
        · obtain ⟨h1, h2⟩ := hfr rfl
          obtain ⟨xs, ys, hf, hxs, hys⟩ := he _ _ hfn
          have hargs : RVs ρ (vAV fa (vs ++ vAV fq [])) ((xs ++ c.args.map a.eval) ++ ys).toList := by
            simp only [Array.toList_append, Array.toList_map, List.append_assoc]
            exact vAV_rvs hxs (RVs_append (evs_sound he hvs) (by simpa using vAV_rvs hys (l := []) (us := []) ⟨rfl, fun i v u h => by simp at h⟩))
          obtain ⟨v, h', mv, g1, g2⟩ := hO f sid _ h k r hk N S ρ w ((xs ++ c.args.map a.eval) ++ ys) hr h1 h2 hargs
          refine ⟨v, h', mv, g1, ?_⟩
          have : ((do let d ← resolve a.eval c o.type; invoke d.target d.args : Sem Next).run P w) = (callFunc f ((xs ++ c.args.map a.eval) ++ ys)).run P w := by
            simp [resolve, ht, Deferred.ofValue, hf, invoke]
          rw [this]
          exact g2
        · cases hk
      · rename_i b vs hyl hvs
        split at hk
        · rename_i hb
          have hb := beq_true hb
          subst hb
          rw [caseG_eq] at hk
          split at hk
          · rename_i p hy
            obtain ⟨pb, h'⟩ := p
            cases pb with
            | false => cases hk
            | true =>
              obtain ⟨L, hL, hf⟩ := he _ _ hyl
              refine ⟨_, h', _, hk, ?_⟩
              have : ((do let d ← resolve a.eval c o.type; invoke d.target d.args : Sem Next).run P w) = (Instr.yield L.g (c.args.map a.eval)).run P w := by
                simp [resolve, ht, Deferred.ofValue, hf, invoke]
              rw [this]
              exact hY vs h' _ L hy (by simpa using evs_sound he hvs) hL sid fr
          · cases hk
        · cases hk
      · cases hk
    · cases hk
  | makeFunc fn xs ys =>
    simp only [opE, ho] at hk
    simp only [execOp, ho]
    split at hk
    · rename_i f
      split at hk
      · rename_i la lc ha hc
        split at hk
        · rename_i va vc hva hvc
          refine ⟨_, _, _, hk, ?_⟩
          simp only [Instr.makeFunc, Sem.run_bind, Sem.run_pure, Result.andThen_ok]
          exact Good.pure_ hr ⟨_, _, rfl, v1s_rl hva (by simpa using evs_sound he ha), v1s_rl hvc (by simpa using evs_sound he hc)⟩
        · cases hk
      · cases hk
    · cases hk
  | _ => simp [opE, ho] at hk

end
end Go.Sx
