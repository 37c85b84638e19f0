import Derived.Test.YtllahodhfohhpaaRows
import Derived.Test.YtllahodhfohhpaaSxLs
import Derived.Test.YtllahodhfohhpaaSxM14l
/- DerBack: the law returns true for every input that the row lets in, and its arguments read as before; no further condition. -/
namespace Go.Proofs.Ytllahodhfohhpaa.derBack
open Go.ChangeShapes Go.WideShapes Go.ChangeAt Go.RowKit Go.Sx
open Go.ChangeMaps (open_string shut_string)
theorem own : ownKnob Try.prog.godebug = none := by kernel_rfl
theorem laidOut : laidOutB Try.prog = true := by kernel_rfl
set_option maxRecDepth 100000 in
theorem lifted (os : Os) (started : os.Started) (H : Type) (enc : TypeId × Value → H) :
    ReturnsInHanded {} Try.checked os 4 .any (Rows.derBackSpec.pre6 enc Try.prog Try.f4 Rows.derBackRow.domain false) (Rows.derBackSpec.post enc Try.prog Try.f4 false true false false) := by
  refine returnsInHanded_of_change_sized (C := Try.checked) own started (by kernel_rfl) Try.func4
    (ChangeSpec.witness6 (enc := enc) (C := Try.checked) false ⟨#[], #[.slice none 0 0, .slice none 0 0, .string ByteArray.empty], []⟩ 8 (by kernel_rfl) (by kernel_rfl) (by kernel_rfl) (by kernel_rfl)) ?_
  intro W base args ds gs before hval0 hW hcnd hz _
  have hval : ∀ (j : Nat) t v, Try.f4.params[j]? = some t → args[j]? = some v → Value.okWide Try.prog W .any base t v := hval0
  have hW' := hW
  obtain ⟨p, q, hA0, hV, rfl, hfz, hnd⟩ := hW
  have hA : DataW.TrodAll enc Try.prog W 0 (fun _ => true) true Try.f4.params.toList args.toList ds p := hA0
  rw [Try.params4] at hA hval hz
  obtain ⟨v0, vs0, d0, ds0, p0, q0, hargs, rfl, rfl, h0, r0⟩ := trodAll_cons hA
  obtain ⟨v1, vs1, d1, ds1, p1, q1, rfl, rfl, rfl, h1, r1⟩ := trodAll_cons r0
  obtain ⟨v2, vs2, d2, ds2, p2, q2, rfl, rfl, rfl, h2, r2⟩ := trodAll_cons r1
  obtain ⟨rfl, rfl, rfl⟩ := trodAll_nil r2
  obtain rfl : args = #[v0, v1, v2] := by cases args; simp_all
  obtain ⟨rfl, rfl⟩ := trodVars_none hV
  obtain ⟨L0, n0, w0, ty0, hl0, he0, hv0, hb0⟩ := open_row Try.underlying42 (e := 9) (Nat.lt_of_lt_of_eq (by decide : 0 < 1) (by kernel_rfl)) (hval 0 42 v0 rfl rfl) h0 0 W.heap.size (fun _ => False)
  have hz0 : Try.prog.cellsOf 9 = 1 := by kernel_rfl
  have hk0 := flat_has (k := .str) Try.underlying9 rfl hz0 hl0 he0
  rw [hz0, Nat.mul_one] at hl0
  rw [hz0] at hv0
  obtain ⟨L1, n1, w1, ty1, hl1, he1, hv1, hb1⟩ := open_row Try.underlying43 (e := 5) (Nat.lt_of_lt_of_eq (by decide : 0 < 1) (by kernel_rfl)) (hval 1 43 v1 rfl rfl) h1 1 W.heap.size (fun _ => False)
  have hz1 : Try.prog.cellsOf 5 = 1 := by kernel_rfl
  have hk1 := flat_has (k := .nat .u8) Try.underlying5 ⟨rfl, rfl⟩ hz1 hl1 he1
  rw [hz1, Nat.mul_one] at hl1
  rw [hz1] at hv1
  obtain ⟨a2, rfl, rfl, rfl, w2⟩ := open_string Try.underlying9 (hval 2 9 v2 rfl rfl) h2
  let ρ : Map := fun b => match b with | 0 => L0 | 1 => L1 | _ => none
  have hh : HR W.heap.size (fun _ => False) ρ ((0, ⟨[FK.seg (.str) w0.length w0], ty0, 0⟩) :: (1, ⟨[FK.seg (.nat .u8) w1.length w1], ty1, 0⟩) :: []) W := HR_more (HR_more (HR_nil0 ρ) (hb1 ρ [FK.seg (.nat .u8) w1.length w1] rfl (FK.seg_rc (by intro h; cases h) hk1 _)) rfl (by intro c y hc; simp [lk] at hc)) (hb0 ρ [FK.seg (.str) w0.length w0] rfl (FK.seg_rc (by intro h; cases h) hk0 _)) rfl (by intro c y hc; simp only [lk_cons] at hc; (repeat' (split at hc)) <;> first | (cases hc; rfl) | (simp [lk] at hc))
  have law := law4o n0 n1 (natsOf a2) ty0 w0.length (w0.map strOfV) ty1 w1.length (w1.map natOfV) (strs_ok (mem_has hk0)) (by rw [List.length_map]; exact hl0) (nums_lt (mem_has hk1)) (by rw [List.length_map]; exact hl1) (natsOf_lt a2) (by rw [natsOf_len]; exact Nat.lt_of_le_of_lt (sized_string hz (j := 2) rfl rfl) reachBytes_lt)
  have e0A : ∀ A : Ar, (g4o A [.v (.cell (.sl 0 none n0 1)), .v (.cell (.sl 1 none n1 1)), .v (.cell (.str (natsOf a2)))] ((0, ⟨[FK.seg (.str) w0.length w0], ty0, 0⟩) :: (1, ⟨[FK.seg (.nat .u8) w1.length w1], ty1, 0⟩) :: [])).map (fun p => (p.1, p.2.1)) = some (g4ok A n0 n1 (natsOf a2) ty0 w0.length (w0.map strOfV) ty1 w1.length (w1.map natOfV), AV.v (.cell (.bool (g4r0 A n0 n1 (natsOf a2) ty0 w0.length (w0.map strOfV) ty1 w1.length (w1.map natOfV))))) := fun A => rfl
  have e0 := e0A realA
  rw [law.1, law.2] at e0
  have hf : ∃ h', FnH Try.prog 4 [.v (.cell (.sl 0 none n0 1)), .v (.cell (.sl 1 none n1 1)), .v (.cell (.str (natsOf a2)))] ((0, ⟨[FK.seg (.str) w0.length w0], ty0, 0⟩) :: (1, ⟨[FK.seg (.nat .u8) w1.length w1], ty1, 0⟩) :: []) (.v (.cell (.bool true))) h' := by
    obtain ⟨h', e1⟩ := ent_spec e0
    exact ⟨h', g4o_sound _ _ _ _ e1⟩
  obtain ⟨h', hf⟩ := hf
  clear hA0 hval0
  refine (law_walkH hf (rvs_cons (hv0 ρ rfl) (rvs_cons (hv1 ρ rfl) (rvs_cons (rv_string _ _) (rvs_nil _)))) hh rfl).mono fun e W' ⟨he, bel⟩ => ?_
  subst he
  exact ⟨_, rfl, law_post (tb := 4) laidOut hW' rfl rfl rfl Try.underlying4 (by kernel_rfl) bel⟩

/-- DerBack: the law returns true for every input that the row lets in, and its arguments read as before; no further condition. -/
theorem over : Rows.derBackRow.holds Try.pinned (OpenSpec.ofChange Rows.derBackSpec) :=
  OpenClaim.holds_of_wide 4 Try.f4 rfl rfl rfl rfl rfl rfl rfl ⟨rfl, rfl, rfl, rfl, rfl⟩ rfl rfl rfl rfl rfl (by kernel_rfl) Try.func4 (by kernel_rfl)
    (of_decide_eq_true (by kernel_rfl)) (by unfold Func.isWrapper; first | (rw [if_pos (by decide +kernel)]; kernel_rfl) | (rw [if_neg (by decide +kernel)]; exact ⟨rfl, rfl⟩))
    (fun os started H enc _ => lifted os started H enc)
theorem derBack_holds : Rows.DerBackSaid := over
end Go.Proofs.Ytllahodhfohhpaa.derBack
