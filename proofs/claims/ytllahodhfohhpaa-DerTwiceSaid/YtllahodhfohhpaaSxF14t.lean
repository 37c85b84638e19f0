import Derived.Test.YtllahodhfohhpaaRows
import Derived.Test.YtllahodhfohhpaaSxLs
import Derived.Test.YtllahodhfohhpaaSxLc
/- DerTwice: the law returns true for every input that the row lets in, and its arguments read as before; no further condition. -/
namespace Go.Proofs.Ytllahodhfohhpaa.derTwice
open Go.ChangeShapes Go.WideShapes Go.ChangeAt Go.RowKit Go.Sx
open Go.ChangeMaps (open_string shut_string)
theorem own : ownKnob Try.prog.godebug = none := by kernel_rfl
theorem laidOut : laidOutB Try.prog = true := by kernel_rfl
set_option maxRecDepth 100000 in
theorem lifted (os : Os) (started : os.Started) (H : Type) (enc : TypeId × Value → H) :
    ReturnsInHanded {} Try.checked os 5 .any (Rows.derTwiceSpec.pre6 enc Try.prog Try.f5 Rows.derTwiceRow.domain false) (Rows.derTwiceSpec.post enc Try.prog Try.f5 false true false false) := by
  refine returnsInHanded_of_change_sized (C := Try.checked) own started (by kernel_rfl) Try.func5
    (ChangeSpec.witness6 (enc := enc) (C := Try.checked) false ⟨#[], #[.agg #[.string ByteArray.empty, .string ByteArray.empty, .bool false, .slice none 0 0, .int .i64 0], .int .i64 0, .string ByteArray.empty], []⟩ 8 (by kernel_rfl) (by kernel_rfl) (by kernel_rfl) (by kernel_rfl)) ?_
  intro W base args ds gs before hval0 hW hcnd hz _
  have hval : ∀ (j : Nat) t v, Try.f5.params[j]? = some t → args[j]? = some v → Value.okWide Try.prog W .any base t v := hval0
  have hW' := hW
  obtain ⟨p, q, hA0, hV, rfl, hfz, hnd⟩ := hW
  have hA : DataW.TrodAll enc Try.prog W 0 (fun _ => true) true Try.f5.params.toList args.toList ds p := hA0
  rw [Try.params5] at hA hval hz
  obtain ⟨v0, vs0, d0, ds0, p0, q0, hargs, rfl, rfl, h0, r0⟩ := trodAll_cons hA
  obtain ⟨v1, vs1, d1, ds1, p1, q1, rfl, rfl, rfl, h1, r1⟩ := trodAll_cons r0
  obtain ⟨v2, vs2, d2, ds2, p2, q2, rfl, rfl, rfl, h2, r2⟩ := trodAll_cons r1
  obtain ⟨rfl, rfl, rfl⟩ := trodAll_nil r2
  obtain rfl : args = #[v0, v1, v2] := by cases args; simp_all
  obtain ⟨rfl, rfl⟩ := trodVars_none hV
  obtain ⟨x0, y0, c0, q0, L0, n0, w0, ty0, hx0, hy0, hq0, hl0, he0, hv0, hb0⟩ := open_cert (e := 9) Try.underlying47 ⟨rfl, rfl, rfl, rfl, rfl⟩ ⟨by kernel_rfl, by kernel_rfl, by kernel_rfl, by kernel_rfl, by kernel_rfl⟩ (by kernel_rfl) Try.underlying9 Try.underlying9 Try.underlying4 Try.underlying42 Try.underlying3 (by kernel_rfl) (Nat.lt_of_lt_of_eq (by decide : 0 < 1) (by kernel_rfl)) (hval 0 47 v0 rfl rfl) h0 0 W.heap.size (fun _ => False) (by kernel_rfl)
  have hz0 : Try.prog.cellsOf 9 = 1 := by kernel_rfl
  have hk0 := flat_has (k := .str) Try.underlying9 rfl hz0 hl0 he0
  rw [hz0, Nat.mul_one] at hl0
  obtain ⟨a1, rfl, rfl, rfl, w1⟩ := open_int Try.underlying3 (hval 1 3 v1 rfl rfl) h1
  obtain ⟨a2, rfl, rfl, rfl, w2⟩ := open_string Try.underlying9 (hval 2 9 v2 rfl rfl) h2
  let ρ : Map := fun b => match b with | 0 => L0 | _ => none
  have hh : HR W.heap.size (fun _ => False) ρ ((0, ⟨[FK.seg (.str) w0.length w0], ty0, 0⟩) :: []) W := HR_more (HR_nil0 ρ) (hb0 ρ [FK.seg (.str) w0.length w0] rfl (FK.seg_rc (by intro h; cases h) hk0 _)) rfl (by intro c y hc; simp [lk] at hc)
  have law := law5o (natsOf x0) (natsOf y0) c0 n0 q0 a1 (natsOf a2) ty0 w0.length (w0.map strOfV) (natsOf_lt x0) (natsOf_lt y0) (strs_ok (mem_has hk0)) w1 (natsOf_lt a2) (by rw [natsOf_len]; exact Nat.lt_of_le_of_lt (sized_string hz (j := 2) rfl rfl) reachBytes_lt)
  have e0A : ∀ A : Ar, (g5o A [.v (.agg [.one (.str (natsOf x0)), .one (.str (natsOf y0)), .one (.bool c0), .one (.sl 0 none n0 1), .one (.int .i64 q0)]), .v (.cell (.int .i64 a1)), .v (.cell (.str (natsOf a2)))] ((0, ⟨[FK.seg (.str) w0.length w0], ty0, 0⟩) :: [])).map (fun p => (p.1, p.2.1)) = some (g5ok A (natsOf x0) (natsOf y0) c0 n0 q0 a1 (natsOf a2) ty0 w0.length (w0.map strOfV), AV.v (.cell (.bool (g5r0 A (natsOf x0) (natsOf y0) c0 n0 q0 a1 (natsOf a2) ty0 w0.length (w0.map strOfV))))) := fun A => rfl
  have e0 := e0A realA
  rw [law.1, law.2] at e0
  have hf : ∃ h', FnH Try.prog 5 [.v (.agg [.one (.str (natsOf x0)), .one (.str (natsOf y0)), .one (.bool c0), .one (.sl 0 none n0 1), .one (.int .i64 q0)]), .v (.cell (.int .i64 a1)), .v (.cell (.str (natsOf a2)))] ((0, ⟨[FK.seg (.str) w0.length w0], ty0, 0⟩) :: []) (.v (.cell (.bool true))) h' := by
    obtain ⟨h', e1⟩ := ent_spec e0
    exact ⟨h', g5o_sound _ _ _ _ e1⟩
  obtain ⟨h', hf⟩ := hf
  clear hA0 hval0
  refine (law_walkH hf (rvs_cons (hv0 ρ rfl) (rvs_cons (rv_int _ _ _) (rvs_cons (rv_string _ _) (rvs_nil _)))) hh rfl).mono fun e W' ⟨he, bel⟩ => ?_
  subst he
  exact ⟨_, rfl, law_post (tb := 4) laidOut hW' rfl rfl rfl Try.underlying4 (by kernel_rfl) bel⟩

/-- DerTwice: the law returns true for every input that the row lets in, and its arguments read as before; no further condition. -/
theorem over : Rows.derTwiceRow.holds Try.pinned (OpenSpec.ofChange Rows.derTwiceSpec) :=
  OpenClaim.holds_of_wide 5 Try.f5 rfl rfl rfl rfl rfl rfl rfl ⟨rfl, rfl, rfl, rfl, rfl⟩ rfl rfl rfl rfl rfl (by kernel_rfl) Try.func5 (by kernel_rfl)
    (of_decide_eq_true (by kernel_rfl)) (by unfold Func.isWrapper; first | (rw [if_pos (by decide +kernel)]; kernel_rfl) | (rw [if_neg (by decide +kernel)]; exact ⟨rfl, rfl⟩))
    (fun os started H enc _ => lifted os started H enc)
theorem derTwice_holds : Rows.DerTwiceSaid := over
end Go.Proofs.Ytllahodhfohhpaa.derTwice
