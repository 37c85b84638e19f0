/- FieldReckons: the law returns true for every input that the row lets in, and its arguments read as before; no further condition. -/
import Derived.Test.YtnnepclpggbjgaaRows
import Derived.Test.YtnnepclpggbjgaaSxLaw
import Derived.Test.YtnnepclpggbjgaaSxM03d
namespace Go.Proofs.Ytnnepclpggbjgaa.fieldReckons
open Go.ChangeShapes Go.WideShapes Go.ChangeAt Go.RowKit Go.Sx
open Go.ChangeMaps (open_string shut_string)
theorem own : ownKnob Try.prog.godebug = none := by kernel_rfl
theorem laidOut : laidOutB Try.prog = true := by kernel_rfl
set_option maxRecDepth 100000 in
theorem lifted (os : Os) (started : os.Started) (H : Type) (enc : TypeId × Value → H) :
    ReturnsInHanded {} Try.checked os 3 .any (Rows.fieldReckonsSpec.pre6 enc Try.prog Try.f3 Rows.fieldReckonsRow.domain false) (Rows.fieldReckonsSpec.post enc Try.prog Try.f3 false true false false) := by
  refine returnsInHanded_of_change_sized (C := Try.checked) own started (by kernel_rfl) Try.func3
    (ChangeSpec.witness6 (enc := enc) (C := Try.checked) false ⟨#[], #[.agg #[.int .u64 0, .int .u64 0, .int .u64 0, .int .u64 0], .agg #[.int .u64 0, .int .u64 0, .int .u64 0, .int .u64 0]], []⟩ 8 (by kernel_rfl) (by kernel_rfl) (by kernel_rfl) (by kernel_rfl)) ?_
  intro W base args ds gs before hval0 hW hcnd hz _
  have hval : ∀ (j : Nat) t v, Try.f3.params[j]? = some t → args[j]? = some v → Value.okWide Try.prog W .any base t v := hval0
  have hW' := hW
  obtain ⟨p, q, hA0, hV, rfl, hfz, hnd⟩ := hW
  have hA : DataW.TrodAll enc Try.prog W 0 (fun _ => true) true Try.f3.params.toList args.toList ds p := hA0
  rw [Try.params3] at hA hval hz
  obtain ⟨v0, vs0, d0, ds0, p0, q0, hargs, rfl, rfl, h0, r0⟩ := trodAll_cons hA
  obtain ⟨v1, vs1, d1, ds1, p1, q1, rfl, rfl, rfl, h1, r1⟩ := trodAll_cons r0
  obtain ⟨rfl, rfl, rfl⟩ := trodAll_nil r1
  obtain rfl : args = #[v0, v1] := by cases args; simp_all
  obtain ⟨rfl, rfl⟩ := trodVars_none hV
  obtain ⟨a0, b0, c0, w0⟩ := open_nums Try.underlying24 Try.underlying22 (by kernel_rfl) (by kernel_rfl) rfl (hval 0 24 v0 rfl rfl) h0 (fun _ => none)
  obtain ⟨a1, b1, c1, w1⟩ := open_nums Try.underlying24 Try.underlying22 (by kernel_rfl) (by kernel_rfl) rfl (hval 1 24 v1 rfl rfl) h1 (fun _ => none)
  clear hA0 hval0
  refine (law_walk (g3o_sound _ _ (law3 a0 b0 c0 a1 b1 c1)) (rvs_cons (w0) (rvs_cons (w1) (rvs_nil _))) rfl).mono fun e W' ⟨he, bel⟩ => ?_
  subst he
  exact ⟨_, rfl, law_post (tb := 4) laidOut hW' rfl rfl rfl Try.underlying4 (by kernel_rfl) bel⟩

/-- FieldReckons: the law returns true for every input that the row lets in, and its arguments read as before; no further condition. -/
theorem over : Rows.fieldReckonsRow.holds Try.pinned (OpenSpec.ofChange Rows.fieldReckonsSpec) :=
  OpenClaim.holds_of_wide 3 Try.f3 rfl rfl rfl rfl rfl rfl rfl ⟨rfl, rfl, rfl, rfl, rfl⟩ rfl rfl rfl rfl rfl (by kernel_rfl) Try.func3 (by kernel_rfl)
    (of_decide_eq_true (by kernel_rfl)) (by unfold Func.isWrapper; first | (rw [if_pos (by decide +kernel)]; kernel_rfl) | (rw [if_neg (by decide +kernel)]; exact ⟨rfl, rfl⟩))
    (fun os started H enc _ => lifted os started H enc)
theorem fieldReckons_holds : Rows.FieldReckonsSaid := over
end Go.Proofs.Ytnnepclpggbjgaa.fieldReckons
