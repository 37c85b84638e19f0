import Derived.Test.YtaiehobmadflkaaRows
import Derived.Test.YtaiehobmadflkaaSxLs
import Derived.Test.YtaiehobmadflkaaSxN02n
/- Sum512Goes: the law returns true for every input that the row lets in, and its arguments read as before; no further condition. -/
namespace Go.Proofs.Ytaiehobmadflkaa.sum512Goes
open Go.ChangeShapes Go.WideShapes Go.ChangeAt Go.RowKit Go.Sx
open Go.ChangeMaps (open_string shut_string)
theorem own : ownKnob Try.prog.godebug = none := by kernel_rfl
theorem laidOut : laidOutB Try.prog = true := by kernel_rfl
set_option maxRecDepth 100000 in
theorem lifted (os : Os) (started : os.Started) (H : Type) (enc : TypeId × Value → H) :
    ReturnsInHanded {} Try.checked os 4 .any (Rows.sum512GoesSpec.pre6 enc Try.prog Try.f4 Rows.sum512GoesRow.domain false) (Rows.sum512GoesSpec.post enc Try.prog Try.f4 false true false false) := by
  refine returnsInHanded_of_change_sized (C := Try.checked) own started (by kernel_rfl) Try.func4
    (ChangeSpec.witness6 (enc := enc) (C := Try.checked) false ⟨#[], #[.slice none 0 0], []⟩ 8 (by kernel_rfl) (by kernel_rfl) (by kernel_rfl) (by kernel_rfl)) ?_
  intro W base args ds gs before hval0 hW hcnd hz _
  have hval : ∀ (j : Nat) t v, Try.f4.params[j]? = some t → args[j]? = some v → Value.okWide Try.prog W .any base t v := hval0
  have hW' := hW
  obtain ⟨p, q, hA0, hV, rfl, hfz, hnd⟩ := hW
  have hA : DataW.TrodAll enc Try.prog W 0 (fun _ => true) true Try.f4.params.toList args.toList ds p := hA0
  rw [Try.params4] at hA hval hz
  obtain ⟨v0, vs0, d0, ds0, p0, q0, hargs, rfl, rfl, h0, r0⟩ := trodAll_cons hA
  obtain ⟨rfl, rfl, rfl⟩ := trodAll_nil r0
  obtain rfl : args = #[v0] := by cases args; simp_all
  obtain ⟨rfl, rfl⟩ := trodVars_none hV
  obtain ⟨L0, n0, w0, ty0, hl0, he0, hv0, hb0⟩ := open_row Try.underlying25 (e := 9) (Nat.lt_of_lt_of_eq (by decide : 0 < 1) (by kernel_rfl)) (hval 0 25 v0 rfl rfl) h0 0 W.heap.size (fun _ => False)
  have hz0 : Try.prog.cellsOf 9 = 1 := by kernel_rfl
  have hk0 := flat_has (k := .str) Try.underlying9 rfl hz0 hl0 he0
  rw [hz0, Nat.mul_one] at hl0
  rw [hz0] at hv0
  let ρ : Map := fun b => match b with | 0 => L0 | _ => none
  have hh : HR W.heap.size (fun _ => False) ρ ((0, ⟨[FK.seg (.str) w0.length w0], ty0, 0⟩) :: []) W := HR_more (HR_nil0 ρ) (hb0 ρ [FK.seg (.str) w0.length w0] rfl (FK.seg_rc (by intro h; cases h) hk0 _)) rfl (by intro c y hc; simp [lk] at hc)
  have law := law4o n0 ty0 w0.length (w0.map strOfV) (strs_ok (mem_has hk0)) (by rw [List.length_map]; exact hl0)
  have e0A : ∀ A : Ar, (g4o A [.v (.cell (.sl 0 none n0 1))] ((0, ⟨[FK.seg (.str) w0.length w0], ty0, 0⟩) :: [])).map (fun p => (p.1, p.2.1)) = some (g4ok A n0 ty0 w0.length (w0.map strOfV), AV.v (.cell (.bool (g4r0 A n0 ty0 w0.length (w0.map strOfV))))) := fun A => rfl
  have e0 := e0A realA
  rw [law.1, law.2] at e0
  have hf : ∃ h', FnH Try.prog 4 [.v (.cell (.sl 0 none n0 1))] ((0, ⟨[FK.seg (.str) w0.length w0], ty0, 0⟩) :: []) (.v (.cell (.bool true))) h' := by
    obtain ⟨h', e1⟩ := ent_spec e0
    exact ⟨h', g4o_sound _ _ _ _ e1⟩
  obtain ⟨h', hf⟩ := hf
  clear hA0 hval0
  refine (law_walkH hf (rvs_cons (hv0 ρ rfl) (rvs_nil _)) hh rfl).mono fun e W' ⟨he, bel⟩ => ?_
  subst he
  exact ⟨_, rfl, law_post (tb := 4) laidOut hW' rfl rfl rfl Try.underlying4 (by kernel_rfl) bel⟩

/-- Sum512Goes: the law returns true for every input that the row lets in, and its arguments read as before; no further condition. -/
theorem over : Rows.sum512GoesRow.holds Try.pinned (OpenSpec.ofChange Rows.sum512GoesSpec) :=
  OpenClaim.holds_of_wide 4 Try.f4 rfl rfl rfl rfl rfl rfl rfl ⟨rfl, rfl, rfl, rfl, rfl⟩ rfl rfl rfl rfl rfl (by kernel_rfl) Try.func4 (by kernel_rfl)
    (of_decide_eq_true (by kernel_rfl)) (by unfold Func.isWrapper; first | (rw [if_pos (by decide +kernel)]; kernel_rfl) | (rw [if_neg (by decide +kernel)]; exact ⟨rfl, rfl⟩))
    (fun os started H enc _ => lifted os started H enc)
theorem sum512Goes_holds : Rows.Sum512GoesSaid := over
end Go.Proofs.Ytaiehobmadflkaa.sum512Goes
