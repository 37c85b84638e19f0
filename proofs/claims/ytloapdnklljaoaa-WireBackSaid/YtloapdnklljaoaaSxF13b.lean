/- WireBack: the law returns true for every input that the row lets in, and its arguments read as before; no further condition. -/
import Derived.Test.YtloapdnklljaoaaRows
import Derived.Test.YtloapdnklljaoaaSxLs
import Derived.Test.YtloapdnklljaoaaSxM13w
namespace Go.Proofs.Ytloapdnklljaoaa.wireBack
open Go.ChangeShapes Go.WideShapes Go.ChangeAt Go.RowKit Go.Sx
open Go.ChangeMaps (open_string shut_string)
theorem own : ownKnob Try.prog.godebug = none := by kernel_rfl
theorem laidOut : laidOutB Try.prog = true := by kernel_rfl
theorem fields0 : ∀ (j : Nat) (k : FK), ([.int .i64, .int .i64, .int .i64, .str] : List FK)[j]? = some k → ∃ (f : Field) (d : TypeDesc), (match Try.prog.underlying 30 with | some (.struct fs) => fs | _ => #[])[j]? = some f ∧ f.offset = j ∧ Try.prog.cellsOf f.type = 1 ∧ Try.prog.underlying f.type = some d ∧ k.fits d := by
  rw [Try.underlying30]
  intro j k hj
  match j, hj with
  | 0, hj => exact ⟨_, _, rfl, rfl, by kernel_rfl, Try.underlying3, by obtain rfl := Option.some.inj hj; exact rfl⟩
  | 1, hj => exact ⟨_, _, rfl, rfl, by kernel_rfl, Try.underlying3, by obtain rfl := Option.some.inj hj; exact rfl⟩
  | 2, hj => exact ⟨_, _, rfl, rfl, by kernel_rfl, Try.underlying3, by obtain rfl := Option.some.inj hj; exact rfl⟩
  | 3, hj => exact ⟨_, _, rfl, rfl, by kernel_rfl, Try.underlying9, by obtain rfl := Option.some.inj hj; exact rfl⟩
  | j + 4, hj => cases hj
set_option maxRecDepth 100000 in
theorem lifted (os : Os) (started : os.Started) (H : Type) (enc : TypeId × Value → H) :
    ReturnsInHanded {} Try.checked os 5 .any (Rows.wireBackSpec.pre6 enc Try.prog Try.f5 Rows.wireBackRow.domain false) (Rows.wireBackSpec.post enc Try.prog Try.f5 false true false false) := by
  refine returnsInHanded_of_change_sized (C := Try.checked) own started (by kernel_rfl) Try.func5
    (ChangeSpec.witness6 (enc := enc) (C := Try.checked) false ⟨#[], #[.slice none 0 0, .string ByteArray.empty], []⟩ 8 (by kernel_rfl) (by kernel_rfl) (by kernel_rfl) (by kernel_rfl)) ?_
  intro W base args ds gs before hval0 hW hcnd hz _
  have hval : ∀ (j : Nat) t v, Try.f5.params[j]? = some t → args[j]? = some v → Value.okWide Try.prog W .any base t v := hval0
  have hW' := hW
  obtain ⟨p, q, hA0, hV, rfl, hfz, hnd⟩ := hW
  have hA : DataW.TrodAll enc Try.prog W 0 (fun _ => true) true Try.f5.params.toList args.toList ds p := hA0
  rw [Try.params5] at hA hval hz
  obtain ⟨v0, vs0, d0, ds0, p0, q0, hargs, rfl, rfl, h0, r0⟩ := trodAll_cons hA
  obtain ⟨v1, vs1, d1, ds1, p1, q1, rfl, rfl, rfl, h1, r1⟩ := trodAll_cons r0
  obtain ⟨rfl, rfl, rfl⟩ := trodAll_nil r1
  obtain rfl : args = #[v0, v1] := by cases args; simp_all
  obtain ⟨rfl, rfl⟩ := trodVars_none hV
  obtain ⟨L0, n0, w0, ty0, hl0, he0, hv0, hb0⟩ := open_row Try.underlying22 (e := 30) (Nat.lt_of_lt_of_eq (by decide : 0 < 4) (by kernel_rfl)) (hval 0 22 v0 rfl rfl) h0 0 W.heap.size (fun _ => False)
  have hk0 := recs_has (ks := [.int .i64, .int .i64, .int .i64, .str]) Try.underlying30 (by kernel_rfl) (by have := fields0; rw [Try.underlying30] at this; exact this) he0
  have hl0' : w0.length = n0 * ([.int .i64, .int .i64, .int .i64, .str] : List FK).length := hl0.trans (by rw [show Try.prog.cellsOf 30 = 4 from by kernel_rfl]; rfl)
  have hz0 : Try.prog.cellsOf 30 = 4 := by kernel_rfl
  rw [hz0] at hv0
  obtain ⟨a1, rfl, rfl, rfl, w1⟩ := open_string Try.underlying9 (hval 1 9 v1 rfl rfl) h1
  let ρ : Map := fun b => match b with | 0 => L0 | _ => none
  have hh : HR W.heap.size (fun _ => False) ρ ((0, ⟨[.recs n0 (colsFor [.int .i64, .int .i64, .int .i64, .str] n0 w0)], ty0, 0⟩) :: []) W := HR_more (HR_nil0 ρ) (hb0 ρ [.recs n0 (colsFor [.int .i64, .int .i64, .int .i64, .str] n0 w0)] rfl (recs_rc (by decide) hl0' hk0 _)) rfl (by intro c y hc; simp [lk] at hc)
  have law := law5o n0 (natsOf a1) ty0 n0 (((List.range n0).map fun r => w0.getD (r * 4 + 0) undef).map intOfV) (((List.range n0).map fun r => w0.getD (r * 4 + 1) undef).map intOfV) (((List.range n0).map fun r => w0.getD (r * 4 + 2) undef).map intOfV) (((List.range n0).map fun r => w0.getD (r * 4 + 3) undef).map strOfV) (ints_wf (col_has hl0' (j := 0) rfl hk0)) (ints_wf (col_has hl0' (j := 1) rfl hk0)) (ints_wf (col_has hl0' (j := 2) rfl hk0)) (strs_ok (col_has hl0' (j := 3) rfl hk0)) (natsOf_lt a1) (by rw [natsOf_len]; exact Nat.lt_of_le_of_lt (sized_string hz (j := 1) rfl rfl) reachBytes_lt)
  have e0A : ∀ A : Ar, (g5o A [.v (.cell (.sl 0 none n0 4)), .v (.cell (.str (natsOf a1)))] ((0, ⟨[.recs n0 (colsFor [.int .i64, .int .i64, .int .i64, .str] n0 w0)], ty0, 0⟩) :: [])).map (fun p => (p.1, p.2.1)) = some (g5ok A n0 (natsOf a1) ty0 n0 (((List.range n0).map fun r => w0.getD (r * 4 + 0) undef).map intOfV) (((List.range n0).map fun r => w0.getD (r * 4 + 1) undef).map intOfV) (((List.range n0).map fun r => w0.getD (r * 4 + 2) undef).map intOfV) (((List.range n0).map fun r => w0.getD (r * 4 + 3) undef).map strOfV), AV.v (.cell (.bool (g5r0 A n0 (natsOf a1) ty0 n0 (((List.range n0).map fun r => w0.getD (r * 4 + 0) undef).map intOfV) (((List.range n0).map fun r => w0.getD (r * 4 + 1) undef).map intOfV) (((List.range n0).map fun r => w0.getD (r * 4 + 2) undef).map intOfV) (((List.range n0).map fun r => w0.getD (r * 4 + 3) undef).map strOfV))))) := fun A => rfl
  have e0 := e0A realA
  rw [law.1, law.2] at e0
  have hf : ∃ h', FnH Try.prog 5 [.v (.cell (.sl 0 none n0 4)), .v (.cell (.str (natsOf a1)))] ((0, ⟨[.recs n0 (colsFor [.int .i64, .int .i64, .int .i64, .str] n0 w0)], ty0, 0⟩) :: []) (.v (.cell (.bool true))) h' := by
    obtain ⟨h', e1⟩ := ent_spec e0
    exact ⟨h', g5o_sound _ _ _ _ e1⟩
  obtain ⟨h', hf⟩ := hf
  clear hA0 hval0
  refine (law_walkH hf (rvs_cons (hv0 ρ rfl) (rvs_cons (rv_string _ _) (rvs_nil _))) hh rfl).mono fun e W' ⟨he, bel⟩ => ?_
  subst he
  exact ⟨_, rfl, law_post (tb := 4) laidOut hW' rfl rfl rfl Try.underlying4 (by kernel_rfl) bel⟩

/-- WireBack: the law returns true for every input that the row lets in, and its arguments read as before; no further condition. -/
theorem over : Rows.wireBackRow.holds Try.pinned (OpenSpec.ofChange Rows.wireBackSpec) :=
  OpenClaim.holds_of_wide 5 Try.f5 rfl rfl rfl rfl rfl rfl rfl ⟨rfl, rfl, rfl, rfl, rfl⟩ rfl rfl rfl rfl rfl (by kernel_rfl) Try.func5 (by kernel_rfl)
    (of_decide_eq_true (by kernel_rfl)) (by unfold Func.isWrapper; first | (rw [if_pos (by decide +kernel)]; kernel_rfl) | (rw [if_neg (by decide +kernel)]; exact ⟨rfl, rfl⟩))
    (fun os started H enc _ => lifted os started H enc)
theorem wireBack_holds : Rows.WireBackSaid := over
end Go.Proofs.Ytloapdnklljaoaa.wireBack
