/- WireReads: the law returns true for every input that the row lets in, and its arguments read as before; no further condition. -/
import Derived.Test.YtloapdnklljaoaaRows
import Derived.Test.YtloapdnklljaoaaSxLs
import Derived.Test.YtloapdnklljaoaaSxN13r
namespace Go.Proofs.Ytloapdnklljaoaa.wireReads
open Go.ChangeShapes Go.WideShapes Go.ChangeAt Go.RowKit Go.Sx
open Go.ChangeMaps (open_string shut_string)
theorem own : ownKnob Try.prog.godebug = none := by kernel_rfl
theorem laidOut : laidOutB Try.prog = true := by kernel_rfl
theorem fields1 : ∀ (j : Nat) (k : FK), ([.int .i64, .int .i64, .int .i64, .str] : List FK)[j]? = some k → ∃ (f : Field) (d : TypeDesc), (match Try.prog.underlying 30 with | some (.struct fs) => fs | _ => #[])[j]? = some f ∧ f.offset = j ∧ Try.prog.cellsOf f.type = 1 ∧ Try.prog.underlying f.type = some d ∧ k.fits d := by
  rw [Try.underlying30]
  intro j k hj
  match j, hj with
  | 0, hj => exact ⟨_, _, rfl, rfl, by kernel_rfl, Try.underlying3, by obtain rfl := Option.some.inj hj; exact rfl⟩
  | 1, hj => exact ⟨_, _, rfl, rfl, by kernel_rfl, Try.underlying3, by obtain rfl := Option.some.inj hj; exact rfl⟩
  | 2, hj => exact ⟨_, _, rfl, rfl, by kernel_rfl, Try.underlying3, by obtain rfl := Option.some.inj hj; exact rfl⟩
  | 3, hj => exact ⟨_, _, rfl, rfl, by kernel_rfl, Try.underlying9, by obtain rfl := Option.some.inj hj; exact rfl⟩
  | j + 4, hj => cases hj
set_option maxRecDepth 100000 in
theorem lifted (os : Os) (started : os.Started) (H : Type) (enc : TypeId × Value → H) :
    ReturnsInHanded {} Try.checked os 4 .any (Rows.wireReadsSpec.pre6 enc Try.prog Try.f4 Rows.wireReadsRow.domain false) (Rows.wireReadsSpec.post enc Try.prog Try.f4 false true false false) := by
  refine returnsInHanded_of_change_sized (C := Try.checked) own started (by kernel_rfl) Try.func4
    (ChangeSpec.witness6 (enc := enc) (C := Try.checked) false ⟨#[], #[.string ByteArray.empty, .slice none 0 0], []⟩ 8 (by kernel_rfl) (by kernel_rfl) (by kernel_rfl) (by kernel_rfl)) ?_
  intro W base args ds gs before hval0 hW hcnd hz _
  have hval : ∀ (j : Nat) t v, Try.f4.params[j]? = some t → args[j]? = some v → Value.okWide Try.prog W .any base t v := hval0
  have hW' := hW
  obtain ⟨p, q, hA0, hV, rfl, hfz, hnd⟩ := hW
  have hA : DataW.TrodAll enc Try.prog W 0 (fun _ => true) true Try.f4.params.toList args.toList ds p := hA0
  rw [Try.params4] at hA hval hz
  obtain ⟨v0, vs0, d0, ds0, p0, q0, hargs, rfl, rfl, h0, r0⟩ := trodAll_cons hA
  obtain ⟨v1, vs1, d1, ds1, p1, q1, rfl, rfl, rfl, h1, r1⟩ := trodAll_cons r0
  obtain ⟨rfl, rfl, rfl⟩ := trodAll_nil r1
  obtain rfl : args = #[v0, v1] := by cases args; simp_all
  obtain ⟨rfl, rfl⟩ := trodVars_none hV
  obtain ⟨a0, rfl, rfl, rfl, w0⟩ := open_string Try.underlying9 (hval 0 9 v0 rfl rfl) h0
  obtain ⟨L1, n1, w1, ty1, hl1, he1, hv1, hb1⟩ := open_row Try.underlying22 (e := 30) (Nat.lt_of_lt_of_eq (by decide : 0 < 4) (by kernel_rfl)) (hval 1 22 v1 rfl rfl) h1 0 W.heap.size (fun _ => False)
  have hk1 := recs_has (ks := [.int .i64, .int .i64, .int .i64, .str]) Try.underlying30 (by kernel_rfl) (by have := fields1; rw [Try.underlying30] at this; exact this) he1
  have hl1' : w1.length = n1 * ([.int .i64, .int .i64, .int .i64, .str] : List FK).length := hl1.trans (by rw [show Try.prog.cellsOf 30 = 4 from by kernel_rfl]; rfl)
  have hz1 : Try.prog.cellsOf 30 = 4 := by kernel_rfl
  rw [hz1] at hv1
  let ρ : Map := fun b => match b with | 0 => L1 | _ => none
  have hh : HR W.heap.size (fun _ => False) ρ ((0, ⟨[.recs n1 (colsFor [.int .i64, .int .i64, .int .i64, .str] n1 w1)], ty1, 0⟩) :: []) W := HR_more (HR_nil0 ρ) (hb1 ρ [.recs n1 (colsFor [.int .i64, .int .i64, .int .i64, .str] n1 w1)] rfl (recs_rc (by decide) hl1' hk1 _)) rfl (by intro c y hc; simp [lk] at hc)
  have law := law4o (natsOf a0) n1 ty1 n1 (((List.range n1).map fun r => w1.getD (r * 4 + 0) undef).map intOfV) (((List.range n1).map fun r => w1.getD (r * 4 + 1) undef).map intOfV) (((List.range n1).map fun r => w1.getD (r * 4 + 2) undef).map intOfV) (((List.range n1).map fun r => w1.getD (r * 4 + 3) undef).map strOfV) (natsOf_lt a0) (by rw [natsOf_len]; exact Nat.lt_of_le_of_lt (sized_string hz (j := 0) rfl rfl) reachBytes_lt) (ints_wf (col_has hl1' (j := 0) rfl hk1)) (ints_wf (col_has hl1' (j := 1) rfl hk1)) (ints_wf (col_has hl1' (j := 2) rfl hk1)) (strs_ok (col_has hl1' (j := 3) rfl hk1))
  have e0A : ∀ A : Ar, (g4o A [.v (.cell (.str (natsOf a0))), .v (.cell (.sl 0 none n1 4))] ((0, ⟨[.recs n1 (colsFor [.int .i64, .int .i64, .int .i64, .str] n1 w1)], ty1, 0⟩) :: [])).map (fun p => (p.1, p.2.1)) = some (g4ok A (natsOf a0) n1 ty1 n1 (((List.range n1).map fun r => w1.getD (r * 4 + 0) undef).map intOfV) (((List.range n1).map fun r => w1.getD (r * 4 + 1) undef).map intOfV) (((List.range n1).map fun r => w1.getD (r * 4 + 2) undef).map intOfV) (((List.range n1).map fun r => w1.getD (r * 4 + 3) undef).map strOfV), AV.v (.cell (.bool (g4r0 A (natsOf a0) n1 ty1 n1 (((List.range n1).map fun r => w1.getD (r * 4 + 0) undef).map intOfV) (((List.range n1).map fun r => w1.getD (r * 4 + 1) undef).map intOfV) (((List.range n1).map fun r => w1.getD (r * 4 + 2) undef).map intOfV) (((List.range n1).map fun r => w1.getD (r * 4 + 3) undef).map strOfV))))) := fun A => rfl
  have e0 := e0A realA
  rw [law.1, law.2] at e0
  have hf : ∃ h', FnH Try.prog 4 [.v (.cell (.str (natsOf a0))), .v (.cell (.sl 0 none n1 4))] ((0, ⟨[.recs n1 (colsFor [.int .i64, .int .i64, .int .i64, .str] n1 w1)], ty1, 0⟩) :: []) (.v (.cell (.bool true))) h' := by
    obtain ⟨h', e1⟩ := ent_spec e0
    exact ⟨h', g4o_sound _ _ _ _ e1⟩
  obtain ⟨h', hf⟩ := hf
  clear hA0 hval0
  refine (law_walkH hf (rvs_cons (rv_string _ _) (rvs_cons (hv1 ρ rfl) (rvs_nil _))) hh rfl).mono fun e W' ⟨he, bel⟩ => ?_
  subst he
  exact ⟨_, rfl, law_post (tb := 4) laidOut hW' rfl rfl rfl Try.underlying4 (by kernel_rfl) bel⟩

/-- WireReads: the law returns true for every input that the row lets in, and its arguments read as before; no further condition. -/
theorem over : Rows.wireReadsRow.holds Try.pinned (OpenSpec.ofChange Rows.wireReadsSpec) :=
  OpenClaim.holds_of_wide 4 Try.f4 rfl rfl rfl rfl rfl rfl rfl ⟨rfl, rfl, rfl, rfl, rfl⟩ rfl rfl rfl rfl rfl (by kernel_rfl) Try.func4 (by kernel_rfl)
    (of_decide_eq_true (by kernel_rfl)) (by unfold Func.isWrapper; first | (rw [if_pos (by decide +kernel)]; kernel_rfl) | (rw [if_neg (by decide +kernel)]; exact ⟨rfl, rfl⟩))
    (fun os started H enc _ => lifted os started H enc)
theorem wireReads_holds : Rows.WireReadsSaid := over
end Go.Proofs.Ytloapdnklljaoaa.wireReads
