/- WireWrites: the law returns true for every input that the row lets in, and its arguments read as before; no further condition. -/
import Derived.Test.YtloapdnklljaoaaRows
import Derived.WalkKit
import Derived.ProofKit
import Derived.OpenShut
import Derived.JoinedCond
import Derived.Test.YtloapdnklljaoaaSxLu
import Derived.Test.YtloapdnklljaoaaSxN13e
namespace Go.Proofs.Ytloapdnklljaoaa.wireWrites
open Go.ChangeShapes Go.WideShapes Go.ChangeAt Go.RowKit Go.Sx
open Go.ChangeMaps (open_string shut_string)
theorem own : ownKnob Try.prog.godebug = none := by kernel_rfl
theorem laidOut : laidOutB Try.prog = true := by kernel_rfl
theorem fields0 : ∀ (j : Nat) (k : FK), ([.int .i64, .int .i64, .int .i64, .str] : List FK)[j]? = some k → ∃ (f : Field) (d : TypeDesc), (match Try.prog.underlying 30 with | some (.struct fs) => fs | _ => #[])[j]? = some f ∧ f.offset = j ∧ Try.prog.cellsOf f.type = 1 ∧ Try.prog.underlying f.type = some d ∧ k.fits d := by
  rw [Try.underlying30]
  intro j k hj
  match j, hj with
  | 0, hj => exact ⟨_, _, rfl, rfl, by kernel_rfl, Try.underlying3, by obtain rfl := Option.some.inj hj; exact rfl⟩
  | 1, hj => exact ⟨_, _, rfl, rfl, by kernel_rfl, Try.underlying3, by obtain rfl := Option.some.inj hj; exact rfl⟩
  | 2, hj => exact ⟨_, _, rfl, rfl, by kernel_rfl, Try.underlying3, by obtain rfl := Option.some.inj hj; exact rfl⟩
  | 3, hj => exact ⟨_, _, rfl, rfl, by kernel_rfl, Try.underlying9, by obtain rfl := Option.some.inj hj; exact rfl⟩
  | j + 4, hj => cases hj
theorem part_le {H : Type} {d : DataW H} {l : List (DataW H)} (h : d ∈ l) : Rows.uptoBulk d ≤ Rows.uptoBulkAll l := by
  induction l with
  | nil => cases h
  | cons x r ih =>
    simp only [Rows.uptoBulkAll]
    rcases List.mem_cons.1 h with e | e
    · subst e; omega
    · have := ih e; omega
theorem msr {H : Type} : Msr (H := H) Rows.uptoBulk where
  sl := fun es sp y h => by
    have := part_le h
    simp only [Rows.uptoBulk]; omega
  ag := fun ps y h => by
    have := part_le h
    simp only [Rows.uptoBulk]; omega
  st := fun b => by simp only [Rows.uptoBulk]; omega
set_option maxRecDepth 100000 in
theorem contract (H : Type) (enc : TypeId × Value → H) (W : World) (base : Nat) (args : Array Value) (ds gs : List (DataW H)) (before : List MemPlace)
    (hval0 : ∀ (j : Nat) t v, Try.f3.params[j]? = some t → args[j]? = some v → Value.okWide Try.prog W .any base t v)
    (hW : DataW.Whole enc Try.prog Try.f3.params.toList Rows.wireWritesSpec.vars false W args.toList ds gs before) (hk : Rows.uptoSmall H (ds ++ gs) = true) :
    Calls Try.prog 3 args W fun e W' => ∃ v, e = .returned v ∧ Rows.wireWritesSpec.post enc Try.prog Try.f3 false true false false W args v W' := by
  have hval : ∀ (j : Nat) t v, Try.f3.params[j]? = some t → args[j]? = some v → Value.okWide Try.prog W .any base t v := hval0
  have hW' := hW
  obtain ⟨p, q, hA0, hV, rfl, hfz, hnd⟩ := hW
  have hA : DataW.TrodAll enc Try.prog W 0 (fun _ => true) true Try.f3.params.toList args.toList ds p := hA0
  rw [Try.params3] at hA hval
  obtain ⟨v0, vs0, d0, ds0, p0, q0, hargs, rfl, rfl, h0, r0⟩ := trodAll_cons hA
  obtain ⟨rfl, rfl, rfl⟩ := trodAll_nil r0
  obtain rfl : args = #[v0] := by cases args; simp_all
  obtain ⟨rfl, rfl⟩ := trodVars_none hV
  obtain ⟨L0, n0, w0, ty0, hl0, he0b, hv0, hb0⟩ := open_row_b Try.underlying22 (e := 30) (Nat.lt_of_lt_of_eq (by decide : 0 < 4) (by kernel_rfl)) (hval 0 22 v0 rfl rfl) h0 0 W.heap.size (fun _ => False)
  have he0 := fun i hi => (he0b i hi).elim fun m h => h.elim fun y h => (⟨m, y, h.1⟩ : ∃ m y, DataW.trod enc Try.prog W 0 (fun _ => true) true m 30 ((w0.drop (i * Try.prog.cellsOf 30)).take (Try.prog.cellsOf 30)) = some y)
  have hk0 := recs_has (ks := [.int .i64, .int .i64, .int .i64, .str]) Try.underlying30 (by kernel_rfl) (by have := fields0; rw [Try.underlying30] at this; exact this) he0
  have hl0' : w0.length = n0 * ([.int .i64, .int .i64, .int .i64, .str] : List FK).length := hl0.trans (by rw [show Try.prog.cellsOf 30 = 4 from by kernel_rfl]; rfl)
  have hz0 : Try.prog.cellsOf 30 = 4 := by kernel_rfl
  rw [hz0] at hv0
  let ρ : Map := fun b => match b with | 0 => L0 | _ => none
  have hh : HR W.heap.size (fun _ => False) ρ ((0, ⟨[.recs n0 (colsFor [.int .i64, .int .i64, .int .i64, .str] n0 w0)], ty0, 0⟩) :: []) W := HR_more (HR_nil0 ρ) (hb0 ρ [.recs n0 (colsFor [.int .i64, .int .i64, .int .i64, .str] n0 w0)] rfl (recs_rc (by decide) hl0' hk0 _)) rfl (by intro c y hc; simp [lk] at hc)
  have hbulk : Rows.uptoBulk d0 ≤ 1048576 := by
    have h := of_decide_eq_true hk
    simp only [List.cons_append, List.nil_append, List.append_nil, Rows.uptoBulkAll] at h
    omega
  have hsh := recs_short msr (B := Rows.uptoBulk) (z := 4) (j := 3) Try.underlying30 hz0 (by decide) ⟨_, rfl, rfl, by kernel_rfl, Try.underlying9⟩ he0b
  have hshort : ∀ u ∈ ((List.range n0).map fun r => w0.getD (r * 4 + 3) undef).map strOfV, u.length ≤ 2000000 := by
    intro u hu
    obtain ⟨v, hv, rfl⟩ := List.mem_map.1 hu
    have := col_all (z := 4) (j := 3) hl0' (by decide) hsh v hv
    omega
  have law := law3w n0 ty0 n0 (((List.range n0).map fun r => w0.getD (r * 4 + 0) undef).map intOfV) (((List.range n0).map fun r => w0.getD (r * 4 + 1) undef).map intOfV) (((List.range n0).map fun r => w0.getD (r * 4 + 2) undef).map intOfV) (((List.range n0).map fun r => w0.getD (r * 4 + 3) undef).map strOfV) hshort
  have e0A : ∀ A : Ar, (g3o A [.v (.cell (.sl 0 none n0 4))] ((0, ⟨[.recs n0 (colsFor [.int .i64, .int .i64, .int .i64, .str] n0 w0)], ty0, 0⟩) :: [])).map (fun p => (p.1, p.2.1)) = some (g3ok A n0 ty0 n0 (((List.range n0).map fun r => w0.getD (r * 4 + 0) undef).map intOfV) (((List.range n0).map fun r => w0.getD (r * 4 + 1) undef).map intOfV) (((List.range n0).map fun r => w0.getD (r * 4 + 2) undef).map intOfV) (((List.range n0).map fun r => w0.getD (r * 4 + 3) undef).map strOfV), AV.v (.cell (.bool (g3r0 A n0 ty0 n0 (((List.range n0).map fun r => w0.getD (r * 4 + 0) undef).map intOfV) (((List.range n0).map fun r => w0.getD (r * 4 + 1) undef).map intOfV) (((List.range n0).map fun r => w0.getD (r * 4 + 2) undef).map intOfV) (((List.range n0).map fun r => w0.getD (r * 4 + 3) undef).map strOfV))))) := fun A => rfl
  have e0 := e0A realA
  rw [law.1, law.2] at e0
  have hf : ∃ h', FnH Try.prog 3 [.v (.cell (.sl 0 none n0 4))] ((0, ⟨[.recs n0 (colsFor [.int .i64, .int .i64, .int .i64, .str] n0 w0)], ty0, 0⟩) :: []) (.v (.cell (.bool true))) h' := by
    obtain ⟨h', e1⟩ := ent_spec e0
    exact ⟨h', g3o_sound _ _ _ _ e1⟩
  obtain ⟨h', hf⟩ := hf
  clear hA0 hval0
  refine (law_walkH hf (rvs_cons (hv0 ρ rfl) (rvs_nil _)) hh rfl).mono fun e W' ⟨he, bel⟩ => ?_
  subst he
  exact ⟨_, rfl, law_post (tb := 4) laidOut hW' rfl rfl rfl Try.underlying4 (by kernel_rfl) bel⟩

/-- the second form's step -/
theorem lifted (os : Os) (started : os.Started) (H : Type) (enc : TypeId × Value → H) (F : Stop.Interp) :
    ReturnsInHanded {} Try.checked os 3 .any ((Rows.OpenSpec.upto Rows.wireWritesSpec).pre6 enc Try.prog Try.f3 Rows.wireWritesUptoRow.domain false) (((Rows.OpenSpec.upto Rows.wireWritesSpec).at F).post enc Try.prog Try.f3 false true false false) := by
  refine returnsInHanded_of_cond (C := Try.checked) (s := Rows.OpenSpec.upto Rows.wireWritesSpec) (k := Rows.uptoSmall) rfl own started (by kernel_rfl) Try.func3
    (OpenSpec.witness (enc := enc) (C := Try.checked) (s := Rows.OpenSpec.upto Rows.wireWritesSpec) (k := Rows.uptoSmall) rfl false ⟨#[], #[.slice none 0 0], []⟩ 8 (by kernel_rfl) (by kernel_rfl) (by kernel_rfl)
      (x := ([.nil], [], [])) (by kernel_rfl) rfl (by kernel_rfl)) ?_
  intro W base args ds gs before hval hW _ hk _
  exact contract H enc W base args ds gs before hval hW hk
/-- WireWrites: the law returns true for every input of bulk at most 1048576, and its arguments read as before. -/
theorem over : Rows.wireWritesUptoRow.holds Try.pinned (Rows.OpenSpec.upto Rows.wireWritesSpec) :=
  OpenClaim.holds_of_cond 3 Try.f3 rfl rfl rfl rfl rfl rfl rfl ⟨rfl, rfl, rfl, rfl, rfl⟩ rfl rfl rfl rfl rfl (by kernel_rfl) Try.func3 (by kernel_rfl)
    (of_decide_eq_true (by kernel_rfl)) (by unfold Func.isWrapper; first | (rw [if_pos (by decide +kernel)]; kernel_rfl) | (rw [if_neg (by decide +kernel)]; exact ⟨rfl, rfl⟩))
    (fun os started H enc _ F => lifted os started H enc F)
theorem wireWrites_holds : Rows.WireWritesUptoSaid := over
end Go.Proofs.Ytloapdnklljaoaa.wireWrites
