/- wire: the writer as a number and a list. -/
import Derived.Test.YtloapdnklljaoaaSxR13b
import Derived.Test.YtloapdnklljaoaaSxAr
namespace Go.Sx
theorem head13 : g8v realA = some (.v (.cell (.bool true))) := by kernel_rfl
theorem head13ok : g8ok realA = true := by unfold g8ok; rw [head13]; rfl
theorem head13r : g8r0 realA = true := by unfold g8r0; rw [head13]; rfl
/-- an error noted -/
def wf1 (ok : Bool) (r e : Int) : Int := if e = 0 ∧ ok = false then r else e
theorem g29_v (ok : Bool) (r e : Int) (n m : Nat) (l : List Nat) : g29v realA ok r e n m l = some (bO (decide (wf1 ok r e = 0)), [(0, ⟨[.one (.int .i64 (wf1 ok r e)), .one (.sl 1 none n 1)], 56, 1⟩), (1, ⟨[.nums .u8 m l], 5, 2⟩)]) := by
  unfold g29v g29 wf1
  by_cases he : e = 0
  · subst he
    cases ok <;> rfl
  · rw [if_neg (fun h => he h.1), ar_eql, decide_eq_false he]
    simp only [g29J3, ar_eql, decide_eq_false he]
    rfl
theorem g29_ok (ok : Bool) (r e : Int) (n m : Nat) (l : List Nat) : g29ok realA ok r e n m l = true := by unfold g29ok; rw [g29_v]; rfl
theorem g29_0 (ok : Bool) (r e : Int) (n m : Nat) (l : List Nat) : g29r0 realA ok r e n m l = decide (wf1 ok r e = 0) := by unfold g29r0; rw [g29_v]; rfl
theorem g29_1 (ok : Bool) (r e : Int) (n m : Nat) (l : List Nat) : g29r1 realA ok r e n m l = wf1 ok r e := by unfold g29r1; rw [g29_v]; rfl
theorem g29_2 (ok : Bool) (r e : Int) (n m : Nat) (l : List Nat) : g29r2 realA ok r e n m l = n := by unfold g29r2; rw [g29_v]; rfl
theorem g29_3 (ok : Bool) (r e : Int) (n m : Nat) (l : List Nat) : g29r3 realA ok r e n m l = m := by unfold g29r3; rw [g29_v]; rfl
theorem g29_4 (ok : Bool) (r e : Int) (n m : Nat) (l : List Nat) : g29r4 realA ok r e n m l = l := by unfold g29r4; rw [g29_v]; rfl
/-- a number's bytes from the i-th on -/
def nby (x : Int) (size i : Nat) : List Nat := ((List.range size).drop i).map fun j => (x / 2 ^ (8 * (size - 1 - j)) % 256).toNat
theorem nby_step (x : Int) (size i : Nat) (h : i < size) : nby x size i = (x / 2 ^ (8 * (size - 1 - i)) % 256).toNat :: nby x size (i + 1) := by
  unfold nby
  rw [List.drop_eq_getElem_cons (by simpa using h)]
  simp
theorem nby_end (x : Int) (size : Nat) : nby x size size = [] := by unfold nby; simp
/-- what a writer becomes: its error, its bytes -/
def wnum (x : Int) (s : Int) (e : Int) (l : List Nat) : Int × List Nat :=
  if e = 0 then if (1 ≤ s ∧ s ≤ 7 ∧ 0 ≤ x) ∧ x < 2 ^ (8 * s.toNat) then (0, l ++ nby x s.toNat 0) else (1, l) else (e, l)
theorem wf1_bad {r e : Int} (h : e = 0) : wf1 false r e = r := if_pos ⟨h, rfl⟩
theorem wf1_err {ok : Bool} {r e : Int} (h : e ≠ 0) : wf1 ok r e = e := if_neg fun q => h q.1
theorem wf1_ok {r e : Int} : wf1 true r e = e := if_neg fun q => by cases q.2
theorem g17_v (e : Int) (n : Nat) (l : List Nat) : g17v realA e n n l = some (.tup [.cell (.str (if e = 0 then l.take n else [])), .cell (.int .i64 e)], [(0, ⟨[.one (.int .i64 e), .one (.sl 501 none n 1)], 56, 1⟩), (501, ⟨[.nums .u8 n l], 5, 2⟩)]) := by
  unfold g17v g17
  by_cases he : e = 0
  · rw [if_pos he, he]; rfl
  · rw [if_neg he]
    simp only [ar_neq, decide_eq_false he, Bool.not_false]
    rfl
theorem g17_ok (e : Int) (n : Nat) (l : List Nat) : g17ok realA e n n l = true := by unfold g17ok; rw [g17_v]; rfl
theorem g17_0 (e : Int) (n : Nat) (l : List Nat) : g17r0 realA e n n l = if e = 0 then l.take n else [] := by unfold g17r0; rw [g17_v]; rfl
theorem g17_1 (e : Int) (n : Nat) (l : List Nat) : g17r1 realA e n n l = e := by unfold g17r1; rw [g17_v]; rfl
theorem g9_v : g9v realA = some (pT 700 0, [(700, ⟨[.one (.int .i64 0), .one .nils], 56, 1⟩)]) := by kernel_rfl
theorem g9_ok : g9ok realA = true := by unfold g9ok; rw [g9_v]; rfl
theorem g9_0 : g9r0 realA = 0 := by unfold g9r0; rw [g9_v]; rfl
end Go.Sx
