import Derived.Test.YtkomlijabeedpaaDoorSxTc
import Derived.Carry
import Derived.OpenShut
import Derived.JoinedCond
import Derived.ProofKit
import Derived.SizedLaws
namespace Go.Sx
open Go.ChangeShapes Go.RowKit

def rowB (P : Program) : List TypeId → Bool
  | [] => true
  | t :: r => (P.readableRec t && Nat.blt t P.types.size) && rowB P r

theorem trodAll_below {H : Type} {enc : TypeId × Value → H} {P : Program} (hl : laidOutB P = true) {W W' : World} (hb : Below W.heap.size W W') :
    ∀ {ts : List TypeId} {vs : List Value} {ds : List (DataW H)} {ps : List MemPlace}, rowB P ts = true → DataW.TrodAll enc P W 0 (fun _ => true) true ts vs ds ps → (∀ x ∈ ps, x.block < W.heap.size) → DataW.TrodAll enc P W' 0 (fun b => decide (b < W.heap.size)) true ts vs ds ps
  | [], _, _, _, _, h, _ => by
    obtain ⟨rfl, rfl, rfl⟩ := trodAll_nil h
    exact trodAll_mk0
  | t :: r, _, _, _, hr, h, hlt => by
    obtain ⟨v, vs1, d, ds1, a, b, rfl, rfl, rfl, h1, h2⟩ := trodAll_cons h
    simp only [rowB, Bool.and_eq_true] at hr
    exact trodAll_cons_mk (Below.trod hl hr.1.1 (blt_true hr.1.2) h1 hb fun x hx => hlt x (List.mem_append_left _ hx)) (trodAll_below hl hb hr.2 h2 fun x hx => hlt x (List.mem_append_right _ hx))

theorem law_post {H : Type} {enc : TypeId × Value → H} {P : Program} {f : Func} {s : ChangeSpec} {W W' : World} {args : Array Value} {ds gs : List (DataW H)} {before : List MemPlace} {tb : TypeId} (hl : laidOutB P = true)
    (hW : DataW.Whole enc P f.params.toList s.vars false W args.toList ds gs before) (hv : s.vars = []) (hfn : s.fn H (ds ++ gs) = { results := [.lit (.bool true)], args := ds })
    (hres : f.resultTypes = #[tb]) (htb : P.underlying tb = some .bool) (hp : rowB P f.params.toList = true) (hb : Below W.heap.size W W') : s.post enc P f false true false false W args (.bool true) W' := by
  have hW2 := hW
  obtain ⟨p, q, hA, hV, rfl, hz, hn⟩ := hW
  rw [hv] at hV
  obtain ⟨rfl, rfl⟩ := trodVars_none hV
  refine ⟨ds, [], p ++ [], [], p, [], hW2, ?_, ?_, ?_, ?_, fun h => by cases h⟩
  · rw [hfn, hres]
    exact trodAll_mk1 (shut_bool htb true)
  · rw [hfn]
    exact trodAll_below hl hb hp hA fun x hx => hW2.lt x (List.mem_append_left _ hx)
  · rw [hfn, hv]
    rfl
  · exact hb.frame _

theorem law_walk {P : Program} {f : FuncId} {us : Array Value} {vs : List AV} {w : World} (h : Fn1 P f vs (.v (.cell (.bool true)))) (hr : RVs (fun _ => none) vs us.toList) (hc : (callFunc f us).run P w = .ok (.enter f us) w) :
    Calls P f us w fun e w' => e = .returned (.bool true) ∧ Below w.heap.size w w' := by
  have := h (fun _ => none) w us hr
  rw [hc] at this
  refine Calls.mono this.2 fun e w' he => ?_
  obtain ⟨u, rfl, h1, h2⟩ := he
  obtain rfl : u = .bool true := h1
  exact ⟨rfl, h2.os, h2.tape, h2.output, h2.size, fun k hk => h2.block k hk (fun h => h)⟩

theorem rvs_nil (ρ : Map) : RVs ρ [] [] := ⟨rfl, fun i v u h => by simp at h⟩
theorem rvs_cons {ρ : Map} {v : AV} {u : Value} {vs : List AV} {us : List Value} (h : RV ρ v u) (hs : RVs ρ vs us) : RVs ρ (v :: vs) (u :: us) := by
  refine ⟨by simp [hs.1], fun i => ?_⟩
  cases i with
  | zero =>
    intro v' u' h1 h2
    simp only [List.getElem?_cons_zero, Option.some.injEq] at h1 h2
    subst h1; subst h2
    exact h
  | succ i =>
    intro v' u' h1 h2
    simp only [List.getElem?_cons_succ] at h1 h2
    exact hs.2 i v' u' h1 h2
theorem rv_string (ρ : Map) (s : ByteArray) : RV ρ (.v (.cell (.str (natsOf s)))) (.string s) := ⟨s, rfl, rfl⟩
theorem natsOf_lt (s : ByteArray) : ∀ x ∈ natsOf s, x < 256 := by
  intro x hx
  simp only [natsOf, List.mem_map] at hx
  obtain ⟨y, _, rfl⟩ := hx
  exact y.toNat_lt
theorem natsOf_len (s : ByteArray) : (natsOf s).length = s.data.toList.length := by simp [natsOf]

end Go.Sx
