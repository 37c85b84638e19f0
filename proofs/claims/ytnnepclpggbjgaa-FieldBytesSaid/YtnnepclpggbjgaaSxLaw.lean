import Derived.Test.YtnnepclpggbjgaaSxTc
import Derived.Carry
import Derived.OpenShut
import Derived.JoinedCond
import Derived.ProofKit
import Derived.SizedLaws
/- Sx, part Law: from a function's contract to a law's statement. -/
namespace Go.Sx
open Go.ChangeShapes Go.RowKit

def rowB (P : Program) : List TypeId → Bool
  | [] => true
  | t :: r => (P.readableRec t && Nat.blt t P.types.size) && rowB P r

theorem trodAll_below {H : Type} {enc : TypeId × Value → H} {P : Program} (hl : laidOutB P = true) {W W' : World} (hb : Below W.heap.size W W') :
    ∀ {ts : List TypeId} {vs : List Value} {ds : List (DataW H)} {ps : List MemPlace}, rowB P ts = true → DataW.TrodAll enc P W 0 (fun _ => true) true ts vs ds ps → (∀ x ∈ ps, x.block < W.heap.size) → DataW.TrodAll enc P W' 0 (fun b => decide (b < W.heap.size)) true ts vs ds ps
  | [], _, _, _, _, h, _ => by
    obtain ⟨rfl, rfl, rfl⟩ := trodAll_nil h
    exact trodAll_mk0
  | t :: r, _, _, _, hr, h, hlt => by
    obtain ⟨v, vs1, d, ds1, a, b, rfl, rfl, rfl, h1, h2⟩ := trodAll_cons h
    simp only [rowB, Bool.and_eq_true] at hr
    exact trodAll_cons_mk (Below.trod hl hr.1.1 (blt_true hr.1.2) h1 hb fun x hx => hlt x (List.mem_append_left _ hx)) (trodAll_below hl hb hr.2 h2 fun x hx => hlt x (List.mem_append_right _ hx))

theorem law_post {H : Type} {enc : TypeId × Value → H} {P : Program} {f : Func} {s : ChangeSpec} {W W' : World} {args : Array Value} {ds gs : List (DataW H)} {before : List MemPlace} {tb : TypeId} (hl : laidOutB P = true)
    (hW : DataW.Whole enc P f.params.toList s.vars false W args.toList ds gs before) (hv : s.vars = []) (hfn : s.fn H (ds ++ gs) = { results := [.lit (.bool true)], args := ds })
    (hres : f.resultTypes = #[tb]) (htb : P.underlying tb = some .bool) (hp : rowB P f.params.toList = true) (hb : Below W.heap.size W W') : s.post enc P f false true false false W args (.bool true) W' := by
  have hW2 := hW
  obtain ⟨p, q, hA, hV, rfl, hz, hn⟩ := hW
  rw [hv] at hV
  obtain ⟨rfl, rfl⟩ := trodVars_none hV
  refine ⟨ds, [], p ++ [], [], p, [], hW2, ?_, ?_, ?_, ?_, fun h => by cases h⟩
  · rw [hfn, hres]
    exact trodAll_mk1 (shut_bool htb true)
  · rw [hfn]
    exact trodAll_below hl hb hp hA fun x hx => hW2.lt x (List.mem_append_left _ hx)
  · rw [hfn, hv]
    rfl
  · exact hb.frame _

theorem law_walk {P : Program} {f : FuncId} {us : Array Value} {vs : List AV} {w : World} (h : Fn1 P f vs (.v (.cell (.bool true)))) (hr : RVs (fun _ => none) vs us.toList) (hc : (callFunc f us).run P w = .ok (.enter f us) w) :
    Calls P f us w fun e w' => e = .returned (.bool true) ∧ Below w.heap.size w w' := by
  have := h (fun _ => none) w us hr
  rw [hc] at this
  refine Calls.mono this.2 fun e w' he => ?_
  obtain ⟨u, rfl, h1, h2⟩ := he
  obtain rfl : u = .bool true := h1
  exact ⟨rfl, h2.os, h2.tape, h2.output, h2.size, fun k hk => h2.block k hk (fun h => h)⟩

theorem rvs_nil (ρ : Map) : RVs ρ [] [] := ⟨rfl, fun i v u h => by simp at h⟩
theorem rvs_cons {ρ : Map} {v : AV} {u : Value} {vs : List AV} {us : List Value} (h : RV ρ v u) (hs : RVs ρ vs us) : RVs ρ (v :: vs) (u :: us) := by
  refine ⟨by simp [hs.1], fun i => ?_⟩
  cases i with
  | zero =>
    intro v' u' h1 h2
    simp only [List.getElem?_cons_zero, Option.some.injEq] at h1 h2
    subst h1; subst h2
    exact h
  | succ i =>
    intro v' u' h1 h2
    simp only [List.getElem?_cons_succ] at h1 h2
    exact hs.2 i v' u' h1 h2
theorem rv_string (ρ : Map) (s : ByteArray) : RV ρ (.v (.cell (.str (natsOf s)))) (.string s) := ⟨s, rfl, rfl⟩
theorem rv_nat {ρ : Map} {k : IntKind} {n : Int} (h : (Lit.int k n).wf = true) (hk : k.signed = false) : RV ρ (.v (.cell (.nat k n.toNat))) (.int k n) := by
  simp only [Lit.wf, Bool.and_eq_true, decide_eq_true_eq, IntKind.min, IntKind.max, hk] at h
  have h1 : 0 ≤ n := by simpa using h.1
  have h2 : n < 2 ^ k.bits := by have := h.2; simp at this; omega
  refine ⟨?_, ?_, hk⟩
  · rw [Int.toNat_of_nonneg h1]
  · have : (n.toNat : Int) < ((2 ^ k.bits : Nat) : Int) := by rw [Int.toNat_of_nonneg h1]; exact_mod_cast h2
    exact_mod_cast this
theorem natsOf_lt (s : ByteArray) : ∀ x ∈ natsOf s, x < 256 := by
  intro x hx
  simp only [natsOf, List.mem_map] at hx
  obtain ⟨y, _, rfl⟩ := hx
  exact y.toNat_lt
theorem natsOf_len (s : ByteArray) : (natsOf s).length = s.data.toList.length := by simp [natsOf]

def natOf : Value → Nat
  | .int _ a => a.toNat
  | _ => 0
/-- An array of numbers without a sign, handed in. -/
theorem open_nums {H : Type} {enc : TypeId × Value → H} {P : Program} {w : World} {t e n : Nat} {k : IntKind} (ht : P.underlying t = some (.array n e)) (he : P.underlying e = some (.int k)) (hc : P.cellsOf e = 1) (hct : P.cellsOf t = n) (hk : k.signed = false) {r : Reach} {b0 base : Nat} {sp : Nat → Bool} {held : Bool} {v : Value} {d : DataW H} {ps : List MemPlace}
    (hval : Value.okWide P w r b0 t v) (hd : DataW.Trod enc P w base sp held t v d ps) (ρ : Map) : ∃ l : List Nat, l.length = n ∧ (∀ x ∈ l, x < 2 ^ k.bits) ∧ RV ρ (.v (.agg [.nums k n l])) v := by
  simp only [Value.okWide, ht] at hval
  obtain ⟨cs, rfl, hsz, _⟩ := hval
  rw [hct] at hsz
  obtain ⟨fuel, hf⟩ := hd
  obtain ⟨xs, m, _, _, _, hxl, hel⟩ := DataW.trod_array ht hf
  have cell : ∀ i, i < n → ∃ a, cs.toList[i]? = some (.int k a) ∧ (Lit.int k a).wf = true := by
    intro i hi
    have h1 := hel i hi
    have hx : ∃ y, xs[i]? = some y := ⟨xs[i]'(by omega), List.getElem?_eq_getElem (by omega)⟩
    obtain ⟨y, hy⟩ := hx
    rw [hy] at h1
    obtain ⟨a, h2, _, h3⟩ := DataW.trod_int he h1
    refine ⟨a, ?_, h3⟩
    rw [hc, Nat.mul_one] at h2
    have h4 : (Value.agg cs).cells = cs := rfl
    rw [h4] at h2
    have h5 : ((cs.toList.drop i).take 1)[0]? = some (.int k a) := by rw [h2]; rfl
    rw [List.getElem?_take_of_lt (by omega), List.getElem?_drop, Nat.add_zero] at h5
    exact h5
  have bnd : ∀ a, (Lit.int k a).wf = true → 0 ≤ a ∧ a.toNat < 2 ^ k.bits := by
    intro a ha
    have := rv_nat (ρ := ρ) ha hk
    refine ⟨?_, this.2.1⟩
    simp only [Lit.wf, Bool.and_eq_true, decide_eq_true_eq, IntKind.min, hk] at ha
    simpa using ha.1
  have hlen : (cs.toList.map natOf).length = n := by simp [hsz]
  refine ⟨cs.toList.map natOf, hlen, fun x hx => ?_, cs, rfl, ?_, ?_, fun j c v hj hv => ?_⟩
  · obtain ⟨i, hi, rfl⟩ := List.mem_iff_getElem.1 hx
    rw [hlen] at hi
    obtain ⟨a, h1, h2⟩ := cell i hi
    have h3 : (cs.toList.map natOf)[i]? = some a.toNat := by rw [List.getElem?_map, h1]; rfl
    rw [List.getElem?_eq_getElem (by rw [hlen]; exact hi)] at h3
    rw [Option.some.inj h3]
    exact (bnd a h2).2
  · show cs.toList.length = n + 0
    rw [Array.length_toList, hsz, Nat.add_zero]
  · exact segsWf_cons.2 ⟨hlen, segsWf_nil⟩
  · have hjn : j < n := by have := getCell_lt hj; simpa [segsLen, Seg.len] using this
    obtain ⟨a, h1, h2⟩ := cell j hjn
    rw [getCell_cons, if_pos (show j < (Seg.nums k n (cs.toList.map natOf)).len from hjn)] at hj
    simp only [Option.some.injEq, Seg.cell] at hj
    subst hj
    rw [h1] at hv
    simp only [Option.some.injEq] at hv
    subst hv
    have h3 : (cs.toList.map natOf).getD j 0 = a.toNat := by rw [List.getD_eq_getElem?_getD, List.getElem?_map, h1]; rfl
    rw [h3]
    exact ⟨rv_nat (ρ := ρ) h2 hk, rfl⟩
end Go.Sx
