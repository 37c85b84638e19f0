import Derived.Test.YtojnnbolfmefkaaSxI05c
import Derived.Test.YtojnnbolfmefkaaSxAr
namespace Go.Sx
set_option linter.unusedSectionVars false
abbrev Z4 := Int × Int × Int × Int
theorem sixE : g30ok realA = true ∧ g30r0 realA = List.replicate 31 102 := g30of six
theorem g10of {A : Ar} {t : Bool} (e : g10v A = some (.v (.cell (.bool t)))) : g10ok A = true ∧ g10r0 A = t := ⟨by unfold g10ok; rw [e]; rfl, by unfold g10r0; rw [e]; rfl⟩
theorem exShape (A : Ar) (x y : Int) (bs six : List Nat) (h : FOK A) (b : g22ok A = true ∧ g22r0 A = fi x ∧ g22r1 A = fi y) (en : g12ok A (fi x) (fi y) = true ∧ g12r0 A (fi x) (fi y) = bs ∧ g12r1 A (fi x) (fi y) = true) (on : g18ok A (fi x) (fi y) = true ∧ g18r0 A (fi x) (fi y) = true)
    (s : g30ok A = true ∧ g30r0 A = six) (l : A.le ([88].length + six.length) 9223372036854775807 = true) (e : A.sc .eql bs ([88] ++ six) = true) (ad : g14ok A (fi x) (fi y) (fi 0) (fi 1) = true ∧ g14r0 A (fi x) (fi y) (fi 0) (fi 1) = fi x ∧ g14r1 A (fi x) (fi y) (fi 0) (fi 1) = fi y) : g10v A = some (.v (.cell (.bool true))) := by
  unfold g10v g10
  simp only [b, en, on, s, l, e, zeroP h, ad, h.lq, dP h, dR h, decide_eq_true, Bool.and_true]
theorem exE : g10ok realA = true ∧ g10r0 realA = true := by
  refine g10of (exShape realA BX BY _ _ fok (baseP fok) ⟨(EncP (fi_W4 BX) (fi_W4 BY)).1, (EncP (fi_W4 BX) (fi_W4 BY)).2.1, (EncP (fi_W4 BX) (fi_W4 BY)).2.2.trans onB⟩ ⟨(onP fok (fi_W4 BX) (fi_W4 BY)).1, (onP fok (fi_W4 BX) (fi_W4 BY)).2.trans onB⟩ sixE rfl ?_ ?_)
  · rw [ar_sceq, if_pos onB, encBB]
    exact decide_eq_true rfl
  · obtain ⟨h1, h2, h3⟩ := AddP fok (fi_W4 BX) (fi_W4 BY) (fi_W4 0) (fi_W4 1)
    rw [ptB.1, ptB.2, ptO.1, ptO.2] at h2 h3
    refine ⟨h1, h2.trans (fi_congr (addB0.1.trans (show (BX : Int) = (BX : Int) % PI by decide))), h3.trans (fi_congr (addB0.2.trans (show (BY : Int) = (BY : Int) % PI by decide)))⟩
end Go.Sx
namespace Go.Sx
set_option linter.unusedSectionVars false
def plainT' (s : List Nat) : List Nat := s.take 31 ++ [s.getD 31 0 % 128]
def decN (s : List Nat) : Option (Int × Int) :=
  if s.length = 32 ∧ leval (plainT' s) < PP then
    (match sideN (leval (plainT' s) : Nat) with
     | (x, true) => if s.getD 31 0 < 128 then some ((x : Nat), (leval (plainT' s) : Nat)) else if x = 0 then none else some (-(x : Nat), (leval (plainT' s) : Nat))
     | (_, false) => none)
  else none
def decV : Option (Int × Int) → AV
  | some (x, y) => .tup [.agg [.nums .u64 4 (fi x), .nums .u64 4 (fi y)], .cell (.bool true)]
  | none => .tup [.agg [.nums .u64 4 [0, 0, 0, 0], .nums .u64 4 [0, 0, 0, 0]], .cell (.bool false)]
theorem bits128 : ∀ c, c < 256 → realA.nb .andNot .u8 c 128 = c % 128 ∧ realA.nc .eql (realA.nb .and .u8 c 128) 0 = decide (c < 128) ∧ realA.nb .rem .u8 c 128 = c % 128 ∧ realA.nc .geq c 128 = !(decide (c < 128)) := by
  have h : ((List.range 256).all fun c => Nat.beq (realA.nb .andNot .u8 c 128) (c % 128) && ((realA.nc .eql (realA.nb .and .u8 c 128) 0 == decide (c < 128)) && (Nat.beq (realA.nb .rem .u8 c 128) (c % 128) && (realA.nc .geq c 128 == !(decide (c < 128)))))) = true := by decide +kernel
  intro c hc
  have := List.all_eq_true.1 h c (List.mem_range.2 hc)
  simp only [Bool.and_eq_true, beq_iff_eq] at this
  exact ⟨beq_true this.1, this.2.1, beq_true this.2.2.1, this.2.2.2⟩
theorem plain_len {s : List Nat} (h : s.length = 32) : (plainT' s).length = 32 := by
  unfold plainT'
  rw [List.length_append, List.length_take, h]
  rfl
theorem plain_lt {s : List Nat} (hs : ∀ x ∈ s, x < 256) : ∀ x ∈ plainT' s, x < 256 := by
  intro x hx
  unfold plainT' at hx
  rcases List.mem_append.1 hx with h | h
  · exact hs x (List.mem_of_mem_take h)
  · have : x = s.getD 31 0 % 128 := by simpa using h
    omega
theorem plain_set {s : List Nat} (h : s.length = 32) : (s.set 31 (s.getD 31 0 % 128)).take s.length = plainT' s := by
  unfold plainT'
  rw [List.take_of_length_le (by rw [List.length_set]; exact Nat.le_refl _), List.set_eq_take_append_cons_drop, if_pos (by omega), List.drop_of_length_le (by omega)]
theorem half0 {r : Int} (h0 : 0 ≤ r) (h1 : r < PI) (h : (r + r) % PI = 0) : r = 0 := by
  by_cases hlt : r + r < PI
  · rw [Int.emod_eq_of_lt (by omega) hlt] at h
    omega
  · have e : (r + r) % PI = r + r - PI := by
      have : (r + r - PI) % PI = (r + r) % PI := Int.sub_emod_right (r + r) PI
      rw [← this, Int.emod_eq_of_lt (by omega) (by omega)]
    rw [e] at h
    have hp : PI = 2 * 28948022309329048855892746252171976963317496166410141009864396001978282409974 + 1 := by decide
    omega
theorem dbl0 (x : Int) : ((-x) % PI = x % PI) ↔ x % PI = 0 := by
  constructor
  · intro h
    refine half0 (Int.emod_nonneg x (by decide)) (Int.emod_lt_of_pos x PI_pos) ?_
    rw [← Int.add_emod]
    have : (x + x) % PI = (x + -x) % PI := by rw [Int.add_emod, ← h, ← Int.add_emod, Int.add_emod x (-x), h, ← Int.add_emod, Int.add_emod, h, ← Int.add_emod]
    rw [this, Int.add_right_neg]
    rfl
  · intro h
    rw [h, Int.neg_emod, if_pos (Int.dvd_of_emod_eq_zero h)]
theorem decP {s : List Nat} (hs : ∀ x ∈ s, x < 256) : g27v realA s = some (decV (decN s)) := by
  unfold g27v g27
  by_cases hl : s.length = 32
  · have e0 : realA.ic .neq (realA.ofN s.length) 32 = false := ofNat32 hl
    have c31 : s.getD 31 0 < 256 := getD_lt hs 31
    obtain ⟨b1, b2, _, _⟩ := bits128 _ c31
    have ht : (s.take 31).drop 0 ++ [realA.nb .andNot .u8 (s.getD 31 0) 128].take 1 = plainT' s := by rw [b1]; rfl
    rw [e0]
    simp only []
    unfold g27J3
    have n1 : Nat.blt 31 s.length = true := by rw [hl]; rfl
    have n2 : realA.le 31 s.length = true := decide_eq_true (by omega)
    have n3 : realA.le (((s.take 31).drop 0).length + ([realA.nb .andNot .u8 (s.getD 31 0) 128].take 1).length) 9223372036854775807 = true := decide_eq_true (by rw [List.length_drop, List.length_take]; show _ + 1 ≤ _; omega)
    rw [ht]
    obtain ⟨m0, hm⟩ := makeOk (plain_lt hs)
    simp only [n1, n2, n3, m0]
    unfold decN
    rcases hm with ⟨_, h2, h3, h4⟩ | ⟨h2, h3, h4⟩
    · rw [h3, h4, if_pos ⟨hl, h2⟩, fe_fi h2]
      simp only [Bool.not_true]
      unfold g27J7
      obtain ⟨s1, s2, s3⟩ := sideP fok (leval (plainT' s) : Nat)
      rw [s1, s2, s3]
      cases hside : sideN (leval (plainT' s) : Nat) with
      | mk x t =>
        cases t with
        | false => rfl
        | true =>
          simp only [Bool.not_true]
          unfold g27J10
          rw [b2]
          by_cases hc : s.getD 31 0 < 128
          · rw [decide_eq_true hc, if_pos hc]
            rfl
          · rw [decide_eq_false hc, if_neg hc]
            simp only []
            unfold g27J13
            obtain ⟨k1, k2⟩ := fok.neg (x : Nat)
            rw [k1, k2, fok.lq, fok.lq, decide_eq_true (rfl : (leval (plainT' s) : Int) % PI = _)]
            have hx : ((x : Nat) : Int) % PI = 0 ↔ x = 0 := by
              have : (x : Nat) < PP := by
                have hh : (rootN (((leval (plainT' s) : Nat) * (leval (plainT' s) : Nat) - 1 : Int) % PI).toNat ((1 + (leval (plainT' s) : Nat) * (leval (plainT' s) : Nat) * dI : Int) % PI).toNat) = (x, true) := hside
                have := (rootN_true (toN_lt _) (by rw [hh])).2.1
                rw [hh] at this
                exact this
              have e : ((x : Nat) : Int) % PI = x := by rw [← PI_PP]; exact Int.emod_eq_of_lt (by omega) (by exact_mod_cast this)
              rw [e]; omega
            by_cases h0 : x = 0
            · rw [if_pos h0, decide_eq_true ((dbl0 _).2 (hx.2 h0))]
              rfl
            · rw [if_neg h0, decide_eq_false (fun e => h0 (hx.1 ((dbl0 _).1 e)))]
              rfl
    · rw [h3, h4, if_neg (fun hh => h2 ⟨plain_len hl, hh.2⟩)]
      rfl
  · have e0 : realA.ic .neq (realA.ofN s.length) 32 = true := ofNat32' hl
    rw [e0]
    unfold decN
    rw [if_neg (fun hh => hl hh.1)]
    rfl
theorem decR {s : List Nat} (hs : ∀ x ∈ s, x < 256) : g28v realA s = some (decV (decN s)) := by
  unfold g28v g28
  by_cases hl : s.length = 32
  · have e0 : realA.ic .neq (realA.ofN s.length) 32 = false := ofNat32 hl
    have c31 : s.getD 31 0 < 256 := getD_lt hs 31
    obtain ⟨_, _, b3, b4⟩ := bits128 _ c31
    have ht : (s.set 31 (realA.nb .rem .u8 (s.getD 31 0) 128)).take s.length = plainT' s := by rw [b3]; exact plain_set hl
    rw [e0]
    simp only []
    unfold g28J3
    have n1 : Nat.blt 31 s.length = true := by rw [hl]; rfl
    have n2 : realA.le s.length 9223372036854775807 = true := decide_eq_true (by omega)
    rw [ht]
    obtain ⟨m0, hm⟩ := refMake (plain_lt hs)
    simp only [n1, n2, m0]
    unfold decN
    rcases hm with ⟨_, h2, h3, h4⟩ | ⟨h2, h3, h4⟩
    · rw [h3, h4, if_pos ⟨hl, h2⟩, fe_fi h2, b4]
      simp only [Bool.not_true]
      unfold g28J9
      obtain ⟨s1, s2, s3⟩ := sideR fok (leval (plainT' s) : Nat)
      rw [s1, s2, s3]
      cases hside : sideN (leval (plainT' s) : Nat) with
      | mk x t =>
        cases t with
        | false => rfl
        | true =>
          simp only [Bool.not_true]
          by_cases hc : s.getD 31 0 < 128
          · rw [decide_eq_true hc, if_pos hc]
            rfl
          · rw [decide_eq_false hc, if_neg hc]
            simp only [Bool.not_false]
            rw [← fi0, fok.lq]
            have hx : ((x : Nat) : Int) % PI = 0 % PI ↔ x = 0 := by
              have : (x : Nat) < PP := by
                have hh : (rootN (((leval (plainT' s) : Nat) * (leval (plainT' s) : Nat) - 1 : Int) % PI).toNat ((1 + (leval (plainT' s) : Nat) * (leval (plainT' s) : Nat) * dI : Int) % PI).toNat) = (x, true) := hside
                have := (rootN_true (toN_lt _) (by rw [hh])).2.1
                rw [hh] at this
                exact this
              have e : ((x : Nat) : Int) % PI = x := by rw [← PI_PP]; exact Int.emod_eq_of_lt (by omega) (by exact_mod_cast this)
              rw [e, Int.zero_emod]; omega
            by_cases h0 : x = 0
            · rw [if_pos h0, decide_eq_true (hx.2 h0)]
              rw [fi0]; rfl
            · rw [if_neg h0, decide_eq_false (fun e => h0 (hx.1 e))]
              simp only [Bool.false_and]
              unfold g28J12 g28J14
              obtain ⟨k1, k2⟩ := fok.rneg (x : Nat)
              simp only [k1, k2]
              rfl
    · rw [h3, h4, if_neg (fun hh => h2 ⟨plain_len hl, hh.2⟩)]
      rfl
  · have e0 : realA.ic .neq (realA.ofN s.length) 32 = true := ofNat32' hl
    rw [e0]
    unfold decN
    rw [if_neg (fun hh => hl hh.1)]
    rfl
end Go.Sx
namespace Go.Sx
set_option linter.unusedSectionVars false
open Go.Proofs
set_option linter.unusedVariables false
set_option maxRecDepth 100000
theorem SxY05kpi {R : Type} (c : Bool) {f1 f2 : Nat → Option R} {a1 a2 : Option R} (h1 : Prs f1 a1) (h2 : Prs f2 a2) : Prs (fun k => match c with | true => f1 k | false => f2 k) (match c with | true => a1 | false => a2) := by cases c <;> assumption
attribute [local irreducible] g27ok g27r0 g27r1 g27r2 g28ok g28r0 g28r1 g28r2 g10ok g10r0
def g8O (A : Ar) : Orc := orcOf [(10, g10o A), (27, g27o A), (28, g28o A)]
theorem g8O_sound : OSound Try.prog (g8O realA) := orc_sound fun f g hm args v hv => by
  simp only [List.mem_cons, List.not_mem_nil, or_false, Prod.mk.injEq] at hm
  rcases hm with ⟨rfl, rfl⟩ | ⟨rfl, rfl⟩ | ⟨rfl, rfl⟩
  · exact g10o_sound _ _ hv
  · exact g27o_sound _ _ hv
  · exact g28o_sound _ _ hv
theorem g8O_det : ODet (g8O realA) := orc_det _
def g8an : Ann := [(0, ([0], [])), (1, ([0], [])), (2, ([0, 3], [])), (3, ([], [])), (4, ([0, 3], [])), (5, ([0, 3, 4, 5], [5005])), (6, ([3, 4, 5, 6, 7], [5005, 6005]))]
def g8res : List ResultVar := [.tmp 2]
def g8cut : List Nat := [4]
noncomputable def g8N {R : Type} (A : Ar) (kk : AV → Heap → Option R) (t : List Bool → St → Option R) (p : List Bool) (s : St) : Option R := nodeN A gtys (g8O A) g8an g8cut t (bodyOf Try.f8) (finD gtys g8res kk) p s
def g8J4s (x0 : List Nat) (x1 : Bool) : St := ⟨[(0, (tS x0)), (3, (bO x1))], []⟩
def g8J4 {R : Type} (A : Ar) (n : Nat) (kk : AV → Heap → Option R)  (x0 : List Nat) (x1 : Bool) : Option R :=
  match g27ok A x0 with
  | true => match g28ok A x0 with
    | true => match x1 with
      | true => match (A.lq (g27r0 A x0) (g28r0 A x0)) && ((A.lq (g27r1 A x0) (g28r1 A x0)) && true) with
        | true => kk (bO ((g27r2 A x0) == (g28r2 A x0))) [(5005, ⟨[.nums .u64 4 (g27r0 A x0), .nums .u64 4 (g27r1 A x0)], 26, 1⟩), (6005, ⟨[.nums .u64 4 (g28r0 A x0), .nums .u64 4 (g28r1 A x0)], 26, 1⟩)]
        | false => kk (bO false) [(5005, ⟨[.nums .u64 4 (g27r0 A x0), .nums .u64 4 (g27r1 A x0)], 26, 1⟩), (6005, ⟨[.nums .u64 4 (g28r0 A x0), .nums .u64 4 (g28r1 A x0)], 26, 1⟩)]
      | false => kk (bO false) [(5005, ⟨[.nums .u64 4 (g27r0 A x0), .nums .u64 4 (g27r1 A x0)], 26, 1⟩), (6005, ⟨[.nums .u64 4 (g28r0 A x0), .nums .u64 4 (g28r1 A x0)], 26, 1⟩)]
    | false => none
  | false => none
def g8 {R : Type} (A : Ar) (n : Nat) (kk : AV → Heap → Option R) (a : List Nat) : Option R :=
  match g10ok A with
  | true => match !(g10r0 A) with
    | true => kk (bO false) []
    | false => g8J4 A n kk  a (g10r0 A)
  | false => none
section
variable {R : Type} {A : Ar} {n : Nat} {kk : AV → Heap → Option R} {tb : Nat → List Bool → St → Option R} (st : Stp (g8N A kk) tb)
include st
theorem g8J4_go {x0 : List Nat} {x1 : Bool} : Prs (fun k => tb k (pth 15) (g8J4s x0 x1)) (g8J4 A n kk x0 x1) := by
  unfold g8J4
  exact st.g (pc (SxY05kpi _ (SxY05kpi _ (SxY05kpi _ (SxY05kpi _ (pf _) (pf _)) (pf _)) pn) pn) (by kernel_rfl))
theorem g8_go {a : List Nat} : Prs (fun k => funN A gtys (g8O A) g8an g8cut (bodyOf Try.f8) g8res [(tS a)] [] kk (tb k)) (g8 A n kk a) := by
  unfold g8
  exact pc (SxY05kpi _ (SxY05kpi _ (pf _) (g8J4_go st)) pn) (by kernel_rfl)
end
def g8is (o : Option AV) : Bool := match o with
  | some (.v (.cell (.bool _))) => true
  | _ => false
def g8g0 (o : Option AV) : Bool := match o with
  | some (.v (.cell (.bool x))) => x
  | _ => false
theorem g8is_spec {o : Option AV} (h : g8is o = true) : o = some (.v (.cell (.bool (g8g0 o)))) := by
  unfold g8is at h
  split at h
  · rfl
  · cases h
def g8v (A : Ar) (a : List Nat) : Option AV := g8 A (100000) (fun v _ => some v) a
def g8ok (A : Ar) (a : List Nat) : Bool := g8is (g8v A a)
def g8r0 (A : Ar) (a : List Nat) : Bool := g8g0 (g8v A a)
theorem g8ok_spec {A : Ar} {a} (h : g8ok A a = true) : g8v A a = some (.v (.cell (.bool (g8r0 A a)))) := g8is_spec h
def g8o (A : Ar) (args : List AV) : Option (Bool × AV) := match args with
  | [.v (.cell (.str a))] => some (g8ok A a, .v (.cell (.bool (g8r0 A a))))
  | _ => none
theorem g8o_sound : ∀ args v, g8o realA args = some (true, v) → Fn1 Try.prog 8 args v := by
  intro args v h
  unfold g8o at h
  split at h
  · rename_i a
    simp only [Option.some.injEq, Prod.mk.injEq] at h
    obtain ⟨hc, h⟩ := h
    subst h
    · skip
      exact fn1_ofG mixed gtysOK g8O_sound g8O_det (an := g8an) (cut := g8cut) Try.func8 (c := bodyOf Try.f8) rfl (by kernel_rfl) Try.call8 (Nat.le_of_ble_eq_true rfl) (fun b => rfl) (fun _ => (show g8v realA a = _ from g8ok_spec hc)) fun _ st => g8_go st
  · cases h
attribute [local irreducible] g8ok g8r0
end Go.Sx
namespace Go.Sx
set_option linter.unusedSectionVars false
theorem g8Shape (A : Ar) (n : Nat) (s x y : List Nat) (t : Bool) (ex : g10ok A = true ∧ g10r0 A = true) (p : g27ok A s = true ∧ g27r0 A s = x ∧ g27r1 A s = y ∧ g27r2 A s = t) (r : g28ok A s = true ∧ g28r0 A s = x ∧ g28r1 A s = y ∧ g28r2 A s = t) (l1 : A.lq x x = true) (l2 : A.lq y y = true) : g8 A n (fun v _ => some v) s = some (.v (.cell (.bool true))) := by
  unfold g8
  simp only [ex, Bool.not_true]
  unfold g8J4
  simp only [p, r, l1, l2, Bool.and_true, beq_self_eq_true]
theorem g27of {A : Ar} {s x y : List Nat} {t : Bool} (e : g27v A s = some (.tup [.agg [.nums .u64 4 x, .nums .u64 4 y], .cell (.bool t)])) : g27ok A s = true ∧ g27r0 A s = x ∧ g27r1 A s = y ∧ g27r2 A s = t := ⟨by unfold g27ok; rw [e]; rfl, by unfold g27r0; rw [e]; rfl, by unfold g27r1; rw [e]; rfl, by unfold g27r2; rw [e]; rfl⟩
theorem g28of {A : Ar} {s x y : List Nat} {t : Bool} (e : g28v A s = some (.tup [.agg [.nums .u64 4 x, .nums .u64 4 y], .cell (.bool t)])) : g28ok A s = true ∧ g28r0 A s = x ∧ g28r1 A s = y ∧ g28r2 A s = t := ⟨by unfold g28ok; rw [e]; rfl, by unfold g28r0; rw [e]; rfl, by unfold g28r1; rw [e]; rfl, by unfold g28r2; rw [e]; rfl⟩
theorem law8 (s : List Nat) (hs : ∀ x ∈ s, x < 256) (_ls : s.length < 2 ^ 47) : g8o realA [.v (.cell (.str s))] = some (true, .v (.cell (.bool true))) := by
  have p := decP hs
  have r := decR hs
  have key : g8v realA s = some (.v (.cell (.bool true))) := by
    cases hd : decN s with
    | none => rw [hd] at p r; exact g8Shape realA 100000 s _ _ _ exE (g27of p) (g28of r) (lqSelf _) (lqSelf _)
    | some q => rw [hd] at p r; exact g8Shape realA 100000 s _ _ _ exE (g27of p) (g28of r) (lqSelf _) (lqSelf _)
  have k : g8ok realA s = true := by unfold g8ok; rw [key]; rfl
  have r : g8r0 realA s = true := by unfold g8r0; rw [key]; rfl
  show some (g8ok realA s, AV.v (.cell (.bool (g8r0 realA s)))) = _
  rw [k, r]
end Go.Sx
