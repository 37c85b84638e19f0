import Derived.Test.YtojnnbolfmefkaaSxY05q
import Derived.Test.YtojnnbolfmefkaaSxY05r
import Derived.Test.YtojnnbolfmefkaaSxX05N03o
namespace Go.Sx
set_option linter.unusedSectionVars false
open Go.Proofs
set_option linter.unusedVariables false
set_option maxRecDepth 100000
theorem SxY05epi {R : Type} (c : Bool) {f1 f2 : Nat → Option R} {a1 a2 : Option R} (h1 : Prs f1 a1) (h2 : Prs f2 a2) : Prs (fun k => match c with | true => f1 k | false => f2 k) (match c with | true => a1 | false => a2) := by cases c <;> assumption
attribute [local irreducible] g31ok g31r0 g18ok g18r0 g12ok g12r0 g12r1 g24ok g24r0 g24r1 g14ok g14r0 g14r1 g22ok g22r0 g22r1 g30ok g30r0 g32ok g32r0 g21ok g21r0 g21r1 g23ok g23r0 g23r1
def g10O (A : Ar) : Orc := orcOf [(22, g22o A), (12, g12o A), (18, g18o A), (30, g30o A), (24, g24o A), (14, g14o A), (31, g31o A), (32, g32o A)]
theorem g10O_sound : OSound Try.prog (g10O realA) := orc_sound fun f g hm args v hv => by
  simp only [List.mem_cons, List.not_mem_nil, or_false, Prod.mk.injEq] at hm
  rcases hm with ⟨rfl, rfl⟩ | ⟨rfl, rfl⟩ | ⟨rfl, rfl⟩ | ⟨rfl, rfl⟩ | ⟨rfl, rfl⟩ | ⟨rfl, rfl⟩ | ⟨rfl, rfl⟩ | ⟨rfl, rfl⟩
  · exact g22o_sound _ _ hv
  · exact g12o_sound _ _ hv
  · exact g18o_sound _ _ hv
  · exact g30o_sound _ _ hv
  · exact g24o_sound _ _ hv
  · exact g14o_sound _ _ hv
  · exact g31o_sound _ _ hv
  · exact g32o_sound _ _ hv
theorem g10O_det : ODet (g10O realA) := orc_det _
def g10an : Ann := [(0, ([], [])), (1, ([], [])), (2, ([1], [2001])), (3, ([1, 2, 3], [2001]))]
def g10res : List ResultVar := [.tmp 0]
def g10cut : List Nat := []
noncomputable def g10N {R : Type} (A : Ar) (kk : AV → Heap → Option R) (t : List Bool → St → Option R) (p : List Bool) (s : St) : Option R := nodeN A gtys (g10O A) g10an g10cut t (bodyOf Try.f10) (finD gtys g10res kk) p s
def g10 {R : Type} (A : Ar) (n : Nat) (kk : AV → Heap → Option R)  : Option R :=
  match g22ok A with
  | true => match g12ok A (g22r0 A) (g22r1 A) with
    | true => match g18ok A (g22r0 A) (g22r1 A) with
      | true => match g18r0 A (g22r0 A) (g22r1 A) with
        | true => match g12r1 A (g22r0 A) (g22r1 A) with
          | true => match g30ok A with
            | true => match A.le ([88].length + (g30r0 A).length) 9223372036854775807 with
              | true => match A.sc .eql (g12r0 A (g22r0 A) (g22r1 A)) ([88] ++ (g30r0 A)) with
                | true => match g24ok A with
                  | true => match g14ok A (g22r0 A) (g22r1 A) (g24r0 A) (g24r1 A) with
                    | true => match (A.lq (g14r0 A (g22r0 A) (g22r1 A) (g24r0 A) (g24r1 A)) (g22r0 A)) && ((A.lq (g14r1 A (g22r0 A) (g22r1 A) (g24r0 A) (g24r1 A)) (g22r1 A)) && true) with
                      | true => match g31ok A with
                        | true => match g32ok A with
                          | true => kk (bO ((A.lq (g31r0 A) (g32r0 A)) && true)) [(2001, ⟨[.nums .u64 4 (g22r0 A), .nums .u64 4 (g22r1 A)], 26, 1⟩)]
                          | false => none
                        | false => none
                      | false => kk (bO false) [(2001, ⟨[.nums .u64 4 (g22r0 A), .nums .u64 4 (g22r1 A)], 26, 1⟩)]
                    | false => none
                  | false => none
                | false => kk (bO false) [(2001, ⟨[.nums .u64 4 (g22r0 A), .nums .u64 4 (g22r1 A)], 26, 1⟩)]
              | false => none
            | false => none
          | false => kk (bO false) [(2001, ⟨[.nums .u64 4 (g22r0 A), .nums .u64 4 (g22r1 A)], 26, 1⟩)]
        | false => kk (bO false) [(2001, ⟨[.nums .u64 4 (g22r0 A), .nums .u64 4 (g22r1 A)], 26, 1⟩)]
      | false => none
    | false => none
  | false => none
section
variable {R : Type} {A : Ar} {n : Nat} {kk : AV → Heap → Option R} {tb : Nat → List Bool → St → Option R} (st : Stp (g10N A kk) tb)
include st
theorem g10_go  : Prs (fun k => funN A gtys (g10O A) g10an g10cut (bodyOf Try.f10) g10res [] [] kk (tb k)) (g10 A n kk ) := by
  unfold g10
  exact pc (SxY05epi _ (SxY05epi _ (SxY05epi _ (SxY05epi _ (SxY05epi _ (SxY05epi _ (SxY05epi _ (SxY05epi _ (SxY05epi _ (SxY05epi _ (SxY05epi _ (SxY05epi _ (SxY05epi _ (pf _) pn) pn) (pf _)) pn) pn) (pf _)) pn) pn) (pf _)) (pf _)) pn) pn) pn) (by kernel_rfl)
end
def g10is (o : Option AV) : Bool := match o with
  | some (.v (.cell (.bool _))) => true
  | _ => false
def g10g0 (o : Option AV) : Bool := match o with
  | some (.v (.cell (.bool x))) => x
  | _ => false
theorem g10is_spec {o : Option AV} (h : g10is o = true) : o = some (.v (.cell (.bool (g10g0 o)))) := by
  unfold g10is at h
  split at h
  · rfl
  · cases h
def g10v (A : Ar)  : Option AV := g10 A (100000) (fun v _ => some v) 
def g10ok (A : Ar)  : Bool := g10is (g10v A )
def g10r0 (A : Ar)  : Bool := g10g0 (g10v A )
theorem g10ok_spec {A : Ar} (h : g10ok A = true) : g10v A = some (.v (.cell (.bool (g10r0 A)))) := g10is_spec h
def g10o (A : Ar) (args : List AV) : Option (Bool × AV) := match args with
  | [] => some (g10ok A , .v (.cell (.bool (g10r0 A))))
  | _ => none
theorem g10o_sound : ∀ args v, g10o realA args = some (true, v) → Fn1 Try.prog 10 args v := by
  intro args v h
  unfold g10o at h
  split at h
  · simp only [Option.some.injEq, Prod.mk.injEq] at h
    obtain ⟨hc, h⟩ := h
    subst h
    · skip
      exact fn1_ofG mixed gtysOK g10O_sound g10O_det (an := g10an) (cut := g10cut) Try.func10 (c := bodyOf Try.f10) rfl (by kernel_rfl) Try.call10 (Nat.le_of_ble_eq_true rfl) (fun b => rfl) (fun _ => (show g10v realA  = _ from g10ok_spec hc)) fun _ st => g10_go st
  · cases h
attribute [local irreducible] g10ok g10r0
def g11O (A : Ar) : Orc := orcOf [(23, g23o A), (21, g21o A)]
theorem g11O_sound : OSound Try.prog (g11O realA) := orc_sound fun f g hm args v hv => by
  simp only [List.mem_cons, List.not_mem_nil, or_false, Prod.mk.injEq] at hm
  rcases hm with ⟨rfl, rfl⟩ | ⟨rfl, rfl⟩
  · exact g23o_sound _ _ hv
  · exact g21o_sound _ _ hv
theorem g11O_det : ODet (g11O realA) := orc_det _
def g11an : Ann := [(0, ([0, 1, 2], [])), (1, ([0, 2, 4, 6], [1000, 1001])), (2, ([4, 6], [1000, 1001])), (3, ([0, 6], [1001]))]
def g11res : List ResultVar := [.cell 6 26]
def g11cut : List Nat := [3]
noncomputable def g11N {R : Type} (A : Ar) (kk : AV → Heap → Option R) (t : List Bool → St → Option R) (p : List Bool) (s : St) : Option R := nodeN A gtys (g11O A) g11an g11cut t (bodyOf Try.f11) (finD gtys g11res kk) p s
def g11J3s (x0 x1 x2 : List Nat) : St := ⟨[(0, (tS x0)), (6, (pT 1001 0))], [(1001, ⟨[.nums .u64 4 x1, .nums .u64 4 x2], 26, 1⟩)]⟩
def g11J3 {R : Type} (A : Ar) (n : Nat) (kk : AV → Heap → Option R)  (x0 x1 x2 : List Nat) : Option R :=
  match A.neg (A.mn (A.ofN x0.length) 8) with
  | true => none
  | false => match A.le (A.toN (A.mn (A.ofN x0.length) 8)) x0.length with
    | true => match g23ok A with
      | true => match g21ok A ((x0.take (A.toN (A.mn (A.ofN x0.length) 8))).drop 0) (g23r0 A) (g23r1 A) with
        | true => kk (.v (.agg [.nums .u64 4 (g21r0 A ((x0.take (A.toN (A.mn (A.ofN x0.length) 8))).drop 0) (g23r0 A) (g23r1 A)), .nums .u64 4 (g21r1 A ((x0.take (A.toN (A.mn (A.ofN x0.length) 8))).drop 0) (g23r0 A) (g23r1 A))])) [(1001, ⟨[.nums .u64 4 (g21r0 A ((x0.take (A.toN (A.mn (A.ofN x0.length) 8))).drop 0) (g23r0 A) (g23r1 A)), .nums .u64 4 (g21r1 A ((x0.take (A.toN (A.mn (A.ofN x0.length) 8))).drop 0) (g23r0 A) (g23r1 A))], 26, 1⟩)]
        | false => none
      | false => none
    | false => none
def g11 {R : Type} (A : Ar) (n : Nat) (kk : AV → Heap → Option R) (a b0 b1 : List Nat) (c : Bool) : Option R :=
  match c with
  | true => kk (.v (.agg [.nums .u64 4 b0, .nums .u64 4 b1])) [(1000, ⟨[.nums .u64 4 b0, .nums .u64 4 b1], 26, 1⟩), (1001, ⟨[.nums .u64 4 b0, .nums .u64 4 b1], 26, 1⟩)]
  | false => g11J3 A n kk  a [0, 0, 0, 0] [0, 0, 0, 0]
section
variable {R : Type} {A : Ar} {n : Nat} {kk : AV → Heap → Option R} {tb : Nat → List Bool → St → Option R} (st : Stp (g11N A kk) tb)
include st
theorem g11J3_go {x0 : List Nat} {x1 : List Nat} {x2 : List Nat} : Prs (fun k => tb k (pth 7) (g11J3s x0 x1 x2)) (g11J3 A n kk x0 x1 x2) := by
  unfold g11J3
  exact st.g (pc (SxY05epi _ pn (SxY05epi _ (SxY05epi _ (SxY05epi _ (pf _) pn) pn) pn)) (by kernel_rfl))
theorem g11_go {a : List Nat} {b0 : List Nat} {b1 : List Nat} {c : Bool} : Prs (fun k => funN A gtys (g11O A) g11an g11cut (bodyOf Try.f11) g11res [(tS a), (.v (.agg [.nums .u64 4 b0, .nums .u64 4 b1])), (bO c)] [] kk (tb k)) (g11 A n kk a b0 b1 c) := by
  unfold g11
  exact pc (SxY05epi _ (pf _) (g11J3_go st)) (by kernel_rfl)
end
def g11is (o : Option AV) : Bool := match o with
  | some (.v (.agg [.nums .u64 4 _, .nums .u64 4 _])) => true
  | _ => false
def g11g0 (o : Option AV) : List Nat := match o with
  | some (.v (.agg [.nums .u64 4 x, .nums .u64 4 _])) => x
  | _ => []
def g11g1 (o : Option AV) : List Nat := match o with
  | some (.v (.agg [.nums .u64 4 _, .nums .u64 4 x])) => x
  | _ => []
theorem g11is_spec {o : Option AV} (h : g11is o = true) : o = some (.v (.agg [.nums .u64 4 (g11g0 o), .nums .u64 4 (g11g1 o)])) := by
  unfold g11is at h
  split at h
  · rfl
  · cases h
def g11v (A : Ar) (a b0 b1 : List Nat) (c : Bool) : Option AV := g11 A (100000) (fun v _ => some v) a b0 b1 c
def g11ok (A : Ar) (a b0 b1 : List Nat) (c : Bool) : Bool := g11is (g11v A a b0 b1 c)
def g11r0 (A : Ar) (a b0 b1 : List Nat) (c : Bool) : List Nat := g11g0 (g11v A a b0 b1 c)
def g11r1 (A : Ar) (a b0 b1 : List Nat) (c : Bool) : List Nat := g11g1 (g11v A a b0 b1 c)
theorem g11ok_spec {A : Ar} {a b0 b1 c} (h : g11ok A a b0 b1 c = true) : g11v A a b0 b1 c = some (.v (.agg [.nums .u64 4 (g11r0 A a b0 b1 c), .nums .u64 4 (g11r1 A a b0 b1 c)])) := g11is_spec h
def g11o (A : Ar) (args : List AV) : Option (Bool × AV) := match args with
  | [.v (.cell (.str a)), .v (.agg [.nums .u64 n0 b0, .nums .u64 n1 b1]), .v (.cell (.bool c))] => some (Nat.beq n0 4 && (Nat.beq n1 4 && (g11ok A a b0 b1 c)), .v (.agg [.nums .u64 4 (g11r0 A a b0 b1 c), .nums .u64 4 (g11r1 A a b0 b1 c)]))
  | _ => none
theorem g11o_sound : ∀ args v, g11o realA args = some (true, v) → Fn1 Try.prog 11 args v := by
  intro args v h
  unfold g11o at h
  split at h
  · rename_i a n0 b0 n1 b1 c
    simp only [Option.some.injEq, Prod.mk.injEq] at h
    obtain ⟨hc, h⟩ := h
    subst h
    · skip
      simp only [Bool.and_eq_true] at hc
      have en0 := beq_true hc.1
      subst en0
      replace hc := hc.2
      have en1 := beq_true hc.1
      subst en1
      replace hc := hc.2
      exact fn1_ofG mixed gtysOK g11O_sound g11O_det (an := g11an) (cut := g11cut) Try.func11 (c := bodyOf Try.f11) rfl (by kernel_rfl) Try.call11 (Nat.le_of_ble_eq_true rfl) (fun b => rfl) (fun _ => (show g11v realA a b0 b1 c = _ from g11ok_spec hc)) fun _ st => g11_go st
  · cases h
attribute [local irreducible] g11ok g11r0 g11r1
end Go.Sx
namespace Go.Sx
set_option linter.unusedSectionVars false
def PI : Int := 57896044618658097711785492504343953926634992332820282019728792003956564819949
theorem PI_PP : (PP : Int) = PI := by decide
theorem PI_pos : 0 < PI := by decide
def fi (x : Int) : List Nat := fe (x % PI).toNat
theorem toN_lt (x : Int) : (x % PI).toNat < PP := by
  have h1 := Int.emod_lt_of_pos x PI_pos
  have h2 := Int.emod_nonneg x (show PI ≠ 0 by decide)
  have := PI_PP
  omega
theorem fi_congr {x y : Int} (h : x % PI = y % PI) : fi x = fi y := by unfold fi; rw [h]
theorem fi_W4 (x : Int) : W4 (fi x) := fe_W4 _
theorem num_fi (x : Int) : num (fi x) = (x % PI).toNat := num_fe (Nat.lt_trans (toN_lt x) (by decide))
theorem fi_inj {x y : Int} : fi x = fi y ↔ x % PI = y % PI := by
  constructor
  · intro h
    have h2 : num (fi x) = num (fi y) := by rw [h]
    rw [num_fi, num_fi] at h2
    have a := Int.emod_nonneg x (show PI ≠ 0 by decide)
    have b := Int.emod_nonneg y (show PI ≠ 0 by decide)
    omega
  · exact fi_congr
theorem castN (x : Int) : (((x % PI).toNat : Nat) : Int) = x % PI := Int.toNat_of_nonneg (Int.emod_nonneg x (show PI ≠ 0 by decide))
theorem fm_fi {n : Nat} {x : Int} (h : (n : Int) % PI = x % PI) : fm n = fi x := by
  unfold fm fi
  congr 1
  have e : ((n % PP : Nat) : Int) = x % PI := by rw [← h, ← PI_PP]; exact Int.natCast_emod n PP
  omega
theorem fe_fi {n : Nat} (h : n < PP) : fe n = fi n := by
  have : fe n = fm n := by unfold fm; rw [Nat.mod_eq_of_lt h]
  rw [this]; exact fm_fi rfl
theorem raw_fi {a : List Nat} (h : W4 a) (hl : num a < PP) : a = fi (num a) := by rw [← fe_fi hl]; exact (fe_num h).symm
theorem fi0 : fi 0 = [0, 0, 0, 0] := by decide
theorem fmulI (x y : Int) : g46ok realA (fi x) (fi y) = true ∧ g46r0 realA (fi x) (fi y) = fi (x * y) := by
  obtain ⟨h1, h2⟩ := mulOk (fi_W4 x) (fi_W4 y)
  refine ⟨h1, h2.trans (fm_fi ?_)⟩
  rw [num_fi, num_fi, Int.natCast_mul, castN, castN, ← Int.mul_emod]
theorem addI' (x y : Int) : g66ok realA (fi x) (fi y) = true ∧ g66r0 realA (fi x) (fi y) = fi (x + y) := by
  obtain ⟨h1, h2⟩ := addOk (fi_W4 x) (fi_W4 y)
  refine ⟨h1, h2.trans (fm_fi ?_)⟩
  rw [num_fi, num_fi, Int.natCast_add, castN, castN, ← Int.add_emod]
theorem natM {a b : Nat} (h : a % PP = b % PP) : (a : Int) % PI = (b : Int) % PI := by
  rw [← PI_PP]
  exact_mod_cast congrArg (Nat.cast (R := Int)) h
theorem cancelI {a b c : Int} (h : (a + b) % PI = c % PI) : a % PI = (c - b) % PI := by
  have : ((a + b) - b) % PI = (c - b) % PI := by rw [Int.sub_emod, h, ← Int.sub_emod]
  rwa [Int.add_sub_cancel] at this
theorem subI' (x y : Int) : g47ok realA (fi x) (fi y) = true ∧ g47r0 realA (fi x) (fi y) = fi (x - y) := by
  obtain ⟨z, h1, h2, h3⟩ := subOk (fi_W4 x) (fi_W4 y)
  refine ⟨h1, h2.trans (fm_fi ?_)⟩
  have := natM h3
  rw [Int.natCast_add, num_fi, num_fi, castN, castN, Int.emod_emod] at this
  have := cancelI this
  rw [this, Int.sub_emod, Int.emod_emod, ← Int.sub_emod]
theorem negI' (x : Int) : g43ok realA (fi x) = true ∧ g43r0 realA (fi x) = fi (-x) := by
  obtain ⟨z, h1, h2, h3⟩ := negOk (fi_W4 x)
  refine ⟨h1, h2.trans (fm_fi ?_)⟩
  have := natM (h3.trans (Nat.zero_mod PP).symm)
  rw [Int.natCast_add, num_fi, castN] at this
  have := cancelI this
  rw [this, Int.sub_emod, Int.emod_emod, ← Int.sub_emod, show ((0 : Nat) : Int) - x = -x by omega]
theorem smallI {n : Nat} (h : n < 18446744073709551616) : g48ok realA n = true ∧ g48r0 realA n = fi n := by
  obtain ⟨h1, h2⟩ := smallOk h
  exact ⟨h1, h2.trans (fe_fi (Nat.lt_trans h (by decide)))⟩
theorem rightI {a : List Nat} (h : W4 a) : g45ok realA a = true ∧ g45r0 realA a = decide (num a < PP) := rightOk h
theorem lqI (x y : Int) : realA.lq (fi x) (fi y) = decide (x % PI = y % PI) := by
  rw [lqE]
  exact decide_eq_decide.2 fi_inj
theorem oddI (x : Int) : g29ok realA (fi x) = true ∧ g29r0 realA (fi x) = decide (x % PI % 2 = 1) := by
  obtain ⟨h1, h2⟩ := oddOk (fi_W4 x)
  refine ⟨h1, h2.trans ?_⟩
  rw [num_fi, Nat.mod_eq_of_lt (toN_lt x)]
  have := castN x
  exact decide_eq_decide.2 (by omega)
def iv (x : Int) : Int := (pw (x % PI).toNat PT : Nat)
theorem PT_lt : PT < 2 ^ 256 := by decide
theorem iv_spec (x : Int) : iv x % PI = (((x % PI).toNat ^ PT : Nat) : Int) % PI := by
  unfold iv
  rw [pw_spec _ _ PT_lt, ← PI_PP]
  rw [Int.natCast_emod, Int.emod_emod]
theorem powI (x : Int) {e : List Nat} (he : W4 e) {k : Nat} (hk : num e = k) : g73ok realA (fi x) e = true ∧ g73r0 realA (fi x) e = fm ((x % PI).toNat ^ k) := by
  obtain ⟨h1, h2⟩ := powOk (fi_W4 x) he
  exact ⟨h1, by rw [h2, num_fi, hk]⟩
theorem g54Shape (A : Ar) (n : Nat) (a e r : List Nat) (he : (((([0, 0, 0, 0] : List Nat).set 0 18446744073709551595).set 1 18446744073709551615).set 2 18446744073709551615).set 3 9223372036854775807 = e) (h1 : g73ok A a e = true) (h2 : g73r0 A a e = r) : g54 A n (fun v _ => some v) a = some (.v (.agg [.nums .u64 4 r])) := by
  unfold g54
  rw [he, h1, h2]
theorem g54of {A : Ar} {a r : List Nat} (e : g54v A a = some (.v (.agg [.nums .u64 4 r]))) : g54ok A a = true ∧ g54r0 A a = r := ⟨by unfold g54ok; rw [e]; rfl, by unfold g54r0; rw [e]; rfl⟩
theorem invI (x : Int) : g54ok realA (fi x) = true ∧ g54r0 realA (fi x) = fi (iv x) := by
  obtain ⟨h1, h2⟩ := powI x WPT2 (k := PT) (by decide)
  have := g54of (g54Shape realA 100000 (fi x) _ _ rfl h1 h2)
  refine ⟨this.1, this.2.trans (fm_fi (iv_spec x).symm)⟩
theorem rootI (u v : Int) : g74ok realA (fi u) (fi v) = true ∧ g74r0 realA (fi u) (fi v) = fi (rootN (u % PI).toNat (v % PI).toNat).1 ∧ g74r1 realA (fi u) (fi v) = (rootN (u % PI).toNat (v % PI).toNat).2 := by
  obtain ⟨h1, h2, h3⟩ := rootOk (toN_lt u) (toN_lt v)
  refine ⟨h1, h2.trans (fe_fi ?_), h3⟩
  cases h : (rootN (u % PI).toNat (v % PI).toNat).2 with
  | true => exact (rootN_true (toN_lt u) h).2.1
  | false => rw [rootN_false h]; exact PP_pos
theorem rmulI (x y : Int) : g56ok realA (fi x) (fi y) = true ∧ g56r0 realA (fi x) (fi y) = fi (x * y) := by
  obtain ⟨h1, h2⟩ := refMul (fi_W4 x) (fi_W4 y)
  refine ⟨h1, h2.trans (fm_fi ?_)⟩
  rw [num_fi, num_fi, Int.natCast_mul, castN, castN, ← Int.mul_emod]
theorem raddI (x y : Int) : g67ok realA (fi x) (fi y) = true ∧ g67r0 realA (fi x) (fi y) = fi (x + y) := by
  obtain ⟨h1, h2⟩ := refAdd (fi_W4 x) (fi_W4 y)
  refine ⟨h1, h2.trans (fm_fi ?_)⟩
  rw [num_fi, num_fi, Int.natCast_add, castN, castN, ← Int.add_emod]
theorem rsubI (x y : Int) : g68ok realA (fi x) (fi y) = true ∧ g68r0 realA (fi x) (fi y) = fi (x - y) := by
  obtain ⟨z, h1, h2, h3⟩ := refSub (fi_W4 x) (fi_W4 y)
  refine ⟨h1, h2.trans (fm_fi ?_)⟩
  have := natM h3
  rw [Int.natCast_add, num_fi, num_fi, castN, castN, Int.emod_emod] at this
  have := cancelI this
  rw [this, Int.sub_emod, Int.emod_emod, ← Int.sub_emod]
theorem rnegI (x : Int) : g44ok realA (fi x) = true ∧ g44r0 realA (fi x) = fi (-x) := by
  obtain ⟨z, h1, h2, h3⟩ := refNeg (fi_W4 x)
  refine ⟨h1, h2.trans (fm_fi ?_)⟩
  have := natM (h3.trans (Nat.zero_mod PP).symm)
  rw [Int.natCast_add, num_fi, castN] at this
  have := cancelI this
  rw [this, Int.sub_emod, Int.emod_emod, ← Int.sub_emod, show ((0 : Nat) : Int) - x = -x by omega]
theorem rsmallI {n : Nat} (h : n < 18446744073709551616) : g57ok realA n = true ∧ g57r0 realA n = fi n := by
  obtain ⟨h1, h2⟩ := small2 h
  exact ⟨h1, h2.trans (fe_fi (Nat.lt_trans h (by decide)))⟩
theorem roddI (x : Int) : g35ok realA (fi x) = true ∧ g35r0 realA (fi x) = decide (x % PI % 2 = 1) := by
  obtain ⟨h1, h2⟩ := refOdd (fi_W4 x)
  refine ⟨h1, h2.trans ?_⟩
  rw [num_fi, Nat.mod_eq_of_lt (toN_lt x)]
  have := castN x
  exact decide_eq_decide.2 (by omega)
theorem rinvI (x : Int) : g58ok realA (fi x) = true ∧ g58r0 realA (fi x) = fi (iv x) := by
  have hr : Rep (fi x) (x % PI).toNat := ⟨fi_W4 x, by rw [num_fi, Nat.mod_eq_of_lt (toN_lt x)], toN_lt x⟩
  obtain ⟨h1, h2⟩ := invR2 hr
  refine ⟨h1, h2.trans ?_⟩
  rw [fe_fi (Nat.mod_lt _ PP_pos)]
  refine fi_congr ?_
  rw [iv_spec, ← PI_PP, Int.natCast_emod, Int.emod_emod]
theorem rrootI (u v : Int) : g77ok realA (fi u) (fi v) = true ∧ g77r0 realA (fi u) (fi v) = fi (rootN (u % PI).toNat (v % PI).toNat).1 ∧ g77r1 realA (fi u) (fi v) = (rootN (u % PI).toNat (v % PI).toNat).2 := by
  have hr : ∀ x, Rep (fi x) (x % PI).toNat := fun x => ⟨fi_W4 x, by rw [num_fi, Nat.mod_eq_of_lt (toN_lt x)], toN_lt x⟩
  obtain ⟨h1, h2, h3⟩ := refRoot2 (hr u) (hr v)
  rw [refN_eq (toN_lt u)] at h2 h3
  refine ⟨h1, h2.trans (fe_fi ?_), h3⟩
  cases h : (rootN (u % PI).toNat (v % PI).toNat).2 with
  | true => exact (rootN_true (toN_lt u) h).2.1
  | false => rw [rootN_false h]; exact PP_pos
theorem rrightI {a : List Nat} (h : W4 a) : g49ok realA a = true ∧ g49r0 realA a = decide (num a < PP) := refRight h
theorem ivMul {x : Int} (h : ¬ x % PI = 0) : (x * iv x) % PI = 1 := by
  have h1 : (x % PI).toNat % PP ≠ 0 := by
    rw [Nat.mod_eq_of_lt (toN_lt x)]
    have := castN x
    omega
  have h2 := inv_mul h1
  have h3 : (((x % PI).toNat * ((x % PI).toNat ^ PT % PP) % PP : Nat) : Int) = 1 := by rw [h2]; rfl
  rw [Int.natCast_emod, Int.natCast_mul, Int.natCast_emod, PI_PP, castN] at h3
  rw [Int.mul_emod, iv_spec, ← h3, Int.mul_emod (x % PI), Int.emod_emod, Int.emod_emod]
structure FOK (A : Ar) : Prop where
  mul : ∀ x y : Int, g46ok A (fi x) (fi y) = true ∧ g46r0 A (fi x) (fi y) = fi (x * y)
  add : ∀ x y : Int, g66ok A (fi x) (fi y) = true ∧ g66r0 A (fi x) (fi y) = fi (x + y)
  sub : ∀ x y : Int, g47ok A (fi x) (fi y) = true ∧ g47r0 A (fi x) (fi y) = fi (x - y)
  neg : ∀ x : Int, g43ok A (fi x) = true ∧ g43r0 A (fi x) = fi (-x)
  small : ∀ n : Nat, n < 18446744073709551616 → g48ok A n = true ∧ g48r0 A n = fi n
  right : ∀ a, W4 a → g45ok A a = true ∧ g45r0 A a = decide (num a < PP)
  odd : ∀ x : Int, g29ok A (fi x) = true ∧ g29r0 A (fi x) = decide (x % PI % 2 = 1)
  inv : ∀ x : Int, g54ok A (fi x) = true ∧ g54r0 A (fi x) = fi (iv x)
  root : ∀ u v : Int, g74ok A (fi u) (fi v) = true ∧ g74r0 A (fi u) (fi v) = fi (rootN (u % PI).toNat (v % PI).toNat).1 ∧ g74r1 A (fi u) (fi v) = (rootN (u % PI).toNat (v % PI).toNat).2
  lq : ∀ x y : Int, A.lq (fi x) (fi y) = decide (x % PI = y % PI)
  rmul : ∀ x y : Int, g56ok A (fi x) (fi y) = true ∧ g56r0 A (fi x) (fi y) = fi (x * y)
  radd : ∀ x y : Int, g67ok A (fi x) (fi y) = true ∧ g67r0 A (fi x) (fi y) = fi (x + y)
  rsub : ∀ x y : Int, g68ok A (fi x) (fi y) = true ∧ g68r0 A (fi x) (fi y) = fi (x - y)
  rneg : ∀ x : Int, g44ok A (fi x) = true ∧ g44r0 A (fi x) = fi (-x)
  rsmall : ∀ n : Nat, n < 18446744073709551616 → g57ok A n = true ∧ g57r0 A n = fi n
  rright : ∀ a, W4 a → g49ok A a = true ∧ g49r0 A a = decide (num a < PP)
  rodd : ∀ x : Int, g35ok A (fi x) = true ∧ g35r0 A (fi x) = decide (x % PI % 2 = 1)
  rinv : ∀ x : Int, g58ok A (fi x) = true ∧ g58r0 A (fi x) = fi (iv x)
  rroot : ∀ u v : Int, g77ok A (fi u) (fi v) = true ∧ g77r0 A (fi u) (fi v) = fi (rootN (u % PI).toNat (v % PI).toNat).1 ∧ g77r1 A (fi u) (fi v) = (rootN (u % PI).toNat (v % PI).toNat).2
  bytes : ∀ a, W4 a → g33ok A a = true ∧ g33r0 A a = le32 (num a % PP)
  rbytes : ∀ a, W4 a → g34ok A a = true ∧ g34r0 A a = le32 (num a % PP)
theorem fok : FOK realA where
  mul := fmulI
  add := addI'
  sub := subI'
  neg := negI'
  small := fun _ => smallI
  right := fun _ => rightI
  odd := oddI
  inv := invI
  root := rootI
  lq := lqI
  rmul := rmulI
  radd := raddI
  rsub := rsubI
  rneg := rnegI
  rsmall := fun _ => rsmallI
  rright := fun _ => rrightI
  rodd := roddI
  rinv := rinvI
  rroot := rrootI
  bytes := fun _ => bytesOk
  rbytes := fun _ => refBytes
end Go.Sx
namespace Go.Sx
set_option linter.unusedSectionVars false
theorem g31of {A : Ar} {x : List Nat} (e : g31v A = some (.v (.agg [.nums .u64 4 x]))) : g31ok A = true ∧ g31r0 A = x := ⟨by unfold g31ok; rw [e]; rfl, by unfold g31r0; rw [e]; rfl⟩
theorem g32of {A : Ar} {x : List Nat} (e : g32v A = some (.v (.agg [.nums .u64 4 x]))) : g32ok A = true ∧ g32r0 A = x := ⟨by unfold g32ok; rw [e]; rfl, by unfold g32r0; rw [e]; rfl⟩
theorem g24of {A : Ar} {x : List Nat} {y : List Nat} (e : g24v A = some (.v (.agg [.nums .u64 4 x, .nums .u64 4 y]))) : g24ok A = true ∧ g24r0 A = x ∧ g24r1 A = y := ⟨by unfold g24ok; rw [e]; rfl, by unfold g24r0; rw [e]; rfl, by unfold g24r1; rw [e]; rfl⟩
theorem g25of {A : Ar} {x : List Nat} {y : List Nat} (e : g25v A = some (.v (.agg [.nums .u64 4 x, .nums .u64 4 y]))) : g25ok A = true ∧ g25r0 A = x ∧ g25r1 A = y := ⟨by unfold g25ok; rw [e]; rfl, by unfold g25r0; rw [e]; rfl, by unfold g25r1; rw [e]; rfl⟩
theorem g22of {A : Ar} {x : List Nat} {y : List Nat} (e : g22v A = some (.v (.agg [.nums .u64 4 x, .nums .u64 4 y]))) : g22ok A = true ∧ g22r0 A = x ∧ g22r1 A = y := ⟨by unfold g22ok; rw [e]; rfl, by unfold g22r0; rw [e]; rfl, by unfold g22r1; rw [e]; rfl⟩
theorem g23of {A : Ar} {x : List Nat} {y : List Nat} (e : g23v A = some (.v (.agg [.nums .u64 4 x, .nums .u64 4 y]))) : g23ok A = true ∧ g23r0 A = x ∧ g23r1 A = y := ⟨by unfold g23ok; rw [e]; rfl, by unfold g23r0; rw [e]; rfl, by unfold g23r1; rw [e]; rfl⟩
theorem g16of {A : Ar} {a b : List Nat} {x : List Nat} {y : List Nat} (e : g16v A a b = some (.v (.agg [.nums .u64 4 x, .nums .u64 4 y]))) : g16ok A a b = true ∧ g16r0 A a b = x ∧ g16r1 A a b = y := ⟨by unfold g16ok; rw [e]; rfl, by unfold g16r0; rw [e]; rfl, by unfold g16r1; rw [e]; rfl⟩
theorem g14of {A : Ar} {a b c d : List Nat} {x : List Nat} {y : List Nat} (e : g14v A a b c d = some (.v (.agg [.nums .u64 4 x, .nums .u64 4 y]))) : g14ok A a b c d = true ∧ g14r0 A a b c d = x ∧ g14r1 A a b c d = y := ⟨by unfold g14ok; rw [e]; rfl, by unfold g14r0; rw [e]; rfl, by unfold g14r1; rw [e]; rfl⟩
theorem g38of {A : Ar} {a b c d z : List Nat} {x : List Nat} {y : List Nat} (e : g38v A a b c d z = some (.v (.agg [.nums .u64 4 x, .nums .u64 4 y]))) : g38ok A a b c d z = true ∧ g38r0 A a b c d z = x ∧ g38r1 A a b c d z = y := ⟨by unfold g38ok; rw [e]; rfl, by unfold g38r0; rw [e]; rfl, by unfold g38r1; rw [e]; rfl⟩
theorem g39of {A : Ar} {a b c d : List Nat} {x : List Nat} {y : List Nat} (e : g39v A a b c d = some (.v (.agg [.nums .u64 4 x, .nums .u64 4 y]))) : g39ok A a b c d = true ∧ g39r0 A a b c d = x ∧ g39r1 A a b c d = y := ⟨by unfold g39ok; rw [e]; rfl, by unfold g39r0; rw [e]; rfl, by unfold g39r1; rw [e]; rfl⟩
theorem g42of {A : Ar} {a b : List Nat} {x : List Nat} {y : List Nat} (e : g42v A a b = some (.v (.agg [.nums .u64 4 x, .nums .u64 4 y]))) : g42ok A a b = true ∧ g42r0 A a b = x ∧ g42r1 A a b = y := ⟨by unfold g42ok; rw [e]; rfl, by unfold g42r0; rw [e]; rfl, by unfold g42r1; rw [e]; rfl⟩
theorem g36of {A : Ar} {a b : List Nat} {x : List Nat} {y : List Nat} {u : List Nat} {v : List Nat} {w : List Nat} (e : g36v A a b = some (.v (.agg [.nums .u64 4 x, .nums .u64 4 y, .nums .u64 4 u, .nums .u64 4 v, .nums .u64 4 w]))) : g36ok A a b = true ∧ g36r0 A a b = x ∧ g36r1 A a b = y ∧ g36r2 A a b = u ∧ g36r3 A a b = v ∧ g36r4 A a b = w := ⟨by unfold g36ok; rw [e]; rfl, by unfold g36r0; rw [e]; rfl, by unfold g36r1; rw [e]; rfl, by unfold g36r2; rw [e]; rfl, by unfold g36r3; rw [e]; rfl, by unfold g36r4; rw [e]; rfl⟩
theorem g37of {A : Ar} {a b c d z a2 b2 c2 d2 z2 : List Nat} {x : List Nat} {y : List Nat} {u : List Nat} {v : List Nat} {w : List Nat} (e : g37v A a b c d z a2 b2 c2 d2 z2 = some (.v (.agg [.nums .u64 4 x, .nums .u64 4 y, .nums .u64 4 u, .nums .u64 4 v, .nums .u64 4 w]))) : g37ok A a b c d z a2 b2 c2 d2 z2 = true ∧ g37r0 A a b c d z a2 b2 c2 d2 z2 = x ∧ g37r1 A a b c d z a2 b2 c2 d2 z2 = y ∧ g37r2 A a b c d z a2 b2 c2 d2 z2 = u ∧ g37r3 A a b c d z a2 b2 c2 d2 z2 = v ∧ g37r4 A a b c d z a2 b2 c2 d2 z2 = w := ⟨by unfold g37ok; rw [e]; rfl, by unfold g37r0; rw [e]; rfl, by unfold g37r1; rw [e]; rfl, by unfold g37r2; rw [e]; rfl, by unfold g37r3; rw [e]; rfl, by unfold g37r4; rw [e]; rfl⟩
theorem g41of {A : Ar} {a b : List Nat} {x : List Nat} {y : List Nat} {u : List Nat} {v : List Nat} (e : g41v A a b = some (.v (.agg [.nums .u64 4 x, .nums .u64 4 y, .nums .u64 4 u, .nums .u64 4 v]))) : g41ok A a b = true ∧ g41r0 A a b = x ∧ g41r1 A a b = y ∧ g41r2 A a b = u ∧ g41r3 A a b = v := ⟨by unfold g41ok; rw [e]; rfl, by unfold g41r0; rw [e]; rfl, by unfold g41r1; rw [e]; rfl, by unfold g41r2; rw [e]; rfl, by unfold g41r3; rw [e]; rfl⟩
theorem g40of {A : Ar} {d0 a b c d a2 b2 c2 d2 : List Nat} {x : List Nat} {y : List Nat} {u : List Nat} {v : List Nat} (e : g40v A d0 a b c d a2 b2 c2 d2 = some (.v (.agg [.nums .u64 4 x, .nums .u64 4 y, .nums .u64 4 u, .nums .u64 4 v]))) : g40ok A d0 a b c d a2 b2 c2 d2 = true ∧ g40r0 A d0 a b c d a2 b2 c2 d2 = x ∧ g40r1 A d0 a b c d a2 b2 c2 d2 = y ∧ g40r2 A d0 a b c d a2 b2 c2 d2 = u ∧ g40r3 A d0 a b c d a2 b2 c2 d2 = v := ⟨by unfold g40ok; rw [e]; rfl, by unfold g40r0; rw [e]; rfl, by unfold g40r1; rw [e]; rfl, by unfold g40r2; rw [e]; rfl, by unfold g40r3; rw [e]; rfl⟩
theorem g18of {A : Ar} {a b : List Nat} {t : Bool} (e : g18v A a b = some (.v (.cell (.bool t)))) : g18ok A a b = true ∧ g18r0 A a b = t := ⟨by unfold g18ok; rw [e]; rfl, by unfold g18r0; rw [e]; rfl⟩
theorem g19of {A : Ar} {a b : List Nat} {t : Bool} (e : g19v A a b = some (.v (.cell (.bool t)))) : g19ok A a b = true ∧ g19r0 A a b = t := ⟨by unfold g19ok; rw [e]; rfl, by unfold g19r0; rw [e]; rfl⟩
theorem g50of {A : Ar} {d a b : List Nat} {t : Bool} (e : g50v A d a b = some (.v (.cell (.bool t)))) : g50ok A d a b = true ∧ g50r0 A d a b = t := ⟨by unfold g50ok; rw [e]; rfl, by unfold g50r0; rw [e]; rfl⟩
theorem g55of {A : Ar} {a : List Nat} {x : List Nat} {t : Bool} (e : g55v A a = some (.tup [.agg [.nums .u64 4 x], .cell (.bool t)])) : g55ok A a = true ∧ g55r0 A a = x ∧ g55r1 A a = t := ⟨by unfold g55ok; rw [e]; rfl, by unfold g55r0; rw [e]; rfl, by unfold g55r1; rw [e]; rfl⟩
theorem g59of {A : Ar} {a : List Nat} {x : List Nat} {t : Bool} (e : g59v A a = some (.tup [.agg [.nums .u64 4 x], .cell (.bool t)])) : g59ok A a = true ∧ g59r0 A a = x ∧ g59r1 A a = t := ⟨by unfold g59ok; rw [e]; rfl, by unfold g59r0; rw [e]; rfl, by unfold g59r1; rw [e]; rfl⟩
theorem g12of {A : Ar} {a b : List Nat} {x : List Nat} {t : Bool} (e : g12v A a b = some (.tup [.cell (.str x), .cell (.bool t)])) : g12ok A a b = true ∧ g12r0 A a b = x ∧ g12r1 A a b = t := ⟨by unfold g12ok; rw [e]; rfl, by unfold g12r0; rw [e]; rfl, by unfold g12r1; rw [e]; rfl⟩
theorem g30of {A : Ar} {x : List Nat} (e : g30v A = some (.v (.cell (.str x)))) : g30ok A = true ∧ g30r0 A = x := ⟨by unfold g30ok; rw [e]; rfl, by unfold g30r0; rw [e]; rfl⟩

def dI : Int := -(121665 : Nat) * iv (121666 : Nat)
def onZ (x y : Int) : Bool := decide ((y * y - x * x - dI * (x * x * (y * y))) % PI = 1 % PI)
def onW (a b : List Nat) : Bool := decide (num a < PP) && (decide (num b < PP) && onZ (num a) (num b))
def ptX (a b : List Nat) : Int := if onW a b = true then num a else 0
def ptY (a b : List Nat) : Int := if onW a b = true then num b else 1
def sideN (y : Int) : Nat × Bool := rootN ((y * y - 1) % PI).toNat ((1 + y * y * dI) % PI).toNat
section
variable {A : Ar} (h : FOK A)
include h
theorem dP : g31ok A = true ∧ g31r0 A = fi dI := by
  refine g31of ?_
  unfold g31v g31
  simp only [h.small 121665 (by decide), h.small 121666 (by decide), h.neg, h.inv, h.mul]
  rfl
theorem dR : g32ok A = true ∧ g32r0 A = fi dI := by
  refine g32of ?_
  unfold g32v g32
  simp only [h.rsmall 121665 (by decide), h.rsmall 121666 (by decide), h.rneg, h.rinv, h.rmul]
  rfl
theorem zeroP : g24ok A = true ∧ g24r0 A = fi 0 ∧ g24r1 A = fi 1 := by
  refine g24of ?_
  unfold g24v g24
  simp only [h.small 1 (by decide)]
  rw [fi0]; rfl
theorem zeroR : g25ok A = true ∧ g25r0 A = fi 0 ∧ g25r1 A = fi 1 := by
  refine g25of ?_
  unfold g25v g25
  simp only [h.rsmall 1 (by decide)]
  rw [fi0]; rfl
theorem onP {a b : List Nat} (ha : W4 a) (hb : W4 b) : g18ok A a b = true ∧ g18r0 A a b = onW a b := by
  refine g18of ?_
  unfold g18v g18
  obtain ⟨r1, r2⟩ := h.right a ha
  obtain ⟨s1, s2⟩ := h.right b hb
  simp only [r1, r2, s1, s2]
  unfold onW
  by_cases e1 : num a < PP
  · by_cases e2 : num b < PP
    · simp only [decide_eq_true e1, decide_eq_true e2, Bool.not_true, Bool.true_and]
      unfold g18J3
      rw [raw_fi ha e1, raw_fi hb e2]
      simp only [h.mul, h.sub, h.small 1 (by decide), dP h, h.lq, Bool.and_true]
      rw [← raw_fi ha e1, ← raw_fi hb e2]
      rfl
    · simp only [decide_eq_true e1, decide_eq_false e2, Bool.not_true, Bool.not_false, Bool.true_and, Bool.false_and]
  · simp only [decide_eq_false e1, Bool.not_false, Bool.false_and]
theorem onR {a b : List Nat} (ha : W4 a) (hb : W4 b) : g19ok A a b = true ∧ g19r0 A a b = onW a b := by
  refine g19of ?_
  unfold g19v g19
  obtain ⟨r1, r2⟩ := h.rright a ha
  obtain ⟨s1, s2⟩ := h.rright b hb
  simp only [r1, r2, s1, s2]
  unfold onW
  by_cases e1 : num a < PP
  · by_cases e2 : num b < PP
    · have hon : g50ok A (fi dI) a b = true ∧ g50r0 A (fi dI) a b = onZ (num a) (num b) := by
        refine g50of ?_
        unfold g50v g50
        rw [raw_fi ha e1, raw_fi hb e2]
        simp only [h.rmul, h.rsub, h.radd, h.rsmall 1 (by decide), h.lq, Bool.and_true]
        rw [← raw_fi ha e1, ← raw_fi hb e2]
        have : ∀ s t : Int, decide (s % PI = (((1 : Nat) : Int) + t) % PI) = decide ((s - t) % PI = 1 % PI) := by
          intro s t
          refine decide_eq_decide.2 ⟨fun e => ?_, fun e => ?_⟩
          · rw [Int.sub_emod, e, ← Int.sub_emod]; congr 1; omega
          · have : ((s - t) + t) % PI = (1 + t) % PI := by rw [Int.add_emod, e, ← Int.add_emod]
            rw [Int.sub_add_cancel] at this
            rw [this]; rfl
        rw [this]
        rfl
      simp only [decide_eq_true e1, decide_eq_true e2, Bool.true_and, dR h, hon]
    · simp only [decide_eq_true e1, decide_eq_false e2, Bool.true_and, Bool.false_and]
  · cases decide (num b < PP) <;> simp only [decide_eq_false e1, Bool.false_and]
theorem pt_fi {a b : List Nat} (ha : W4 a) (hb : W4 b) (ho : onW a b = true) : a = fi (ptX a b) ∧ b = fi (ptY a b) := by
  unfold ptX ptY
  rw [if_pos ho, if_pos ho]
  unfold onW at ho
  simp only [Bool.and_eq_true, decide_eq_true_eq] at ho
  exact ⟨raw_fi ha ho.1, raw_fi hb ho.2.1⟩
theorem pt_not {a b : List Nat} (ho : onW a b = false) : ptX a b = 0 ∧ ptY a b = 1 := by
  unfold ptX ptY
  rw [if_neg (by rw [ho]; simp), if_neg (by rw [ho]; simp)]
  exact ⟨rfl, rfl⟩
theorem openP {a b : List Nat} (ha : W4 a) (hb : W4 b) : g36ok A a b = true ∧ g36r0 A a b = fi (ptX a b) ∧ g36r1 A a b = fi (ptY a b) ∧ g36r2 A a b = fi 1 ∧ g36r3 A a b = fi (ptX a b * ptY a b) ∧ g36r4 A a b = fi (dI + dI) := by
  refine g36of ?_
  unfold g36v g36
  simp only [onP h ha hb]
  cases ho : onW a b with
  | true =>
    obtain ⟨e1, e2⟩ := pt_fi h ha hb ho
    simp only [Bool.not_true]
    unfold g36J3
    rw [show g46ok A a b = true from by rw [e1, e2]; exact (h.mul _ _).1, show g46r0 A a b = fi (ptX a b * ptY a b) from by
      have := (h.mul (ptX a b) (ptY a b)).2
      rw [← e1, ← e2] at this
      exact this]
    simp only [dP h, h.small 1 (by decide), h.add]
    rw [← e1, ← e2]
    rfl
  | false =>
    obtain ⟨e1, e2⟩ := pt_not h ho
    rw [e1, e2]
    simp only [Bool.not_false, zeroP h]
    unfold g36J3
    simp only [h.mul, dP h, h.small 1 (by decide), h.add]
    rfl
theorem madeR {a b : List Nat} (ha : W4 a) (hb : W4 b) : g42ok A a b = true ∧ g42r0 A a b = fi (ptX a b) ∧ g42r1 A a b = fi (ptY a b) := by
  refine g42of ?_
  unfold g42v g42
  simp only [onR h ha hb]
  cases ho : onW a b with
  | true =>
    obtain ⟨e1, e2⟩ := pt_fi h ha hb ho
    rw [← e1, ← e2]
  | false =>
    obtain ⟨e1, e2⟩ := pt_not h ho
    rw [e1, e2]
    simp only [zeroR h]
theorem partR (x y : Int) : g41ok A (fi x) (fi y) = true ∧ g41r0 A (fi x) (fi y) = fi x ∧ g41r1 A (fi x) (fi y) = fi y ∧ g41r2 A (fi x) (fi y) = fi 1 ∧ g41r3 A (fi x) (fi y) = fi (x * y) := by
  refine g41of ?_
  unfold g41v g41
  simp only [h.rsmall 1 (by decide), h.rmul]
  rfl
theorem wholeR (x y z t : Int) : g39ok A (fi x) (fi y) (fi z) (fi t) = true ∧ g39r0 A (fi x) (fi y) (fi z) (fi t) = fi (x * iv z) ∧ g39r1 A (fi x) (fi y) (fi z) (fi t) = fi (y * iv z) := by
  refine g39of ?_
  unfold g39v g39
  simp only [h.rinv, h.rmul]
theorem closeP (x y z t d : Int) : g38ok A (fi x) (fi y) (fi z) (fi t) (fi d) = true ∧ g38r0 A (fi x) (fi y) (fi z) (fi t) (fi d) = fi (x * iv z) ∧ g38r1 A (fi x) (fi y) (fi z) (fi t) (fi d) = fi (y * iv z) := by
  refine g38of ?_
  unfold g38v g38
  simp only [h.inv, h.mul]
theorem addP (x y z t d x2 y2 z2 t2 d2 : Int) : g37ok A (fi x) (fi y) (fi z) (fi t) (fi d) (fi x2) (fi y2) (fi z2) (fi t2) (fi d2) = true ∧
    g37r0 A (fi x) (fi y) (fi z) (fi t) (fi d) (fi x2) (fi y2) (fi z2) (fi t2) (fi d2) = fi (((y + x) * (y2 + x2) - (y - x) * (y2 - x2)) * (z * z2 + z * z2 - t * d * t2)) ∧
    g37r1 A (fi x) (fi y) (fi z) (fi t) (fi d) (fi x2) (fi y2) (fi z2) (fi t2) (fi d2) = fi ((z * z2 + z * z2 + t * d * t2) * ((y + x) * (y2 + x2) + (y - x) * (y2 - x2))) ∧
    g37r2 A (fi x) (fi y) (fi z) (fi t) (fi d) (fi x2) (fi y2) (fi z2) (fi t2) (fi d2) = fi ((z * z2 + z * z2 - t * d * t2) * (z * z2 + z * z2 + t * d * t2)) ∧
    g37r3 A (fi x) (fi y) (fi z) (fi t) (fi d) (fi x2) (fi y2) (fi z2) (fi t2) (fi d2) = fi (((y + x) * (y2 + x2) - (y - x) * (y2 - x2)) * ((y + x) * (y2 + x2) + (y - x) * (y2 - x2))) ∧
    g37r4 A (fi x) (fi y) (fi z) (fi t) (fi d) (fi x2) (fi y2) (fi z2) (fi t2) (fi d2) = fi d := by
  refine g37of ?_
  unfold g37v g37
  simp only [h.mul, h.add, h.sub, g37t0, g37t1, g37t2, g37t3]
theorem sumR (d x y z t x2 y2 z2 t2 : Int) : g40ok A (fi d) (fi x) (fi y) (fi z) (fi t) (fi x2) (fi y2) (fi z2) (fi t2) = true ∧
    g40r0 A (fi d) (fi x) (fi y) (fi z) (fi t) (fi x2) (fi y2) (fi z2) (fi t2) = fi ((x * y2 + x2 * y) * (z * z2 - d * (t * t2))) ∧
    g40r1 A (fi d) (fi x) (fi y) (fi z) (fi t) (fi x2) (fi y2) (fi z2) (fi t2) = fi ((y * y2 + x * x2) * (z * z2 + d * (t * t2))) ∧
    g40r2 A (fi d) (fi x) (fi y) (fi z) (fi t) (fi x2) (fi y2) (fi z2) (fi t2) = fi ((z * z2 - d * (t * t2)) * (z * z2 + d * (t * t2))) ∧
    g40r3 A (fi d) (fi x) (fi y) (fi z) (fi t) (fi x2) (fi y2) (fi z2) (fi t2) = fi ((x * y2 + x2 * y) * (y * y2 + x * x2)) := by
  refine g40of ?_
  unfold g40v g40
  simp only [h.rmul, h.radd, h.rsub]
theorem sideP (y : Int) : g55ok A (fi y) = true ∧ g55r0 A (fi y) = fi (sideN y).1 ∧ g55r1 A (fi y) = (sideN y).2 := by
  refine g55of ?_
  unfold g55v g55
  simp only [h.mul, h.sub, h.add, h.small 1 (by decide), dP h, h.root]
  rfl
theorem sideR (y : Int) : g59ok A (fi y) = true ∧ g59r0 A (fi y) = fi (sideN y).1 ∧ g59r1 A (fi y) = (sideN y).2 := by
  refine g59of ?_
  unfold g59v g59
  simp only [h.rmul, h.rsub, h.radd, h.rsmall 1 (by decide), dR h, h.rroot]
  unfold sideN
  rw [show dI * (y * y) + ((1 : Nat) : Int) = 1 + y * y * dI from by rw [Int.mul_comm dI, Int.add_comm]; rfl]
  rfl
end
end Go.Sx
namespace Go.Sx
set_option linter.unusedSectionVars false
theorem iv_mul (x y : Int) : iv (x * y) % PI = (iv x * iv y) % PI := by
  have e : iv x * iv y % PI = ((((x % PI).toNat * (y % PI).toNat) ^ PT : Nat) : Int) % PI := by
    rw [Int.mul_emod, iv_spec x, iv_spec y, ← Int.mul_emod, ← Int.natCast_mul, ← Nat.mul_pow]
  rw [e, iv_spec, ← PI_PP, ← Int.natCast_emod, ← Int.natCast_emod]
  have h : (((x * y % (PP : Int)).toNat : Nat) : Int) % PP = (((x % (PP : Int)).toNat * (y % (PP : Int)).toNat : Nat) : Int) % PP := by
    rw [PI_PP, castN, Int.natCast_mul, castN, castN, Int.emod_emod, ← Int.mul_emod]
  have h' : (x * y % (PP : Int)).toNat % PP = (x % (PP : Int)).toNat * (y % (PP : Int)).toNat % PP := by exact_mod_cast h
  exact congrArg Int.ofNat (pmod h' PT)
theorem iv4 : (4 * iv 4) % PI = 1 := by decide +kernel
theorem fmulM {a b c d : Int} (h1 : a % PI = c % PI) (h2 : b % PI = d % PI) : a * b % PI = c * d % PI := by rw [Int.mul_emod, h1, h2, ← Int.mul_emod]
theorem quot4 (x z : Int) : (4 * x * iv (4 * z)) % PI = (x * iv z) % PI := by
  have e1 : (4 * x * iv (4 * z)) % PI = (4 * x * (iv 4 * iv z)) % PI := fmulM rfl (iv_mul 4 z)
  have e2 : ((4 * iv 4) * (x * iv z)) % PI = (1 * (x * iv z)) % PI := fmulM (iv4.trans (by decide)) rfl
  rw [e1, show 4 * x * (iv 4 * iv z) = (4 * iv 4) * (x * iv z) by grind, e2, Int.one_mul]
def nX (x y x2 y2 : Int) : Int := (x * y2 + x2 * y) * (1 * 1 - dI * (x * y * (x2 * y2)))
def nY (x y x2 y2 : Int) : Int := (y * y2 + x * x2) * (1 * 1 + dI * (x * y * (x2 * y2)))
def nZ (x y x2 y2 : Int) : Int := (1 * 1 - dI * (x * y * (x2 * y2))) * (1 * 1 + dI * (x * y * (x2 * y2)))
section
variable {A : Ar} (h : FOK A)
include h
theorem AddP {a b c d : List Nat} (ha : W4 a) (hb : W4 b) (hc : W4 c) (hd : W4 d) : g14ok A a b c d = true ∧
    g14r0 A a b c d = fi (nX (ptX a b) (ptY a b) (ptX c d) (ptY c d) * iv (nZ (ptX a b) (ptY a b) (ptX c d) (ptY c d))) ∧
    g14r1 A a b c d = fi (nY (ptX a b) (ptY a b) (ptX c d) (ptY c d) * iv (nZ (ptX a b) (ptY a b) (ptX c d) (ptY c d))) := by
  refine g14of ?_
  unfold g14v g14
  simp only [g14t0, g14t1, g14t2, g14t3, g14t4, g14t5, g14t6, g14t7, g14t8, g14t9, openP h ha hb, openP h hc hd, addP h, closeP h]
  generalize ptX a b = x
  generalize ptY a b = y
  generalize ptX c d = x2
  generalize ptY c d = y2
  have ez : (1 * 1 + 1 * 1 - x * y * (dI + dI) * (x2 * y2)) * (1 * 1 + 1 * 1 + x * y * (dI + dI) * (x2 * y2)) = 4 * nZ x y x2 y2 := by unfold nZ; grind
  have ex : ((y + x) * (y2 + x2) - (y - x) * (y2 - x2)) * (1 * 1 + 1 * 1 - x * y * (dI + dI) * (x2 * y2)) = 4 * nX x y x2 y2 := by unfold nX; grind
  have ey : (1 * 1 + 1 * 1 + x * y * (dI + dI) * (x2 * y2)) * ((y + x) * (y2 + x2) + (y - x) * (y2 - x2)) = 4 * nY x y x2 y2 := by unfold nY; grind
  rw [ez, ex, ey, fi_congr (quot4 _ _), fi_congr (quot4 _ _)]
theorem NegP {a b : List Nat} (ha : W4 a) (hb : W4 b) : g16ok A a b = true ∧ g16r0 A a b = fi (-ptX a b) ∧ g16r1 A a b = fi (ptY a b) := by
  refine g16of ?_
  unfold g16v g16
  simp only [onP h ha hb]
  cases ho : onW a b with
  | true =>
    obtain ⟨e1, e2⟩ := pt_fi h ha hb ho
    simp only [Bool.not_true]
    unfold g16J3
    rw [show g43ok A a = true from by rw [e1]; exact (h.neg _).1, show g43r0 A a = fi (-ptX a b) from by
      have := (h.neg (ptX a b)).2
      rwa [← e1] at this]
    rw [← e2]
  | false =>
    obtain ⟨e1, e2⟩ := pt_not h ho
    rw [e1, e2]
    simp only [Bool.not_false, zeroP h]
    rfl
end
theorem le32_len (n : Nat) : (le32 n).length = 32 := by unfold le32; simp
def encB (a b : List Nat) : List Nat := if num a % PP % 2 = 1 then (le32 (num b % PP)).set 31 (realA.nb .or .u8 ((le32 (num b % PP)).getD 31 0) 128) else le32 (num b % PP)
theorem le64 (n : Nat) (h : n = 32) : realA.le n 9223372036854775807 = true := decide_eq_true (by omega)
theorem EncP {a b : List Nat} (ha : W4 a) (hb : W4 b) : g12ok realA a b = true ∧ g12r0 realA a b = (if onW a b = true then encB a b else []) ∧ g12r1 realA a b = onW a b := by
  refine g12of ?_
  unfold g12v g12
  simp only [onP fok ha hb]
  cases ho : onW a b with
  | true =>
    obtain ⟨e1, e2⟩ := pt_fi fok ha hb ho
    simp only [Bool.not_true]
    unfold g12J3
    have hl := le32_len (num b % PP)
    obtain ⟨o1, o2⟩ := oddOk ha
    simp only [bytesOk hb, o1, o2, le64 _ hl]
    simp only [if_true]
    unfold encB
    by_cases hodd : num a % PP % 2 = 1
    · have hb31 : Nat.blt 31 (le32 (num b % PP)).length = true := by rw [hl]; rfl
      simp only [decide_eq_true hodd, hb31, if_pos hodd]
      rw [List.take_of_length_le (by rw [List.length_set]; exact Nat.le_refl _)]
    · simp only [decide_eq_false hodd, if_neg hodd]
      rw [List.take_of_length_le (Nat.le_refl _)]
  | false =>
    simp only [Bool.not_false]
    rfl
def BX : Nat := 15112221349535400772501151409588531511454012693041857206046113283949847762202
def BY : Nat := 46316835694926478169428394003475163141307993866256225615783033603165251855960
theorem byE : ((4 : Nat) * iv (5 : Nat)) % PI = BY := by decide +kernel
theorem sideB : sideN BY = (BX, true) := by decide +kernel
theorem sideN_congr {x y : Int} (h : x % PI = y % PI) : sideN x = sideN y := by
  unfold sideN
  have e : (x * x) % PI = (y * y) % PI := fmulM h h
  rw [show (x * x - 1) % PI = (y * y - 1) % PI from by rw [Int.sub_emod, e, ← Int.sub_emod]]
  rw [show (1 + x * x * dI) % PI = (1 + y * y * dI) % PI from by rw [Int.add_emod, fmulM e rfl, ← Int.add_emod]]
theorem sideB2 : sideN ((4 : Nat) * iv (5 : Nat)) = (BX, true) := (sideN_congr (byE.trans (show (BY : Int) = (BY : Int) % PI by decide))).trans sideB
theorem fiBY : fi ((4 : Nat) * iv (5 : Nat)) = fi BY := fi_congr (byE.trans (show (BY : Int) = (BY : Int) % PI by decide))
section
variable {A : Ar} (h : FOK A)
include h
theorem baseP : g22ok A = true ∧ g22r0 A = fi BX ∧ g22r1 A = fi BY := by
  refine g22of ?_
  unfold g22v g22
  simp only [h.small 4 (by decide), h.small 5 (by decide), h.inv, h.mul, sideP h, sideB2, fiBY, sideB]
theorem baseR : g23ok A = true ∧ g23r0 A = fi BX ∧ g23r1 A = fi BY := by
  refine g23of ?_
  unfold g23v g23
  simp only [h.rsmall 4 (by decide), h.rsmall 5 (by decide), h.rinv, h.rmul, sideR h, sideB2, fiBY, sideB]
end
theorem onB : onW (fi BX) (fi BY) = true := by decide +kernel
theorem onZero : onW (fi 0) (fi 1) = true := by decide +kernel
theorem ptB : ptX (fi BX) (fi BY) = BX ∧ ptY (fi BX) (fi BY) = BY := by
  unfold ptX ptY
  rw [if_pos onB, if_pos onB]
  exact ⟨by decide +kernel, by decide +kernel⟩
theorem ptO : ptX (fi 0) (fi 1) = 0 ∧ ptY (fi 0) (fi 1) = 1 := by
  unfold ptX ptY
  rw [if_pos onZero, if_pos onZero]
  exact ⟨by decide +kernel, by decide +kernel⟩
theorem encBB : encB (fi BX) (fi BY) = [88] ++ List.replicate 31 102 := by decide +kernel
theorem addB0 : (nX BX BY 0 1 * iv (nZ BX BY 0 1)) % PI = BX ∧ (nY BX BY 0 1 * iv (nZ BX BY 0 1)) % PI = BY := by decide +kernel
theorem six : g30v realA = some (.v (.cell (.str (List.replicate 31 102)))) := by kernel_rfl
end Go.Sx
