import Derived.Test.YtkomlijabeedpaaDoorSxF
import Derived.Laws.BitsAllLaws
import Derived.Lib.Strings
namespace Go.Sx

def slt : List Nat → List Nat → Bool
  | _, [] => false
  | [], _ :: _ => true
  | a :: x, b :: y => decide (a < b) || (a == b && slt x y)

def realA : Ar where
  lt a b := decide (a < b)
  le a b := decide (a ≤ b)
  eq a b := decide (a = b)
  nb op k a b := match op with
    | .add => (a + b) % 2 ^ bitsOf k
    | .sub => (a + 2 ^ bitsOf k - b) % 2 ^ bitsOf k
    | .mul => (a * b) % 2 ^ bitsOf k
    | .and => a &&& b
    | .or => a ||| b
    | .xor => a ^^^ b
    | .andNot => a &&& (2 ^ bitsOf k - 1 - b)
    | .quo => a / b
    | .rem => a % b
    | _ => 0
  nsh op k a c := match op with
    | .shl => (a * 2 ^ c) % 2 ^ bitsOf k
    | _ => a / 2 ^ c
  nc op a b := match op with
    | .eql => decide (a = b)
    | .neq => !(decide (a = b))
    | .lss => decide (a < b)
    | .leq => decide (a ≤ b)
    | .gtr => decide (b < a)
    | .geq => decide (b ≤ a)
    | _ => false
  ib op k a b := match op with
    | .add => k.wrap (a + b)
    | .sub => k.wrap (a - b)
    | .mul => k.wrap (a * b)
    | .and => k.wrap (BitVec.ofInt k.bits a &&& BitVec.ofInt k.bits b).toNat
    | .or => k.wrap (BitVec.ofInt k.bits a ||| BitVec.ofInt k.bits b).toNat
    | .xor => k.wrap (BitVec.ofInt k.bits a ^^^ BitVec.ofInt k.bits b).toNat
    | .andNot => k.wrap (BitVec.ofInt k.bits a &&& ~~~ BitVec.ofInt k.bits b).toNat
    | .quo => k.wrap (a.tdiv b)
    | .rem => a.tmod b
    | _ => 0
  ish op k a c := match op with
    | .shl => k.wrap (a * 2 ^ (min c k.bits))
    | _ => a.fdiv (2 ^ (min c k.bits))
  ic op a b := match op with
    | .eql => decide (a = b)
    | .neq => !(decide (a = b))
    | .lss => decide (a < b)
    | .leq => decide (a ≤ b)
    | .gtr => decide (b < a)
    | .geq => decide (b ≤ a)
    | _ => false
  neg i := decide (i < 0)
  toN i := i.toNat
  ofN n := (n : Int)
  n2n k a := a % 2 ^ bitsOf k
  n2i k a := k.wrap (a : Int)
  i2n k i := (i % (2 ^ bitsOf k : Int)).toNat
  i2i k i := k.wrap i
  sc op a b := match op with
    | .eql => decide (a = b)
    | .neq => !(decide (a = b))
    | .lss => slt a b
    | .leq => slt a b || decide (a = b)
    | .gtr => !(slt a b || decide (a = b))
    | .geq => !(slt a b)
    | _ => false
  lq a b := decide (a = b)
  mn a b := if b < a then b else a
  mx a b := if a < b then b else a

theorem bitsOf_eq (k : IntKind) : bitsOf k = k.bits := by cases k <;> rfl

theorem wrap_unsig {k : IntKind} (h : k.signed = false) (n : Int) : k.wrap n = n % (2 ^ k.bits : Int) := by
  simp [IntKind.wrap, h]
theorem wrap_nat {k : IntKind} (h : k.signed = false) (n : Nat) : k.wrap (n : Int) = ((n % 2 ^ k.bits : Nat) : Int) := by
  rw [wrap_unsig h]; simp
theorem unsig_signed {k : IntKind} : unsig k = !k.signed := by cases k <;> rfl

theorem pow_pos (k : IntKind) : 0 < 2 ^ k.bits := Nat.pow_pos (by omega)

theorem ofInt_nat (k : IntKind) (a : Nat) (h : a < 2 ^ k.bits) : (BitVec.ofInt k.bits (a : Int)).toNat = a := by
  rw [BitVec.ofInt_natCast, BitVec.toNat_ofNat]
  exact Nat.mod_eq_of_lt h

section
variable {P : Program} {T : Tys} {N : Nat} {S : Nat → Prop} {ρ : Map} {h : Heap} {w : World}

theorem nb_sound {op : BinOp} {k : IntKind} {a b : Nat} (ha : a < 2 ^ k.bits) (hb : b < 2 ^ k.bits) (hs : k.signed = false) (ty : TypeId)
    (hop : op = .add ∨ op = .sub ∨ op = .mul ∨ op = .and ∨ op = .or ∨ op = .xor ∨ op = .andNot) :
    (binOp op ty (.int k (a : Int)) (.int k (b : Int))).run P w = .ok (.int k ((realA.nb op k a b : Nat) : Int)) w ∧ realA.nb op k a b < 2 ^ k.bits := by
  have hpos := pow_pos k
  rcases hop with rfl | rfl | rfl | rfl | rfl | rfl | rfl
  · refine ⟨?_, by simp only [realA, bitsOf_eq]; exact Nat.mod_lt _ hpos⟩
    simp only [binOp, ne_eq, not_true, if_false, Op.intArith, Sem.run_pure, realA, bitsOf_eq]
    rw [← Int.natCast_add, wrap_nat hs]
  · refine ⟨?_, by simp only [realA, bitsOf_eq]; exact Nat.mod_lt _ hpos⟩
    simp only [binOp, ne_eq, not_true, if_false, Op.intArith, Sem.run_pure, realA, bitsOf_eq]
    rw [wrap_unsig hs]
    congr 2
    have e : ((a + 2 ^ k.bits - b : Nat) : Int) = (a : Int) - (b : Int) + (2 ^ k.bits : Int) := by
      have : ((2 ^ k.bits : Nat) : Int) = (2 ^ k.bits : Int) := by simp
      omega
    rw [Int.natCast_emod, e]
    simp
  · refine ⟨?_, by simp only [realA, bitsOf_eq]; exact Nat.mod_lt _ hpos⟩
    simp only [binOp, ne_eq, not_true, if_false, Op.intArith, Sem.run_pure, realA, bitsOf_eq]
    rw [← Int.natCast_mul, wrap_nat hs]
  · have hlt : a &&& b < 2 ^ k.bits := Nat.and_lt_two_pow _ hb
    refine ⟨?_, by simpa only [realA] using hlt⟩
    simp only [binOp, ne_eq, not_true, if_false, Op.intBits, Sem.run_pure, realA, BitVec.toNat_and, ofInt_nat k a ha, ofInt_nat k b hb]
    rw [wrap_nat hs, Nat.mod_eq_of_lt hlt]
  · have hlt : a ||| b < 2 ^ k.bits := Nat.or_lt_two_pow ha hb
    refine ⟨?_, by simpa only [realA] using hlt⟩
    simp only [binOp, ne_eq, not_true, if_false, Op.intBits, Sem.run_pure, realA, BitVec.toNat_or, ofInt_nat k a ha, ofInt_nat k b hb]
    rw [wrap_nat hs, Nat.mod_eq_of_lt hlt]
  · have hlt : a ^^^ b < 2 ^ k.bits := Nat.xor_lt_two_pow ha hb
    refine ⟨?_, by simpa only [realA] using hlt⟩
    simp only [binOp, ne_eq, not_true, if_false, Op.intBits, Sem.run_pure, realA, BitVec.toNat_xor, ofInt_nat k a ha, ofInt_nat k b hb]
    rw [wrap_nat hs, Nat.mod_eq_of_lt hlt]
  · have hlt : a &&& (2 ^ k.bits - 1 - b) < 2 ^ k.bits := Nat.lt_of_le_of_lt Nat.and_le_left ha
    refine ⟨?_, by simpa only [realA, bitsOf_eq] using hlt⟩
    simp only [binOp, ne_eq, not_true, if_false, Op.intBits, Sem.run_pure, realA, bitsOf_eq, BitVec.toNat_and, BitVec.toNat_not, ofInt_nat k a ha, ofInt_nat k b hb]
    rw [wrap_nat hs, Nat.mod_eq_of_lt hlt]

theorem nc_sound {op : BinOp} {k : IntKind} {a b : Nat} (ty : TypeId) (hop : op = .eql ∨ op = .neq ∨ op = .lss ∨ op = .leq ∨ op = .gtr ∨ op = .geq) :
    (binOp op ty (.int k (a : Int)) (.int k (b : Int))).run P w = .ok (.bool (realA.nc op a b)) w := by
  rcases hop with rfl | rfl | rfl | rfl | rfl | rfl <;>
    simp only [binOp, ne_eq, not_true, if_false, Op.intCmp, Sem.run_pure, realA] <;> congr 2 <;> rw [Bool.eq_iff_iff] <;> simp <;> omega

theorem ic_sound {op : BinOp} {k : IntKind} {a b : Int} (ty : TypeId) (hop : op = .eql ∨ op = .neq ∨ op = .lss ∨ op = .leq ∨ op = .gtr ∨ op = .geq) :
    (binOp op ty (.int k a) (.int k b)).run P w = .ok (.bool (realA.ic op a b)) w := by
  rcases hop with rfl | rfl | rfl | rfl | rfl | rfl <;>
    simp only [binOp, ne_eq, not_true, if_false, Op.intCmp, Sem.run_pure, realA] <;> congr 2

theorem ib_sound {op : BinOp} {k : IntKind} {a b : Int} (ty : TypeId) (hop : op = .add ∨ op = .sub ∨ op = .mul ∨ op = .and ∨ op = .or ∨ op = .xor ∨ op = .andNot) :
    (binOp op ty (.int k a) (.int k b)).run P w = .ok (.int k (realA.ib op k a b)) w := by
  rcases hop with rfl | rfl | rfl | rfl | rfl | rfl | rfl <;>
    simp only [binOp, ne_eq, not_true, if_false, Op.intArith, Op.intBits, Sem.run_pure, realA]

theorem natsOf_toList (b : ByteArray) : natsOf b = b.toList.map UInt8.toNat := by rw [Lib.toList_data]; rfl
theorem toNat_inj : Function.Injective UInt8.toNat := fun a b h => UInt8.toNat_inj.1 h
theorem map_toNat_inj {a b : List UInt8} (h : a.map UInt8.toNat = b.map UInt8.toNat) : a = b := by
  induction a generalizing b with
  | nil => cases b <;> simp_all
  | cons x a ih =>
    cases b with
    | nil => simp at h
    | cons y b =>
      simp only [List.map_cons, List.cons.injEq] at h
      rw [UInt8.toNat_inj.1 h.1, ih h.2]
theorem bytesLess_slt (a b : List UInt8) : Op.bytesLess a b = slt (a.map UInt8.toNat) (b.map UInt8.toNat) := by
  induction a generalizing b with
  | nil => cases b <;> simp [Op.bytesLess, slt]
  | cons x a ih =>
    cases b with
    | nil => simp [Op.bytesLess, slt]
    | cons y b =>
      simp only [Op.bytesLess, List.map_cons, slt, ih]
      congr 1
      congr 1
      rw [Bool.eq_iff_iff]
      simp [UInt8.toNat_inj]
theorem eq_toList (a b : ByteArray) : (a.toList == b.toList) = decide (natsOf a = natsOf b) := by
  rw [Bool.eq_iff_iff]
  simp only [beq_iff_eq, decide_eq_true_eq, natsOf_toList]
  exact ⟨fun h => by rw [h], map_toNat_inj⟩

theorem sc_sound {op : BinOp} {a b : ByteArray} (ty : TypeId) (hop : op = .eql ∨ op = .neq ∨ op = .lss ∨ op = .leq ∨ op = .gtr ∨ op = .geq) :
    (binOp op ty (.string a) (.string b)).run P w = .ok (.bool (realA.sc op (natsOf a) (natsOf b))) w := by
  rcases hop with rfl | rfl | rfl | rfl | rfl | rfl <;>
    simp only [binOp, Op.stringOp, Sem.run_pure, realA, eq_toList, bytesLess_slt, ← natsOf_toList]

theorem natsOf_append (a b : ByteArray) : natsOf (a ++ b) = natsOf a ++ natsOf b := by
  unfold natsOf
  rw [ByteArray.data_append, Array.toList_append, List.map_append]
theorem natsOf_length (a : ByteArray) : (natsOf a).length = a.size := by
  unfold natsOf
  rw [List.length_map, Array.length_toList]
  rfl

theorem cat_sound {a b : ByteArray} (ty : TypeId) (h : realA.le ((natsOf a).length + (natsOf b).length) 9223372036854775807 = true) :
    ∃ u, (binOp .add ty (.string a) (.string b)).run P w = .ok u w ∧ RC ρ (.str (natsOf a ++ natsOf b)) u := by
  refine ⟨.string (a ++ b), ?_, _, rfl, natsOf_append a b⟩
  simp only [realA, decide_eq_true_eq, natsOf_length] at h
  simp only [binOp, Op.stringOp]
  have : ¬ ((a.size + b.size : Nat) : Int) > IntKind.i64.max := by
    have e : IntKind.i64.max = 9223372036854775807 := by simp [IntKind.max, IntKind.signed, IntKind.bits]
    rw [e]; omega
  rw [if_neg this]
  rfl

theorem nsh_sound {op : BinOp} {k k2 : IntKind} {a c : Nat} (ha : a < 2 ^ k.bits) (hs : k.signed = false) (ty : TypeId) (hop : op = .shl ∨ op = .shr) :
    (binOp op ty (.int k (a : Int)) (.int k2 (c : Int))).run P w = .ok (.int k ((realA.nsh op k a c : Nat) : Int)) w ∧ realA.nsh op k a c < 2 ^ k.bits := by
  have hpos := pow_pos k
  have hneg : ¬ ((c : Int) < 0) := by omega
  rcases hop with rfl | rfl
  · refine ⟨?_, by simp only [realA, bitsOf_eq]; exact Nat.mod_lt _ hpos⟩
    simp only [binOp, Op.shift, if_neg hneg, Sem.run_pure, realA, bitsOf_eq, Int.toNat_natCast]
    congr 2
    have e : ((a : Int) * 2 ^ (min c k.bits)) = ((a * 2 ^ (min c k.bits) : Nat) : Int) := by simp
    rw [e, wrap_nat hs]
    congr 1
    by_cases hc : c ≤ k.bits
    · rw [Nat.min_eq_left hc]
    · rw [Nat.min_eq_right (by omega)]
      obtain ⟨d, rfl⟩ : ∃ d, c = k.bits + d := ⟨c - k.bits, by omega⟩
      rw [Nat.pow_add, ← Nat.mul_assoc, Nat.mul_mod_left, Nat.mul_right_comm, Nat.mul_mod_left]
  · refine ⟨?_, by simp only [realA]; exact Nat.lt_of_le_of_lt (Nat.div_le_self _ _) ha⟩
    simp only [binOp, Op.shift, if_neg hneg, Sem.run_pure, realA, Int.toNat_natCast]
    congr 2
    rw [Int.fdiv_eq_ediv_of_nonneg _ (Int.le_of_lt (Int.pow_pos (by omega)))]
    have e : ((2 : Int) ^ (min c k.bits)) = ((2 ^ (min c k.bits) : Nat) : Int) := by simp
    rw [e, ← Int.natCast_ediv]
    congr 1
    by_cases hc : c ≤ k.bits
    · rw [Nat.min_eq_left hc]
    · rw [Nat.min_eq_right (by omega), Nat.div_eq_of_lt ha, Nat.div_eq_of_lt (Nat.lt_of_lt_of_le ha (Nat.pow_le_pow_right (by omega) (by omega)))]

theorem ish_sound {op : BinOp} {k k2 : IntKind} {a : Int} {c : Nat} (ty : TypeId) (hop : op = .shl ∨ op = .shr) :
    (binOp op ty (.int k a) (.int k2 (c : Int))).run P w = .ok (.int k (realA.ish op k a c)) w := by
  have hneg : ¬ ((c : Int) < 0) := by omega
  rcases hop with rfl | rfl <;> simp only [binOp, Op.shift, if_neg hneg, Sem.run_pure, realA, Int.toNat_natCast]

theorem ndiv_sound {op : BinOp} {k : IntKind} {a b : Nat} (ha : a < 2 ^ k.bits) (hb : b ≠ 0) (hs : k.signed = false) (ty : TypeId) (hop : op = .quo ∨ op = .rem) :
    (binOp op ty (.int k (a : Int)) (.int k (b : Int))).run P w = .ok (.int k ((realA.nb op k a b : Nat) : Int)) w ∧ realA.nb op k a b < 2 ^ k.bits := by
  have hb' : ¬ ((b : Int) = 0) := by omega
  rcases hop with rfl | rfl
  · have hlt : a / b < 2 ^ k.bits := Nat.lt_of_le_of_lt (Nat.div_le_self _ _) ha
    refine ⟨?_, by simpa only [realA] using hlt⟩
    simp only [binOp, ne_eq, not_true, if_false, Op.intDiv, if_neg hb', Sem.run_pure, realA]
    rw [show ((a : Int).tdiv (b : Int)) = ((a / b : Nat) : Int) from rfl, wrap_nat hs, Nat.mod_eq_of_lt hlt]
  · have hlt : a % b < 2 ^ k.bits := Nat.lt_of_le_of_lt (Nat.mod_le _ _) ha
    refine ⟨?_, by simpa only [realA] using hlt⟩
    simp only [binOp, ne_eq, not_true, if_false, Op.intDiv, if_neg hb', Sem.run_pure, realA]
    rfl

theorem idiv_sound {op : BinOp} {k : IntKind} {a b : Int} (hb : b ≠ 0) (ty : TypeId) (hop : op = .quo ∨ op = .rem) :
    (binOp op ty (.int k a) (.int k b)).run P w = .ok (.int k (realA.ib op k a b)) w := by
  rcases hop with rfl | rfl <;> simp only [binOp, ne_eq, not_true, if_false, Op.intDiv, if_neg hb, Sem.run_pure, realA]

end
end Go.Sx
