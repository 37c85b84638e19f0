/- printed by sxgen -/
import Derived.Test.YtaiehobmadflkaaSxR02c
namespace Go.Sx
open Go.Proofs
set_option linter.unusedVariables false
theorem SxR02dmt {α : Type} {c : Bool} (h : c = true) (a b : α) : (match (generalizing := false) c with | true => a | false => b) = a := by subst h; rfl
theorem SxR02dmf {α : Type} {c : Bool} (h : c = false) (a b : α) : (match (generalizing := false) c with | true => a | false => b) = b := by subst h; rfl
section
variable {R : Type} (A : Ar) (n : Nat) (K : Ex → St → Option R) (s : St)
end
def g24 {R : Type} (A : Ar) (n : Nat) (kk : AV → Heap → Option R) (a : List Nat) (b c : Nat) : Option R :=
  match (generalizing := false) g22ok A (a.getD 4 0) 14 with
  | true => match (generalizing := false) g22ok A (a.getD 4 0) 18 with
    | true => match (generalizing := false) g22ok A (a.getD 4 0) 41 with
      | true => match (generalizing := false) g22ok A (a.getD 0 0) 28 with
        | true => match (generalizing := false) g22ok A (a.getD 0 0) 34 with
          | true => match (generalizing := false) g22ok A (a.getD 0 0) 39 with
            | true => kk (aN .u64 8 (((((((([0, 0, 0, 0, 0, 0, 0, 0].set 0 (A.nb .add .u64 (A.nb .add .u64 (A.nb .add .u64 (A.nb .add .u64 (A.nb .add .u64 (a.getD 7 0) (A.nb .xor .u64 (A.nb .xor .u64 (g22r0 A (a.getD 4 0) 14) (g22r0 A (a.getD 4 0) 18)) (g22r0 A (a.getD 4 0) 41))) (A.nb .xor .u64 (A.nb .and .u64 (a.getD 4 0) (a.getD 5 0)) (A.nb .and .u64 (A.nb .xor .u64 18446744073709551615 (a.getD 4 0)) (a.getD 6 0)))) b) c) (A.nb .add .u64 (A.nb .xor .u64 (A.nb .xor .u64 (g22r0 A (a.getD 0 0) 28) (g22r0 A (a.getD 0 0) 34)) (g22r0 A (a.getD 0 0) 39)) (A.nb .xor .u64 (A.nb .xor .u64 (A.nb .and .u64 (a.getD 0 0) (a.getD 1 0)) (A.nb .and .u64 (a.getD 0 0) (a.getD 2 0))) (A.nb .and .u64 (a.getD 1 0) (a.getD 2 0)))))).set 1 (a.getD 0 0)).set 2 (a.getD 1 0)).set 3 (a.getD 2 0)).set 4 (A.nb .add .u64 (a.getD 3 0) (A.nb .add .u64 (A.nb .add .u64 (A.nb .add .u64 (A.nb .add .u64 (a.getD 7 0) (A.nb .xor .u64 (A.nb .xor .u64 (g22r0 A (a.getD 4 0) 14) (g22r0 A (a.getD 4 0) 18)) (g22r0 A (a.getD 4 0) 41))) (A.nb .xor .u64 (A.nb .and .u64 (a.getD 4 0) (a.getD 5 0)) (A.nb .and .u64 (A.nb .xor .u64 18446744073709551615 (a.getD 4 0)) (a.getD 6 0)))) b) c))).set 5 (a.getD 4 0)).set 6 (a.getD 5 0)).set 7 (a.getD 6 0))) [(1000, (bU 8 a 40)), (1001, (bU 8 (((((((([0, 0, 0, 0, 0, 0, 0, 0].set 0 (A.nb .add .u64 (A.nb .add .u64 (A.nb .add .u64 (A.nb .add .u64 (A.nb .add .u64 (a.getD 7 0) (A.nb .xor .u64 (A.nb .xor .u64 (g22r0 A (a.getD 4 0) 14) (g22r0 A (a.getD 4 0) 18)) (g22r0 A (a.getD 4 0) 41))) (A.nb .xor .u64 (A.nb .and .u64 (a.getD 4 0) (a.getD 5 0)) (A.nb .and .u64 (A.nb .xor .u64 18446744073709551615 (a.getD 4 0)) (a.getD 6 0)))) b) c) (A.nb .add .u64 (A.nb .xor .u64 (A.nb .xor .u64 (g22r0 A (a.getD 0 0) 28) (g22r0 A (a.getD 0 0) 34)) (g22r0 A (a.getD 0 0) 39)) (A.nb .xor .u64 (A.nb .xor .u64 (A.nb .and .u64 (a.getD 0 0) (a.getD 1 0)) (A.nb .and .u64 (a.getD 0 0) (a.getD 2 0))) (A.nb .and .u64 (a.getD 1 0) (a.getD 2 0)))))).set 1 (a.getD 0 0)).set 2 (a.getD 1 0)).set 3 (a.getD 2 0)).set 4 (A.nb .add .u64 (a.getD 3 0) (A.nb .add .u64 (A.nb .add .u64 (A.nb .add .u64 (A.nb .add .u64 (a.getD 7 0) (A.nb .xor .u64 (A.nb .xor .u64 (g22r0 A (a.getD 4 0) 14) (g22r0 A (a.getD 4 0) 18)) (g22r0 A (a.getD 4 0) 41))) (A.nb .xor .u64 (A.nb .and .u64 (a.getD 4 0) (a.getD 5 0)) (A.nb .and .u64 (A.nb .xor .u64 18446744073709551615 (a.getD 4 0)) (a.getD 6 0)))) b) c))).set 5 (a.getD 4 0)).set 6 (a.getD 5 0)).set 7 (a.getD 6 0)) 40))]
            | false => none
          | false => none
        | false => none
      | false => none
    | false => none
  | false => none
def g24is (o : Option AV) : Bool := match o with
  | some (aN .u64 8 _) => true
  | _ => false
def g24g0 (o : Option AV) : List Nat := match o with
  | some (aN .u64 8 x) => x
  | _ => []
def g24v (A : Ar) (a : List Nat) (b c : Nat) : Option AV := g24 A (100000) (fun v _ => some v) a b c
def g24ok (A : Ar) (a : List Nat) (b c : Nat) : Bool := g24is (g24v A a b c)
def g24r0 (A : Ar) (a : List Nat) (b c : Nat) : List Nat := g24g0 (g24v A a b c)
section
variable {R : Type} (A : Ar) (n : Nat) (K : Ex → St → Option R) (s : St)
end
def g23 {R : Type} (A : Ar) (n : Nat) (kk : AV → Heap → Option R)  : Option R :=
  kk (sL 2000 none 80 1) [(2000, ⟨[.nums .u64 80 [4794697086780616226, 8158064640168781261, 13096744586834688815, 16840607885511220156, 4131703408338449720, 6480981068601479193, 10538285296894168987, 12329834152419229976, 15566598209576043074, 1334009975649890238, 2608012711638119052, 6128411473006802146, 8268148722764581231, 9286055187155687089, 11230858885718282805, 13951009754708518548, 16472876342353939154, 17275323862435702243, 1135362057144423861, 2597628984639134821, 3308224258029322869, 5365058923640841347, 6679025012923562964, 8573033837759648693, 10970295158949994411, 12119686244451234320, 12683024718118986047, 13788192230050041572, 14330467153632333762, 15395433587784984357, 489312712824947311, 1452737877330783856, 2861767655752347644, 3322285676063803686, 5560940570517711597, 5996557281743188959, 7280758554555802590, 8532644243296465576, 9350256976987008742, 10552545826968843579, 11727347734174303076, 12113106623233404929, 14000437183269869457, 14369950271660146224, 15101387698204529176, 15463397548674623760, 17586052441742319658, 1182934255886127544, 1847814050463011016, 2177327727835720531, 2830643537854262169, 3796741975233480872, 4115178125766777443, 5681478168544905931, 6601373596472566643, 7507060721942968483, 8399075790359081724, 8693463985226723168, 9568029438360202098, 10144078919501101548, 10430055236837252648, 11840083180663258601, 13761210420658862357, 14299343276471374635, 14566680578165727644, 15097957966210449927, 16922976911328602910, 17689382322260857208, 500013540394364858, 748580250866718886, 1242879168328830382, 1977374033974150939, 2944078676154940804, 3659926193048069267, 4368137639120453308, 4836135668995329356, 5532061633213252278, 6448918945643986474, 6902733635092675308, 7801388544844847127]], 36, 2⟩)]
def g23is (o : Option (AV × Heap)) : Bool := match o with
  | some (.v (.cell (.sl n0 none _ n1)), [(n2, ⟨[.nums .u64 _ _], n3, n4⟩)]) => Nat.beq n0 700 && (Nat.beq n1 1 && (Nat.beq n2 700 && (Nat.beq n3 36 && (Nat.beq n4 2))))
  | _ => false
def g23g0 (o : Option (AV × Heap)) : Nat := match o with
  | some (.v (.cell (.sl _ none x _)), [(_, ⟨[.nums .u64 _ _], _, _⟩)]) => x
  | _ => 0
def g23g1 (o : Option (AV × Heap)) : Nat := match o with
  | some (.v (.cell (.sl _ none _ _)), [(_, ⟨[.nums .u64 x _], _, _⟩)]) => x
  | _ => 0
def g23g2 (o : Option (AV × Heap)) : List Nat := match o with
  | some (.v (.cell (.sl _ none _ _)), [(_, ⟨[.nums .u64 _ x], _, _⟩)]) => x
  | _ => []
def g23v (A : Ar)  : Option (AV × Heap) := g23 A (100000) (outH [] none) 
def g23ok (A : Ar)  : Bool := g23is (g23v A)
def g23r0 (A : Ar)  : Nat := g23g0 (g23v A)
def g23r1 (A : Ar)  : Nat := g23g1 (g23v A)
def g23r2 (A : Ar)  : List Nat := g23g2 (g23v A)
section
variable {R : Type} (A : Ar) (n : Nat) (K : Ex → St → Option R) (s : St)
end
def g17J9 {R : Type} (A : Ar) (n : Nat) (kk : AV → Heap → Option R) (lg17L7 : List Nat → Nat → Int → Nat → Int → List Nat → List Nat → Nat → List Nat → Option R) (x0 : List Nat) (x1 : Nat) (x2 : Int) (x3 : Nat) (x4 : Int) (x5 x6 : List Nat) (x7 : Nat) (x8 : List Nat) : Option R :=
  match (generalizing := false) A.neg (A.ib .add .i64 (A.ib .mul .i64 8 x2) x4) with
  | true => none
  | false => match (generalizing := false) A.lt (A.toN (A.ib .add .i64 (A.ib .mul .i64 8 x2) x4)) x0.length with
    | true => lg17L7 x0 x1 x2 (A.nb .or .u64 (A.nsh .shl .u64 x3 8) (x0.getD (A.toN (A.ib .add .i64 (A.ib .mul .i64 8 x2) x4)) 0)) (A.ib .add .i64 x4 1) x5 x6 x7 x8
    | false => none
def g17J10 {R : Type} (A : Ar) (n : Nat) (kk : AV → Heap → Option R) (lg17L3 : List Nat → Nat → Int → List Nat → List Nat → Nat → List Nat → Option R) (x0 : List Nat) (x1 : Nat) (x2 : Int) (x3 : Nat) (x4 x5 : List Nat) (x6 : Nat) (x7 : List Nat) : Option R :=
  match (generalizing := false) A.eq x1 (x6 + 0) with
  | true => match (generalizing := false) A.le (((x7 ++ ([x3].take 1)).length) * 8) 140737488355328 with
    | true => lg17L3 x0 ((x7 ++ ([x3].take 1)).length) (A.ib .add .i64 x2 1) x4 x5 ((x7 ++ ([x3].take 1)).length) (x7 ++ ([x3].take 1))
    | false => none
  | false => none
def g17L7 {R : Type} (A : Ar) (n : Nat) (kk : AV → Heap → Option R) (lg17L3 : List Nat → Nat → Int → List Nat → List Nat → Nat → List Nat → Option R) : Nat → List Nat → Nat → Int → Nat → Int → List Nat → List Nat → Nat → List Nat → Option R
  | 0, _, _, _, _, _, _, _, _, _ => none
  | m + 1, x0, x1, x2, x3, x4, x5, x6, x7, x8 => match (generalizing := false) A.ic .lss x4 8 with
  | true => g17J9 A n kk (g17L7 A n kk lg17L3 m) x0 x1 x2 x3 x4 x5 x6 x7 x8
  | false => g17J10 A n kk lg17L3 x0 x1 x2 x3 x5 x6 x7 x8
def g17J5 {R : Type} (A : Ar) (n : Nat) (kk : AV → Heap → Option R) (lg17L3 : List Nat → Nat → Int → List Nat → List Nat → Nat → List Nat → Option R) (x0 : List Nat) (x1 : Nat) (x2 : Int) (x3 x4 : List Nat) (x5 : Nat) (x6 : List Nat) : Option R :=
  g17L7 A n kk lg17L3 n x0 x1 x2 0 0 x3 x4 x5 x6
def g17J14 {R : Type} (A : Ar) (n : Nat) (kk : AV → Heap → Option R) (lg17L12 : Nat → Int → List Nat → List Nat → Nat → List Nat → Option R) (x0 : Nat) (x1 : Int) (x2 x3 : List Nat) (x4 : Nat) (x5 : List Nat) : Option R :=
  match (generalizing := false) A.neg (A.ib .sub .i64 x1 2) with
  | true => none
  | false => match (generalizing := false) A.lt (A.toN (A.ib .sub .i64 x1 2)) x0 with
    | true => match (generalizing := false) g22ok A (x5.getD (A.toN (A.ib .sub .i64 x1 2)) 0) 19 with
      | true => match (generalizing := false) A.neg (A.ib .sub .i64 x1 2) with
        | true => none
        | false => match (generalizing := false) A.lt (A.toN (A.ib .sub .i64 x1 2)) x0 with
          | true => match (generalizing := false) g22ok A (x5.getD (A.toN (A.ib .sub .i64 x1 2)) 0) 61 with
            | true => match (generalizing := false) A.neg (A.ib .sub .i64 x1 2) with
              | true => none
              | false => match (generalizing := false) A.lt (A.toN (A.ib .sub .i64 x1 2)) x0 with
                | true => match (generalizing := false) A.neg (A.ib .sub .i64 x1 15) with
                  | true => none
                  | false => match (generalizing := false) A.lt (A.toN (A.ib .sub .i64 x1 15)) x0 with
                    | true => match (generalizing := false) g22ok A (x5.getD (A.toN (A.ib .sub .i64 x1 15)) 0) 1 with
                      | true => match (generalizing := false) A.neg (A.ib .sub .i64 x1 15) with
                        | true => none
                        | false => match (generalizing := false) A.lt (A.toN (A.ib .sub .i64 x1 15)) x0 with
                          | true => match (generalizing := false) g22ok A (x5.getD (A.toN (A.ib .sub .i64 x1 15)) 0) 8 with
                            | true => match (generalizing := false) A.neg (A.ib .sub .i64 x1 15) with
                              | true => none
                              | false => match (generalizing := false) A.lt (A.toN (A.ib .sub .i64 x1 15)) x0 with
                                | true => match (generalizing := false) A.neg (A.ib .sub .i64 x1 7) with
                                  | true => none
                                  | false => match (generalizing := false) A.lt (A.toN (A.ib .sub .i64 x1 7)) x0 with
                                    | true => match (generalizing := false) A.neg (A.ib .sub .i64 x1 16) with
                                      | true => none
                                      | false => match (generalizing := false) A.lt (A.toN (A.ib .sub .i64 x1 16)) x0 with
                                        | true => match (generalizing := false) A.eq x0 (x4 + 0) with
                                          | true => match (generalizing := false) A.le (((x5 ++ ([A.nb .add .u64 (A.nb .add .u64 (A.nb .add .u64 (A.nb .xor .u64 (A.nb .xor .u64 (g22r0 A (x5.getD (A.toN (A.ib .sub .i64 x1 2)) 0) 19) (g22r0 A (x5.getD (A.toN (A.ib .sub .i64 x1 2)) 0) 61)) (A.nsh .shr .u64 (x5.getD (A.toN (A.ib .sub .i64 x1 2)) 0) 6)) (x5.getD (A.toN (A.ib .sub .i64 x1 7)) 0)) (A.nb .xor .u64 (A.nb .xor .u64 (g22r0 A (x5.getD (A.toN (A.ib .sub .i64 x1 15)) 0) 1) (g22r0 A (x5.getD (A.toN (A.ib .sub .i64 x1 15)) 0) 8)) (A.nsh .shr .u64 (x5.getD (A.toN (A.ib .sub .i64 x1 15)) 0) 7))) (x5.getD (A.toN (A.ib .sub .i64 x1 16)) 0)].take 1)).length) * 8) 140737488355328 with
                                            | true => lg17L12 ((x5 ++ ([A.nb .add .u64 (A.nb .add .u64 (A.nb .add .u64 (A.nb .xor .u64 (A.nb .xor .u64 (g22r0 A (x5.getD (A.toN (A.ib .sub .i64 x1 2)) 0) 19) (g22r0 A (x5.getD (A.toN (A.ib .sub .i64 x1 2)) 0) 61)) (A.nsh .shr .u64 (x5.getD (A.toN (A.ib .sub .i64 x1 2)) 0) 6)) (x5.getD (A.toN (A.ib .sub .i64 x1 7)) 0)) (A.nb .xor .u64 (A.nb .xor .u64 (g22r0 A (x5.getD (A.toN (A.ib .sub .i64 x1 15)) 0) 1) (g22r0 A (x5.getD (A.toN (A.ib .sub .i64 x1 15)) 0) 8)) (A.nsh .shr .u64 (x5.getD (A.toN (A.ib .sub .i64 x1 15)) 0) 7))) (x5.getD (A.toN (A.ib .sub .i64 x1 16)) 0)].take 1)).length) (A.ib .add .i64 x1 1) x2 x3 ((x5 ++ ([A.nb .add .u64 (A.nb .add .u64 (A.nb .add .u64 (A.nb .xor .u64 (A.nb .xor .u64 (g22r0 A (x5.getD (A.toN (A.ib .sub .i64 x1 2)) 0) 19) (g22r0 A (x5.getD (A.toN (A.ib .sub .i64 x1 2)) 0) 61)) (A.nsh .shr .u64 (x5.getD (A.toN (A.ib .sub .i64 x1 2)) 0) 6)) (x5.getD (A.toN (A.ib .sub .i64 x1 7)) 0)) (A.nb .xor .u64 (A.nb .xor .u64 (g22r0 A (x5.getD (A.toN (A.ib .sub .i64 x1 15)) 0) 1) (g22r0 A (x5.getD (A.toN (A.ib .sub .i64 x1 15)) 0) 8)) (A.nsh .shr .u64 (x5.getD (A.toN (A.ib .sub .i64 x1 15)) 0) 7))) (x5.getD (A.toN (A.ib .sub .i64 x1 16)) 0)].take 1)).length) (x5 ++ ([A.nb .add .u64 (A.nb .add .u64 (A.nb .add .u64 (A.nb .xor .u64 (A.nb .xor .u64 (g22r0 A (x5.getD (A.toN (A.ib .sub .i64 x1 2)) 0) 19) (g22r0 A (x5.getD (A.toN (A.ib .sub .i64 x1 2)) 0) 61)) (A.nsh .shr .u64 (x5.getD (A.toN (A.ib .sub .i64 x1 2)) 0) 6)) (x5.getD (A.toN (A.ib .sub .i64 x1 7)) 0)) (A.nb .xor .u64 (A.nb .xor .u64 (g22r0 A (x5.getD (A.toN (A.ib .sub .i64 x1 15)) 0) 1) (g22r0 A (x5.getD (A.toN (A.ib .sub .i64 x1 15)) 0) 8)) (A.nsh .shr .u64 (x5.getD (A.toN (A.ib .sub .i64 x1 15)) 0) 7))) (x5.getD (A.toN (A.ib .sub .i64 x1 16)) 0)].take 1))
                                            | false => none
                                          | false => none
                                        | false => none
                                    | false => none
                                | false => none
                            | false => none
                          | false => none
                      | false => none
                    | false => none
                | false => none
            | false => none
          | false => none
      | false => none
    | false => none
def g17J22 {R : Type} (A : Ar) (n : Nat) (kk : AV → Heap → Option R) (lg17L20 : Nat → Nat → Int → List Nat → List Nat → Nat → List Nat → Nat → List Nat → List Nat → Option R) (x0 x1 : Nat) (x2 : Int) (x3 x4 : List Nat) (x5 : Nat) (x6 : List Nat) (x7 : Nat) (x8 x9 : List Nat) : Option R :=
  match (generalizing := false) A.neg x2 with
  | true => none
  | false => match (generalizing := false) A.lt (A.toN x2) x1 with
    | true => match (generalizing := false) A.neg x2 with
      | true => none
      | false => match (generalizing := false) A.lt (A.toN x2) x0 with
        | true => match (generalizing := false) g24ok A x9 (x8.getD (A.toN x2) 0) (x6.getD (A.toN x2) 0) with
          | true => lg17L20 x0 x1 (A.ib .add .i64 x2 1) x3 x4 x5 x6 x7 x8 (g24r0 A x9 (x8.getD (A.toN x2) 0) (x6.getD (A.toN x2) 0))
          | false => none
        | false => none
    | false => none
def g17J23 {R : Type} (A : Ar) (n : Nat) (kk : AV → Heap → Option R)  (x0 x1 x2 : List Nat) : Option R :=
  kk (aN .u64 8 (((((((([0, 0, 0, 0, 0, 0, 0, 0].set 0 (A.nb .add .u64 (x0.getD 0 0) (x2.getD 0 0))).set 1 (A.nb .add .u64 (x0.getD 1 0) (x2.getD 1 0))).set 2 (A.nb .add .u64 (x0.getD 2 0) (x2.getD 2 0))).set 3 (A.nb .add .u64 (x0.getD 3 0) (x2.getD 3 0))).set 4 (A.nb .add .u64 (x0.getD 4 0) (x2.getD 4 0))).set 5 (A.nb .add .u64 (x0.getD 5 0) (x2.getD 5 0))).set 6 (A.nb .add .u64 (x0.getD 6 0) (x2.getD 6 0))).set 7 (A.nb .add .u64 (x0.getD 7 0) (x2.getD 7 0)))) [(1000, (bU 8 x0 40)), (1001, (bU 8 (((((((([0, 0, 0, 0, 0, 0, 0, 0].set 0 (A.nb .add .u64 (x0.getD 0 0) (x2.getD 0 0))).set 1 (A.nb .add .u64 (x0.getD 1 0) (x2.getD 1 0))).set 2 (A.nb .add .u64 (x0.getD 2 0) (x2.getD 2 0))).set 3 (A.nb .add .u64 (x0.getD 3 0) (x2.getD 3 0))).set 4 (A.nb .add .u64 (x0.getD 4 0) (x2.getD 4 0))).set 5 (A.nb .add .u64 (x0.getD 5 0) (x2.getD 5 0))).set 6 (A.nb .add .u64 (x0.getD 6 0) (x2.getD 6 0))).set 7 (A.nb .add .u64 (x0.getD 7 0) (x2.getD 7 0))) 40)), (19001, (bU 8 x2 40))]
def g17L20 {R : Type} (A : Ar) (n : Nat) (kk : AV → Heap → Option R)  : Nat → Nat → Nat → Int → List Nat → List Nat → Nat → List Nat → Nat → List Nat → List Nat → Option R
  | 0, _, _, _, _, _, _, _, _, _, _ => none
  | m + 1, x0, x1, x2, x3, x4, x5, x6, x7, x8, x9 => match (generalizing := false) A.ic .lss x2 80 with
  | true => g17J22 A n kk (g17L20 A n kk  m) x0 x1 x2 x3 x4 x5 x6 x7 x8 x9
  | false => g17J23 A n kk  x3 x4 x9
def g17J17 {R : Type} (A : Ar) (n : Nat) (kk : AV → Heap → Option R)  (x0 : Nat) (x1 x2 : List Nat) (x3 : Nat) (x4 : List Nat) : Option R :=
  match (generalizing := false) g23ok A with
  | true => g17L20 A n kk  n x0 (g23r0 A) 0 x1 x2 x3 x4 (g23r1 A) (g23r2 A) x1
  | false => none
def g17L12 {R : Type} (A : Ar) (n : Nat) (kk : AV → Heap → Option R)  : Nat → Nat → Int → List Nat → List Nat → Nat → List Nat → Option R
  | 0, _, _, _, _, _, _ => none
  | m + 1, x0, x1, x2, x3, x4, x5 => match (generalizing := false) A.ic .lss x1 80 with
  | true => g17J14 A n kk (g17L12 A n kk  m) x0 x1 x2 x3 x4 x5
  | false => g17J17 A n kk  x0 x2 x3 x4 x5
def g17J11 {R : Type} (A : Ar) (n : Nat) (kk : AV → Heap → Option R)  (x0 : Nat) (x1 x2 : List Nat) (x3 : Nat) (x4 : List Nat) : Option R :=
  g17L12 A n kk  n x0 16 x1 x2 x3 x4
def g17L3 {R : Type} (A : Ar) (n : Nat) (kk : AV → Heap → Option R)  : Nat → List Nat → Nat → Int → List Nat → List Nat → Nat → List Nat → Option R
  | 0, _, _, _, _, _, _, _ => none
  | m + 1, x0, x1, x2, x3, x4, x5, x6 => match (generalizing := false) A.ic .lss x2 16 with
  | true => g17J5 A n kk (g17L3 A n kk  m) x0 x1 x2 x3 x4 x5 x6
  | false => g17J11 A n kk  x1 x3 x4 x5 x6
def g17 {R : Type} (A : Ar) (n : Nat) (kk : AV → Heap → Option R) (a b : List Nat) : Option R :=
  g17L3 A n kk  n b 0 0 a [0, 0, 0, 0, 0, 0, 0, 0] 0 []
def g17is (o : Option AV) : Bool := match o with
  | some (aN .u64 8 _) => true
  | _ => false
def g17g0 (o : Option AV) : List Nat := match o with
  | some (aN .u64 8 x) => x
  | _ => []
def g17v (A : Ar) (a b : List Nat) : Option AV := g17 A (100000) (fun v _ => some v) a b
def g17ok (A : Ar) (a b : List Nat) : Bool := g17is (g17v A a b)
def g17r0 (A : Ar) (a b : List Nat) : List Nat := g17g0 (g17v A a b)
section
variable {R : Type} (A : Ar) (n : Nat) (K : Ex → St → Option R) (s : St)
end
def g10J10 {R : Type} (A : Ar) (n : Nat) (kk : AV → Heap → Option R) (lg10L8 : List Nat → Int → List Nat → Option R) (x0 : List Nat) (x1 : Int) (x2 : List Nat) : Option R :=
  match (generalizing := false) A.neg (A.ib .add .i64 x1 128) with
  | true => none
  | false => match (generalizing := false) A.le (A.toN (A.ib .add .i64 x1 128)) x0.length with
    | true => match (generalizing := false) A.neg x1 with
      | true => none
      | false => match (generalizing := false) A.le (A.toN x1) (A.toN (A.ib .add .i64 x1 128)) with
        | true => match (generalizing := false) g17ok A x2 ((x0.take (A.toN (A.ib .add .i64 x1 128))).drop (A.toN x1)) with
          | true => lg10L8 x0 (A.ib .add .i64 x1 128) (g17r0 A x2 ((x0.take (A.toN (A.ib .add .i64 x1 128))).drop (A.toN x1)))
          | false => none
        | false => none
    | false => none
def g10J11 {R : Type} (A : Ar) (n : Nat) (kk : AV → Heap → Option R)  (x0 : List Nat) : Option R :=
  match (generalizing := false) g16ok A (x0.getD 0 0) with
  | true => match (generalizing := false) g16ok A (x0.getD 1 0) with
    | true => match (generalizing := false) A.le ((g16r0 A (x0.getD 0 0)).length + (g16r0 A (x0.getD 1 0)).length) 9223372036854775807 with
      | true => match (generalizing := false) g16ok A (x0.getD 2 0) with
        | true => match (generalizing := false) A.le (((g16r0 A (x0.getD 0 0)) ++ (g16r0 A (x0.getD 1 0))).length + (g16r0 A (x0.getD 2 0)).length) 9223372036854775807 with
          | true => match (generalizing := false) g16ok A (x0.getD 3 0) with
            | true => match (generalizing := false) A.le ((((g16r0 A (x0.getD 0 0)) ++ (g16r0 A (x0.getD 1 0))) ++ (g16r0 A (x0.getD 2 0))).length + (g16r0 A (x0.getD 3 0)).length) 9223372036854775807 with
              | true => match (generalizing := false) g16ok A (x0.getD 4 0) with
                | true => match (generalizing := false) A.le (((((g16r0 A (x0.getD 0 0)) ++ (g16r0 A (x0.getD 1 0))) ++ (g16r0 A (x0.getD 2 0))) ++ (g16r0 A (x0.getD 3 0))).length + (g16r0 A (x0.getD 4 0)).length) 9223372036854775807 with
                  | true => match (generalizing := false) g16ok A (x0.getD 5 0) with
                    | true => match (generalizing := false) A.le ((((((g16r0 A (x0.getD 0 0)) ++ (g16r0 A (x0.getD 1 0))) ++ (g16r0 A (x0.getD 2 0))) ++ (g16r0 A (x0.getD 3 0))) ++ (g16r0 A (x0.getD 4 0))).length + (g16r0 A (x0.getD 5 0)).length) 9223372036854775807 with
                      | true => match (generalizing := false) g16ok A (x0.getD 6 0) with
                        | true => match (generalizing := false) A.le (((((((g16r0 A (x0.getD 0 0)) ++ (g16r0 A (x0.getD 1 0))) ++ (g16r0 A (x0.getD 2 0))) ++ (g16r0 A (x0.getD 3 0))) ++ (g16r0 A (x0.getD 4 0))) ++ (g16r0 A (x0.getD 5 0))).length + (g16r0 A (x0.getD 6 0)).length) 9223372036854775807 with
                          | true => match (generalizing := false) g16ok A (x0.getD 7 0) with
                            | true => match (generalizing := false) A.le ((((((((g16r0 A (x0.getD 0 0)) ++ (g16r0 A (x0.getD 1 0))) ++ (g16r0 A (x0.getD 2 0))) ++ (g16r0 A (x0.getD 3 0))) ++ (g16r0 A (x0.getD 4 0))) ++ (g16r0 A (x0.getD 5 0))) ++ (g16r0 A (x0.getD 6 0))).length + (g16r0 A (x0.getD 7 0)).length) 9223372036854775807 with
                              | true => kk (tS ((((((((g16r0 A (x0.getD 0 0)) ++ (g16r0 A (x0.getD 1 0))) ++ (g16r0 A (x0.getD 2 0))) ++ (g16r0 A (x0.getD 3 0))) ++ (g16r0 A (x0.getD 4 0))) ++ (g16r0 A (x0.getD 5 0))) ++ (g16r0 A (x0.getD 6 0))) ++ (g16r0 A (x0.getD 7 0)))) [(7001, (bU 8 x0 40))]
                              | false => none
                            | false => none
                          | false => none
                        | false => none
                      | false => none
                    | false => none
                  | false => none
                | false => none
              | false => none
            | false => none
          | false => none
        | false => none
      | false => none
    | false => none
  | false => none
def g10L8 {R : Type} (A : Ar) (n : Nat) (kk : AV → Heap → Option R)  : Nat → List Nat → Int → List Nat → Option R
  | 0, _, _, _ => none
  | m + 1, x0, x1, x2 => match (generalizing := false) A.ic .lss x1 (A.ofN x0.length) with
  | true => g10J10 A n kk (g10L8 A n kk  m) x0 x1 x2
  | false => g10J11 A n kk  x2
def g10J5 {R : Type} (A : Ar) (n : Nat) (kk : AV → Heap → Option R)  (x0 : List Nat) (x1 : Nat) : Option R :=
  match (generalizing := false) g16ok A (A.nsh .shr .u64 x1 61) with
  | true => match (generalizing := false) A.le (x0.length + (g16r0 A (A.nsh .shr .u64 x1 61)).length) 9223372036854775807 with
    | true => match (generalizing := false) g16ok A (A.nsh .shl .u64 x1 3) with
      | true => match (generalizing := false) A.le ((x0 ++ (g16r0 A (A.nsh .shr .u64 x1 61))).length + (g16r0 A (A.nsh .shl .u64 x1 3)).length) 9223372036854775807 with
        | true => g10L8 A n kk  n ((x0 ++ (g16r0 A (A.nsh .shr .u64 x1 61))) ++ (g16r0 A (A.nsh .shl .u64 x1 3))) 0 (((((((([0, 0, 0, 0, 0, 0, 0, 0].set 0 7640891576956012808).set 1 13503953896175478587).set 2 4354685564936845355).set 3 11912009170470909681).set 4 5840696475078001361).set 5 11170449401992604703).set 6 2270897969802886507).set 7 6620516959819538809)
        | false => none
      | false => none
    | false => none
  | false => none
def g10L3 {R : Type} (A : Ar) (n : Nat) (kk : AV → Heap → Option R)  : Nat → List Nat → Nat → Option R
  | 0, _, _ => none
  | m + 1, x0, x1 => match (generalizing := false) A.ic .neq (A.ib .rem .i64 (A.ofN x0.length) 128) 112 with
  | true => match (generalizing := false) A.le (x0.length + [0].length) 9223372036854775807 with
    | true => g10L3 A n kk  m (x0 ++ [0]) x1
    | false => none
  | false => g10J5 A n kk  x0 x1
def g10 {R : Type} (A : Ar) (n : Nat) (kk : AV → Heap → Option R) (a : List Nat) : Option R :=
  match (generalizing := false) A.le (a.length + [128].length) 9223372036854775807 with
  | true => g10L3 A n kk  n (a ++ [128]) (A.i2n .u64 (A.ofN a.length))
  | false => none
def g10is (o : Option AV) : Bool := match o with
  | some (.v (.cell (.str _))) => true
  | _ => false
def g10g0 (o : Option AV) : List Nat := match o with
  | some (.v (.cell (.str x))) => x
  | _ => []
def g10v (A : Ar) (a : List Nat) : Option AV := g10 A (100000) (fun v _ => some v) a
def g10ok (A : Ar) (a : List Nat) : Bool := g10is (g10v A a)
def g10r0 (A : Ar) (a : List Nat) : List Nat := g10g0 (g10v A a)
section
variable {R : Type} (A : Ar) (n : Nat) (K : Ex → St → Option R) (s : St)
end
def g3J4 {R : Type} (A : Ar) (n : Nat) (kk : AV → Heap → Option R)  (x0 : List Nat) (x1 : Bool) : Option R :=
  match (generalizing := false) A.neg (A.mn (A.ofN x0.length) 600) with
  | true => none
  | false => match (generalizing := false) A.le (A.toN (A.mn (A.ofN x0.length) 600)) x0.length with
    | true => match (generalizing := false) x1 with
      | true => match (generalizing := false) g9ok A ((x0.take (A.toN (A.mn (A.ofN x0.length) 600))).drop 0) with
        | true => match (generalizing := false) g10ok A ((x0.take (A.toN (A.mn (A.ofN x0.length) 600))).drop 0) with
          | true => kk (bO (A.sc .eql (g9r0 A ((x0.take (A.toN (A.mn (A.ofN x0.length) 600))).drop 0)) (g10r0 A ((x0.take (A.toN (A.mn (A.ofN x0.length) 600))).drop 0)))) []
          | false => none
        | false => none
      | false => kk (bO false) []
    | false => none
def g3 {R : Type} (A : Ar) (n : Nat) (kk : AV → Heap → Option R) (a : List Nat) : Option R :=
  match (generalizing := false) g8ok A with
  | true => match (generalizing := false) !(g8r0 A) with
    | true => kk (bO false) []
    | false => g3J4 A n kk  a (g8r0 A)
  | false => none
/- engrosser/engrosserlaw02.Sum512Cuts -/
def g5O (A : Ar) : Orc := orcN [(11, (1, 1, ⟨[.nums .u8 0 []], 5, 2⟩))] (orcH [(8, g8o A), (9, g9o A)] [(11, ⟨[], none, (g11o A)⟩), (12, ⟨[0, 1], (some (0, 1, 1, ⟨[.nums .u8 0 []], 5, 2⟩)), (hoN [501, 600] (ho2 (g12o A) (g12a_o A)))⟩), (13, ⟨[], none, (hoN [1] (g13o A))⟩), (14, ⟨[], none, (hoN [1] (g14o A))⟩)])
theorem g5O_sound : OSound Try.prog (g5O realA) := orcN_sound <| orcH_sound (fun f g hm args v hv => by
    simp only [List.mem_cons, List.not_mem_nil, or_false, Prod.mk.injEq] at hm
    rcases hm with ⟨rfl, rfl⟩ | ⟨rfl, rfl⟩
    · exact g8o_sound _ _ hv
    · exact g9o_sound _ _ hv) (fun f e hm args h v h' hv => by
    simp only [List.mem_cons, List.not_mem_nil, or_false, Prod.mk.injEq] at hm
    rcases hm with ⟨rfl, rfl⟩ | ⟨rfl, rfl⟩ | ⟨rfl, rfl⟩ | ⟨rfl, rfl⟩
    · exact g11o_sound _ _ _ _ hv
    · exact (hoN_sound (ho2_sound g12o_sound g12a_o_sound)) _ _ _ _ hv
    · exact (hoN_sound g13o_sound) _ _ _ _ hv
    · exact (hoN_sound g14o_sound) _ _ _ _ hv)
theorem g5O_det : ODet (g5O realA) := orcN_det <| orcH_det _ _
def g5an : Ann := [(0, ([0, 1], [])), (1, ([0, 1], [])), (2, ([0, 1, 5], [])), (3, ([], [])), (4, ([0, 1, 5], [])), (5, ([0, 1, 5], [])), (6, ([0, 1, 5], [])), (7, ([0, 1, 5], [])), (8, ([0, 1, 5], [])), (9, ([0, 1, 5, 6], [9000, 9500])), (10, ([], [])), (11, ([0, 1, 5, 6], [9000, 9500])), (12, ([0, 1, 5, 6], [9000, 9500])), (13, ([0, 1, 5, 6, 7], [9000, 9500])), (14, ([0, 1, 5, 6, 7], [9000, 9500]))]
def g5res : List ResultVar := [.tmp 4]
abbrev g5t0 (A : Ar) (x0 : List Nat) (x1 : Int) (x3 : List Nat) (x4 : Nat) (x5 : Int) (x6 : Nat) (x7 : List Nat) : List Nat := g13r0 A (g12r0 A ((x0.take (A.toN x1)).drop 0) x3 0 x4 x5 x6 x7) (g12r1 A ((x0.take (A.toN x1)).drop 0) x3 0 x4 x5 x6 x7) (g12r2 A ((x0.take (A.toN x1)).drop 0) x3 0 x4 x5 x6 x7) (g12r3 A ((x0.take (A.toN x1)).drop 0) x3 0 x4 x5 x6 x7) (g12r4 A ((x0.take (A.toN x1)).drop 0) x3 0 x4 x5 x6 x7) (g12r5 A ((x0.take (A.toN x1)).drop 0) x3 0 x4 x5 x6 x7)
abbrev g5t1 (A : Ar) (x0 : List Nat) (x1 : Int) (x3 : List Nat) (x4 : Nat) (x5 : Int) (x6 : Nat) (x7 : List Nat) : List Nat := g13r1 A (g12r0 A ((x0.take (A.toN x1)).drop 0) x3 0 x4 x5 x6 x7) (g12r1 A ((x0.take (A.toN x1)).drop 0) x3 0 x4 x5 x6 x7) (g12r2 A ((x0.take (A.toN x1)).drop 0) x3 0 x4 x5 x6 x7) (g12r3 A ((x0.take (A.toN x1)).drop 0) x3 0 x4 x5 x6 x7) (g12r4 A ((x0.take (A.toN x1)).drop 0) x3 0 x4 x5 x6 x7) (g12r5 A ((x0.take (A.toN x1)).drop 0) x3 0 x4 x5 x6 x7)
abbrev g5t2 (A : Ar) (x0 : List Nat) (x1 : Int) (x3 : List Nat) (x4 : Nat) (x5 : Int) (x6 : Nat) (x7 : List Nat) : Nat := g13r2 A (g12r0 A ((x0.take (A.toN x1)).drop 0) x3 0 x4 x5 x6 x7) (g12r1 A ((x0.take (A.toN x1)).drop 0) x3 0 x4 x5 x6 x7) (g12r2 A ((x0.take (A.toN x1)).drop 0) x3 0 x4 x5 x6 x7) (g12r3 A ((x0.take (A.toN x1)).drop 0) x3 0 x4 x5 x6 x7) (g12r4 A ((x0.take (A.toN x1)).drop 0) x3 0 x4 x5 x6 x7) (g12r5 A ((x0.take (A.toN x1)).drop 0) x3 0 x4 x5 x6 x7)
abbrev g5t3 (A : Ar) (x0 : List Nat) (x1 : Int) (x3 : List Nat) (x4 : Nat) (x5 : Int) (x6 : Nat) (x7 : List Nat) : Nat := g13r3 A (g12r0 A ((x0.take (A.toN x1)).drop 0) x3 0 x4 x5 x6 x7) (g12r1 A ((x0.take (A.toN x1)).drop 0) x3 0 x4 x5 x6 x7) (g12r2 A ((x0.take (A.toN x1)).drop 0) x3 0 x4 x5 x6 x7) (g12r3 A ((x0.take (A.toN x1)).drop 0) x3 0 x4 x5 x6 x7) (g12r4 A ((x0.take (A.toN x1)).drop 0) x3 0 x4 x5 x6 x7) (g12r5 A ((x0.take (A.toN x1)).drop 0) x3 0 x4 x5 x6 x7)
abbrev g5t4 (A : Ar) (x0 : List Nat) (x1 : Int) (x3 : List Nat) (x4 : Nat) (x5 : Int) (x6 : Nat) (x7 : List Nat) : Int := g13r4 A (g12r0 A ((x0.take (A.toN x1)).drop 0) x3 0 x4 x5 x6 x7) (g12r1 A ((x0.take (A.toN x1)).drop 0) x3 0 x4 x5 x6 x7) (g12r2 A ((x0.take (A.toN x1)).drop 0) x3 0 x4 x5 x6 x7) (g12r3 A ((x0.take (A.toN x1)).drop 0) x3 0 x4 x5 x6 x7) (g12r4 A ((x0.take (A.toN x1)).drop 0) x3 0 x4 x5 x6 x7) (g12r5 A ((x0.take (A.toN x1)).drop 0) x3 0 x4 x5 x6 x7)
abbrev g5t5 (A : Ar) (x0 : List Nat) (x1 : Int) (x3 : List Nat) (x4 : Nat) (x5 : Int) (x6 : Nat) (x7 : List Nat) : Nat := g13r5 A (g12r0 A ((x0.take (A.toN x1)).drop 0) x3 0 x4 x5 x6 x7) (g12r1 A ((x0.take (A.toN x1)).drop 0) x3 0 x4 x5 x6 x7) (g12r2 A ((x0.take (A.toN x1)).drop 0) x3 0 x4 x5 x6 x7) (g12r3 A ((x0.take (A.toN x1)).drop 0) x3 0 x4 x5 x6 x7) (g12r4 A ((x0.take (A.toN x1)).drop 0) x3 0 x4 x5 x6 x7) (g12r5 A ((x0.take (A.toN x1)).drop 0) x3 0 x4 x5 x6 x7)
abbrev g5t6 (A : Ar) (x0 : List Nat) (x1 : Int) (x3 : List Nat) (x4 : Nat) (x5 : Int) (x6 : Nat) (x7 : List Nat) : List Nat := g13r6 A (g12r0 A ((x0.take (A.toN x1)).drop 0) x3 0 x4 x5 x6 x7) (g12r1 A ((x0.take (A.toN x1)).drop 0) x3 0 x4 x5 x6 x7) (g12r2 A ((x0.take (A.toN x1)).drop 0) x3 0 x4 x5 x6 x7) (g12r3 A ((x0.take (A.toN x1)).drop 0) x3 0 x4 x5 x6 x7) (g12r4 A ((x0.take (A.toN x1)).drop 0) x3 0 x4 x5 x6 x7) (g12r5 A ((x0.take (A.toN x1)).drop 0) x3 0 x4 x5 x6 x7)
abbrev g5t7 (A : Ar) (x0 : List Nat) (x1 : Int) (x3 : List Nat) (x4 : Nat) (x5 : Int) (x6 : Nat) (x7 : List Nat) : List Nat := g12r0 A ((x0.take x0.length).drop (A.toN x1)) (g5t1 A x0 x1 x3 x4 x5 x6 x7) (g5t2 A x0 x1 x3 x4 x5 x6 x7) (g5t3 A x0 x1 x3 x4 x5 x6 x7) (g5t4 A x0 x1 x3 x4 x5 x6 x7) (g5t5 A x0 x1 x3 x4 x5 x6 x7) (g5t6 A x0 x1 x3 x4 x5 x6 x7)
abbrev g5t8 (A : Ar) (x0 : List Nat) (x1 : Int) (x3 : List Nat) (x4 : Nat) (x5 : Int) (x6 : Nat) (x7 : List Nat) : Nat := g12r1 A ((x0.take x0.length).drop (A.toN x1)) (g5t1 A x0 x1 x3 x4 x5 x6 x7) (g5t2 A x0 x1 x3 x4 x5 x6 x7) (g5t3 A x0 x1 x3 x4 x5 x6 x7) (g5t4 A x0 x1 x3 x4 x5 x6 x7) (g5t5 A x0 x1 x3 x4 x5 x6 x7) (g5t6 A x0 x1 x3 x4 x5 x6 x7)
abbrev g5t9 (A : Ar) (x0 : List Nat) (x1 : Int) (x3 : List Nat) (x4 : Nat) (x5 : Int) (x6 : Nat) (x7 : List Nat) : Nat := g12r2 A ((x0.take x0.length).drop (A.toN x1)) (g5t1 A x0 x1 x3 x4 x5 x6 x7) (g5t2 A x0 x1 x3 x4 x5 x6 x7) (g5t3 A x0 x1 x3 x4 x5 x6 x7) (g5t4 A x0 x1 x3 x4 x5 x6 x7) (g5t5 A x0 x1 x3 x4 x5 x6 x7) (g5t6 A x0 x1 x3 x4 x5 x6 x7)
abbrev g5t10 (A : Ar) (x0 : List Nat) (x1 : Int) (x3 : List Nat) (x4 : Nat) (x5 : Int) (x6 : Nat) (x7 : List Nat) : Int := g12r3 A ((x0.take x0.length).drop (A.toN x1)) (g5t1 A x0 x1 x3 x4 x5 x6 x7) (g5t2 A x0 x1 x3 x4 x5 x6 x7) (g5t3 A x0 x1 x3 x4 x5 x6 x7) (g5t4 A x0 x1 x3 x4 x5 x6 x7) (g5t5 A x0 x1 x3 x4 x5 x6 x7) (g5t6 A x0 x1 x3 x4 x5 x6 x7)
abbrev g5t11 (A : Ar) (x0 : List Nat) (x1 : Int) (x3 : List Nat) (x4 : Nat) (x5 : Int) (x6 : Nat) (x7 : List Nat) : Nat := g12r4 A ((x0.take x0.length).drop (A.toN x1)) (g5t1 A x0 x1 x3 x4 x5 x6 x7) (g5t2 A x0 x1 x3 x4 x5 x6 x7) (g5t3 A x0 x1 x3 x4 x5 x6 x7) (g5t4 A x0 x1 x3 x4 x5 x6 x7) (g5t5 A x0 x1 x3 x4 x5 x6 x7) (g5t6 A x0 x1 x3 x4 x5 x6 x7)
abbrev g5t12 (A : Ar) (x0 : List Nat) (x1 : Int) (x3 : List Nat) (x4 : Nat) (x5 : Int) (x6 : Nat) (x7 : List Nat) : List Nat := g12r5 A ((x0.take x0.length).drop (A.toN x1)) (g5t1 A x0 x1 x3 x4 x5 x6 x7) (g5t2 A x0 x1 x3 x4 x5 x6 x7) (g5t3 A x0 x1 x3 x4 x5 x6 x7) (g5t4 A x0 x1 x3 x4 x5 x6 x7) (g5t5 A x0 x1 x3 x4 x5 x6 x7) (g5t6 A x0 x1 x3 x4 x5 x6 x7)
abbrev g5t13 (A : Ar) (x4 : List Nat) (x5 x6 : Nat) (x7 : Int) (x8 : Nat) (x9 : List Nat) : List Nat := g13r0 A (g13r1 A x4 x5 x6 x7 x8 x9) (g13r2 A x4 x5 x6 x7 x8 x9) (g13r3 A x4 x5 x6 x7 x8 x9) (g13r4 A x4 x5 x6 x7 x8 x9) (g13r5 A x4 x5 x6 x7 x8 x9) (g13r6 A x4 x5 x6 x7 x8 x9)
abbrev g5t14 (A : Ar) (x4 : List Nat) (x5 x6 : Nat) (x7 : Int) (x8 : Nat) (x9 : List Nat) : List Nat := g13r1 A (g13r1 A x4 x5 x6 x7 x8 x9) (g13r2 A x4 x5 x6 x7 x8 x9) (g13r3 A x4 x5 x6 x7 x8 x9) (g13r4 A x4 x5 x6 x7 x8 x9) (g13r5 A x4 x5 x6 x7 x8 x9) (g13r6 A x4 x5 x6 x7 x8 x9)
abbrev g5t15 (A : Ar) (x4 : List Nat) (x5 x6 : Nat) (x7 : Int) (x8 : Nat) (x9 : List Nat) : Nat := g13r2 A (g13r1 A x4 x5 x6 x7 x8 x9) (g13r2 A x4 x5 x6 x7 x8 x9) (g13r3 A x4 x5 x6 x7 x8 x9) (g13r4 A x4 x5 x6 x7 x8 x9) (g13r5 A x4 x5 x6 x7 x8 x9) (g13r6 A x4 x5 x6 x7 x8 x9)
abbrev g5t16 (A : Ar) (x4 : List Nat) (x5 x6 : Nat) (x7 : Int) (x8 : Nat) (x9 : List Nat) : Nat := g13r3 A (g13r1 A x4 x5 x6 x7 x8 x9) (g13r2 A x4 x5 x6 x7 x8 x9) (g13r3 A x4 x5 x6 x7 x8 x9) (g13r4 A x4 x5 x6 x7 x8 x9) (g13r5 A x4 x5 x6 x7 x8 x9) (g13r6 A x4 x5 x6 x7 x8 x9)
abbrev g5t17 (A : Ar) (x4 : List Nat) (x5 x6 : Nat) (x7 : Int) (x8 : Nat) (x9 : List Nat) : Int := g13r4 A (g13r1 A x4 x5 x6 x7 x8 x9) (g13r2 A x4 x5 x6 x7 x8 x9) (g13r3 A x4 x5 x6 x7 x8 x9) (g13r4 A x4 x5 x6 x7 x8 x9) (g13r5 A x4 x5 x6 x7 x8 x9) (g13r6 A x4 x5 x6 x7 x8 x9)
abbrev g5t18 (A : Ar) (x4 : List Nat) (x5 x6 : Nat) (x7 : Int) (x8 : Nat) (x9 : List Nat) : Nat := g13r5 A (g13r1 A x4 x5 x6 x7 x8 x9) (g13r2 A x4 x5 x6 x7 x8 x9) (g13r3 A x4 x5 x6 x7 x8 x9) (g13r4 A x4 x5 x6 x7 x8 x9) (g13r5 A x4 x5 x6 x7 x8 x9) (g13r6 A x4 x5 x6 x7 x8 x9)
abbrev g5t19 (A : Ar) (x4 : List Nat) (x5 x6 : Nat) (x7 : Int) (x8 : Nat) (x9 : List Nat) : List Nat := g13r6 A (g13r1 A x4 x5 x6 x7 x8 x9) (g13r2 A x4 x5 x6 x7 x8 x9) (g13r3 A x4 x5 x6 x7 x8 x9) (g13r4 A x4 x5 x6 x7 x8 x9) (g13r5 A x4 x5 x6 x7 x8 x9) (g13r6 A x4 x5 x6 x7 x8 x9)
abbrev g5t20 (A : Ar) (x4 : List Nat) (x5 x6 : Nat) (x7 : Int) (x8 : Nat) (x9 : List Nat) : List Nat := g13r0 A (g5t14 A x4 x5 x6 x7 x8 x9) (g5t15 A x4 x5 x6 x7 x8 x9) (g5t16 A x4 x5 x6 x7 x8 x9) (g5t17 A x4 x5 x6 x7 x8 x9) (g5t18 A x4 x5 x6 x7 x8 x9) (g5t19 A x4 x5 x6 x7 x8 x9)
abbrev g5t21 (A : Ar) (x4 : List Nat) (x5 x6 : Nat) (x7 : Int) (x8 : Nat) (x9 : List Nat) : List Nat := g13r1 A (g5t14 A x4 x5 x6 x7 x8 x9) (g5t15 A x4 x5 x6 x7 x8 x9) (g5t16 A x4 x5 x6 x7 x8 x9) (g5t17 A x4 x5 x6 x7 x8 x9) (g5t18 A x4 x5 x6 x7 x8 x9) (g5t19 A x4 x5 x6 x7 x8 x9)
abbrev g5t22 (A : Ar) (x4 : List Nat) (x5 x6 : Nat) (x7 : Int) (x8 : Nat) (x9 : List Nat) : Nat := g13r2 A (g5t14 A x4 x5 x6 x7 x8 x9) (g5t15 A x4 x5 x6 x7 x8 x9) (g5t16 A x4 x5 x6 x7 x8 x9) (g5t17 A x4 x5 x6 x7 x8 x9) (g5t18 A x4 x5 x6 x7 x8 x9) (g5t19 A x4 x5 x6 x7 x8 x9)
abbrev g5t23 (A : Ar) (x4 : List Nat) (x5 x6 : Nat) (x7 : Int) (x8 : Nat) (x9 : List Nat) : Nat := g13r3 A (g5t14 A x4 x5 x6 x7 x8 x9) (g5t15 A x4 x5 x6 x7 x8 x9) (g5t16 A x4 x5 x6 x7 x8 x9) (g5t17 A x4 x5 x6 x7 x8 x9) (g5t18 A x4 x5 x6 x7 x8 x9) (g5t19 A x4 x5 x6 x7 x8 x9)
abbrev g5t24 (A : Ar) (x4 : List Nat) (x5 x6 : Nat) (x7 : Int) (x8 : Nat) (x9 : List Nat) : Int := g13r4 A (g5t14 A x4 x5 x6 x7 x8 x9) (g5t15 A x4 x5 x6 x7 x8 x9) (g5t16 A x4 x5 x6 x7 x8 x9) (g5t17 A x4 x5 x6 x7 x8 x9) (g5t18 A x4 x5 x6 x7 x8 x9) (g5t19 A x4 x5 x6 x7 x8 x9)
abbrev g5t25 (A : Ar) (x4 : List Nat) (x5 x6 : Nat) (x7 : Int) (x8 : Nat) (x9 : List Nat) : Nat := g13r5 A (g5t14 A x4 x5 x6 x7 x8 x9) (g5t15 A x4 x5 x6 x7 x8 x9) (g5t16 A x4 x5 x6 x7 x8 x9) (g5t17 A x4 x5 x6 x7 x8 x9) (g5t18 A x4 x5 x6 x7 x8 x9) (g5t19 A x4 x5 x6 x7 x8 x9)
abbrev g5t26 (A : Ar) (x4 : List Nat) (x5 x6 : Nat) (x7 : Int) (x8 : Nat) (x9 : List Nat) : List Nat := g13r6 A (g5t14 A x4 x5 x6 x7 x8 x9) (g5t15 A x4 x5 x6 x7 x8 x9) (g5t16 A x4 x5 x6 x7 x8 x9) (g5t17 A x4 x5 x6 x7 x8 x9) (g5t18 A x4 x5 x6 x7 x8 x9) (g5t19 A x4 x5 x6 x7 x8 x9)
abbrev g5t27 (A : Ar) (x4 : List Nat) (x5 x6 : Nat) (x7 : Int) (x8 : Nat) (x9 : List Nat) : Int := g14r0 A (g5t21 A x4 x5 x6 x7 x8 x9) (g5t22 A x4 x5 x6 x7 x8 x9) (g5t23 A x4 x5 x6 x7 x8 x9) (g5t24 A x4 x5 x6 x7 x8 x9) (g5t25 A x4 x5 x6 x7 x8 x9) (g5t26 A x4 x5 x6 x7 x8 x9)
abbrev g5t28 (A : Ar) (x4 : List Nat) (x5 x6 : Nat) (x7 : Int) (x8 : Nat) (x9 : List Nat) : List Nat := g14r1 A (g5t21 A x4 x5 x6 x7 x8 x9) (g5t22 A x4 x5 x6 x7 x8 x9) (g5t23 A x4 x5 x6 x7 x8 x9) (g5t24 A x4 x5 x6 x7 x8 x9) (g5t25 A x4 x5 x6 x7 x8 x9) (g5t26 A x4 x5 x6 x7 x8 x9)
abbrev g5t29 (A : Ar) (x4 : List Nat) (x5 x6 : Nat) (x7 : Int) (x8 : Nat) (x9 : List Nat) : Nat := g14r2 A (g5t21 A x4 x5 x6 x7 x8 x9) (g5t22 A x4 x5 x6 x7 x8 x9) (g5t23 A x4 x5 x6 x7 x8 x9) (g5t24 A x4 x5 x6 x7 x8 x9) (g5t25 A x4 x5 x6 x7 x8 x9) (g5t26 A x4 x5 x6 x7 x8 x9)
abbrev g5t30 (A : Ar) (x4 : List Nat) (x5 x6 : Nat) (x7 : Int) (x8 : Nat) (x9 : List Nat) : Nat := g14r3 A (g5t21 A x4 x5 x6 x7 x8 x9) (g5t22 A x4 x5 x6 x7 x8 x9) (g5t23 A x4 x5 x6 x7 x8 x9) (g5t24 A x4 x5 x6 x7 x8 x9) (g5t25 A x4 x5 x6 x7 x8 x9) (g5t26 A x4 x5 x6 x7 x8 x9)
abbrev g5t31 (A : Ar) (x4 : List Nat) (x5 x6 : Nat) (x7 : Int) (x8 : Nat) (x9 : List Nat) : Int := g14r4 A (g5t21 A x4 x5 x6 x7 x8 x9) (g5t22 A x4 x5 x6 x7 x8 x9) (g5t23 A x4 x5 x6 x7 x8 x9) (g5t24 A x4 x5 x6 x7 x8 x9) (g5t25 A x4 x5 x6 x7 x8 x9) (g5t26 A x4 x5 x6 x7 x8 x9)
abbrev g5t32 (A : Ar) (x4 : List Nat) (x5 x6 : Nat) (x7 : Int) (x8 : Nat) (x9 : List Nat) : Nat := g14r5 A (g5t21 A x4 x5 x6 x7 x8 x9) (g5t22 A x4 x5 x6 x7 x8 x9) (g5t23 A x4 x5 x6 x7 x8 x9) (g5t24 A x4 x5 x6 x7 x8 x9) (g5t25 A x4 x5 x6 x7 x8 x9) (g5t26 A x4 x5 x6 x7 x8 x9)
abbrev g5t33 (A : Ar) (x4 : List Nat) (x5 x6 : Nat) (x7 : Int) (x8 : Nat) (x9 : List Nat) : List Nat := g14r6 A (g5t21 A x4 x5 x6 x7 x8 x9) (g5t22 A x4 x5 x6 x7 x8 x9) (g5t23 A x4 x5 x6 x7 x8 x9) (g5t24 A x4 x5 x6 x7 x8 x9) (g5t25 A x4 x5 x6 x7 x8 x9) (g5t26 A x4 x5 x6 x7 x8 x9)
abbrev g5t34 (A : Ar) (x0 : List Nat) (x1 : Int) (x3 : List Nat) (x4 : Nat) (x5 : Int) (x6 : Nat) (x7 : List Nat) : List Nat := g13r0 A (g5t7 A x0 x1 x3 x4 x5 x6 x7) (g5t8 A x0 x1 x3 x4 x5 x6 x7) (g5t9 A x0 x1 x3 x4 x5 x6 x7) (g5t10 A x0 x1 x3 x4 x5 x6 x7) (g5t11 A x0 x1 x3 x4 x5 x6 x7) (g5t12 A x0 x1 x3 x4 x5 x6 x7)
abbrev g5t35 (A : Ar) (x0 : List Nat) (x1 : Int) (x3 : List Nat) (x4 : Nat) (x5 : Int) (x6 : Nat) (x7 : List Nat) : List Nat := g13r1 A (g5t7 A x0 x1 x3 x4 x5 x6 x7) (g5t8 A x0 x1 x3 x4 x5 x6 x7) (g5t9 A x0 x1 x3 x4 x5 x6 x7) (g5t10 A x0 x1 x3 x4 x5 x6 x7) (g5t11 A x0 x1 x3 x4 x5 x6 x7) (g5t12 A x0 x1 x3 x4 x5 x6 x7)
abbrev g5t36 (A : Ar) (x0 : List Nat) (x1 : Int) (x3 : List Nat) (x4 : Nat) (x5 : Int) (x6 : Nat) (x7 : List Nat) : Nat := g13r2 A (g5t7 A x0 x1 x3 x4 x5 x6 x7) (g5t8 A x0 x1 x3 x4 x5 x6 x7) (g5t9 A x0 x1 x3 x4 x5 x6 x7) (g5t10 A x0 x1 x3 x4 x5 x6 x7) (g5t11 A x0 x1 x3 x4 x5 x6 x7) (g5t12 A x0 x1 x3 x4 x5 x6 x7)
abbrev g5t37 (A : Ar) (x0 : List Nat) (x1 : Int) (x3 : List Nat) (x4 : Nat) (x5 : Int) (x6 : Nat) (x7 : List Nat) : Nat := g13r3 A (g5t7 A x0 x1 x3 x4 x5 x6 x7) (g5t8 A x0 x1 x3 x4 x5 x6 x7) (g5t9 A x0 x1 x3 x4 x5 x6 x7) (g5t10 A x0 x1 x3 x4 x5 x6 x7) (g5t11 A x0 x1 x3 x4 x5 x6 x7) (g5t12 A x0 x1 x3 x4 x5 x6 x7)
abbrev g5t38 (A : Ar) (x0 : List Nat) (x1 : Int) (x3 : List Nat) (x4 : Nat) (x5 : Int) (x6 : Nat) (x7 : List Nat) : Int := g13r4 A (g5t7 A x0 x1 x3 x4 x5 x6 x7) (g5t8 A x0 x1 x3 x4 x5 x6 x7) (g5t9 A x0 x1 x3 x4 x5 x6 x7) (g5t10 A x0 x1 x3 x4 x5 x6 x7) (g5t11 A x0 x1 x3 x4 x5 x6 x7) (g5t12 A x0 x1 x3 x4 x5 x6 x7)
abbrev g5t39 (A : Ar) (x0 : List Nat) (x1 : Int) (x3 : List Nat) (x4 : Nat) (x5 : Int) (x6 : Nat) (x7 : List Nat) : Nat := g13r5 A (g5t7 A x0 x1 x3 x4 x5 x6 x7) (g5t8 A x0 x1 x3 x4 x5 x6 x7) (g5t9 A x0 x1 x3 x4 x5 x6 x7) (g5t10 A x0 x1 x3 x4 x5 x6 x7) (g5t11 A x0 x1 x3 x4 x5 x6 x7) (g5t12 A x0 x1 x3 x4 x5 x6 x7)
abbrev g5t40 (A : Ar) (x0 : List Nat) (x1 : Int) (x3 : List Nat) (x4 : Nat) (x5 : Int) (x6 : Nat) (x7 : List Nat) : List Nat := g13r6 A (g5t7 A x0 x1 x3 x4 x5 x6 x7) (g5t8 A x0 x1 x3 x4 x5 x6 x7) (g5t9 A x0 x1 x3 x4 x5 x6 x7) (g5t10 A x0 x1 x3 x4 x5 x6 x7) (g5t11 A x0 x1 x3 x4 x5 x6 x7) (g5t12 A x0 x1 x3 x4 x5 x6 x7)
abbrev g5t41 (A : Ar) (x0 : List Nat) (x1 : Int) (x3 : List Nat) (x4 : Nat) (x5 : Int) (x6 : Nat) (x7 : List Nat) : List Nat := g13r0 A (g5t35 A x0 x1 x3 x4 x5 x6 x7) (g5t36 A x0 x1 x3 x4 x5 x6 x7) (g5t37 A x0 x1 x3 x4 x5 x6 x7) (g5t38 A x0 x1 x3 x4 x5 x6 x7) (g5t39 A x0 x1 x3 x4 x5 x6 x7) (g5t40 A x0 x1 x3 x4 x5 x6 x7)
abbrev g5t42 (A : Ar) (x0 : List Nat) (x1 : Int) (x3 : List Nat) (x4 : Nat) (x5 : Int) (x6 : Nat) (x7 : List Nat) : List Nat := g13r1 A (g5t35 A x0 x1 x3 x4 x5 x6 x7) (g5t36 A x0 x1 x3 x4 x5 x6 x7) (g5t37 A x0 x1 x3 x4 x5 x6 x7) (g5t38 A x0 x1 x3 x4 x5 x6 x7) (g5t39 A x0 x1 x3 x4 x5 x6 x7) (g5t40 A x0 x1 x3 x4 x5 x6 x7)
abbrev g5t43 (A : Ar) (x0 : List Nat) (x1 : Int) (x3 : List Nat) (x4 : Nat) (x5 : Int) (x6 : Nat) (x7 : List Nat) : Nat := g13r2 A (g5t35 A x0 x1 x3 x4 x5 x6 x7) (g5t36 A x0 x1 x3 x4 x5 x6 x7) (g5t37 A x0 x1 x3 x4 x5 x6 x7) (g5t38 A x0 x1 x3 x4 x5 x6 x7) (g5t39 A x0 x1 x3 x4 x5 x6 x7) (g5t40 A x0 x1 x3 x4 x5 x6 x7)
abbrev g5t44 (A : Ar) (x0 : List Nat) (x1 : Int) (x3 : List Nat) (x4 : Nat) (x5 : Int) (x6 : Nat) (x7 : List Nat) : Nat := g13r3 A (g5t35 A x0 x1 x3 x4 x5 x6 x7) (g5t36 A x0 x1 x3 x4 x5 x6 x7) (g5t37 A x0 x1 x3 x4 x5 x6 x7) (g5t38 A x0 x1 x3 x4 x5 x6 x7) (g5t39 A x0 x1 x3 x4 x5 x6 x7) (g5t40 A x0 x1 x3 x4 x5 x6 x7)
abbrev g5t45 (A : Ar) (x0 : List Nat) (x1 : Int) (x3 : List Nat) (x4 : Nat) (x5 : Int) (x6 : Nat) (x7 : List Nat) : Int := g13r4 A (g5t35 A x0 x1 x3 x4 x5 x6 x7) (g5t36 A x0 x1 x3 x4 x5 x6 x7) (g5t37 A x0 x1 x3 x4 x5 x6 x7) (g5t38 A x0 x1 x3 x4 x5 x6 x7) (g5t39 A x0 x1 x3 x4 x5 x6 x7) (g5t40 A x0 x1 x3 x4 x5 x6 x7)
abbrev g5t46 (A : Ar) (x0 : List Nat) (x1 : Int) (x3 : List Nat) (x4 : Nat) (x5 : Int) (x6 : Nat) (x7 : List Nat) : Nat := g13r5 A (g5t35 A x0 x1 x3 x4 x5 x6 x7) (g5t36 A x0 x1 x3 x4 x5 x6 x7) (g5t37 A x0 x1 x3 x4 x5 x6 x7) (g5t38 A x0 x1 x3 x4 x5 x6 x7) (g5t39 A x0 x1 x3 x4 x5 x6 x7) (g5t40 A x0 x1 x3 x4 x5 x6 x7)
abbrev g5t47 (A : Ar) (x0 : List Nat) (x1 : Int) (x3 : List Nat) (x4 : Nat) (x5 : Int) (x6 : Nat) (x7 : List Nat) : List Nat := g13r6 A (g5t35 A x0 x1 x3 x4 x5 x6 x7) (g5t36 A x0 x1 x3 x4 x5 x6 x7) (g5t37 A x0 x1 x3 x4 x5 x6 x7) (g5t38 A x0 x1 x3 x4 x5 x6 x7) (g5t39 A x0 x1 x3 x4 x5 x6 x7) (g5t40 A x0 x1 x3 x4 x5 x6 x7)
abbrev g5t48 (A : Ar) (x0 : List Nat) (x1 : Int) (x3 : List Nat) (x4 : Nat) (x5 : Int) (x6 : Nat) (x7 : List Nat) : List Nat := g13r0 A (g5t42 A x0 x1 x3 x4 x5 x6 x7) (g5t43 A x0 x1 x3 x4 x5 x6 x7) (g5t44 A x0 x1 x3 x4 x5 x6 x7) (g5t45 A x0 x1 x3 x4 x5 x6 x7) (g5t46 A x0 x1 x3 x4 x5 x6 x7) (g5t47 A x0 x1 x3 x4 x5 x6 x7)
abbrev g5t49 (A : Ar) (x0 : List Nat) (x1 : Int) (x3 : List Nat) (x4 : Nat) (x5 : Int) (x6 : Nat) (x7 : List Nat) : List Nat := g13r1 A (g5t42 A x0 x1 x3 x4 x5 x6 x7) (g5t43 A x0 x1 x3 x4 x5 x6 x7) (g5t44 A x0 x1 x3 x4 x5 x6 x7) (g5t45 A x0 x1 x3 x4 x5 x6 x7) (g5t46 A x0 x1 x3 x4 x5 x6 x7) (g5t47 A x0 x1 x3 x4 x5 x6 x7)
abbrev g5t50 (A : Ar) (x0 : List Nat) (x1 : Int) (x3 : List Nat) (x4 : Nat) (x5 : Int) (x6 : Nat) (x7 : List Nat) : Nat := g13r2 A (g5t42 A x0 x1 x3 x4 x5 x6 x7) (g5t43 A x0 x1 x3 x4 x5 x6 x7) (g5t44 A x0 x1 x3 x4 x5 x6 x7) (g5t45 A x0 x1 x3 x4 x5 x6 x7) (g5t46 A x0 x1 x3 x4 x5 x6 x7) (g5t47 A x0 x1 x3 x4 x5 x6 x7)
abbrev g5t51 (A : Ar) (x0 : List Nat) (x1 : Int) (x3 : List Nat) (x4 : Nat) (x5 : Int) (x6 : Nat) (x7 : List Nat) : Nat := g13r3 A (g5t42 A x0 x1 x3 x4 x5 x6 x7) (g5t43 A x0 x1 x3 x4 x5 x6 x7) (g5t44 A x0 x1 x3 x4 x5 x6 x7) (g5t45 A x0 x1 x3 x4 x5 x6 x7) (g5t46 A x0 x1 x3 x4 x5 x6 x7) (g5t47 A x0 x1 x3 x4 x5 x6 x7)
abbrev g5t52 (A : Ar) (x0 : List Nat) (x1 : Int) (x3 : List Nat) (x4 : Nat) (x5 : Int) (x6 : Nat) (x7 : List Nat) : Int := g13r4 A (g5t42 A x0 x1 x3 x4 x5 x6 x7) (g5t43 A x0 x1 x3 x4 x5 x6 x7) (g5t44 A x0 x1 x3 x4 x5 x6 x7) (g5t45 A x0 x1 x3 x4 x5 x6 x7) (g5t46 A x0 x1 x3 x4 x5 x6 x7) (g5t47 A x0 x1 x3 x4 x5 x6 x7)
abbrev g5t53 (A : Ar) (x0 : List Nat) (x1 : Int) (x3 : List Nat) (x4 : Nat) (x5 : Int) (x6 : Nat) (x7 : List Nat) : Nat := g13r5 A (g5t42 A x0 x1 x3 x4 x5 x6 x7) (g5t43 A x0 x1 x3 x4 x5 x6 x7) (g5t44 A x0 x1 x3 x4 x5 x6 x7) (g5t45 A x0 x1 x3 x4 x5 x6 x7) (g5t46 A x0 x1 x3 x4 x5 x6 x7) (g5t47 A x0 x1 x3 x4 x5 x6 x7)
abbrev g5t54 (A : Ar) (x0 : List Nat) (x1 : Int) (x3 : List Nat) (x4 : Nat) (x5 : Int) (x6 : Nat) (x7 : List Nat) : List Nat := g13r6 A (g5t42 A x0 x1 x3 x4 x5 x6 x7) (g5t43 A x0 x1 x3 x4 x5 x6 x7) (g5t44 A x0 x1 x3 x4 x5 x6 x7) (g5t45 A x0 x1 x3 x4 x5 x6 x7) (g5t46 A x0 x1 x3 x4 x5 x6 x7) (g5t47 A x0 x1 x3 x4 x5 x6 x7)
abbrev g5t55 (A : Ar) (x0 : List Nat) (x1 : Int) (x3 : List Nat) (x4 : Nat) (x5 : Int) (x6 : Nat) (x7 : List Nat) : Int := g14r0 A (g5t49 A x0 x1 x3 x4 x5 x6 x7) (g5t50 A x0 x1 x3 x4 x5 x6 x7) (g5t51 A x0 x1 x3 x4 x5 x6 x7) (g5t52 A x0 x1 x3 x4 x5 x6 x7) (g5t53 A x0 x1 x3 x4 x5 x6 x7) (g5t54 A x0 x1 x3 x4 x5 x6 x7)
abbrev g5t56 (A : Ar) (x0 : List Nat) (x1 : Int) (x3 : List Nat) (x4 : Nat) (x5 : Int) (x6 : Nat) (x7 : List Nat) : List Nat := g14r1 A (g5t49 A x0 x1 x3 x4 x5 x6 x7) (g5t50 A x0 x1 x3 x4 x5 x6 x7) (g5t51 A x0 x1 x3 x4 x5 x6 x7) (g5t52 A x0 x1 x3 x4 x5 x6 x7) (g5t53 A x0 x1 x3 x4 x5 x6 x7) (g5t54 A x0 x1 x3 x4 x5 x6 x7)
abbrev g5t57 (A : Ar) (x0 : List Nat) (x1 : Int) (x3 : List Nat) (x4 : Nat) (x5 : Int) (x6 : Nat) (x7 : List Nat) : Nat := g14r2 A (g5t49 A x0 x1 x3 x4 x5 x6 x7) (g5t50 A x0 x1 x3 x4 x5 x6 x7) (g5t51 A x0 x1 x3 x4 x5 x6 x7) (g5t52 A x0 x1 x3 x4 x5 x6 x7) (g5t53 A x0 x1 x3 x4 x5 x6 x7) (g5t54 A x0 x1 x3 x4 x5 x6 x7)
abbrev g5t58 (A : Ar) (x0 : List Nat) (x1 : Int) (x3 : List Nat) (x4 : Nat) (x5 : Int) (x6 : Nat) (x7 : List Nat) : Nat := g14r3 A (g5t49 A x0 x1 x3 x4 x5 x6 x7) (g5t50 A x0 x1 x3 x4 x5 x6 x7) (g5t51 A x0 x1 x3 x4 x5 x6 x7) (g5t52 A x0 x1 x3 x4 x5 x6 x7) (g5t53 A x0 x1 x3 x4 x5 x6 x7) (g5t54 A x0 x1 x3 x4 x5 x6 x7)
abbrev g5t59 (A : Ar) (x0 : List Nat) (x1 : Int) (x3 : List Nat) (x4 : Nat) (x5 : Int) (x6 : Nat) (x7 : List Nat) : Int := g14r4 A (g5t49 A x0 x1 x3 x4 x5 x6 x7) (g5t50 A x0 x1 x3 x4 x5 x6 x7) (g5t51 A x0 x1 x3 x4 x5 x6 x7) (g5t52 A x0 x1 x3 x4 x5 x6 x7) (g5t53 A x0 x1 x3 x4 x5 x6 x7) (g5t54 A x0 x1 x3 x4 x5 x6 x7)
abbrev g5t60 (A : Ar) (x0 : List Nat) (x1 : Int) (x3 : List Nat) (x4 : Nat) (x5 : Int) (x6 : Nat) (x7 : List Nat) : Nat := g14r5 A (g5t49 A x0 x1 x3 x4 x5 x6 x7) (g5t50 A x0 x1 x3 x4 x5 x6 x7) (g5t51 A x0 x1 x3 x4 x5 x6 x7) (g5t52 A x0 x1 x3 x4 x5 x6 x7) (g5t53 A x0 x1 x3 x4 x5 x6 x7) (g5t54 A x0 x1 x3 x4 x5 x6 x7)
abbrev g5t61 (A : Ar) (x0 : List Nat) (x1 : Int) (x3 : List Nat) (x4 : Nat) (x5 : Int) (x6 : Nat) (x7 : List Nat) : List Nat := g14r6 A (g5t49 A x0 x1 x3 x4 x5 x6 x7) (g5t50 A x0 x1 x3 x4 x5 x6 x7) (g5t51 A x0 x1 x3 x4 x5 x6 x7) (g5t52 A x0 x1 x3 x4 x5 x6 x7) (g5t53 A x0 x1 x3 x4 x5 x6 x7) (g5t54 A x0 x1 x3 x4 x5 x6 x7)
noncomputable def g5D {R : Type} (A : Ar) (n : Nat) (p : List Bool) (K : Ex → St → Option R) (s : St) : Option R := codeD A gtys (g5O A) g5an n (sub (bodyOf Try.f5) p) K s
noncomputable def g5Q {R : Type} (A : Ar) (n : Nat) (p : List Bool) (K : Ex → St → Option R) : Ex → St → Option R := seqC (g5D A n p K) K
noncomputable def g5T {R : Type} (kk : AV → Heap → Option R) : Ex → St → Option R := finD gtys g5res kk
theorem g5Qn {R : Type} (A : Ar) (n : Nat) (p : List Bool) (K : Ex → St → Option R) (s : St) : g5Q A n p K .normal s = g5D A n p K s := rfl
theorem g5Qr {R : Type} (A : Ar) (n : Nat) (p : List Bool) (K : Ex → St → Option R) (s : St) : g5Q A n p K .ret s = K .ret s := rfl
theorem g5F {R : Type} (A : Ar) (n : Nat) (p : List Bool) (i : Nat) (K : Ex → St → Option R) (s s' : St) (hf : firstReg (sub (bodyOf Try.f5) p) = some i) (h : keep g5an i s = keep g5an i s') : g5D A n p K s = g5D A n p K s' := codeD_first hf h K
section
variable {R : Type} (A : Ar) (n : Nat) (K : Ex → St → Option R) (s : St)
theorem g5p1 : g5D A n (pth 1) K s = g5D A n (pth 2) (g5Q A n (pth 3) K) s := by kernel_rfl
theorem g5p3 : g5D A n (pth 3) K s = g5D A n (pth 5) (g5Q A n (pth 7) K) s := by kernel_rfl
theorem g5p7 : g5D A n (pth 7) K s = g5D A n (pth 11) (g5Q A n (pth 15) K) s := by kernel_rfl
theorem g5p11 : g5D A n (pth 11) K s = g5D A n (pth 19) (g5Q A n (pth 27) K) s := by kernel_rfl
theorem g5p27 (t : Bool) : ev s (.tmp 10) = some (.v (.cell (.bool t))) → g5D A n (pth 27) K s = (match t with
    | true => g5D A n (pth 43) K s
    | false => g5D A n (pth 59) K s) := codeD_cond t
theorem g5p43 : g5D A n (pth 43) K s = g5D A n (pth 75) (g5Q A n (pth 107) K) s := by kernel_rfl
theorem g5p107 : g5D A n (pth 107) K s = K .ret s := by kernel_rfl
theorem g5p59 : g5D A n (pth 59) K s = K .normal s := by kernel_rfl
theorem g5p15 : g5D A n (pth 15) K s = g5D A n (pth 23) (g5Q A n (pth 31) K) s := by kernel_rfl
theorem g5p31 : g5D A n (pth 31) K s = g5D A n (pth 47) (g5Q A n (pth 63) K) s := by kernel_rfl
theorem g5p47 : g5D A n (pth 47) K s = g5D A n (pth 79) (g5Q A n (pth 111) K) s := by kernel_rfl
theorem g5p111 (t : Bool) : ev s (.tmp 17) = some (.v (.cell (.bool t))) → g5D A n (pth 111) K s = (match t with
    | true => g5D A n (pth 175) K s
    | false => g5D A n (pth 239) K s) := codeD_cond t
theorem g5p239 : g5D A n (pth 239) K s = K .normal s := by kernel_rfl
theorem g5p63 : g5D A n (pth 63) K s = g5D A n (pth 95) (g5Q A n (pth 127) K) s := by kernel_rfl
theorem g5p127 : g5D A n (pth 127) K s = g5D A n (pth 191) (g5Q A n (pth 255) K) s := by kernel_rfl
theorem g5p255 : g5D A n (pth 255) K s = g5D A n (pth 383) (g5Q A n (pth 511) K) s := by kernel_rfl
theorem g5p383 : g5D A n (pth 383) K s = g5D A n (pth 639) (g5Q A n (pth 895) K) s := by kernel_rfl
theorem g5p895 (t : Bool) : ev s (.tmp 28) = some (.v (.cell (.bool t))) → g5D A n (pth 895) K s = (match t with
    | true => g5D A n (pth 1407) K s
    | false => g5D A n (pth 1919) K s) := codeD_cond t
theorem g5p1919 : g5D A n (pth 1919) K s = K .normal s := by kernel_rfl
theorem g5p511 : g5D A n (pth 511) K s = g5D A n (pth 767) (g5Q A n (pth 1023) K) s := by kernel_rfl
theorem g5p1023 : g5D A n (pth 1023) K s = g5D A n (pth 1535) (g5Q A n (pth 2047) K) s := by kernel_rfl
theorem g5p2047 : g5D A n (pth 2047) K s = g5D A n (pth 3071) (g5Q A n (pth 4095) K) s := by kernel_rfl
theorem g5p4095 : g5D A n (pth 4095) K s = g5D A n (pth 6143) (g5Q A n (pth 8191) K) s := by kernel_rfl
theorem g5p8191 : g5D A n (pth 8191) K s = K .ret s := by kernel_rfl
def g5R11s0 (A : Ar) (x0 : List Nat) (x1 : Int) (x2 : Bool) (x3 : List Nat) (x4 : Nat) (x5 : Int) (x6 : Nat) (x7 : List Nat) : St := ⟨[(33, (.tup [])), (32, (tS ((x0.take (A.toN x1)).drop 0))), (31, (i6 x1)), (30, (tS x0)), (29, (pT 9000 0)), (0, (tS x0)), (1, (i6 x1)), (5, (bO x2)), (6, (pT 9000 0))], [(9000, ⟨[.nums .u64 88 (g12r0 A ((x0.take (A.toN x1)).drop 0) x3 0 x4 x5 x6 x7), .one (.sl 9500 (some (g12r1 A ((x0.take (A.toN x1)).drop 0) x3 0 x4 x5 x6 x7)) (g12r2 A ((x0.take (A.toN x1)).drop 0) x3 0 x4 x5 x6 x7) 1), .one (.int .i64 (g12r3 A ((x0.take (A.toN x1)).drop 0) x3 0 x4 x5 x6 x7))], 45, 1⟩), (9500, ⟨[.nums .u8 (g12r4 A ((x0.take (A.toN x1)).drop 0) x3 0 x4 x5 x6 x7) (g12r5 A ((x0.take (A.toN x1)).drop 0) x3 0 x4 x5 x6 x7)], 5, 2⟩)]⟩
theorem g5R11 (x0 : List Nat) (x1 : Int) (x2 : Bool) (x3 : List Nat) (x4 : Nat) (x5 : Int) (x6 : Nat) (x7 : List Nat) : g5D A n (pth 767) K ⟨[(0, (tS x0)), (1, (i6 x1)), (5, (bO x2)), (6, (pT 9000 0))], [(9000, ⟨[.nums .u64 88 x3, .one (.sl 9500 none x4 1), .one (.int .i64 x5)], 45, 1⟩), (9500, ⟨[.nums .u8 x6 x7], 5, 2⟩)]⟩ = match (generalizing := false) A.neg x1 with
    | true => none
    | false => match (generalizing := false) A.le (A.toN x1) x0.length with
      | true => match (generalizing := false) g12ok A ((x0.take (A.toN x1)).drop 0) x3 0 x4 x5 x6 x7 with
        | true => K .normal (g5R11s0 A x0 x1 x2 x3 x4 x5 x6 x7)
        | false => none
      | false => none := by kernel_rfl
def g5R12s0 (A : Ar) (x0 : List Nat) (x1 : Int) (x2 : Bool) (x3 : List Nat) (x4 x5 : Nat) (x6 : Int) (x7 : Nat) (x8 : List Nat) : St := ⟨[(7, (tS (g13r0 A x3 x4 x5 x6 x7 x8))), (35, (tS (g13r0 A x3 x4 x5 x6 x7 x8))), (34, (pT 9000 0)), (0, (tS x0)), (1, (i6 x1)), (5, (bO x2)), (6, (pT 9000 0))], [(9000, ⟨[.nums .u64 88 (g13r1 A x3 x4 x5 x6 x7 x8), .one (.sl 9500 (some (g13r2 A x3 x4 x5 x6 x7 x8)) (g13r3 A x3 x4 x5 x6 x7 x8) 1), .one (.int .i64 (g13r4 A x3 x4 x5 x6 x7 x8))], 45, 1⟩), (9500, ⟨[.nums .u8 (g13r5 A x3 x4 x5 x6 x7 x8) (g13r6 A x3 x4 x5 x6 x7 x8)], 5, 2⟩)]⟩
theorem g5R12 (x0 : List Nat) (x1 : Int) (x2 : Bool) (x3 : List Nat) (x4 x5 : Nat) (x6 : Int) (x7 : Nat) (x8 : List Nat) : g5D A n (pth 1535) K ⟨[(0, (tS x0)), (1, (i6 x1)), (5, (bO x2)), (6, (pT 9000 0))], [(9000, ⟨[.nums .u64 88 x3, .one (.sl 9500 (some x4) x5 1), .one (.int .i64 x6)], 45, 1⟩), (9500, ⟨[.nums .u8 x7 x8], 5, 2⟩)]⟩ = match (generalizing := false) g13ok A x3 x4 x5 x6 x7 x8 with
    | true => K .normal (g5R12s0 A x0 x1 x2 x3 x4 x5 x6 x7 x8)
    | false => none := by kernel_rfl
def g5R13s0 (A : Ar) (x0 : List Nat) (x1 : Int) (x2 : Bool) (x3 x4 : List Nat) (x5 x6 : Nat) (x7 : Int) (x8 : Nat) (x9 : List Nat) : St := ⟨[(40, (.tup [])), (39, (tS ((x0.take x0.length).drop (A.toN x1)))), (38, (i6 x1)), (37, (tS x0)), (36, (pT 9000 0)), (0, (tS x0)), (1, (i6 x1)), (5, (bO x2)), (6, (pT 9000 0)), (7, (tS x3))], [(9000, ⟨[.nums .u64 88 (g12r0 A ((x0.take x0.length).drop (A.toN x1)) x4 x5 x6 x7 x8 x9), .one (.sl 9500 (some (g12r1 A ((x0.take x0.length).drop (A.toN x1)) x4 x5 x6 x7 x8 x9)) (g12r2 A ((x0.take x0.length).drop (A.toN x1)) x4 x5 x6 x7 x8 x9) 1), .one (.int .i64 (g12r3 A ((x0.take x0.length).drop (A.toN x1)) x4 x5 x6 x7 x8 x9))], 45, 1⟩), (9500, ⟨[.nums .u8 (g12r4 A ((x0.take x0.length).drop (A.toN x1)) x4 x5 x6 x7 x8 x9) (g12r5 A ((x0.take x0.length).drop (A.toN x1)) x4 x5 x6 x7 x8 x9)], 5, 2⟩)]⟩
theorem g5R13 (x0 : List Nat) (x1 : Int) (x2 : Bool) (x3 x4 : List Nat) (x5 x6 : Nat) (x7 : Int) (x8 : Nat) (x9 : List Nat) : g5D A n (pth 3071) K ⟨[(0, (tS x0)), (1, (i6 x1)), (5, (bO x2)), (6, (pT 9000 0)), (7, (tS x3))], [(9000, ⟨[.nums .u64 88 x4, .one (.sl 9500 (some x5) x6 1), .one (.int .i64 x7)], 45, 1⟩), (9500, ⟨[.nums .u8 x8 x9], 5, 2⟩)]⟩ = match (generalizing := false) A.neg x1 with
    | true => none
    | false => match (generalizing := false) A.le (A.toN x1) x0.length with
      | true => match (generalizing := false) g12ok A ((x0.take x0.length).drop (A.toN x1)) x4 x5 x6 x7 x8 x9 with
        | true => K .normal (g5R13s0 A x0 x1 x2 x3 x4 x5 x6 x7 x8 x9)
        | false => none
      | false => none := by kernel_rfl
def g5R14s0 (A : Ar) (x0 : List Nat) (x1 : Int) (x2 : Bool) (x3 x4 : List Nat) (x5 x6 : Nat) (x7 : Int) (x8 : Nat) (x9 : List Nat) : St := ⟨[(4, (bO (A.ic .eql (g5t27 A x4 x5 x6 x7 x8 x9) (A.ofN x0.length)))), (75, (bO (A.ic .eql (g5t27 A x4 x5 x6 x7 x8 x9) (A.ofN x0.length)))), (74, (bO (A.ic .eql (g5t27 A x4 x5 x6 x7 x8 x9) (A.ofN x0.length)))), (73, (i6 (A.ofN x0.length))), (72, (tS x0)), (71, (i6 (g5t27 A x4 x5 x6 x7 x8 x9))), (70, (pT 9000 0)), (69, (bO true)), (68, (bO (A.ic .eql (A.ofN x3.length) 64))), (67, (bO (A.ic .eql (A.ofN x3.length) 64))), (66, (i6 (A.ofN x3.length))), (65, (tS x3)), (64, (bO true)), (63, (bO (A.sc .eql x3 (g9r0 A ((x0.take (A.toN x1)).drop 0))))), (62, (bO (A.sc .eql x3 (g9r0 A ((x0.take (A.toN x1)).drop 0))))), (61, (tS (g9r0 A ((x0.take (A.toN x1)).drop 0)))), (60, (tS ((x0.take (A.toN x1)).drop 0))), (59, (i6 x1)), (58, (tS x0)), (57, (tS x3)), (56, (bO true)), (55, (bO (A.sc .eql (g5t13 A x4 x5 x6 x7 x8 x9) (g5t20 A x4 x5 x6 x7 x8 x9)))), (54, (bO (A.sc .eql (g5t13 A x4 x5 x6 x7 x8 x9) (g5t20 A x4 x5 x6 x7 x8 x9)))), (53, (tS (g5t20 A x4 x5 x6 x7 x8 x9))), (52, (pT 9000 0)), (51, (tS (g5t13 A x4 x5 x6 x7 x8 x9))), (50, (pT 9000 0)), (49, (bO true)), (48, (bO (A.sc .eql (g13r0 A x4 x5 x6 x7 x8 x9) (g9r0 A x0)))), (47, (bO (A.sc .eql (g13r0 A x4 x5 x6 x7 x8 x9) (g9r0 A x0)))), (46, (tS (g9r0 A x0))), (45, (tS x0)), (44, (tS (g13r0 A x4 x5 x6 x7 x8 x9))), (43, (pT 9000 0)), (42, (bO true)), (41, (bO x2)), (0, (tS x0)), (1, (i6 x1)), (5, (bO x2)), (6, (pT 9000 0)), (7, (tS x3))], [(9000, ⟨[.nums .u64 88 (g5t28 A x4 x5 x6 x7 x8 x9), .one (.sl 9500 (some (g5t29 A x4 x5 x6 x7 x8 x9)) (g5t30 A x4 x5 x6 x7 x8 x9) 1), .one (.int .i64 (g5t31 A x4 x5 x6 x7 x8 x9))], 45, 1⟩), (9500, ⟨[.nums .u8 (g5t32 A x4 x5 x6 x7 x8 x9) (g5t33 A x4 x5 x6 x7 x8 x9)], 5, 2⟩)]⟩
def g5R14s1 (A : Ar) (x0 : List Nat) (x1 : Int) (x2 : Bool) (x3 x4 : List Nat) (x5 x6 : Nat) (x7 : Int) (x8 : Nat) (x9 : List Nat) : St := ⟨[(4, (bO false)), (75, (bO false)), (74, uN), (73, uN), (72, uN), (71, uN), (70, uN), (69, (bO false)), (68, (bO (A.ic .eql (A.ofN x3.length) 64))), (67, (bO (A.ic .eql (A.ofN x3.length) 64))), (66, (i6 (A.ofN x3.length))), (65, (tS x3)), (64, (bO true)), (63, (bO (A.sc .eql x3 (g9r0 A ((x0.take (A.toN x1)).drop 0))))), (62, (bO (A.sc .eql x3 (g9r0 A ((x0.take (A.toN x1)).drop 0))))), (61, (tS (g9r0 A ((x0.take (A.toN x1)).drop 0)))), (60, (tS ((x0.take (A.toN x1)).drop 0))), (59, (i6 x1)), (58, (tS x0)), (57, (tS x3)), (56, (bO true)), (55, (bO (A.sc .eql (g5t13 A x4 x5 x6 x7 x8 x9) (g5t20 A x4 x5 x6 x7 x8 x9)))), (54, (bO (A.sc .eql (g5t13 A x4 x5 x6 x7 x8 x9) (g5t20 A x4 x5 x6 x7 x8 x9)))), (53, (tS (g5t20 A x4 x5 x6 x7 x8 x9))), (52, (pT 9000 0)), (51, (tS (g5t13 A x4 x5 x6 x7 x8 x9))), (50, (pT 9000 0)), (49, (bO true)), (48, (bO (A.sc .eql (g13r0 A x4 x5 x6 x7 x8 x9) (g9r0 A x0)))), (47, (bO (A.sc .eql (g13r0 A x4 x5 x6 x7 x8 x9) (g9r0 A x0)))), (46, (tS (g9r0 A x0))), (45, (tS x0)), (44, (tS (g13r0 A x4 x5 x6 x7 x8 x9))), (43, (pT 9000 0)), (42, (bO true)), (41, (bO x2)), (0, (tS x0)), (1, (i6 x1)), (5, (bO x2)), (6, (pT 9000 0)), (7, (tS x3))], [(9000, ⟨[.nums .u64 88 (g5t21 A x4 x5 x6 x7 x8 x9), .one (.sl 9500 (some (g5t22 A x4 x5 x6 x7 x8 x9)) (g5t23 A x4 x5 x6 x7 x8 x9) 1), .one (.int .i64 (g5t24 A x4 x5 x6 x7 x8 x9))], 45, 1⟩), (9500, ⟨[.nums .u8 (g5t25 A x4 x5 x6 x7 x8 x9) (g5t26 A x4 x5 x6 x7 x8 x9)], 5, 2⟩)]⟩
def g5R14s2 (A : Ar) (x0 : List Nat) (x1 : Int) (x2 : Bool) (x3 x4 : List Nat) (x5 x6 : Nat) (x7 : Int) (x8 : Nat) (x9 : List Nat) : St := ⟨[(4, (bO false)), (75, (bO false)), (74, uN), (73, uN), (72, uN), (71, uN), (70, uN), (69, (bO false)), (68, (bO false)), (67, uN), (66, uN), (65, uN), (64, (bO false)), (63, (bO (A.sc .eql x3 (g9r0 A ((x0.take (A.toN x1)).drop 0))))), (62, (bO (A.sc .eql x3 (g9r0 A ((x0.take (A.toN x1)).drop 0))))), (61, (tS (g9r0 A ((x0.take (A.toN x1)).drop 0)))), (60, (tS ((x0.take (A.toN x1)).drop 0))), (59, (i6 x1)), (58, (tS x0)), (57, (tS x3)), (56, (bO true)), (55, (bO (A.sc .eql (g5t13 A x4 x5 x6 x7 x8 x9) (g5t20 A x4 x5 x6 x7 x8 x9)))), (54, (bO (A.sc .eql (g5t13 A x4 x5 x6 x7 x8 x9) (g5t20 A x4 x5 x6 x7 x8 x9)))), (53, (tS (g5t20 A x4 x5 x6 x7 x8 x9))), (52, (pT 9000 0)), (51, (tS (g5t13 A x4 x5 x6 x7 x8 x9))), (50, (pT 9000 0)), (49, (bO true)), (48, (bO (A.sc .eql (g13r0 A x4 x5 x6 x7 x8 x9) (g9r0 A x0)))), (47, (bO (A.sc .eql (g13r0 A x4 x5 x6 x7 x8 x9) (g9r0 A x0)))), (46, (tS (g9r0 A x0))), (45, (tS x0)), (44, (tS (g13r0 A x4 x5 x6 x7 x8 x9))), (43, (pT 9000 0)), (42, (bO true)), (41, (bO x2)), (0, (tS x0)), (1, (i6 x1)), (5, (bO x2)), (6, (pT 9000 0)), (7, (tS x3))], [(9000, ⟨[.nums .u64 88 (g5t21 A x4 x5 x6 x7 x8 x9), .one (.sl 9500 (some (g5t22 A x4 x5 x6 x7 x8 x9)) (g5t23 A x4 x5 x6 x7 x8 x9) 1), .one (.int .i64 (g5t24 A x4 x5 x6 x7 x8 x9))], 45, 1⟩), (9500, ⟨[.nums .u8 (g5t25 A x4 x5 x6 x7 x8 x9) (g5t26 A x4 x5 x6 x7 x8 x9)], 5, 2⟩)]⟩
def g5R14s3 (A : Ar) (x0 : List Nat) (x1 : Int) (x2 : Bool) (x3 x4 : List Nat) (x5 x6 : Nat) (x7 : Int) (x8 : Nat) (x9 : List Nat) : St := ⟨[(4, (bO false)), (75, (bO false)), (74, uN), (73, uN), (72, uN), (71, uN), (70, uN), (69, (bO false)), (68, (bO false)), (67, uN), (66, uN), (65, uN), (64, (bO false)), (63, (bO false)), (62, uN), (61, uN), (60, uN), (59, uN), (58, uN), (57, uN), (56, (bO false)), (55, (bO (A.sc .eql (g5t13 A x4 x5 x6 x7 x8 x9) (g5t20 A x4 x5 x6 x7 x8 x9)))), (54, (bO (A.sc .eql (g5t13 A x4 x5 x6 x7 x8 x9) (g5t20 A x4 x5 x6 x7 x8 x9)))), (53, (tS (g5t20 A x4 x5 x6 x7 x8 x9))), (52, (pT 9000 0)), (51, (tS (g5t13 A x4 x5 x6 x7 x8 x9))), (50, (pT 9000 0)), (49, (bO true)), (48, (bO (A.sc .eql (g13r0 A x4 x5 x6 x7 x8 x9) (g9r0 A x0)))), (47, (bO (A.sc .eql (g13r0 A x4 x5 x6 x7 x8 x9) (g9r0 A x0)))), (46, (tS (g9r0 A x0))), (45, (tS x0)), (44, (tS (g13r0 A x4 x5 x6 x7 x8 x9))), (43, (pT 9000 0)), (42, (bO true)), (41, (bO x2)), (0, (tS x0)), (1, (i6 x1)), (5, (bO x2)), (6, (pT 9000 0)), (7, (tS x3))], [(9000, ⟨[.nums .u64 88 (g5t21 A x4 x5 x6 x7 x8 x9), .one (.sl 9500 (some (g5t22 A x4 x5 x6 x7 x8 x9)) (g5t23 A x4 x5 x6 x7 x8 x9) 1), .one (.int .i64 (g5t24 A x4 x5 x6 x7 x8 x9))], 45, 1⟩), (9500, ⟨[.nums .u8 (g5t25 A x4 x5 x6 x7 x8 x9) (g5t26 A x4 x5 x6 x7 x8 x9)], 5, 2⟩)]⟩
def g5R14s4 (A : Ar) (x0 : List Nat) (x1 : Int) (x2 : Bool) (x3 x4 : List Nat) (x5 x6 : Nat) (x7 : Int) (x8 : Nat) (x9 : List Nat) : St := ⟨[(4, (bO false)), (75, (bO false)), (74, uN), (73, uN), (72, uN), (71, uN), (70, uN), (69, (bO false)), (68, (bO false)), (67, uN), (66, uN), (65, uN), (64, (bO false)), (63, (bO false)), (62, uN), (61, uN), (60, uN), (59, uN), (58, uN), (57, uN), (56, (bO false)), (55, (bO false)), (54, uN), (53, uN), (52, uN), (51, uN), (50, uN), (49, (bO false)), (48, (bO (A.sc .eql (g13r0 A x4 x5 x6 x7 x8 x9) (g9r0 A x0)))), (47, (bO (A.sc .eql (g13r0 A x4 x5 x6 x7 x8 x9) (g9r0 A x0)))), (46, (tS (g9r0 A x0))), (45, (tS x0)), (44, (tS (g13r0 A x4 x5 x6 x7 x8 x9))), (43, (pT 9000 0)), (42, (bO true)), (41, (bO x2)), (0, (tS x0)), (1, (i6 x1)), (5, (bO x2)), (6, (pT 9000 0)), (7, (tS x3))], [(9000, ⟨[.nums .u64 88 (g13r1 A x4 x5 x6 x7 x8 x9), .one (.sl 9500 (some (g13r2 A x4 x5 x6 x7 x8 x9)) (g13r3 A x4 x5 x6 x7 x8 x9) 1), .one (.int .i64 (g13r4 A x4 x5 x6 x7 x8 x9))], 45, 1⟩), (9500, ⟨[.nums .u8 (g13r5 A x4 x5 x6 x7 x8 x9) (g13r6 A x4 x5 x6 x7 x8 x9)], 5, 2⟩)]⟩
def g5R14s5 (A : Ar) (x0 : List Nat) (x1 : Int) (x2 : Bool) (x3 x4 : List Nat) (x5 x6 : Nat) (x7 : Int) (x8 : Nat) (x9 : List Nat) : St := ⟨[(4, (bO false)), (75, (bO false)), (74, uN), (73, uN), (72, uN), (71, uN), (70, uN), (69, (bO false)), (68, (bO false)), (67, uN), (66, uN), (65, uN), (64, (bO false)), (63, (bO false)), (62, uN), (61, uN), (60, uN), (59, uN), (58, uN), (57, uN), (56, (bO false)), (55, (bO false)), (54, uN), (53, uN), (52, uN), (51, uN), (50, uN), (49, (bO false)), (48, (bO false)), (47, uN), (46, uN), (45, uN), (44, uN), (43, uN), (42, (bO false)), (41, (bO x2)), (0, (tS x0)), (1, (i6 x1)), (5, (bO x2)), (6, (pT 9000 0)), (7, (tS x3))], [(9000, ⟨[.nums .u64 88 x4, .one (.sl 9500 (some x5) x6 1), .one (.int .i64 x7)], 45, 1⟩), (9500, ⟨[.nums .u8 x8 x9], 5, 2⟩)]⟩
theorem g5R14 (x0 : List Nat) (x1 : Int) (x2 : Bool) (x3 x4 : List Nat) (x5 x6 : Nat) (x7 : Int) (x8 : Nat) (x9 : List Nat) : g5D A n (pth 6143) K ⟨[(0, (tS x0)), (1, (i6 x1)), (5, (bO x2)), (6, (pT 9000 0)), (7, (tS x3))], [(9000, ⟨[.nums .u64 88 x4, .one (.sl 9500 (some x5) x6 1), .one (.int .i64 x7)], 45, 1⟩), (9500, ⟨[.nums .u8 x8 x9], 5, 2⟩)]⟩ = match (generalizing := false) x2 with
    | true => match (generalizing := false) g13ok A x4 x5 x6 x7 x8 x9 with
      | true => match (generalizing := false) g9ok A x0 with
        | true => match (generalizing := false) A.sc .eql (g13r0 A x4 x5 x6 x7 x8 x9) (g9r0 A x0) with
          | true => match (generalizing := false) g13ok A (g13r1 A x4 x5 x6 x7 x8 x9) (g13r2 A x4 x5 x6 x7 x8 x9) (g13r3 A x4 x5 x6 x7 x8 x9) (g13r4 A x4 x5 x6 x7 x8 x9) (g13r5 A x4 x5 x6 x7 x8 x9) (g13r6 A x4 x5 x6 x7 x8 x9) with
            | true => match (generalizing := false) g13ok A (g5t14 A x4 x5 x6 x7 x8 x9) (g5t15 A x4 x5 x6 x7 x8 x9) (g5t16 A x4 x5 x6 x7 x8 x9) (g5t17 A x4 x5 x6 x7 x8 x9) (g5t18 A x4 x5 x6 x7 x8 x9) (g5t19 A x4 x5 x6 x7 x8 x9) with
              | true => match (generalizing := false) A.sc .eql (g5t13 A x4 x5 x6 x7 x8 x9) (g5t20 A x4 x5 x6 x7 x8 x9) with
                | true => match (generalizing := false) A.neg x1 with
                  | true => none
                  | false => match (generalizing := false) A.le (A.toN x1) x0.length with
                    | true => match (generalizing := false) g9ok A ((x0.take (A.toN x1)).drop 0) with
                      | true => match (generalizing := false) A.sc .eql x3 (g9r0 A ((x0.take (A.toN x1)).drop 0)) with
                        | true => match (generalizing := false) A.ic .eql (A.ofN x3.length) 64 with
                          | true => match (generalizing := false) g14ok A (g5t21 A x4 x5 x6 x7 x8 x9) (g5t22 A x4 x5 x6 x7 x8 x9) (g5t23 A x4 x5 x6 x7 x8 x9) (g5t24 A x4 x5 x6 x7 x8 x9) (g5t25 A x4 x5 x6 x7 x8 x9) (g5t26 A x4 x5 x6 x7 x8 x9) with
                            | true => K .normal (g5R14s0 A x0 x1 x2 x3 x4 x5 x6 x7 x8 x9)
                            | false => none
                          | false => K .normal (g5R14s1 A x0 x1 x2 x3 x4 x5 x6 x7 x8 x9)
                        | false => K .normal (g5R14s2 A x0 x1 x2 x3 x4 x5 x6 x7 x8 x9)
                      | false => none
                    | false => none
                | false => K .normal (g5R14s3 A x0 x1 x2 x3 x4 x5 x6 x7 x8 x9)
              | false => none
            | false => none
          | false => K .normal (g5R14s4 A x0 x1 x2 x3 x4 x5 x6 x7 x8 x9)
        | false => none
      | false => none
    | false => K .normal (g5R14s5 A x0 x1 x2 x3 x4 x5 x6 x7 x8 x9) := by kernel_rfl
def g5R7s0 (A : Ar) (x0 : List Nat) (x1 : Int) (x2 : Bool) : St := ⟨[(1, (i6 (A.ib .rem .i64 x1 (A.ib .add .i64 (A.ofN x0.length) 1)))), (25, (i6 (A.ib .rem .i64 x1 (A.ib .add .i64 (A.ofN x0.length) 1)))), (24, (i6 (A.ib .add .i64 (A.ofN x0.length) 1))), (23, (i6 (A.ofN x0.length))), (22, (tS x0)), (21, (i6 x1)), (0, (tS x0)), (1, (i6 x1)), (5, (bO x2))], []⟩
theorem g5R7 (x0 : List Nat) (x1 : Int) (x2 : Bool) : g5D A n (pth 95) K ⟨[(0, (tS x0)), (1, (i6 x1)), (5, (bO x2))], []⟩ = match (generalizing := false) A.ic .eql (A.ib .add .i64 (A.ofN x0.length) 1) 0 with
    | true => none
    | false => K .normal (g5R7s0 A x0 x1 x2) := by kernel_rfl
def g5R8s0 (A : Ar) (x0 : List Nat) (x1 : Int) (x2 : Bool) : St := ⟨[(6, (pT 9000 0)), (26, (pT 9000 0)), (0, (tS x0)), (1, (i6 x1)), (5, (bO x2))], [(9500, ⟨[.nums .u8 0 []], 5, 2⟩), (9000, ⟨[.nums .u64 88 (g11r0 A), .one (.sl 9500 none 0 1), .one (.int .i64 (g11r1 A))], 45, 1⟩)]⟩
theorem g5R8 (x0 : List Nat) (x1 : Int) (x2 : Bool) : g5D A n (pth 191) K ⟨[(0, (tS x0)), (1, (i6 x1)), (5, (bO x2))], []⟩ = match (generalizing := false) g11ok A with
    | true => K .normal (g5R8s0 A x0 x1 x2)
    | false => none := by kernel_rfl
def g5R9s0 (A : Ar) (x0 : List Nat) (x1 : Int) (x2 : Bool) (x3 : List Nat) (x4 : Nat) (x5 : Int) (x6 : Nat) (x7 : List Nat) : St := ⟨[(28, (bO false)), (27, (pT 9000 0)), (0, (tS x0)), (1, (i6 x1)), (5, (bO x2)), (6, (pT 9000 0))], [(9000, ⟨[.nums .u64 88 x3, .one (.sl 9500 none x4 1), .one (.int .i64 x5)], 45, 1⟩), (9500, ⟨[.nums .u8 x6 x7], 5, 2⟩)]⟩
theorem g5R9 (x0 : List Nat) (x1 : Int) (x2 : Bool) (x3 : List Nat) (x4 : Nat) (x5 : Int) (x6 : Nat) (x7 : List Nat) : g5D A n (pth 639) K ⟨[(0, (tS x0)), (1, (i6 x1)), (5, (bO x2)), (6, (pT 9000 0))], [(9000, ⟨[.nums .u64 88 x3, .one (.sl 9500 none x4 1), .one (.int .i64 x5)], 45, 1⟩), (9500, ⟨[.nums .u8 x6 x7], 5, 2⟩)]⟩ = K .normal (g5R9s0 A x0 x1 x2 x3 x4 x5 x6 x7) := by kernel_rfl
def g5R4s0 (A : Ar) (x0 : List Nat) (x1 : Int) (x2 : Bool) : St := ⟨[(0, (tS ((x0.take (A.toN (A.mn (A.ofN x0.length) 500))).drop 0))), (15, (tS ((x0.take (A.toN (A.mn (A.ofN x0.length) 500))).drop 0))), (14, (i6 (A.mn (A.ofN x0.length) 500))), (13, (i6 (A.ofN x0.length))), (12, (tS x0)), (11, (tS x0)), (0, (tS x0)), (1, (i6 x1)), (5, (bO x2))], []⟩
theorem g5R4 (x0 : List Nat) (x1 : Int) (x2 : Bool) : g5D A n (pth 23) K ⟨[(0, (tS x0)), (1, (i6 x1)), (5, (bO x2))], []⟩ = match (generalizing := false) A.neg (A.mn (A.ofN x0.length) 500) with
    | true => none
    | false => match (generalizing := false) A.le (A.toN (A.mn (A.ofN x0.length) 500)) x0.length with
      | true => K .normal (g5R4s0 A x0 x1 x2)
      | false => none := by kernel_rfl
def g5R5s0 (A : Ar) (x0 : List Nat) (x1 : Int) (x2 : Bool) : St := ⟨[(17, (bO (A.ic .lss x1 0))), (16, (i6 x1)), (0, (tS x0)), (1, (i6 x1)), (5, (bO x2))], []⟩
theorem g5R5 (x0 : List Nat) (x1 : Int) (x2 : Bool) : g5D A n (pth 79) K ⟨[(0, (tS x0)), (1, (i6 x1)), (5, (bO x2))], []⟩ = K .normal (g5R5s0 A x0 x1 x2) := by kernel_rfl
def g5R6s0 (A : Ar) (x0 : List Nat) (x1 : Int) (x2 : Bool) : St := ⟨[(1, (i6 (A.ib .sub .i64 0 (A.ib .add .i64 x1 1)))), (20, (i6 (A.ib .sub .i64 0 (A.ib .add .i64 x1 1)))), (19, (i6 (A.ib .add .i64 x1 1))), (18, (i6 x1)), (0, (tS x0)), (1, (i6 x1)), (5, (bO x2))], []⟩
theorem g5R6 (x0 : List Nat) (x1 : Int) (x2 : Bool) : g5D A n (pth 175) K ⟨[(0, (tS x0)), (1, (i6 x1)), (5, (bO x2))], []⟩ = K .normal (g5R6s0 A x0 x1 x2) := by kernel_rfl
def g5R0s0 (A : Ar) (x0 : List Nat) (x1 : Int) : St := ⟨[(4, (bO false)), (0, (tS x0)), (1, (i6 x1))], []⟩
theorem g5R0 (x0 : List Nat) (x1 : Int) : g5D A n (pth 2) K ⟨[(0, (tS x0)), (1, (i6 x1))], []⟩ = K .normal (g5R0s0 A x0 x1) := by kernel_rfl
def g5R1s0 (A : Ar) (x0 : List Nat) (x1 : Int) : St := ⟨[(5, (bO (g8r0 A))), (8, (bO (g8r0 A))), (0, (tS x0)), (1, (i6 x1))], []⟩
theorem g5R1 (x0 : List Nat) (x1 : Int) : g5D A n (pth 5) K ⟨[(0, (tS x0)), (1, (i6 x1))], []⟩ = match (generalizing := false) g8ok A with
    | true => K .normal (g5R1s0 A x0 x1)
    | false => none := by kernel_rfl
def g5R2s0 (A : Ar) (x0 : List Nat) (x1 : Int) (x2 : Bool) : St := ⟨[(10, (bO (!x2))), (9, (bO x2)), (0, (tS x0)), (1, (i6 x1)), (5, (bO x2))], []⟩
theorem g5R2 (x0 : List Nat) (x1 : Int) (x2 : Bool) : g5D A n (pth 19) K ⟨[(0, (tS x0)), (1, (i6 x1)), (5, (bO x2))], []⟩ = K .normal (g5R2s0 A x0 x1 x2) := by kernel_rfl
def g5R3s0 (A : Ar)  : St := ⟨[(4, (bO false))], []⟩
theorem g5R3 : g5D A n (pth 75) K ⟨[], []⟩ = K .normal (g5R3s0 A) := by kernel_rfl
end
def g5J11 {R : Type} (A : Ar) (n : Nat) (kk : AV → Heap → Option R)  (x0 : List Nat) (x1 : Int) (x2 : Bool) (x3 : List Nat) (x4 : Nat) (x5 : Int) (x6 : Nat) (x7 : List Nat) : Option R :=
  match (generalizing := false) A.neg x1 with
  | true => none
  | false => match (generalizing := false) A.le (A.toN x1) x0.length with
    | true => match (generalizing := false) g12ok A ((x0.take (A.toN x1)).drop 0) x3 0 x4 x5 x6 x7 with
      | true => match (generalizing := false) g13ok A (g12r0 A ((x0.take (A.toN x1)).drop 0) x3 0 x4 x5 x6 x7) (g12r1 A ((x0.take (A.toN x1)).drop 0) x3 0 x4 x5 x6 x7) (g12r2 A ((x0.take (A.toN x1)).drop 0) x3 0 x4 x5 x6 x7) (g12r3 A ((x0.take (A.toN x1)).drop 0) x3 0 x4 x5 x6 x7) (g12r4 A ((x0.take (A.toN x1)).drop 0) x3 0 x4 x5 x6 x7) (g12r5 A ((x0.take (A.toN x1)).drop 0) x3 0 x4 x5 x6 x7) with
        | true => match (generalizing := false) A.neg x1 with
          | true => none
          | false => match (generalizing := false) A.le (A.toN x1) x0.length with
            | true => match (generalizing := false) g12ok A ((x0.take x0.length).drop (A.toN x1)) (g5t1 A x0 x1 x3 x4 x5 x6 x7) (g5t2 A x0 x1 x3 x4 x5 x6 x7) (g5t3 A x0 x1 x3 x4 x5 x6 x7) (g5t4 A x0 x1 x3 x4 x5 x6 x7) (g5t5 A x0 x1 x3 x4 x5 x6 x7) (g5t6 A x0 x1 x3 x4 x5 x6 x7) with
              | true => match (generalizing := false) x2 with
                | true => match (generalizing := false) g13ok A (g5t7 A x0 x1 x3 x4 x5 x6 x7) (g5t8 A x0 x1 x3 x4 x5 x6 x7) (g5t9 A x0 x1 x3 x4 x5 x6 x7) (g5t10 A x0 x1 x3 x4 x5 x6 x7) (g5t11 A x0 x1 x3 x4 x5 x6 x7) (g5t12 A x0 x1 x3 x4 x5 x6 x7) with
                  | true => match (generalizing := false) g9ok A x0 with
                    | true => match (generalizing := false) A.sc .eql (g5t34 A x0 x1 x3 x4 x5 x6 x7) (g9r0 A x0) with
                      | true => match (generalizing := false) g13ok A (g5t35 A x0 x1 x3 x4 x5 x6 x7) (g5t36 A x0 x1 x3 x4 x5 x6 x7) (g5t37 A x0 x1 x3 x4 x5 x6 x7) (g5t38 A x0 x1 x3 x4 x5 x6 x7) (g5t39 A x0 x1 x3 x4 x5 x6 x7) (g5t40 A x0 x1 x3 x4 x5 x6 x7) with
                        | true => match (generalizing := false) g13ok A (g5t42 A x0 x1 x3 x4 x5 x6 x7) (g5t43 A x0 x1 x3 x4 x5 x6 x7) (g5t44 A x0 x1 x3 x4 x5 x6 x7) (g5t45 A x0 x1 x3 x4 x5 x6 x7) (g5t46 A x0 x1 x3 x4 x5 x6 x7) (g5t47 A x0 x1 x3 x4 x5 x6 x7) with
                          | true => match (generalizing := false) A.sc .eql (g5t41 A x0 x1 x3 x4 x5 x6 x7) (g5t48 A x0 x1 x3 x4 x5 x6 x7) with
                            | true => match (generalizing := false) A.neg x1 with
                              | true => none
                              | false => match (generalizing := false) A.le (A.toN x1) x0.length with
                                | true => match (generalizing := false) g9ok A ((x0.take (A.toN x1)).drop 0) with
                                  | true => match (generalizing := false) A.sc .eql (g5t0 A x0 x1 x3 x4 x5 x6 x7) (g9r0 A ((x0.take (A.toN x1)).drop 0)) with
                                    | true => match (generalizing := false) A.ic .eql (A.ofN ((g5t0 A x0 x1 x3 x4 x5 x6 x7).length)) 64 with
                                      | true => match (generalizing := false) g14ok A (g5t49 A x0 x1 x3 x4 x5 x6 x7) (g5t50 A x0 x1 x3 x4 x5 x6 x7) (g5t51 A x0 x1 x3 x4 x5 x6 x7) (g5t52 A x0 x1 x3 x4 x5 x6 x7) (g5t53 A x0 x1 x3 x4 x5 x6 x7) (g5t54 A x0 x1 x3 x4 x5 x6 x7) with
                                        | true => kk (bO (A.ic .eql (g5t55 A x0 x1 x3 x4 x5 x6 x7) (A.ofN x0.length))) [(9000, ⟨[.nums .u64 88 (g5t56 A x0 x1 x3 x4 x5 x6 x7), .one (.sl 9500 (some (g5t57 A x0 x1 x3 x4 x5 x6 x7)) (g5t58 A x0 x1 x3 x4 x5 x6 x7) 1), .one (.int .i64 (g5t59 A x0 x1 x3 x4 x5 x6 x7))], 45, 1⟩), (9500, ⟨[.nums .u8 (g5t60 A x0 x1 x3 x4 x5 x6 x7) (g5t61 A x0 x1 x3 x4 x5 x6 x7)], 5, 2⟩)]
                                        | false => none
                                      | false => kk (bO false) [(9000, ⟨[.nums .u64 88 (g5t49 A x0 x1 x3 x4 x5 x6 x7), .one (.sl 9500 (some (g5t50 A x0 x1 x3 x4 x5 x6 x7)) (g5t51 A x0 x1 x3 x4 x5 x6 x7) 1), .one (.int .i64 (g5t52 A x0 x1 x3 x4 x5 x6 x7))], 45, 1⟩), (9500, ⟨[.nums .u8 (g5t53 A x0 x1 x3 x4 x5 x6 x7) (g5t54 A x0 x1 x3 x4 x5 x6 x7)], 5, 2⟩)]
                                    | false => kk (bO false) [(9000, ⟨[.nums .u64 88 (g5t49 A x0 x1 x3 x4 x5 x6 x7), .one (.sl 9500 (some (g5t50 A x0 x1 x3 x4 x5 x6 x7)) (g5t51 A x0 x1 x3 x4 x5 x6 x7) 1), .one (.int .i64 (g5t52 A x0 x1 x3 x4 x5 x6 x7))], 45, 1⟩), (9500, ⟨[.nums .u8 (g5t53 A x0 x1 x3 x4 x5 x6 x7) (g5t54 A x0 x1 x3 x4 x5 x6 x7)], 5, 2⟩)]
                                  | false => none
                                | false => none
                            | false => kk (bO false) [(9000, ⟨[.nums .u64 88 (g5t49 A x0 x1 x3 x4 x5 x6 x7), .one (.sl 9500 (some (g5t50 A x0 x1 x3 x4 x5 x6 x7)) (g5t51 A x0 x1 x3 x4 x5 x6 x7) 1), .one (.int .i64 (g5t52 A x0 x1 x3 x4 x5 x6 x7))], 45, 1⟩), (9500, ⟨[.nums .u8 (g5t53 A x0 x1 x3 x4 x5 x6 x7) (g5t54 A x0 x1 x3 x4 x5 x6 x7)], 5, 2⟩)]
                          | false => none
                        | false => none
                      | false => kk (bO false) [(9000, ⟨[.nums .u64 88 (g5t35 A x0 x1 x3 x4 x5 x6 x7), .one (.sl 9500 (some (g5t36 A x0 x1 x3 x4 x5 x6 x7)) (g5t37 A x0 x1 x3 x4 x5 x6 x7) 1), .one (.int .i64 (g5t38 A x0 x1 x3 x4 x5 x6 x7))], 45, 1⟩), (9500, ⟨[.nums .u8 (g5t39 A x0 x1 x3 x4 x5 x6 x7) (g5t40 A x0 x1 x3 x4 x5 x6 x7)], 5, 2⟩)]
                    | false => none
                  | false => none
                | false => kk (bO false) [(9000, ⟨[.nums .u64 88 (g5t7 A x0 x1 x3 x4 x5 x6 x7), .one (.sl 9500 (some (g5t8 A x0 x1 x3 x4 x5 x6 x7)) (g5t9 A x0 x1 x3 x4 x5 x6 x7) 1), .one (.int .i64 (g5t10 A x0 x1 x3 x4 x5 x6 x7))], 45, 1⟩), (9500, ⟨[.nums .u8 (g5t11 A x0 x1 x3 x4 x5 x6 x7) (g5t12 A x0 x1 x3 x4 x5 x6 x7)], 5, 2⟩)]
              | false => none
            | false => none
        | false => none
      | false => none
    | false => none
set_option maxRecDepth 100000 in
theorem g5J11_eq {R : Type} (A : Ar) (n : Nat) (kk : AV → Heap → Option R)    (s : St) (x0 : List Nat) (x1 : Int) (x2 : Bool) (x3 : List Nat) (x4 : Nat) (x5 : Int) (x6 : Nat) (x7 : List Nat) (h : keep g5an 11 s = ⟨[(0, (tS x0)), (1, (i6 x1)), (5, (bO x2)), (6, (pT 9000 0))], [(9000, ⟨[.nums .u64 88 x3, .one (.sl 9500 none x4 1), .one (.int .i64 x5)], 45, 1⟩), (9500, ⟨[.nums .u8 x6 x7], 5, 2⟩)]⟩) :
    g5D A n (pth 511) (g5T kk) s = g5J11 A n kk  x0 x1 x2 x3 x4 x5 x6 x7 := by
  have h1 : (g5T kk) .ret (g5R14s0 A x0 x1 x2 (g5t0 A x0 x1 x3 x4 x5 x6 x7) (g5t7 A x0 x1 x3 x4 x5 x6 x7) (g5t8 A x0 x1 x3 x4 x5 x6 x7) (g5t9 A x0 x1 x3 x4 x5 x6 x7) (g5t10 A x0 x1 x3 x4 x5 x6 x7) (g5t11 A x0 x1 x3 x4 x5 x6 x7) (g5t12 A x0 x1 x3 x4 x5 x6 x7)) = kk (bO (A.ic .eql (g5t55 A x0 x1 x3 x4 x5 x6 x7) (A.ofN x0.length))) [(9000, ⟨[.nums .u64 88 (g5t56 A x0 x1 x3 x4 x5 x6 x7), .one (.sl 9500 (some (g5t57 A x0 x1 x3 x4 x5 x6 x7)) (g5t58 A x0 x1 x3 x4 x5 x6 x7) 1), .one (.int .i64 (g5t59 A x0 x1 x3 x4 x5 x6 x7))], 45, 1⟩), (9500, ⟨[.nums .u8 (g5t60 A x0 x1 x3 x4 x5 x6 x7) (g5t61 A x0 x1 x3 x4 x5 x6 x7)], 5, 2⟩)] := by kernel_rfl
  have h2 := (g5p8191 A n _ _).trans h1
  have h3 := (g5Qn A n _ _ _).trans h2
  have h4 : (g5T kk) .ret (g5R14s1 A x0 x1 x2 (g5t0 A x0 x1 x3 x4 x5 x6 x7) (g5t7 A x0 x1 x3 x4 x5 x6 x7) (g5t8 A x0 x1 x3 x4 x5 x6 x7) (g5t9 A x0 x1 x3 x4 x5 x6 x7) (g5t10 A x0 x1 x3 x4 x5 x6 x7) (g5t11 A x0 x1 x3 x4 x5 x6 x7) (g5t12 A x0 x1 x3 x4 x5 x6 x7)) = kk (bO false) [(9000, ⟨[.nums .u64 88 (g5t49 A x0 x1 x3 x4 x5 x6 x7), .one (.sl 9500 (some (g5t50 A x0 x1 x3 x4 x5 x6 x7)) (g5t51 A x0 x1 x3 x4 x5 x6 x7) 1), .one (.int .i64 (g5t52 A x0 x1 x3 x4 x5 x6 x7))], 45, 1⟩), (9500, ⟨[.nums .u8 (g5t53 A x0 x1 x3 x4 x5 x6 x7) (g5t54 A x0 x1 x3 x4 x5 x6 x7)], 5, 2⟩)] := by kernel_rfl
  have h5 := (g5p8191 A n _ _).trans h4
  have h6 := (g5Qn A n _ _ _).trans h5
  have h7 : (g5T kk) .ret (g5R14s2 A x0 x1 x2 (g5t0 A x0 x1 x3 x4 x5 x6 x7) (g5t7 A x0 x1 x3 x4 x5 x6 x7) (g5t8 A x0 x1 x3 x4 x5 x6 x7) (g5t9 A x0 x1 x3 x4 x5 x6 x7) (g5t10 A x0 x1 x3 x4 x5 x6 x7) (g5t11 A x0 x1 x3 x4 x5 x6 x7) (g5t12 A x0 x1 x3 x4 x5 x6 x7)) = kk (bO false) [(9000, ⟨[.nums .u64 88 (g5t49 A x0 x1 x3 x4 x5 x6 x7), .one (.sl 9500 (some (g5t50 A x0 x1 x3 x4 x5 x6 x7)) (g5t51 A x0 x1 x3 x4 x5 x6 x7) 1), .one (.int .i64 (g5t52 A x0 x1 x3 x4 x5 x6 x7))], 45, 1⟩), (9500, ⟨[.nums .u8 (g5t53 A x0 x1 x3 x4 x5 x6 x7) (g5t54 A x0 x1 x3 x4 x5 x6 x7)], 5, 2⟩)] := by kernel_rfl
  have h8 := (g5p8191 A n _ _).trans h7
  have h9 := (g5Qn A n _ _ _).trans h8
  have h10 : (g5T kk) .ret (g5R14s3 A x0 x1 x2 (g5t0 A x0 x1 x3 x4 x5 x6 x7) (g5t7 A x0 x1 x3 x4 x5 x6 x7) (g5t8 A x0 x1 x3 x4 x5 x6 x7) (g5t9 A x0 x1 x3 x4 x5 x6 x7) (g5t10 A x0 x1 x3 x4 x5 x6 x7) (g5t11 A x0 x1 x3 x4 x5 x6 x7) (g5t12 A x0 x1 x3 x4 x5 x6 x7)) = kk (bO false) [(9000, ⟨[.nums .u64 88 (g5t49 A x0 x1 x3 x4 x5 x6 x7), .one (.sl 9500 (some (g5t50 A x0 x1 x3 x4 x5 x6 x7)) (g5t51 A x0 x1 x3 x4 x5 x6 x7) 1), .one (.int .i64 (g5t52 A x0 x1 x3 x4 x5 x6 x7))], 45, 1⟩), (9500, ⟨[.nums .u8 (g5t53 A x0 x1 x3 x4 x5 x6 x7) (g5t54 A x0 x1 x3 x4 x5 x6 x7)], 5, 2⟩)] := by kernel_rfl
  have h11 := (g5p8191 A n _ _).trans h10
  have h12 := (g5Qn A n _ _ _).trans h11
  have h13 : (g5T kk) .ret (g5R14s4 A x0 x1 x2 (g5t0 A x0 x1 x3 x4 x5 x6 x7) (g5t7 A x0 x1 x3 x4 x5 x6 x7) (g5t8 A x0 x1 x3 x4 x5 x6 x7) (g5t9 A x0 x1 x3 x4 x5 x6 x7) (g5t10 A x0 x1 x3 x4 x5 x6 x7) (g5t11 A x0 x1 x3 x4 x5 x6 x7) (g5t12 A x0 x1 x3 x4 x5 x6 x7)) = kk (bO false) [(9000, ⟨[.nums .u64 88 (g5t35 A x0 x1 x3 x4 x5 x6 x7), .one (.sl 9500 (some (g5t36 A x0 x1 x3 x4 x5 x6 x7)) (g5t37 A x0 x1 x3 x4 x5 x6 x7) 1), .one (.int .i64 (g5t38 A x0 x1 x3 x4 x5 x6 x7))], 45, 1⟩), (9500, ⟨[.nums .u8 (g5t39 A x0 x1 x3 x4 x5 x6 x7) (g5t40 A x0 x1 x3 x4 x5 x6 x7)], 5, 2⟩)] := by kernel_rfl
  have h14 := (g5p8191 A n _ _).trans h13
  have h15 := (g5Qn A n _ _ _).trans h14
  have h16 : (g5T kk) .ret (g5R14s5 A x0 x1 x2 (g5t0 A x0 x1 x3 x4 x5 x6 x7) (g5t7 A x0 x1 x3 x4 x5 x6 x7) (g5t8 A x0 x1 x3 x4 x5 x6 x7) (g5t9 A x0 x1 x3 x4 x5 x6 x7) (g5t10 A x0 x1 x3 x4 x5 x6 x7) (g5t11 A x0 x1 x3 x4 x5 x6 x7) (g5t12 A x0 x1 x3 x4 x5 x6 x7)) = kk (bO false) [(9000, ⟨[.nums .u64 88 (g5t7 A x0 x1 x3 x4 x5 x6 x7), .one (.sl 9500 (some (g5t8 A x0 x1 x3 x4 x5 x6 x7)) (g5t9 A x0 x1 x3 x4 x5 x6 x7) 1), .one (.int .i64 (g5t10 A x0 x1 x3 x4 x5 x6 x7))], 45, 1⟩), (9500, ⟨[.nums .u8 (g5t11 A x0 x1 x3 x4 x5 x6 x7) (g5t12 A x0 x1 x3 x4 x5 x6 x7)], 5, 2⟩)] := by kernel_rfl
  have h17 := (g5p8191 A n _ _).trans h16
  have h18 := (g5Qn A n _ _ _).trans h17
  have h19 := (g5F A n _ 14 _ (g5R13s0 A x0 x1 x2 (g5t0 A x0 x1 x3 x4 x5 x6 x7) (g5t1 A x0 x1 x3 x4 x5 x6 x7) (g5t2 A x0 x1 x3 x4 x5 x6 x7) (g5t3 A x0 x1 x3 x4 x5 x6 x7) (g5t4 A x0 x1 x3 x4 x5 x6 x7) (g5t5 A x0 x1 x3 x4 x5 x6 x7) (g5t6 A x0 x1 x3 x4 x5 x6 x7)) _ (by kernel_rfl) (by kernel_rfl)).trans (g5R14 A n (g5Q A n (pth 8191) (g5T kk)) x0 x1 x2 (g5t0 A x0 x1 x3 x4 x5 x6 x7) (g5t7 A x0 x1 x3 x4 x5 x6 x7) (g5t8 A x0 x1 x3 x4 x5 x6 x7) (g5t9 A x0 x1 x3 x4 x5 x6 x7) (g5t10 A x0 x1 x3 x4 x5 x6 x7) (g5t11 A x0 x1 x3 x4 x5 x6 x7) (g5t12 A x0 x1 x3 x4 x5 x6 x7))
  rw [h3, h6, h9, h12, h15, h18] at h19
  have h20 := (g5p4095 A n _ _).trans h19
  have h21 := (g5Qn A n _ _ _).trans h20
  have h22 := (g5F A n _ 13 _ (g5R12s0 A x0 x1 x2 (g12r0 A ((x0.take (A.toN x1)).drop 0) x3 0 x4 x5 x6 x7) (g12r1 A ((x0.take (A.toN x1)).drop 0) x3 0 x4 x5 x6 x7) (g12r2 A ((x0.take (A.toN x1)).drop 0) x3 0 x4 x5 x6 x7) (g12r3 A ((x0.take (A.toN x1)).drop 0) x3 0 x4 x5 x6 x7) (g12r4 A ((x0.take (A.toN x1)).drop 0) x3 0 x4 x5 x6 x7) (g12r5 A ((x0.take (A.toN x1)).drop 0) x3 0 x4 x5 x6 x7)) _ (by kernel_rfl) (by kernel_rfl)).trans (g5R13 A n (g5Q A n (pth 4095) (g5T kk)) x0 x1 x2 (g5t0 A x0 x1 x3 x4 x5 x6 x7) (g5t1 A x0 x1 x3 x4 x5 x6 x7) (g5t2 A x0 x1 x3 x4 x5 x6 x7) (g5t3 A x0 x1 x3 x4 x5 x6 x7) (g5t4 A x0 x1 x3 x4 x5 x6 x7) (g5t5 A x0 x1 x3 x4 x5 x6 x7) (g5t6 A x0 x1 x3 x4 x5 x6 x7))
  rw [h21] at h22
  have h23 := (g5p2047 A n _ _).trans h22
  have h24 := (g5Qn A n _ _ _).trans h23
  have h25 := (g5F A n _ 12 _ (g5R11s0 A x0 x1 x2 x3 x4 x5 x6 x7) _ (by kernel_rfl) (by kernel_rfl)).trans (g5R12 A n (g5Q A n (pth 2047) (g5T kk)) x0 x1 x2 (g12r0 A ((x0.take (A.toN x1)).drop 0) x3 0 x4 x5 x6 x7) (g12r1 A ((x0.take (A.toN x1)).drop 0) x3 0 x4 x5 x6 x7) (g12r2 A ((x0.take (A.toN x1)).drop 0) x3 0 x4 x5 x6 x7) (g12r3 A ((x0.take (A.toN x1)).drop 0) x3 0 x4 x5 x6 x7) (g12r4 A ((x0.take (A.toN x1)).drop 0) x3 0 x4 x5 x6 x7) (g12r5 A ((x0.take (A.toN x1)).drop 0) x3 0 x4 x5 x6 x7))
  rw [h24] at h25
  have h26 := (g5p1023 A n _ _).trans h25
  have h27 := (g5Qn A n _ _ _).trans h26
  have h28 := (g5F A n _ 11 _ ⟨[(0, (tS x0)), (1, (i6 x1)), (5, (bO x2)), (6, (pT 9000 0))], [(9000, ⟨[.nums .u64 88 x3, .one (.sl 9500 none x4 1), .one (.int .i64 x5)], 45, 1⟩), (9500, ⟨[.nums .u8 x6 x7], 5, 2⟩)]⟩ _ (by kernel_rfl) (by kernel_rfl)).trans (g5R11 A n (g5Q A n (pth 1023) (g5T kk)) x0 x1 x2 x3 x4 x5 x6 x7)
  rw [h27] at h28
  have h29 := (g5p511 A n _ _).trans h28
  exact (g5F A n _ 11 _ _ ⟨[(0, (tS x0)), (1, (i6 x1)), (5, (bO x2)), (6, (pT 9000 0))], [(9000, ⟨[.nums .u64 88 x3, .one (.sl 9500 none x4 1), .one (.int .i64 x5)], 45, 1⟩), (9500, ⟨[.nums .u8 x6 x7], 5, 2⟩)]⟩ (by kernel_rfl) (h.trans (by kernel_rfl))).trans (h29.trans (by kernel_rfl))
def g5J7 {R : Type} (A : Ar) (n : Nat) (kk : AV → Heap → Option R)  (x0 : List Nat) (x1 : Int) (x2 : Bool) : Option R :=
  match (generalizing := false) A.ic .eql (A.ib .add .i64 (A.ofN x0.length) 1) 0 with
  | true => none
  | false => match (generalizing := false) g11ok A with
    | true => g5J11 A n kk  x0 (A.ib .rem .i64 x1 (A.ib .add .i64 (A.ofN x0.length) 1)) x2 (g11r0 A) 0 (g11r1 A) 0 []
    | false => none
set_option maxRecDepth 100000 in
theorem g5J7_eq {R : Type} (A : Ar) (n : Nat) (kk : AV → Heap → Option R)    (s : St) (x0 : List Nat) (x1 : Int) (x2 : Bool) (h : keep g5an 7 s = ⟨[(0, (tS x0)), (1, (i6 x1)), (5, (bO x2))], []⟩) :
    g5D A n (pth 63) (g5T kk) s = g5J7 A n kk  x0 x1 x2 := by
  have h1 := (g5Qn A n _ _ _).trans (g5J11_eq A n kk     (g5R9s0 A x0 (A.ib .rem .i64 x1 (A.ib .add .i64 (A.ofN x0.length) 1)) x2 (g11r0 A) 0 (g11r1 A) 0 []) x0 (A.ib .rem .i64 x1 (A.ib .add .i64 (A.ofN x0.length) 1)) x2 (g11r0 A) 0 (g11r1 A) 0 [] (by kernel_rfl))
  have h2 := (g5p1919 A n _ _).trans h1
  have h3 := (g5p895 A n (g5Q A n (pth 511) (g5T kk)) (g5R9s0 A x0 (A.ib .rem .i64 x1 (A.ib .add .i64 (A.ofN x0.length) 1)) x2 (g11r0 A) 0 (g11r1 A) 0 []) false (by kernel_rfl)).trans h2
  have h4 := (g5Qn A n _ _ _).trans h3
  have h5 := (g5F A n _ 9 _ (g5R8s0 A x0 (A.ib .rem .i64 x1 (A.ib .add .i64 (A.ofN x0.length) 1)) x2) _ (by kernel_rfl) (by kernel_rfl)).trans (g5R9 A n (g5Q A n (pth 895) (g5Q A n (pth 511) (g5T kk))) x0 (A.ib .rem .i64 x1 (A.ib .add .i64 (A.ofN x0.length) 1)) x2 (g11r0 A) 0 (g11r1 A) 0 [])
  rw [h4] at h5
  have h6 := (g5p383 A n _ _).trans h5
  have h7 := (g5p255 A n _ _).trans h6
  have h8 := (g5Qn A n _ _ _).trans h7
  have h9 := (g5F A n _ 8 _ (g5R7s0 A x0 x1 x2) _ (by kernel_rfl) (by kernel_rfl)).trans (g5R8 A n (g5Q A n (pth 255) (g5T kk)) x0 (A.ib .rem .i64 x1 (A.ib .add .i64 (A.ofN x0.length) 1)) x2)
  rw [h8] at h9
  have h10 := (g5p127 A n _ _).trans h9
  have h11 := (g5Qn A n _ _ _).trans h10
  have h12 := (g5F A n _ 7 _ ⟨[(0, (tS x0)), (1, (i6 x1)), (5, (bO x2))], []⟩ _ (by kernel_rfl) (by kernel_rfl)).trans (g5R7 A n (g5Q A n (pth 127) (g5T kk)) x0 x1 x2)
  rw [h11] at h12
  have h13 := (g5p63 A n _ _).trans h12
  exact (g5F A n _ 7 _ _ ⟨[(0, (tS x0)), (1, (i6 x1)), (5, (bO x2))], []⟩ (by kernel_rfl) (h.trans (by kernel_rfl))).trans (h13.trans (by kernel_rfl))
def g5J4 {R : Type} (A : Ar) (n : Nat) (kk : AV → Heap → Option R)  (x0 : List Nat) (x1 : Int) (x2 : Bool) : Option R :=
  match (generalizing := false) A.neg (A.mn (A.ofN x0.length) 500) with
  | true => none
  | false => match (generalizing := false) A.le (A.toN (A.mn (A.ofN x0.length) 500)) x0.length with
    | true => match (generalizing := false) A.ic .lss x1 0 with
      | true => g5J7 A n kk  ((x0.take (A.toN (A.mn (A.ofN x0.length) 500))).drop 0) (A.ib .sub .i64 0 (A.ib .add .i64 x1 1)) x2
      | false => g5J7 A n kk  ((x0.take (A.toN (A.mn (A.ofN x0.length) 500))).drop 0) x1 x2
    | false => none
set_option maxRecDepth 100000 in
theorem g5J4_eq {R : Type} (A : Ar) (n : Nat) (kk : AV → Heap → Option R)    (s : St) (x0 : List Nat) (x1 : Int) (x2 : Bool) (h : keep g5an 4 s = ⟨[(0, (tS x0)), (1, (i6 x1)), (5, (bO x2))], []⟩) :
    g5D A n (pth 15) (g5T kk) s = g5J4 A n kk  x0 x1 x2 := by
  have h1 := (g5Qn A n _ _ _).trans (g5J7_eq A n kk     (g5R6s0 A ((x0.take (A.toN (A.mn (A.ofN x0.length) 500))).drop 0) x1 x2) ((x0.take (A.toN (A.mn (A.ofN x0.length) 500))).drop 0) (A.ib .sub .i64 0 (A.ib .add .i64 x1 1)) x2 (by kernel_rfl))
  have h2 := (g5F A n _ 6 _ (g5R5s0 A ((x0.take (A.toN (A.mn (A.ofN x0.length) 500))).drop 0) x1 x2) _ (by kernel_rfl) (by kernel_rfl)).trans (g5R6 A n (g5Q A n (pth 63) (g5T kk)) ((x0.take (A.toN (A.mn (A.ofN x0.length) 500))).drop 0) x1 x2)
  rw [h1] at h2
  have h3 := (g5Qn A n _ _ _).trans (g5J7_eq A n kk     (g5R5s0 A ((x0.take (A.toN (A.mn (A.ofN x0.length) 500))).drop 0) x1 x2) ((x0.take (A.toN (A.mn (A.ofN x0.length) 500))).drop 0) x1 x2 (by kernel_rfl))
  have h4 := (g5p239 A n _ _).trans h3
  have h5 := g5p111 A n (g5Q A n (pth 63) (g5T kk)) (g5R5s0 A ((x0.take (A.toN (A.mn (A.ofN x0.length) 500))).drop 0) x1 x2) (A.ic .lss x1 0) (by kernel_rfl)
  rw [h2, h4] at h5
  have h6 := (g5Qn A n _ _ _).trans h5
  have h7 := (g5F A n _ 5 _ (g5R4s0 A x0 x1 x2) _ (by kernel_rfl) (by kernel_rfl)).trans (g5R5 A n (g5Q A n (pth 111) (g5Q A n (pth 63) (g5T kk))) ((x0.take (A.toN (A.mn (A.ofN x0.length) 500))).drop 0) x1 x2)
  rw [h6] at h7
  have h8 := (g5p47 A n _ _).trans h7
  have h9 := (g5p31 A n _ _).trans h8
  have h10 := (g5Qn A n _ _ _).trans h9
  have h11 := (g5F A n _ 4 _ ⟨[(0, (tS x0)), (1, (i6 x1)), (5, (bO x2))], []⟩ _ (by kernel_rfl) (by kernel_rfl)).trans (g5R4 A n (g5Q A n (pth 31) (g5T kk)) x0 x1 x2)
  rw [h10] at h11
  have h12 := (g5p15 A n _ _).trans h11
  exact (g5F A n _ 4 _ _ ⟨[(0, (tS x0)), (1, (i6 x1)), (5, (bO x2))], []⟩ (by kernel_rfl) (h.trans (by kernel_rfl))).trans (h12.trans (by kernel_rfl))
def g5 {R : Type} (A : Ar) (n : Nat) (kk : AV → Heap → Option R) (a : List Nat) (b : Int) : Option R :=
  match (generalizing := false) g8ok A with
  | true => match (generalizing := false) !(g8r0 A) with
    | true => kk (bO false) []
    | false => g5J4 A n kk  a b (g8r0 A)
  | false => none
set_option maxRecDepth 100000 in
theorem g5_eq {R : Type} (A : Ar) (n : Nat) (kk : AV → Heap → Option R) (a : List Nat) (b : Int) :
    funD A gtys (g5O A) g5an n (bodyOf Try.f5) g5res [(tS a), (i6 b)] [] kk = g5 A n kk a b := by
  have h1 : (g5T kk) .ret (g5R3s0 A) = kk (bO false) [] := by kernel_rfl
  have h2 := (g5Qr A n (pth 15) _ _).trans h1
  have h3 := (g5p107 A n _ _).trans h2
  have h4 := (g5Qn A n _ _ _).trans h3
  have h5 := (g5F A n _ 3 _ (g5R2s0 A a b (g8r0 A)) _ (by kernel_rfl) (by kernel_rfl)).trans (g5R3 A n (g5Q A n (pth 107) (g5Q A n (pth 15) (g5T kk))) )
  rw [h4] at h5
  have h6 := (g5p43 A n _ _).trans h5
  have h7 := (g5Qn A n _ _ _).trans (g5J4_eq A n kk     (g5R2s0 A a b (g8r0 A)) a b (g8r0 A) (by kernel_rfl))
  have h8 := (g5p59 A n _ _).trans h7
  have h9 := g5p27 A n (g5Q A n (pth 15) (g5T kk)) (g5R2s0 A a b (g8r0 A)) (!(g8r0 A)) (by kernel_rfl)
  rw [h6, h8] at h9
  have h10 := (g5Qn A n _ _ _).trans h9
  have h11 := (g5F A n _ 2 _ (g5R1s0 A a b) _ (by kernel_rfl) (by kernel_rfl)).trans (g5R2 A n (g5Q A n (pth 27) (g5Q A n (pth 15) (g5T kk))) a b (g8r0 A))
  rw [h10] at h11
  have h12 := (g5p11 A n _ _).trans h11
  have h13 := (g5p7 A n _ _).trans h12
  have h14 := (g5Qn A n _ _ _).trans h13
  have h15 := (g5F A n _ 1 _ (g5R0s0 A a b) _ (by kernel_rfl) (by kernel_rfl)).trans (g5R1 A n (g5Q A n (pth 7) (g5T kk)) a b)
  rw [h14] at h15
  have h16 := (g5p3 A n _ _).trans h15
  have h17 := (g5Qn A n _ _ _).trans h16
  have h18 := (g5F A n _ 0 _ ⟨[(0, (tS a)), (1, (i6 b))], []⟩ _ (by kernel_rfl) (by kernel_rfl)).trans (g5R0 A n (g5Q A n (pth 3) (g5T kk)) a b)
  rw [h17] at h18
  have h19 := (g5p1 A n _ _).trans h18
  exact (show funD A gtys (g5O A) g5an n (bodyOf Try.f5) g5res [(tS a), (i6 b)] [] kk = g5D A n (pth 1) (g5T kk) ⟨[(0, (tS a)), (1, (i6 b))], []⟩ from by kernel_rfl).trans (h19.trans (by kernel_rfl))
def g5is (o : Option AV) : Bool := match o with
  | some (.v (.cell (.bool _))) => true
  | _ => false
def g5g0 (o : Option AV) : Bool := match o with
  | some (.v (.cell (.bool x))) => x
  | _ => false
theorem g5is_spec {o : Option AV} (h : g5is o = true) : o = some (.v (.cell (.bool (g5g0 o)))) := by
  unfold g5is at h
  split at h
  · rfl
  · cases h
def g5v (A : Ar) (a : List Nat) (b : Int) : Option AV := g5 A (100000) (fun v _ => some v) a b
def g5ok (A : Ar) (a : List Nat) (b : Int) : Bool := g5is (g5v A a b)
def g5r0 (A : Ar) (a : List Nat) (b : Int) : Bool := g5g0 (g5v A a b)
theorem g5ok_spec {A : Ar} {a b} (h : g5ok A a b = true) : g5v A a b = some (.v (.cell (.bool (g5r0 A a b)))) := g5is_spec h
def g5o (A : Ar) (args : List AV) : Option (Bool × AV) := match args with
  | [.v (.cell (.str a)), .v (.cell (.int .i64 b))] => some (g5ok A a b, .v (.cell (.bool (g5r0 A a b))))
  | _ => none
theorem g5o_sound : ∀ args v, g5o realA args = some (true, v) → Fn1 Try.prog 5 args v := by
  intro args v h
  unfold g5o at h
  split at h
  · rename_i a b
    simp only [Option.some.injEq, Prod.mk.injEq] at h
    obtain ⟨hc, h⟩ := h
    subst h
    · skip
      exact fn1_of mixed gtysOK g5O_sound g5O_det (an := g5an) (n := 100000) Try.func5 (c := bodyOf Try.f5) rfl (by kernel_rfl) Try.call5 (Nat.le_of_ble_eq_true rfl) (fun b => rfl) (fun _ => (g5_eq realA (100000) (fun v _ => some v) a b).trans (show g5v realA a b = _ from g5ok_spec hc))
  · cases h
section
variable {R : Type} (A : Ar) (n : Nat) (K : Ex → St → Option R) (s : St)
end
def g6J4 {R : Type} (A : Ar) (n : Nat) (kk : AV → Heap → Option R)  (x0 : Nat) (x1 : Bool) : Option R :=
  match (generalizing := false) A.neg (A.ofN x0) with
  | true => none
  | false => match (generalizing := false) A.neg (A.ofN x0) with
    | true => none
    | false => match (generalizing := false) A.le (A.toN (A.ofN x0)) (A.toN (A.ofN x0)) with
      | true => match (generalizing := false) A.le (A.toN (A.ofN x0)) 140737488355328 with
        | true => match (generalizing := false) x1 with
          | true => match (generalizing := false) g9ok A [] with
            | true => match (generalizing := false) g15ok A (g9r0 A []) with
              | true => match (generalizing := false) A.sc .eql (g15r0 A (g9r0 A [])) [99, 102, 56, 51, 101, 49, 51, 53, 55, 101, 101, 102, 98, 56, 98, 100, 102, 49, 53, 52, 50, 56, 53, 48, 100, 54, 54, 100, 56, 48, 48, 55, 100, 54, 50, 48, 101, 52, 48, 53, 48, 98, 53, 55, 49, 53, 100, 99, 56, 51, 102, 52, 97, 57, 50, 49, 100, 51, 54, 99, 101, 57, 99, 101, 52, 55, 100, 48, 100, 49, 51, 99, 53, 100, 56, 53, 102, 50, 98, 48, 102, 102, 56, 51, 49, 56, 100, 50, 56, 55, 55, 101, 101, 99, 50, 102, 54, 51, 98, 57, 51, 49, 98, 100, 52, 55, 52, 49, 55, 97, 56, 49, 97, 53, 51, 56, 51, 50, 55, 97, 102, 57, 50, 55, 100, 97, 51, 101] with
                | true => match (generalizing := false) g9ok A ((List.replicate (A.toN (A.ofN x0)) 0).take (A.toN (A.ofN x0))) with
                  | true => match (generalizing := false) A.ic .eql (A.ofN ((g9r0 A ((List.replicate (A.toN (A.ofN x0)) 0).take (A.toN (A.ofN x0)))).length)) 64 with
                    | true => match (generalizing := false) g9ok A ((List.replicate (A.toN (A.ofN x0)) 0).take (A.toN (A.ofN x0))) with
                      | true => match (generalizing := false) g9ok A ((List.replicate (A.toN (A.ofN x0)) 0).take (A.toN (A.ofN x0))) with
                        | true => kk (bO (A.sc .eql (g9r0 A ((List.replicate (A.toN (A.ofN x0)) 0).take (A.toN (A.ofN x0)))) (g9r0 A ((List.replicate (A.toN (A.ofN x0)) 0).take (A.toN (A.ofN x0)))))) []
                        | false => none
                      | false => none
                    | false => kk (bO false) []
                  | false => none
                | false => kk (bO false) []
              | false => none
            | false => none
          | false => kk (bO false) []
        | false => none
      | false => none
def g6 {R : Type} (A : Ar) (n : Nat) (kk : AV → Heap → Option R) (a : Nat) : Option R :=
  match (generalizing := false) g8ok A with
  | true => match (generalizing := false) !(g8r0 A) with
    | true => kk (bO false) []
    | false => g6J4 A n kk  a (g8r0 A)
  | false => none
end Go.Sx
