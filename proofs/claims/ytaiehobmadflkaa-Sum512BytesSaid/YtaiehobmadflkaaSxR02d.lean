/- printed by sxgen -/
import Derived.Test.YtaiehobmadflkaaSxR02c
namespace Go.Sx
open Go.Proofs
set_option linter.unusedVariables false
section
variable {R : Type} (A : Ar) (n : Nat) (K : Ex → St → Option R) (s : St)
end
def g24 {R : Type} (A : Ar) (n : Nat) (kk : AV → Heap → Option R) (a : List Nat) (b c : Nat) : Option R :=
  match (generalizing := false) g22ok A (a.getD 4 0) 14 with
  | true => match (generalizing := false) g22ok A (a.getD 4 0) 18 with
    | true => match (generalizing := false) g22ok A (a.getD 4 0) 41 with
      | true => match (generalizing := false) g22ok A (a.getD 0 0) 28 with
        | true => match (generalizing := false) g22ok A (a.getD 0 0) 34 with
          | true => match (generalizing := false) g22ok A (a.getD 0 0) 39 with
            | true => kk (aN .u64 8 (((((((([0, 0, 0, 0, 0, 0, 0, 0].set 0 (A.nb .add .u64 (A.nb .add .u64 (A.nb .add .u64 (A.nb .add .u64 (A.nb .add .u64 (a.getD 7 0) (A.nb .xor .u64 (A.nb .xor .u64 (g22r0 A (a.getD 4 0) 14) (g22r0 A (a.getD 4 0) 18)) (g22r0 A (a.getD 4 0) 41))) (A.nb .xor .u64 (A.nb .and .u64 (a.getD 4 0) (a.getD 5 0)) (A.nb .and .u64 (A.nb .xor .u64 18446744073709551615 (a.getD 4 0)) (a.getD 6 0)))) b) c) (A.nb .add .u64 (A.nb .xor .u64 (A.nb .xor .u64 (g22r0 A (a.getD 0 0) 28) (g22r0 A (a.getD 0 0) 34)) (g22r0 A (a.getD 0 0) 39)) (A.nb .xor .u64 (A.nb .xor .u64 (A.nb .and .u64 (a.getD 0 0) (a.getD 1 0)) (A.nb .and .u64 (a.getD 0 0) (a.getD 2 0))) (A.nb .and .u64 (a.getD 1 0) (a.getD 2 0)))))).set 1 (a.getD 0 0)).set 2 (a.getD 1 0)).set 3 (a.getD 2 0)).set 4 (A.nb .add .u64 (a.getD 3 0) (A.nb .add .u64 (A.nb .add .u64 (A.nb .add .u64 (A.nb .add .u64 (a.getD 7 0) (A.nb .xor .u64 (A.nb .xor .u64 (g22r0 A (a.getD 4 0) 14) (g22r0 A (a.getD 4 0) 18)) (g22r0 A (a.getD 4 0) 41))) (A.nb .xor .u64 (A.nb .and .u64 (a.getD 4 0) (a.getD 5 0)) (A.nb .and .u64 (A.nb .xor .u64 18446744073709551615 (a.getD 4 0)) (a.getD 6 0)))) b) c))).set 5 (a.getD 4 0)).set 6 (a.getD 5 0)).set 7 (a.getD 6 0))) [(1000, (bU 8 a 40)), (1001, (bU 8 (((((((([0, 0, 0, 0, 0, 0, 0, 0].set 0 (A.nb .add .u64 (A.nb .add .u64 (A.nb .add .u64 (A.nb .add .u64 (A.nb .add .u64 (a.getD 7 0) (A.nb .xor .u64 (A.nb .xor .u64 (g22r0 A (a.getD 4 0) 14) (g22r0 A (a.getD 4 0) 18)) (g22r0 A (a.getD 4 0) 41))) (A.nb .xor .u64 (A.nb .and .u64 (a.getD 4 0) (a.getD 5 0)) (A.nb .and .u64 (A.nb .xor .u64 18446744073709551615 (a.getD 4 0)) (a.getD 6 0)))) b) c) (A.nb .add .u64 (A.nb .xor .u64 (A.nb .xor .u64 (g22r0 A (a.getD 0 0) 28) (g22r0 A (a.getD 0 0) 34)) (g22r0 A (a.getD 0 0) 39)) (A.nb .xor .u64 (A.nb .xor .u64 (A.nb .and .u64 (a.getD 0 0) (a.getD 1 0)) (A.nb .and .u64 (a.getD 0 0) (a.getD 2 0))) (A.nb .and .u64 (a.getD 1 0) (a.getD 2 0)))))).set 1 (a.getD 0 0)).set 2 (a.getD 1 0)).set 3 (a.getD 2 0)).set 4 (A.nb .add .u64 (a.getD 3 0) (A.nb .add .u64 (A.nb .add .u64 (A.nb .add .u64 (A.nb .add .u64 (a.getD 7 0) (A.nb .xor .u64 (A.nb .xor .u64 (g22r0 A (a.getD 4 0) 14) (g22r0 A (a.getD 4 0) 18)) (g22r0 A (a.getD 4 0) 41))) (A.nb .xor .u64 (A.nb .and .u64 (a.getD 4 0) (a.getD 5 0)) (A.nb .and .u64 (A.nb .xor .u64 18446744073709551615 (a.getD 4 0)) (a.getD 6 0)))) b) c))).set 5 (a.getD 4 0)).set 6 (a.getD 5 0)).set 7 (a.getD 6 0)) 40))]
            | false => none
          | false => none
        | false => none
      | false => none
    | false => none
  | false => none
def g24is (o : Option AV) : Bool := match o with
  | some (aN .u64 8 _) => true
  | _ => false
def g24g0 (o : Option AV) : List Nat := match o with
  | some (aN .u64 8 x) => x
  | _ => []
def g24v (A : Ar) (a : List Nat) (b c : Nat) : Option AV := g24 A (100000) (fun v _ => some v) a b c
def g24ok (A : Ar) (a : List Nat) (b c : Nat) : Bool := g24is (g24v A a b c)
def g24r0 (A : Ar) (a : List Nat) (b c : Nat) : List Nat := g24g0 (g24v A a b c)
section
variable {R : Type} (A : Ar) (n : Nat) (K : Ex → St → Option R) (s : St)
end
def g23 {R : Type} (A : Ar) (n : Nat) (kk : AV → Heap → Option R)  : Option R :=
  kk (sL 2000 none 80 1) [(2000, ⟨[.nums .u64 80 [4794697086780616226, 8158064640168781261, 13096744586834688815, 16840607885511220156, 4131703408338449720, 6480981068601479193, 10538285296894168987, 12329834152419229976, 15566598209576043074, 1334009975649890238, 2608012711638119052, 6128411473006802146, 8268148722764581231, 9286055187155687089, 11230858885718282805, 13951009754708518548, 16472876342353939154, 17275323862435702243, 1135362057144423861, 2597628984639134821, 3308224258029322869, 5365058923640841347, 6679025012923562964, 8573033837759648693, 10970295158949994411, 12119686244451234320, 12683024718118986047, 13788192230050041572, 14330467153632333762, 15395433587784984357, 489312712824947311, 1452737877330783856, 2861767655752347644, 3322285676063803686, 5560940570517711597, 5996557281743188959, 7280758554555802590, 8532644243296465576, 9350256976987008742, 10552545826968843579, 11727347734174303076, 12113106623233404929, 14000437183269869457, 14369950271660146224, 15101387698204529176, 15463397548674623760, 17586052441742319658, 1182934255886127544, 1847814050463011016, 2177327727835720531, 2830643537854262169, 3796741975233480872, 4115178125766777443, 5681478168544905931, 6601373596472566643, 7507060721942968483, 8399075790359081724, 8693463985226723168, 9568029438360202098, 10144078919501101548, 10430055236837252648, 11840083180663258601, 13761210420658862357, 14299343276471374635, 14566680578165727644, 15097957966210449927, 16922976911328602910, 17689382322260857208, 500013540394364858, 748580250866718886, 1242879168328830382, 1977374033974150939, 2944078676154940804, 3659926193048069267, 4368137639120453308, 4836135668995329356, 5532061633213252278, 6448918945643986474, 6902733635092675308, 7801388544844847127]], 36, 2⟩)]
def g23is (o : Option (AV × Heap)) : Bool := match o with
  | some (.v (.cell (.sl n0 none _ n1)), [(n2, ⟨[.nums .u64 _ _], n3, n4⟩)]) => Nat.beq n0 700 && (Nat.beq n1 1 && (Nat.beq n2 700 && (Nat.beq n3 36 && (Nat.beq n4 2))))
  | _ => false
def g23g0 (o : Option (AV × Heap)) : Nat := match o with
  | some (.v (.cell (.sl _ none x _)), [(_, ⟨[.nums .u64 _ _], _, _⟩)]) => x
  | _ => 0
def g23g1 (o : Option (AV × Heap)) : Nat := match o with
  | some (.v (.cell (.sl _ none _ _)), [(_, ⟨[.nums .u64 x _], _, _⟩)]) => x
  | _ => 0
def g23g2 (o : Option (AV × Heap)) : List Nat := match o with
  | some (.v (.cell (.sl _ none _ _)), [(_, ⟨[.nums .u64 _ x], _, _⟩)]) => x
  | _ => []
def g23v (A : Ar)  : Option (AV × Heap) := g23 A (100000) (outH [] none) 
def g23ok (A : Ar)  : Bool := g23is (g23v A)
def g23r0 (A : Ar)  : Nat := g23g0 (g23v A)
def g23r1 (A : Ar)  : Nat := g23g1 (g23v A)
def g23r2 (A : Ar)  : List Nat := g23g2 (g23v A)
section
variable {R : Type} (A : Ar) (n : Nat) (K : Ex → St → Option R) (s : St)
end
def g17J9 {R : Type} (A : Ar) (n : Nat) (kk : AV → Heap → Option R) (lg17L7 : List Nat → Nat → Int → Nat → Int → List Nat → List Nat → Nat → List Nat → Option R) (x0 : List Nat) (x1 : Nat) (x2 : Int) (x3 : Nat) (x4 : Int) (x5 x6 : List Nat) (x7 : Nat) (x8 : List Nat) : Option R :=
  match (generalizing := false) A.neg (A.ib .add .i64 (A.ib .mul .i64 8 x2) x4) with
  | true => none
  | false => match (generalizing := false) A.lt (A.toN (A.ib .add .i64 (A.ib .mul .i64 8 x2) x4)) x0.length with
    | true => lg17L7 x0 x1 x2 (A.nb .or .u64 (A.nsh .shl .u64 x3 8) (x0.getD (A.toN (A.ib .add .i64 (A.ib .mul .i64 8 x2) x4)) 0)) (A.ib .add .i64 x4 1) x5 x6 x7 x8
    | false => none
def g17J10 {R : Type} (A : Ar) (n : Nat) (kk : AV → Heap → Option R) (lg17L3 : List Nat → Nat → Int → List Nat → List Nat → Nat → List Nat → Option R) (x0 : List Nat) (x1 : Nat) (x2 : Int) (x3 : Nat) (x4 x5 : List Nat) (x6 : Nat) (x7 : List Nat) : Option R :=
  match (generalizing := false) A.eq x1 (x6 + 0) with
  | true => match (generalizing := false) A.le (((x7 ++ ([x3].take 1)).length) * 8) 140737488355328 with
    | true => lg17L3 x0 ((x7 ++ ([x3].take 1)).length) (A.ib .add .i64 x2 1) x4 x5 ((x7 ++ ([x3].take 1)).length) (x7 ++ ([x3].take 1))
    | false => none
  | false => none
def g17L7 {R : Type} (A : Ar) (n : Nat) (kk : AV → Heap → Option R) (lg17L3 : List Nat → Nat → Int → List Nat → List Nat → Nat → List Nat → Option R) : Nat → List Nat → Nat → Int → Nat → Int → List Nat → List Nat → Nat → List Nat → Option R
  | 0, _, _, _, _, _, _, _, _, _ => none
  | m + 1, x0, x1, x2, x3, x4, x5, x6, x7, x8 => match (generalizing := false) A.ic .lss x4 8 with
  | true => g17J9 A n kk (g17L7 A n kk lg17L3 m) x0 x1 x2 x3 x4 x5 x6 x7 x8
  | false => g17J10 A n kk lg17L3 x0 x1 x2 x3 x5 x6 x7 x8
def g17J5 {R : Type} (A : Ar) (n : Nat) (kk : AV → Heap → Option R) (lg17L3 : List Nat → Nat → Int → List Nat → List Nat → Nat → List Nat → Option R) (x0 : List Nat) (x1 : Nat) (x2 : Int) (x3 x4 : List Nat) (x5 : Nat) (x6 : List Nat) : Option R :=
  g17L7 A n kk lg17L3 n x0 x1 x2 0 0 x3 x4 x5 x6
def g17J14 {R : Type} (A : Ar) (n : Nat) (kk : AV → Heap → Option R) (lg17L12 : Nat → Int → List Nat → List Nat → Nat → List Nat → Option R) (x0 : Nat) (x1 : Int) (x2 x3 : List Nat) (x4 : Nat) (x5 : List Nat) : Option R :=
  match (generalizing := false) A.neg (A.ib .sub .i64 x1 2) with
  | true => none
  | false => match (generalizing := false) A.lt (A.toN (A.ib .sub .i64 x1 2)) x0 with
    | true => match (generalizing := false) g22ok A (x5.getD (A.toN (A.ib .sub .i64 x1 2)) 0) 19 with
      | true => match (generalizing := false) A.neg (A.ib .sub .i64 x1 2) with
        | true => none
        | false => match (generalizing := false) A.lt (A.toN (A.ib .sub .i64 x1 2)) x0 with
          | true => match (generalizing := false) g22ok A (x5.getD (A.toN (A.ib .sub .i64 x1 2)) 0) 61 with
            | true => match (generalizing := false) A.neg (A.ib .sub .i64 x1 2) with
              | true => none
              | false => match (generalizing := false) A.lt (A.toN (A.ib .sub .i64 x1 2)) x0 with
                | true => match (generalizing := false) A.neg (A.ib .sub .i64 x1 15) with
                  | true => none
                  | false => match (generalizing := false) A.lt (A.toN (A.ib .sub .i64 x1 15)) x0 with
                    | true => match (generalizing := false) g22ok A (x5.getD (A.toN (A.ib .sub .i64 x1 15)) 0) 1 with
                      | true => match (generalizing := false) A.neg (A.ib .sub .i64 x1 15) with
                        | true => none
                        | false => match (generalizing := false) A.lt (A.toN (A.ib .sub .i64 x1 15)) x0 with
                          | true => match (generalizing := false) g22ok A (x5.getD (A.toN (A.ib .sub .i64 x1 15)) 0) 8 with
                            | true => match (generalizing := false) A.neg (A.ib .sub .i64 x1 15) with
                              | true => none
                              | false => match (generalizing := false) A.lt (A.toN (A.ib .sub .i64 x1 15)) x0 with
                                | true => match (generalizing := false) A.neg (A.ib .sub .i64 x1 7) with
                                  | true => none
                                  | false => match (generalizing := false) A.lt (A.toN (A.ib .sub .i64 x1 7)) x0 with
                                    | true => match (generalizing := false) A.neg (A.ib .sub .i64 x1 16) with
                                      | true => none
                                      | false => match (generalizing := false) A.lt (A.toN (A.ib .sub .i64 x1 16)) x0 with
                                        | true => match (generalizing := false) A.eq x0 (x4 + 0) with
                                          | true => match (generalizing := false) A.le (((x5 ++ ([A.nb .add .u64 (A.nb .add .u64 (A.nb .add .u64 (A.nb .xor .u64 (A.nb .xor .u64 (g22r0 A (x5.getD (A.toN (A.ib .sub .i64 x1 2)) 0) 19) (g22r0 A (x5.getD (A.toN (A.ib .sub .i64 x1 2)) 0) 61)) (A.nsh .shr .u64 (x5.getD (A.toN (A.ib .sub .i64 x1 2)) 0) 6)) (x5.getD (A.toN (A.ib .sub .i64 x1 7)) 0)) (A.nb .xor .u64 (A.nb .xor .u64 (g22r0 A (x5.getD (A.toN (A.ib .sub .i64 x1 15)) 0) 1) (g22r0 A (x5.getD (A.toN (A.ib .sub .i64 x1 15)) 0) 8)) (A.nsh .shr .u64 (x5.getD (A.toN (A.ib .sub .i64 x1 15)) 0) 7))) (x5.getD (A.toN (A.ib .sub .i64 x1 16)) 0)].take 1)).length) * 8) 140737488355328 with
                                            | true => lg17L12 ((x5 ++ ([A.nb .add .u64 (A.nb .add .u64 (A.nb .add .u64 (A.nb .xor .u64 (A.nb .xor .u64 (g22r0 A (x5.getD (A.toN (A.ib .sub .i64 x1 2)) 0) 19) (g22r0 A (x5.getD (A.toN (A.ib .sub .i64 x1 2)) 0) 61)) (A.nsh .shr .u64 (x5.getD (A.toN (A.ib .sub .i64 x1 2)) 0) 6)) (x5.getD (A.toN (A.ib .sub .i64 x1 7)) 0)) (A.nb .xor .u64 (A.nb .xor .u64 (g22r0 A (x5.getD (A.toN (A.ib .sub .i64 x1 15)) 0) 1) (g22r0 A (x5.getD (A.toN (A.ib .sub .i64 x1 15)) 0) 8)) (A.nsh .shr .u64 (x5.getD (A.toN (A.ib .sub .i64 x1 15)) 0) 7))) (x5.getD (A.toN (A.ib .sub .i64 x1 16)) 0)].take 1)).length) (A.ib .add .i64 x1 1) x2 x3 ((x5 ++ ([A.nb .add .u64 (A.nb .add .u64 (A.nb .add .u64 (A.nb .xor .u64 (A.nb .xor .u64 (g22r0 A (x5.getD (A.toN (A.ib .sub .i64 x1 2)) 0) 19) (g22r0 A (x5.getD (A.toN (A.ib .sub .i64 x1 2)) 0) 61)) (A.nsh .shr .u64 (x5.getD (A.toN (A.ib .sub .i64 x1 2)) 0) 6)) (x5.getD (A.toN (A.ib .sub .i64 x1 7)) 0)) (A.nb .xor .u64 (A.nb .xor .u64 (g22r0 A (x5.getD (A.toN (A.ib .sub .i64 x1 15)) 0) 1) (g22r0 A (x5.getD (A.toN (A.ib .sub .i64 x1 15)) 0) 8)) (A.nsh .shr .u64 (x5.getD (A.toN (A.ib .sub .i64 x1 15)) 0) 7))) (x5.getD (A.toN (A.ib .sub .i64 x1 16)) 0)].take 1)).length) (x5 ++ ([A.nb .add .u64 (A.nb .add .u64 (A.nb .add .u64 (A.nb .xor .u64 (A.nb .xor .u64 (g22r0 A (x5.getD (A.toN (A.ib .sub .i64 x1 2)) 0) 19) (g22r0 A (x5.getD (A.toN (A.ib .sub .i64 x1 2)) 0) 61)) (A.nsh .shr .u64 (x5.getD (A.toN (A.ib .sub .i64 x1 2)) 0) 6)) (x5.getD (A.toN (A.ib .sub .i64 x1 7)) 0)) (A.nb .xor .u64 (A.nb .xor .u64 (g22r0 A (x5.getD (A.toN (A.ib .sub .i64 x1 15)) 0) 1) (g22r0 A (x5.getD (A.toN (A.ib .sub .i64 x1 15)) 0) 8)) (A.nsh .shr .u64 (x5.getD (A.toN (A.ib .sub .i64 x1 15)) 0) 7))) (x5.getD (A.toN (A.ib .sub .i64 x1 16)) 0)].take 1))
                                            | false => none
                                          | false => none
                                        | false => none
                                    | false => none
                                | false => none
                            | false => none
                          | false => none
                      | false => none
                    | false => none
                | false => none
            | false => none
          | false => none
      | false => none
    | false => none
def g17J22 {R : Type} (A : Ar) (n : Nat) (kk : AV → Heap → Option R) (lg17L20 : Nat → Nat → Int → List Nat → List Nat → Nat → List Nat → Nat → List Nat → List Nat → Option R) (x0 x1 : Nat) (x2 : Int) (x3 x4 : List Nat) (x5 : Nat) (x6 : List Nat) (x7 : Nat) (x8 x9 : List Nat) : Option R :=
  match (generalizing := false) A.neg x2 with
  | true => none
  | false => match (generalizing := false) A.lt (A.toN x2) x1 with
    | true => match (generalizing := false) A.neg x2 with
      | true => none
      | false => match (generalizing := false) A.lt (A.toN x2) x0 with
        | true => match (generalizing := false) g24ok A x9 (x8.getD (A.toN x2) 0) (x6.getD (A.toN x2) 0) with
          | true => lg17L20 x0 x1 (A.ib .add .i64 x2 1) x3 x4 x5 x6 x7 x8 (g24r0 A x9 (x8.getD (A.toN x2) 0) (x6.getD (A.toN x2) 0))
          | false => none
        | false => none
    | false => none
def g17J23 {R : Type} (A : Ar) (n : Nat) (kk : AV → Heap → Option R)  (x0 x1 x2 : List Nat) : Option R :=
  kk (aN .u64 8 (((((((([0, 0, 0, 0, 0, 0, 0, 0].set 0 (A.nb .add .u64 (x0.getD 0 0) (x2.getD 0 0))).set 1 (A.nb .add .u64 (x0.getD 1 0) (x2.getD 1 0))).set 2 (A.nb .add .u64 (x0.getD 2 0) (x2.getD 2 0))).set 3 (A.nb .add .u64 (x0.getD 3 0) (x2.getD 3 0))).set 4 (A.nb .add .u64 (x0.getD 4 0) (x2.getD 4 0))).set 5 (A.nb .add .u64 (x0.getD 5 0) (x2.getD 5 0))).set 6 (A.nb .add .u64 (x0.getD 6 0) (x2.getD 6 0))).set 7 (A.nb .add .u64 (x0.getD 7 0) (x2.getD 7 0)))) [(1000, (bU 8 x0 40)), (1001, (bU 8 (((((((([0, 0, 0, 0, 0, 0, 0, 0].set 0 (A.nb .add .u64 (x0.getD 0 0) (x2.getD 0 0))).set 1 (A.nb .add .u64 (x0.getD 1 0) (x2.getD 1 0))).set 2 (A.nb .add .u64 (x0.getD 2 0) (x2.getD 2 0))).set 3 (A.nb .add .u64 (x0.getD 3 0) (x2.getD 3 0))).set 4 (A.nb .add .u64 (x0.getD 4 0) (x2.getD 4 0))).set 5 (A.nb .add .u64 (x0.getD 5 0) (x2.getD 5 0))).set 6 (A.nb .add .u64 (x0.getD 6 0) (x2.getD 6 0))).set 7 (A.nb .add .u64 (x0.getD 7 0) (x2.getD 7 0))) 40)), (19001, (bU 8 x2 40))]
def g17L20 {R : Type} (A : Ar) (n : Nat) (kk : AV → Heap → Option R)  : Nat → Nat → Nat → Int → List Nat → List Nat → Nat → List Nat → Nat → List Nat → List Nat → Option R
  | 0, _, _, _, _, _, _, _, _, _, _ => none
  | m + 1, x0, x1, x2, x3, x4, x5, x6, x7, x8, x9 => match (generalizing := false) A.ic .lss x2 80 with
  | true => g17J22 A n kk (g17L20 A n kk  m) x0 x1 x2 x3 x4 x5 x6 x7 x8 x9
  | false => g17J23 A n kk  x3 x4 x9
def g17J17 {R : Type} (A : Ar) (n : Nat) (kk : AV → Heap → Option R)  (x0 : Nat) (x1 x2 : List Nat) (x3 : Nat) (x4 : List Nat) : Option R :=
  match (generalizing := false) g23ok A with
  | true => g17L20 A n kk  n x0 (g23r0 A) 0 x1 x2 x3 x4 (g23r1 A) (g23r2 A) x1
  | false => none
def g17L12 {R : Type} (A : Ar) (n : Nat) (kk : AV → Heap → Option R)  : Nat → Nat → Int → List Nat → List Nat → Nat → List Nat → Option R
  | 0, _, _, _, _, _, _ => none
  | m + 1, x0, x1, x2, x3, x4, x5 => match (generalizing := false) A.ic .lss x1 80 with
  | true => g17J14 A n kk (g17L12 A n kk  m) x0 x1 x2 x3 x4 x5
  | false => g17J17 A n kk  x0 x2 x3 x4 x5
def g17J11 {R : Type} (A : Ar) (n : Nat) (kk : AV → Heap → Option R)  (x0 : Nat) (x1 x2 : List Nat) (x3 : Nat) (x4 : List Nat) : Option R :=
  g17L12 A n kk  n x0 16 x1 x2 x3 x4
def g17L3 {R : Type} (A : Ar) (n : Nat) (kk : AV → Heap → Option R)  : Nat → List Nat → Nat → Int → List Nat → List Nat → Nat → List Nat → Option R
  | 0, _, _, _, _, _, _, _ => none
  | m + 1, x0, x1, x2, x3, x4, x5, x6 => match (generalizing := false) A.ic .lss x2 16 with
  | true => g17J5 A n kk (g17L3 A n kk  m) x0 x1 x2 x3 x4 x5 x6
  | false => g17J11 A n kk  x1 x3 x4 x5 x6
def g17 {R : Type} (A : Ar) (n : Nat) (kk : AV → Heap → Option R) (a b : List Nat) : Option R :=
  g17L3 A n kk  n b 0 0 a [0, 0, 0, 0, 0, 0, 0, 0] 0 []
def g17is (o : Option AV) : Bool := match o with
  | some (aN .u64 8 _) => true
  | _ => false
def g17g0 (o : Option AV) : List Nat := match o with
  | some (aN .u64 8 x) => x
  | _ => []
def g17v (A : Ar) (a b : List Nat) : Option AV := g17 A (100000) (fun v _ => some v) a b
def g17ok (A : Ar) (a b : List Nat) : Bool := g17is (g17v A a b)
def g17r0 (A : Ar) (a b : List Nat) : List Nat := g17g0 (g17v A a b)
section
variable {R : Type} (A : Ar) (n : Nat) (K : Ex → St → Option R) (s : St)
end
def g10J10 {R : Type} (A : Ar) (n : Nat) (kk : AV → Heap → Option R) (lg10L8 : List Nat → Int → List Nat → Option R) (x0 : List Nat) (x1 : Int) (x2 : List Nat) : Option R :=
  match (generalizing := false) A.neg (A.ib .add .i64 x1 128) with
  | true => none
  | false => match (generalizing := false) A.le (A.toN (A.ib .add .i64 x1 128)) x0.length with
    | true => match (generalizing := false) A.neg x1 with
      | true => none
      | false => match (generalizing := false) A.le (A.toN x1) (A.toN (A.ib .add .i64 x1 128)) with
        | true => match (generalizing := false) g17ok A x2 ((x0.take (A.toN (A.ib .add .i64 x1 128))).drop (A.toN x1)) with
          | true => lg10L8 x0 (A.ib .add .i64 x1 128) (g17r0 A x2 ((x0.take (A.toN (A.ib .add .i64 x1 128))).drop (A.toN x1)))
          | false => none
        | false => none
    | false => none
def g10J11 {R : Type} (A : Ar) (n : Nat) (kk : AV → Heap → Option R)  (x0 : List Nat) : Option R :=
  match (generalizing := false) g16ok A (x0.getD 0 0) with
  | true => match (generalizing := false) g16ok A (x0.getD 1 0) with
    | true => match (generalizing := false) A.le ((g16r0 A (x0.getD 0 0)).length + (g16r0 A (x0.getD 1 0)).length) 9223372036854775807 with
      | true => match (generalizing := false) g16ok A (x0.getD 2 0) with
        | true => match (generalizing := false) A.le (((g16r0 A (x0.getD 0 0)) ++ (g16r0 A (x0.getD 1 0))).length + (g16r0 A (x0.getD 2 0)).length) 9223372036854775807 with
          | true => match (generalizing := false) g16ok A (x0.getD 3 0) with
            | true => match (generalizing := false) A.le ((((g16r0 A (x0.getD 0 0)) ++ (g16r0 A (x0.getD 1 0))) ++ (g16r0 A (x0.getD 2 0))).length + (g16r0 A (x0.getD 3 0)).length) 9223372036854775807 with
              | true => match (generalizing := false) g16ok A (x0.getD 4 0) with
                | true => match (generalizing := false) A.le (((((g16r0 A (x0.getD 0 0)) ++ (g16r0 A (x0.getD 1 0))) ++ (g16r0 A (x0.getD 2 0))) ++ (g16r0 A (x0.getD 3 0))).length + (g16r0 A (x0.getD 4 0)).length) 9223372036854775807 with
                  | true => match (generalizing := false) g16ok A (x0.getD 5 0) with
                    | true => match (generalizing := false) A.le ((((((g16r0 A (x0.getD 0 0)) ++ (g16r0 A (x0.getD 1 0))) ++ (g16r0 A (x0.getD 2 0))) ++ (g16r0 A (x0.getD 3 0))) ++ (g16r0 A (x0.getD 4 0))).length + (g16r0 A (x0.getD 5 0)).length) 9223372036854775807 with
                      | true => match (generalizing := false) g16ok A (x0.getD 6 0) with
                        | true => match (generalizing := false) A.le (((((((g16r0 A (x0.getD 0 0)) ++ (g16r0 A (x0.getD 1 0))) ++ (g16r0 A (x0.getD 2 0))) ++ (g16r0 A (x0.getD 3 0))) ++ (g16r0 A (x0.getD 4 0))) ++ (g16r0 A (x0.getD 5 0))).length + (g16r0 A (x0.getD 6 0)).length) 9223372036854775807 with
                          | true => match (generalizing := false) g16ok A (x0.getD 7 0) with
                            | true => match (generalizing := false) A.le ((((((((g16r0 A (x0.getD 0 0)) ++ (g16r0 A (x0.getD 1 0))) ++ (g16r0 A (x0.getD 2 0))) ++ (g16r0 A (x0.getD 3 0))) ++ (g16r0 A (x0.getD 4 0))) ++ (g16r0 A (x0.getD 5 0))) ++ (g16r0 A (x0.getD 6 0))).length + (g16r0 A (x0.getD 7 0)).length) 9223372036854775807 with
                              | true => kk (tS ((((((((g16r0 A (x0.getD 0 0)) ++ (g16r0 A (x0.getD 1 0))) ++ (g16r0 A (x0.getD 2 0))) ++ (g16r0 A (x0.getD 3 0))) ++ (g16r0 A (x0.getD 4 0))) ++ (g16r0 A (x0.getD 5 0))) ++ (g16r0 A (x0.getD 6 0))) ++ (g16r0 A (x0.getD 7 0)))) [(7001, (bU 8 x0 40))]
                              | false => none
                            | false => none
                          | false => none
                        | false => none
                      | false => none
                    | false => none
                  | false => none
                | false => none
              | false => none
            | false => none
          | false => none
        | false => none
      | false => none
    | false => none
  | false => none
def g10L8 {R : Type} (A : Ar) (n : Nat) (kk : AV → Heap → Option R)  : Nat → List Nat → Int → List Nat → Option R
  | 0, _, _, _ => none
  | m + 1, x0, x1, x2 => match (generalizing := false) A.ic .lss x1 (A.ofN x0.length) with
  | true => g10J10 A n kk (g10L8 A n kk  m) x0 x1 x2
  | false => g10J11 A n kk  x2
def g10J5 {R : Type} (A : Ar) (n : Nat) (kk : AV → Heap → Option R)  (x0 : List Nat) (x1 : Nat) : Option R :=
  match (generalizing := false) g16ok A (A.nsh .shr .u64 x1 61) with
  | true => match (generalizing := false) A.le (x0.length + (g16r0 A (A.nsh .shr .u64 x1 61)).length) 9223372036854775807 with
    | true => match (generalizing := false) g16ok A (A.nsh .shl .u64 x1 3) with
      | true => match (generalizing := false) A.le ((x0 ++ (g16r0 A (A.nsh .shr .u64 x1 61))).length + (g16r0 A (A.nsh .shl .u64 x1 3)).length) 9223372036854775807 with
        | true => g10L8 A n kk  n ((x0 ++ (g16r0 A (A.nsh .shr .u64 x1 61))) ++ (g16r0 A (A.nsh .shl .u64 x1 3))) 0 (((((((([0, 0, 0, 0, 0, 0, 0, 0].set 0 7640891576956012808).set 1 13503953896175478587).set 2 4354685564936845355).set 3 11912009170470909681).set 4 5840696475078001361).set 5 11170449401992604703).set 6 2270897969802886507).set 7 6620516959819538809)
        | false => none
      | false => none
    | false => none
  | false => none
def g10L3 {R : Type} (A : Ar) (n : Nat) (kk : AV → Heap → Option R)  : Nat → List Nat → Nat → Option R
  | 0, _, _ => none
  | m + 1, x0, x1 => match (generalizing := false) A.ic .neq (A.ib .rem .i64 (A.ofN x0.length) 128) 112 with
  | true => match (generalizing := false) A.le (x0.length + [0].length) 9223372036854775807 with
    | true => g10L3 A n kk  m (x0 ++ [0]) x1
    | false => none
  | false => g10J5 A n kk  x0 x1
def g10 {R : Type} (A : Ar) (n : Nat) (kk : AV → Heap → Option R) (a : List Nat) : Option R :=
  match (generalizing := false) A.le (a.length + [128].length) 9223372036854775807 with
  | true => g10L3 A n kk  n (a ++ [128]) (A.i2n .u64 (A.ofN a.length))
  | false => none
def g10is (o : Option AV) : Bool := match o with
  | some (.v (.cell (.str _))) => true
  | _ => false
def g10g0 (o : Option AV) : List Nat := match o with
  | some (.v (.cell (.str x))) => x
  | _ => []
def g10v (A : Ar) (a : List Nat) : Option AV := g10 A (100000) (fun v _ => some v) a
def g10ok (A : Ar) (a : List Nat) : Bool := g10is (g10v A a)
def g10r0 (A : Ar) (a : List Nat) : List Nat := g10g0 (g10v A a)
section
variable {R : Type} (A : Ar) (n : Nat) (K : Ex → St → Option R) (s : St)
end
def g3J4 {R : Type} (A : Ar) (n : Nat) (kk : AV → Heap → Option R)  (x0 : List Nat) (x1 : Bool) : Option R :=
  match (generalizing := false) A.neg (A.mn (A.ofN x0.length) 600) with
  | true => none
  | false => match (generalizing := false) A.le (A.toN (A.mn (A.ofN x0.length) 600)) x0.length with
    | true => match (generalizing := false) x1 with
      | true => match (generalizing := false) g9ok A ((x0.take (A.toN (A.mn (A.ofN x0.length) 600))).drop 0) with
        | true => match (generalizing := false) g10ok A ((x0.take (A.toN (A.mn (A.ofN x0.length) 600))).drop 0) with
          | true => kk (bO (A.sc .eql (g9r0 A ((x0.take (A.toN (A.mn (A.ofN x0.length) 600))).drop 0)) (g10r0 A ((x0.take (A.toN (A.mn (A.ofN x0.length) 600))).drop 0)))) []
          | false => none
        | false => none
      | false => kk (bO false) []
    | false => none
def g3 {R : Type} (A : Ar) (n : Nat) (kk : AV → Heap → Option R) (a : List Nat) : Option R :=
  match (generalizing := false) g8ok A with
  | true => match (generalizing := false) !(g8r0 A) with
    | true => kk (bO false) []
    | false => g3J4 A n kk  a (g8r0 A)
  | false => none
abbrev g5t0 (A : Ar) (x0 : List Nat) (x1 : Int) (x3 : List Nat) (x4 : Nat) (x5 : Int) (x6 : Nat) (x7 : List Nat) : List Nat := g13r0 A (g12r0 A ((x0.take (A.toN x1)).drop 0) x3 0 x4 x5 x6 x7) (g12r1 A ((x0.take (A.toN x1)).drop 0) x3 0 x4 x5 x6 x7) (g12r2 A ((x0.take (A.toN x1)).drop 0) x3 0 x4 x5 x6 x7) (g12r3 A ((x0.take (A.toN x1)).drop 0) x3 0 x4 x5 x6 x7) (g12r4 A ((x0.take (A.toN x1)).drop 0) x3 0 x4 x5 x6 x7) (g12r5 A ((x0.take (A.toN x1)).drop 0) x3 0 x4 x5 x6 x7)
abbrev g5t1 (A : Ar) (x0 : List Nat) (x1 : Int) (x3 : List Nat) (x4 : Nat) (x5 : Int) (x6 : Nat) (x7 : List Nat) : List Nat := g13r1 A (g12r0 A ((x0.take (A.toN x1)).drop 0) x3 0 x4 x5 x6 x7) (g12r1 A ((x0.take (A.toN x1)).drop 0) x3 0 x4 x5 x6 x7) (g12r2 A ((x0.take (A.toN x1)).drop 0) x3 0 x4 x5 x6 x7) (g12r3 A ((x0.take (A.toN x1)).drop 0) x3 0 x4 x5 x6 x7) (g12r4 A ((x0.take (A.toN x1)).drop 0) x3 0 x4 x5 x6 x7) (g12r5 A ((x0.take (A.toN x1)).drop 0) x3 0 x4 x5 x6 x7)
abbrev g5t2 (A : Ar) (x0 : List Nat) (x1 : Int) (x3 : List Nat) (x4 : Nat) (x5 : Int) (x6 : Nat) (x7 : List Nat) : Nat := g13r2 A (g12r0 A ((x0.take (A.toN x1)).drop 0) x3 0 x4 x5 x6 x7) (g12r1 A ((x0.take (A.toN x1)).drop 0) x3 0 x4 x5 x6 x7) (g12r2 A ((x0.take (A.toN x1)).drop 0) x3 0 x4 x5 x6 x7) (g12r3 A ((x0.take (A.toN x1)).drop 0) x3 0 x4 x5 x6 x7) (g12r4 A ((x0.take (A.toN x1)).drop 0) x3 0 x4 x5 x6 x7) (g12r5 A ((x0.take (A.toN x1)).drop 0) x3 0 x4 x5 x6 x7)
abbrev g5t3 (A : Ar) (x0 : List Nat) (x1 : Int) (x3 : List Nat) (x4 : Nat) (x5 : Int) (x6 : Nat) (x7 : List Nat) : Nat := g13r3 A (g12r0 A ((x0.take (A.toN x1)).drop 0) x3 0 x4 x5 x6 x7) (g12r1 A ((x0.take (A.toN x1)).drop 0) x3 0 x4 x5 x6 x7) (g12r2 A ((x0.take (A.toN x1)).drop 0) x3 0 x4 x5 x6 x7) (g12r3 A ((x0.take (A.toN x1)).drop 0) x3 0 x4 x5 x6 x7) (g12r4 A ((x0.take (A.toN x1)).drop 0) x3 0 x4 x5 x6 x7) (g12r5 A ((x0.take (A.toN x1)).drop 0) x3 0 x4 x5 x6 x7)
abbrev g5t4 (A : Ar) (x0 : List Nat) (x1 : Int) (x3 : List Nat) (x4 : Nat) (x5 : Int) (x6 : Nat) (x7 : List Nat) : Int := g13r4 A (g12r0 A ((x0.take (A.toN x1)).drop 0) x3 0 x4 x5 x6 x7) (g12r1 A ((x0.take (A.toN x1)).drop 0) x3 0 x4 x5 x6 x7) (g12r2 A ((x0.take (A.toN x1)).drop 0) x3 0 x4 x5 x6 x7) (g12r3 A ((x0.take (A.toN x1)).drop 0) x3 0 x4 x5 x6 x7) (g12r4 A ((x0.take (A.toN x1)).drop 0) x3 0 x4 x5 x6 x7) (g12r5 A ((x0.take (A.toN x1)).drop 0) x3 0 x4 x5 x6 x7)
abbrev g5t5 (A : Ar) (x0 : List Nat) (x1 : Int) (x3 : List Nat) (x4 : Nat) (x5 : Int) (x6 : Nat) (x7 : List Nat) : Nat := g13r5 A (g12r0 A ((x0.take (A.toN x1)).drop 0) x3 0 x4 x5 x6 x7) (g12r1 A ((x0.take (A.toN x1)).drop 0) x3 0 x4 x5 x6 x7) (g12r2 A ((x0.take (A.toN x1)).drop 0) x3 0 x4 x5 x6 x7) (g12r3 A ((x0.take (A.toN x1)).drop 0) x3 0 x4 x5 x6 x7) (g12r4 A ((x0.take (A.toN x1)).drop 0) x3 0 x4 x5 x6 x7) (g12r5 A ((x0.take (A.toN x1)).drop 0) x3 0 x4 x5 x6 x7)
abbrev g5t6 (A : Ar) (x0 : List Nat) (x1 : Int) (x3 : List Nat) (x4 : Nat) (x5 : Int) (x6 : Nat) (x7 : List Nat) : List Nat := g13r6 A (g12r0 A ((x0.take (A.toN x1)).drop 0) x3 0 x4 x5 x6 x7) (g12r1 A ((x0.take (A.toN x1)).drop 0) x3 0 x4 x5 x6 x7) (g12r2 A ((x0.take (A.toN x1)).drop 0) x3 0 x4 x5 x6 x7) (g12r3 A ((x0.take (A.toN x1)).drop 0) x3 0 x4 x5 x6 x7) (g12r4 A ((x0.take (A.toN x1)).drop 0) x3 0 x4 x5 x6 x7) (g12r5 A ((x0.take (A.toN x1)).drop 0) x3 0 x4 x5 x6 x7)
abbrev g5t7 (A : Ar) (x0 : List Nat) (x1 : Int) (x3 : List Nat) (x4 : Nat) (x5 : Int) (x6 : Nat) (x7 : List Nat) : List Nat := g12r0 A ((x0.take x0.length).drop (A.toN x1)) (g5t1 A x0 x1 x3 x4 x5 x6 x7) (g5t2 A x0 x1 x3 x4 x5 x6 x7) (g5t3 A x0 x1 x3 x4 x5 x6 x7) (g5t4 A x0 x1 x3 x4 x5 x6 x7) (g5t5 A x0 x1 x3 x4 x5 x6 x7) (g5t6 A x0 x1 x3 x4 x5 x6 x7)
abbrev g5t8 (A : Ar) (x0 : List Nat) (x1 : Int) (x3 : List Nat) (x4 : Nat) (x5 : Int) (x6 : Nat) (x7 : List Nat) : Nat := g12r1 A ((x0.take x0.length).drop (A.toN x1)) (g5t1 A x0 x1 x3 x4 x5 x6 x7) (g5t2 A x0 x1 x3 x4 x5 x6 x7) (g5t3 A x0 x1 x3 x4 x5 x6 x7) (g5t4 A x0 x1 x3 x4 x5 x6 x7) (g5t5 A x0 x1 x3 x4 x5 x6 x7) (g5t6 A x0 x1 x3 x4 x5 x6 x7)
abbrev g5t9 (A : Ar) (x0 : List Nat) (x1 : Int) (x3 : List Nat) (x4 : Nat) (x5 : Int) (x6 : Nat) (x7 : List Nat) : Nat := g12r2 A ((x0.take x0.length).drop (A.toN x1)) (g5t1 A x0 x1 x3 x4 x5 x6 x7) (g5t2 A x0 x1 x3 x4 x5 x6 x7) (g5t3 A x0 x1 x3 x4 x5 x6 x7) (g5t4 A x0 x1 x3 x4 x5 x6 x7) (g5t5 A x0 x1 x3 x4 x5 x6 x7) (g5t6 A x0 x1 x3 x4 x5 x6 x7)
abbrev g5t10 (A : Ar) (x0 : List Nat) (x1 : Int) (x3 : List Nat) (x4 : Nat) (x5 : Int) (x6 : Nat) (x7 : List Nat) : Int := g12r3 A ((x0.take x0.length).drop (A.toN x1)) (g5t1 A x0 x1 x3 x4 x5 x6 x7) (g5t2 A x0 x1 x3 x4 x5 x6 x7) (g5t3 A x0 x1 x3 x4 x5 x6 x7) (g5t4 A x0 x1 x3 x4 x5 x6 x7) (g5t5 A x0 x1 x3 x4 x5 x6 x7) (g5t6 A x0 x1 x3 x4 x5 x6 x7)
abbrev g5t11 (A : Ar) (x0 : List Nat) (x1 : Int) (x3 : List Nat) (x4 : Nat) (x5 : Int) (x6 : Nat) (x7 : List Nat) : Nat := g12r4 A ((x0.take x0.length).drop (A.toN x1)) (g5t1 A x0 x1 x3 x4 x5 x6 x7) (g5t2 A x0 x1 x3 x4 x5 x6 x7) (g5t3 A x0 x1 x3 x4 x5 x6 x7) (g5t4 A x0 x1 x3 x4 x5 x6 x7) (g5t5 A x0 x1 x3 x4 x5 x6 x7) (g5t6 A x0 x1 x3 x4 x5 x6 x7)
abbrev g5t12 (A : Ar) (x0 : List Nat) (x1 : Int) (x3 : List Nat) (x4 : Nat) (x5 : Int) (x6 : Nat) (x7 : List Nat) : List Nat := g12r5 A ((x0.take x0.length).drop (A.toN x1)) (g5t1 A x0 x1 x3 x4 x5 x6 x7) (g5t2 A x0 x1 x3 x4 x5 x6 x7) (g5t3 A x0 x1 x3 x4 x5 x6 x7) (g5t4 A x0 x1 x3 x4 x5 x6 x7) (g5t5 A x0 x1 x3 x4 x5 x6 x7) (g5t6 A x0 x1 x3 x4 x5 x6 x7)
abbrev g5t34 (A : Ar) (x0 : List Nat) (x1 : Int) (x3 : List Nat) (x4 : Nat) (x5 : Int) (x6 : Nat) (x7 : List Nat) : List Nat := g13r0 A (g5t7 A x0 x1 x3 x4 x5 x6 x7) (g5t8 A x0 x1 x3 x4 x5 x6 x7) (g5t9 A x0 x1 x3 x4 x5 x6 x7) (g5t10 A x0 x1 x3 x4 x5 x6 x7) (g5t11 A x0 x1 x3 x4 x5 x6 x7) (g5t12 A x0 x1 x3 x4 x5 x6 x7)
abbrev g5t35 (A : Ar) (x0 : List Nat) (x1 : Int) (x3 : List Nat) (x4 : Nat) (x5 : Int) (x6 : Nat) (x7 : List Nat) : List Nat := g13r1 A (g5t7 A x0 x1 x3 x4 x5 x6 x7) (g5t8 A x0 x1 x3 x4 x5 x6 x7) (g5t9 A x0 x1 x3 x4 x5 x6 x7) (g5t10 A x0 x1 x3 x4 x5 x6 x7) (g5t11 A x0 x1 x3 x4 x5 x6 x7) (g5t12 A x0 x1 x3 x4 x5 x6 x7)
abbrev g5t36 (A : Ar) (x0 : List Nat) (x1 : Int) (x3 : List Nat) (x4 : Nat) (x5 : Int) (x6 : Nat) (x7 : List Nat) : Nat := g13r2 A (g5t7 A x0 x1 x3 x4 x5 x6 x7) (g5t8 A x0 x1 x3 x4 x5 x6 x7) (g5t9 A x0 x1 x3 x4 x5 x6 x7) (g5t10 A x0 x1 x3 x4 x5 x6 x7) (g5t11 A x0 x1 x3 x4 x5 x6 x7) (g5t12 A x0 x1 x3 x4 x5 x6 x7)
abbrev g5t37 (A : Ar) (x0 : List Nat) (x1 : Int) (x3 : List Nat) (x4 : Nat) (x5 : Int) (x6 : Nat) (x7 : List Nat) : Nat := g13r3 A (g5t7 A x0 x1 x3 x4 x5 x6 x7) (g5t8 A x0 x1 x3 x4 x5 x6 x7) (g5t9 A x0 x1 x3 x4 x5 x6 x7) (g5t10 A x0 x1 x3 x4 x5 x6 x7) (g5t11 A x0 x1 x3 x4 x5 x6 x7) (g5t12 A x0 x1 x3 x4 x5 x6 x7)
abbrev g5t38 (A : Ar) (x0 : List Nat) (x1 : Int) (x3 : List Nat) (x4 : Nat) (x5 : Int) (x6 : Nat) (x7 : List Nat) : Int := g13r4 A (g5t7 A x0 x1 x3 x4 x5 x6 x7) (g5t8 A x0 x1 x3 x4 x5 x6 x7) (g5t9 A x0 x1 x3 x4 x5 x6 x7) (g5t10 A x0 x1 x3 x4 x5 x6 x7) (g5t11 A x0 x1 x3 x4 x5 x6 x7) (g5t12 A x0 x1 x3 x4 x5 x6 x7)
abbrev g5t39 (A : Ar) (x0 : List Nat) (x1 : Int) (x3 : List Nat) (x4 : Nat) (x5 : Int) (x6 : Nat) (x7 : List Nat) : Nat := g13r5 A (g5t7 A x0 x1 x3 x4 x5 x6 x7) (g5t8 A x0 x1 x3 x4 x5 x6 x7) (g5t9 A x0 x1 x3 x4 x5 x6 x7) (g5t10 A x0 x1 x3 x4 x5 x6 x7) (g5t11 A x0 x1 x3 x4 x5 x6 x7) (g5t12 A x0 x1 x3 x4 x5 x6 x7)
abbrev g5t40 (A : Ar) (x0 : List Nat) (x1 : Int) (x3 : List Nat) (x4 : Nat) (x5 : Int) (x6 : Nat) (x7 : List Nat) : List Nat := g13r6 A (g5t7 A x0 x1 x3 x4 x5 x6 x7) (g5t8 A x0 x1 x3 x4 x5 x6 x7) (g5t9 A x0 x1 x3 x4 x5 x6 x7) (g5t10 A x0 x1 x3 x4 x5 x6 x7) (g5t11 A x0 x1 x3 x4 x5 x6 x7) (g5t12 A x0 x1 x3 x4 x5 x6 x7)
abbrev g5t41 (A : Ar) (x0 : List Nat) (x1 : Int) (x3 : List Nat) (x4 : Nat) (x5 : Int) (x6 : Nat) (x7 : List Nat) : List Nat := g13r0 A (g5t35 A x0 x1 x3 x4 x5 x6 x7) (g5t36 A x0 x1 x3 x4 x5 x6 x7) (g5t37 A x0 x1 x3 x4 x5 x6 x7) (g5t38 A x0 x1 x3 x4 x5 x6 x7) (g5t39 A x0 x1 x3 x4 x5 x6 x7) (g5t40 A x0 x1 x3 x4 x5 x6 x7)
abbrev g5t42 (A : Ar) (x0 : List Nat) (x1 : Int) (x3 : List Nat) (x4 : Nat) (x5 : Int) (x6 : Nat) (x7 : List Nat) : List Nat := g13r1 A (g5t35 A x0 x1 x3 x4 x5 x6 x7) (g5t36 A x0 x1 x3 x4 x5 x6 x7) (g5t37 A x0 x1 x3 x4 x5 x6 x7) (g5t38 A x0 x1 x3 x4 x5 x6 x7) (g5t39 A x0 x1 x3 x4 x5 x6 x7) (g5t40 A x0 x1 x3 x4 x5 x6 x7)
abbrev g5t43 (A : Ar) (x0 : List Nat) (x1 : Int) (x3 : List Nat) (x4 : Nat) (x5 : Int) (x6 : Nat) (x7 : List Nat) : Nat := g13r2 A (g5t35 A x0 x1 x3 x4 x5 x6 x7) (g5t36 A x0 x1 x3 x4 x5 x6 x7) (g5t37 A x0 x1 x3 x4 x5 x6 x7) (g5t38 A x0 x1 x3 x4 x5 x6 x7) (g5t39 A x0 x1 x3 x4 x5 x6 x7) (g5t40 A x0 x1 x3 x4 x5 x6 x7)
abbrev g5t44 (A : Ar) (x0 : List Nat) (x1 : Int) (x3 : List Nat) (x4 : Nat) (x5 : Int) (x6 : Nat) (x7 : List Nat) : Nat := g13r3 A (g5t35 A x0 x1 x3 x4 x5 x6 x7) (g5t36 A x0 x1 x3 x4 x5 x6 x7) (g5t37 A x0 x1 x3 x4 x5 x6 x7) (g5t38 A x0 x1 x3 x4 x5 x6 x7) (g5t39 A x0 x1 x3 x4 x5 x6 x7) (g5t40 A x0 x1 x3 x4 x5 x6 x7)
abbrev g5t45 (A : Ar) (x0 : List Nat) (x1 : Int) (x3 : List Nat) (x4 : Nat) (x5 : Int) (x6 : Nat) (x7 : List Nat) : Int := g13r4 A (g5t35 A x0 x1 x3 x4 x5 x6 x7) (g5t36 A x0 x1 x3 x4 x5 x6 x7) (g5t37 A x0 x1 x3 x4 x5 x6 x7) (g5t38 A x0 x1 x3 x4 x5 x6 x7) (g5t39 A x0 x1 x3 x4 x5 x6 x7) (g5t40 A x0 x1 x3 x4 x5 x6 x7)
abbrev g5t46 (A : Ar) (x0 : List Nat) (x1 : Int) (x3 : List Nat) (x4 : Nat) (x5 : Int) (x6 : Nat) (x7 : List Nat) : Nat := g13r5 A (g5t35 A x0 x1 x3 x4 x5 x6 x7) (g5t36 A x0 x1 x3 x4 x5 x6 x7) (g5t37 A x0 x1 x3 x4 x5 x6 x7) (g5t38 A x0 x1 x3 x4 x5 x6 x7) (g5t39 A x0 x1 x3 x4 x5 x6 x7) (g5t40 A x0 x1 x3 x4 x5 x6 x7)
abbrev g5t47 (A : Ar) (x0 : List Nat) (x1 : Int) (x3 : List Nat) (x4 : Nat) (x5 : Int) (x6 : Nat) (x7 : List Nat) : List Nat := g13r6 A (g5t35 A x0 x1 x3 x4 x5 x6 x7) (g5t36 A x0 x1 x3 x4 x5 x6 x7) (g5t37 A x0 x1 x3 x4 x5 x6 x7) (g5t38 A x0 x1 x3 x4 x5 x6 x7) (g5t39 A x0 x1 x3 x4 x5 x6 x7) (g5t40 A x0 x1 x3 x4 x5 x6 x7)
abbrev g5t48 (A : Ar) (x0 : List Nat) (x1 : Int) (x3 : List Nat) (x4 : Nat) (x5 : Int) (x6 : Nat) (x7 : List Nat) : List Nat := g13r0 A (g5t42 A x0 x1 x3 x4 x5 x6 x7) (g5t43 A x0 x1 x3 x4 x5 x6 x7) (g5t44 A x0 x1 x3 x4 x5 x6 x7) (g5t45 A x0 x1 x3 x4 x5 x6 x7) (g5t46 A x0 x1 x3 x4 x5 x6 x7) (g5t47 A x0 x1 x3 x4 x5 x6 x7)
abbrev g5t49 (A : Ar) (x0 : List Nat) (x1 : Int) (x3 : List Nat) (x4 : Nat) (x5 : Int) (x6 : Nat) (x7 : List Nat) : List Nat := g13r1 A (g5t42 A x0 x1 x3 x4 x5 x6 x7) (g5t43 A x0 x1 x3 x4 x5 x6 x7) (g5t44 A x0 x1 x3 x4 x5 x6 x7) (g5t45 A x0 x1 x3 x4 x5 x6 x7) (g5t46 A x0 x1 x3 x4 x5 x6 x7) (g5t47 A x0 x1 x3 x4 x5 x6 x7)
abbrev g5t50 (A : Ar) (x0 : List Nat) (x1 : Int) (x3 : List Nat) (x4 : Nat) (x5 : Int) (x6 : Nat) (x7 : List Nat) : Nat := g13r2 A (g5t42 A x0 x1 x3 x4 x5 x6 x7) (g5t43 A x0 x1 x3 x4 x5 x6 x7) (g5t44 A x0 x1 x3 x4 x5 x6 x7) (g5t45 A x0 x1 x3 x4 x5 x6 x7) (g5t46 A x0 x1 x3 x4 x5 x6 x7) (g5t47 A x0 x1 x3 x4 x5 x6 x7)
abbrev g5t51 (A : Ar) (x0 : List Nat) (x1 : Int) (x3 : List Nat) (x4 : Nat) (x5 : Int) (x6 : Nat) (x7 : List Nat) : Nat := g13r3 A (g5t42 A x0 x1 x3 x4 x5 x6 x7) (g5t43 A x0 x1 x3 x4 x5 x6 x7) (g5t44 A x0 x1 x3 x4 x5 x6 x7) (g5t45 A x0 x1 x3 x4 x5 x6 x7) (g5t46 A x0 x1 x3 x4 x5 x6 x7) (g5t47 A x0 x1 x3 x4 x5 x6 x7)
abbrev g5t52 (A : Ar) (x0 : List Nat) (x1 : Int) (x3 : List Nat) (x4 : Nat) (x5 : Int) (x6 : Nat) (x7 : List Nat) : Int := g13r4 A (g5t42 A x0 x1 x3 x4 x5 x6 x7) (g5t43 A x0 x1 x3 x4 x5 x6 x7) (g5t44 A x0 x1 x3 x4 x5 x6 x7) (g5t45 A x0 x1 x3 x4 x5 x6 x7) (g5t46 A x0 x1 x3 x4 x5 x6 x7) (g5t47 A x0 x1 x3 x4 x5 x6 x7)
abbrev g5t53 (A : Ar) (x0 : List Nat) (x1 : Int) (x3 : List Nat) (x4 : Nat) (x5 : Int) (x6 : Nat) (x7 : List Nat) : Nat := g13r5 A (g5t42 A x0 x1 x3 x4 x5 x6 x7) (g5t43 A x0 x1 x3 x4 x5 x6 x7) (g5t44 A x0 x1 x3 x4 x5 x6 x7) (g5t45 A x0 x1 x3 x4 x5 x6 x7) (g5t46 A x0 x1 x3 x4 x5 x6 x7) (g5t47 A x0 x1 x3 x4 x5 x6 x7)
abbrev g5t54 (A : Ar) (x0 : List Nat) (x1 : Int) (x3 : List Nat) (x4 : Nat) (x5 : Int) (x6 : Nat) (x7 : List Nat) : List Nat := g13r6 A (g5t42 A x0 x1 x3 x4 x5 x6 x7) (g5t43 A x0 x1 x3 x4 x5 x6 x7) (g5t44 A x0 x1 x3 x4 x5 x6 x7) (g5t45 A x0 x1 x3 x4 x5 x6 x7) (g5t46 A x0 x1 x3 x4 x5 x6 x7) (g5t47 A x0 x1 x3 x4 x5 x6 x7)
abbrev g5t55 (A : Ar) (x0 : List Nat) (x1 : Int) (x3 : List Nat) (x4 : Nat) (x5 : Int) (x6 : Nat) (x7 : List Nat) : Int := g14r0 A (g5t49 A x0 x1 x3 x4 x5 x6 x7) (g5t50 A x0 x1 x3 x4 x5 x6 x7) (g5t51 A x0 x1 x3 x4 x5 x6 x7) (g5t52 A x0 x1 x3 x4 x5 x6 x7) (g5t53 A x0 x1 x3 x4 x5 x6 x7) (g5t54 A x0 x1 x3 x4 x5 x6 x7)
abbrev g5t56 (A : Ar) (x0 : List Nat) (x1 : Int) (x3 : List Nat) (x4 : Nat) (x5 : Int) (x6 : Nat) (x7 : List Nat) : List Nat := g14r1 A (g5t49 A x0 x1 x3 x4 x5 x6 x7) (g5t50 A x0 x1 x3 x4 x5 x6 x7) (g5t51 A x0 x1 x3 x4 x5 x6 x7) (g5t52 A x0 x1 x3 x4 x5 x6 x7) (g5t53 A x0 x1 x3 x4 x5 x6 x7) (g5t54 A x0 x1 x3 x4 x5 x6 x7)
abbrev g5t57 (A : Ar) (x0 : List Nat) (x1 : Int) (x3 : List Nat) (x4 : Nat) (x5 : Int) (x6 : Nat) (x7 : List Nat) : Nat := g14r2 A (g5t49 A x0 x1 x3 x4 x5 x6 x7) (g5t50 A x0 x1 x3 x4 x5 x6 x7) (g5t51 A x0 x1 x3 x4 x5 x6 x7) (g5t52 A x0 x1 x3 x4 x5 x6 x7) (g5t53 A x0 x1 x3 x4 x5 x6 x7) (g5t54 A x0 x1 x3 x4 x5 x6 x7)
abbrev g5t58 (A : Ar) (x0 : List Nat) (x1 : Int) (x3 : List Nat) (x4 : Nat) (x5 : Int) (x6 : Nat) (x7 : List Nat) : Nat := g14r3 A (g5t49 A x0 x1 x3 x4 x5 x6 x7) (g5t50 A x0 x1 x3 x4 x5 x6 x7) (g5t51 A x0 x1 x3 x4 x5 x6 x7) (g5t52 A x0 x1 x3 x4 x5 x6 x7) (g5t53 A x0 x1 x3 x4 x5 x6 x7) (g5t54 A x0 x1 x3 x4 x5 x6 x7)
abbrev g5t59 (A : Ar) (x0 : List Nat) (x1 : Int) (x3 : List Nat) (x4 : Nat) (x5 : Int) (x6 : Nat) (x7 : List Nat) : Int := g14r4 A (g5t49 A x0 x1 x3 x4 x5 x6 x7) (g5t50 A x0 x1 x3 x4 x5 x6 x7) (g5t51 A x0 x1 x3 x4 x5 x6 x7) (g5t52 A x0 x1 x3 x4 x5 x6 x7) (g5t53 A x0 x1 x3 x4 x5 x6 x7) (g5t54 A x0 x1 x3 x4 x5 x6 x7)
abbrev g5t60 (A : Ar) (x0 : List Nat) (x1 : Int) (x3 : List Nat) (x4 : Nat) (x5 : Int) (x6 : Nat) (x7 : List Nat) : Nat := g14r5 A (g5t49 A x0 x1 x3 x4 x5 x6 x7) (g5t50 A x0 x1 x3 x4 x5 x6 x7) (g5t51 A x0 x1 x3 x4 x5 x6 x7) (g5t52 A x0 x1 x3 x4 x5 x6 x7) (g5t53 A x0 x1 x3 x4 x5 x6 x7) (g5t54 A x0 x1 x3 x4 x5 x6 x7)
abbrev g5t61 (A : Ar) (x0 : List Nat) (x1 : Int) (x3 : List Nat) (x4 : Nat) (x5 : Int) (x6 : Nat) (x7 : List Nat) : List Nat := g14r6 A (g5t49 A x0 x1 x3 x4 x5 x6 x7) (g5t50 A x0 x1 x3 x4 x5 x6 x7) (g5t51 A x0 x1 x3 x4 x5 x6 x7) (g5t52 A x0 x1 x3 x4 x5 x6 x7) (g5t53 A x0 x1 x3 x4 x5 x6 x7) (g5t54 A x0 x1 x3 x4 x5 x6 x7)
section
variable {R : Type} (A : Ar) (n : Nat) (K : Ex → St → Option R) (s : St)
end
def g5J11 {R : Type} (A : Ar) (n : Nat) (kk : AV → Heap → Option R)  (x0 : List Nat) (x1 : Int) (x2 : Bool) (x3 : List Nat) (x4 : Nat) (x5 : Int) (x6 : Nat) (x7 : List Nat) : Option R :=
  match (generalizing := false) A.neg x1 with
  | true => none
  | false => match (generalizing := false) A.le (A.toN x1) x0.length with
    | true => match (generalizing := false) g12ok A ((x0.take (A.toN x1)).drop 0) x3 0 x4 x5 x6 x7 with
      | true => match (generalizing := false) g13ok A (g12r0 A ((x0.take (A.toN x1)).drop 0) x3 0 x4 x5 x6 x7) (g12r1 A ((x0.take (A.toN x1)).drop 0) x3 0 x4 x5 x6 x7) (g12r2 A ((x0.take (A.toN x1)).drop 0) x3 0 x4 x5 x6 x7) (g12r3 A ((x0.take (A.toN x1)).drop 0) x3 0 x4 x5 x6 x7) (g12r4 A ((x0.take (A.toN x1)).drop 0) x3 0 x4 x5 x6 x7) (g12r5 A ((x0.take (A.toN x1)).drop 0) x3 0 x4 x5 x6 x7) with
        | true => match (generalizing := false) A.neg x1 with
          | true => none
          | false => match (generalizing := false) A.le (A.toN x1) x0.length with
            | true => match (generalizing := false) g12ok A ((x0.take x0.length).drop (A.toN x1)) (g5t1 A x0 x1 x3 x4 x5 x6 x7) (g5t2 A x0 x1 x3 x4 x5 x6 x7) (g5t3 A x0 x1 x3 x4 x5 x6 x7) (g5t4 A x0 x1 x3 x4 x5 x6 x7) (g5t5 A x0 x1 x3 x4 x5 x6 x7) (g5t6 A x0 x1 x3 x4 x5 x6 x7) with
              | true => match (generalizing := false) x2 with
                | true => match (generalizing := false) g13ok A (g5t7 A x0 x1 x3 x4 x5 x6 x7) (g5t8 A x0 x1 x3 x4 x5 x6 x7) (g5t9 A x0 x1 x3 x4 x5 x6 x7) (g5t10 A x0 x1 x3 x4 x5 x6 x7) (g5t11 A x0 x1 x3 x4 x5 x6 x7) (g5t12 A x0 x1 x3 x4 x5 x6 x7) with
                  | true => match (generalizing := false) g9ok A x0 with
                    | true => match (generalizing := false) A.sc .eql (g5t34 A x0 x1 x3 x4 x5 x6 x7) (g9r0 A x0) with
                      | true => match (generalizing := false) g13ok A (g5t35 A x0 x1 x3 x4 x5 x6 x7) (g5t36 A x0 x1 x3 x4 x5 x6 x7) (g5t37 A x0 x1 x3 x4 x5 x6 x7) (g5t38 A x0 x1 x3 x4 x5 x6 x7) (g5t39 A x0 x1 x3 x4 x5 x6 x7) (g5t40 A x0 x1 x3 x4 x5 x6 x7) with
                        | true => match (generalizing := false) g13ok A (g5t42 A x0 x1 x3 x4 x5 x6 x7) (g5t43 A x0 x1 x3 x4 x5 x6 x7) (g5t44 A x0 x1 x3 x4 x5 x6 x7) (g5t45 A x0 x1 x3 x4 x5 x6 x7) (g5t46 A x0 x1 x3 x4 x5 x6 x7) (g5t47 A x0 x1 x3 x4 x5 x6 x7) with
                          | true => match (generalizing := false) A.sc .eql (g5t41 A x0 x1 x3 x4 x5 x6 x7) (g5t48 A x0 x1 x3 x4 x5 x6 x7) with
                            | true => match (generalizing := false) A.neg x1 with
                              | true => none
                              | false => match (generalizing := false) A.le (A.toN x1) x0.length with
                                | true => match (generalizing := false) g9ok A ((x0.take (A.toN x1)).drop 0) with
                                  | true => match (generalizing := false) A.sc .eql (g5t0 A x0 x1 x3 x4 x5 x6 x7) (g9r0 A ((x0.take (A.toN x1)).drop 0)) with
                                    | true => match (generalizing := false) A.ic .eql (A.ofN ((g5t0 A x0 x1 x3 x4 x5 x6 x7).length)) 64 with
                                      | true => match (generalizing := false) g14ok A (g5t49 A x0 x1 x3 x4 x5 x6 x7) (g5t50 A x0 x1 x3 x4 x5 x6 x7) (g5t51 A x0 x1 x3 x4 x5 x6 x7) (g5t52 A x0 x1 x3 x4 x5 x6 x7) (g5t53 A x0 x1 x3 x4 x5 x6 x7) (g5t54 A x0 x1 x3 x4 x5 x6 x7) with
                                        | true => kk (bO (A.ic .eql (g5t55 A x0 x1 x3 x4 x5 x6 x7) (A.ofN x0.length))) [(9000, ⟨[.nums .u64 88 (g5t56 A x0 x1 x3 x4 x5 x6 x7), .one (.sl 9500 (some (g5t57 A x0 x1 x3 x4 x5 x6 x7)) (g5t58 A x0 x1 x3 x4 x5 x6 x7) 1), .one (.int .i64 (g5t59 A x0 x1 x3 x4 x5 x6 x7))], 45, 1⟩), (9500, ⟨[.nums .u8 (g5t60 A x0 x1 x3 x4 x5 x6 x7) (g5t61 A x0 x1 x3 x4 x5 x6 x7)], 5, 2⟩)]
                                        | false => none
                                      | false => kk (bO false) [(9000, ⟨[.nums .u64 88 (g5t49 A x0 x1 x3 x4 x5 x6 x7), .one (.sl 9500 (some (g5t50 A x0 x1 x3 x4 x5 x6 x7)) (g5t51 A x0 x1 x3 x4 x5 x6 x7) 1), .one (.int .i64 (g5t52 A x0 x1 x3 x4 x5 x6 x7))], 45, 1⟩), (9500, ⟨[.nums .u8 (g5t53 A x0 x1 x3 x4 x5 x6 x7) (g5t54 A x0 x1 x3 x4 x5 x6 x7)], 5, 2⟩)]
                                    | false => kk (bO false) [(9000, ⟨[.nums .u64 88 (g5t49 A x0 x1 x3 x4 x5 x6 x7), .one (.sl 9500 (some (g5t50 A x0 x1 x3 x4 x5 x6 x7)) (g5t51 A x0 x1 x3 x4 x5 x6 x7) 1), .one (.int .i64 (g5t52 A x0 x1 x3 x4 x5 x6 x7))], 45, 1⟩), (9500, ⟨[.nums .u8 (g5t53 A x0 x1 x3 x4 x5 x6 x7) (g5t54 A x0 x1 x3 x4 x5 x6 x7)], 5, 2⟩)]
                                  | false => none
                                | false => none
                            | false => kk (bO false) [(9000, ⟨[.nums .u64 88 (g5t49 A x0 x1 x3 x4 x5 x6 x7), .one (.sl 9500 (some (g5t50 A x0 x1 x3 x4 x5 x6 x7)) (g5t51 A x0 x1 x3 x4 x5 x6 x7) 1), .one (.int .i64 (g5t52 A x0 x1 x3 x4 x5 x6 x7))], 45, 1⟩), (9500, ⟨[.nums .u8 (g5t53 A x0 x1 x3 x4 x5 x6 x7) (g5t54 A x0 x1 x3 x4 x5 x6 x7)], 5, 2⟩)]
                          | false => none
                        | false => none
                      | false => kk (bO false) [(9000, ⟨[.nums .u64 88 (g5t35 A x0 x1 x3 x4 x5 x6 x7), .one (.sl 9500 (some (g5t36 A x0 x1 x3 x4 x5 x6 x7)) (g5t37 A x0 x1 x3 x4 x5 x6 x7) 1), .one (.int .i64 (g5t38 A x0 x1 x3 x4 x5 x6 x7))], 45, 1⟩), (9500, ⟨[.nums .u8 (g5t39 A x0 x1 x3 x4 x5 x6 x7) (g5t40 A x0 x1 x3 x4 x5 x6 x7)], 5, 2⟩)]
                    | false => none
                  | false => none
                | false => kk (bO false) [(9000, ⟨[.nums .u64 88 (g5t7 A x0 x1 x3 x4 x5 x6 x7), .one (.sl 9500 (some (g5t8 A x0 x1 x3 x4 x5 x6 x7)) (g5t9 A x0 x1 x3 x4 x5 x6 x7) 1), .one (.int .i64 (g5t10 A x0 x1 x3 x4 x5 x6 x7))], 45, 1⟩), (9500, ⟨[.nums .u8 (g5t11 A x0 x1 x3 x4 x5 x6 x7) (g5t12 A x0 x1 x3 x4 x5 x6 x7)], 5, 2⟩)]
              | false => none
            | false => none
        | false => none
      | false => none
    | false => none
def g5J7 {R : Type} (A : Ar) (n : Nat) (kk : AV → Heap → Option R)  (x0 : List Nat) (x1 : Int) (x2 : Bool) : Option R :=
  match (generalizing := false) A.ic .eql (A.ib .add .i64 (A.ofN x0.length) 1) 0 with
  | true => none
  | false => match (generalizing := false) g11ok A with
    | true => g5J11 A n kk  x0 (A.ib .rem .i64 x1 (A.ib .add .i64 (A.ofN x0.length) 1)) x2 (g11r0 A) 0 (g11r1 A) 0 []
    | false => none
def g5J4 {R : Type} (A : Ar) (n : Nat) (kk : AV → Heap → Option R)  (x0 : List Nat) (x1 : Int) (x2 : Bool) : Option R :=
  match (generalizing := false) A.neg (A.mn (A.ofN x0.length) 500) with
  | true => none
  | false => match (generalizing := false) A.le (A.toN (A.mn (A.ofN x0.length) 500)) x0.length with
    | true => match (generalizing := false) A.ic .lss x1 0 with
      | true => g5J7 A n kk  ((x0.take (A.toN (A.mn (A.ofN x0.length) 500))).drop 0) (A.ib .sub .i64 0 (A.ib .add .i64 x1 1)) x2
      | false => g5J7 A n kk  ((x0.take (A.toN (A.mn (A.ofN x0.length) 500))).drop 0) x1 x2
    | false => none
def g5 {R : Type} (A : Ar) (n : Nat) (kk : AV → Heap → Option R) (a : List Nat) (b : Int) : Option R :=
  match (generalizing := false) g8ok A with
  | true => match (generalizing := false) !(g8r0 A) with
    | true => kk (bO false) []
    | false => g5J4 A n kk  a b (g8r0 A)
  | false => none
section
variable {R : Type} (A : Ar) (n : Nat) (K : Ex → St → Option R) (s : St)
end
def g6J4 {R : Type} (A : Ar) (n : Nat) (kk : AV → Heap → Option R)  (x0 : Nat) (x1 : Bool) : Option R :=
  match (generalizing := false) A.neg (A.ofN x0) with
  | true => none
  | false => match (generalizing := false) A.neg (A.ofN x0) with
    | true => none
    | false => match (generalizing := false) A.le (A.toN (A.ofN x0)) (A.toN (A.ofN x0)) with
      | true => match (generalizing := false) A.le (A.toN (A.ofN x0)) 140737488355328 with
        | true => match (generalizing := false) x1 with
          | true => match (generalizing := false) g9ok A [] with
            | true => match (generalizing := false) g15ok A (g9r0 A []) with
              | true => match (generalizing := false) A.sc .eql (g15r0 A (g9r0 A [])) [99, 102, 56, 51, 101, 49, 51, 53, 55, 101, 101, 102, 98, 56, 98, 100, 102, 49, 53, 52, 50, 56, 53, 48, 100, 54, 54, 100, 56, 48, 48, 55, 100, 54, 50, 48, 101, 52, 48, 53, 48, 98, 53, 55, 49, 53, 100, 99, 56, 51, 102, 52, 97, 57, 50, 49, 100, 51, 54, 99, 101, 57, 99, 101, 52, 55, 100, 48, 100, 49, 51, 99, 53, 100, 56, 53, 102, 50, 98, 48, 102, 102, 56, 51, 49, 56, 100, 50, 56, 55, 55, 101, 101, 99, 50, 102, 54, 51, 98, 57, 51, 49, 98, 100, 52, 55, 52, 49, 55, 97, 56, 49, 97, 53, 51, 56, 51, 50, 55, 97, 102, 57, 50, 55, 100, 97, 51, 101] with
                | true => match (generalizing := false) g9ok A ((List.replicate (A.toN (A.ofN x0)) 0).take (A.toN (A.ofN x0))) with
                  | true => match (generalizing := false) A.ic .eql (A.ofN ((g9r0 A ((List.replicate (A.toN (A.ofN x0)) 0).take (A.toN (A.ofN x0)))).length)) 64 with
                    | true => match (generalizing := false) g9ok A ((List.replicate (A.toN (A.ofN x0)) 0).take (A.toN (A.ofN x0))) with
                      | true => match (generalizing := false) g9ok A ((List.replicate (A.toN (A.ofN x0)) 0).take (A.toN (A.ofN x0))) with
                        | true => kk (bO (A.sc .eql (g9r0 A ((List.replicate (A.toN (A.ofN x0)) 0).take (A.toN (A.ofN x0)))) (g9r0 A ((List.replicate (A.toN (A.ofN x0)) 0).take (A.toN (A.ofN x0)))))) []
                        | false => none
                      | false => none
                    | false => kk (bO false) []
                  | false => none
                | false => kk (bO false) []
              | false => none
            | false => none
          | false => kk (bO false) []
        | false => none
      | false => none
def g6 {R : Type} (A : Ar) (n : Nat) (kk : AV → Heap → Option R) (a : Nat) : Option R :=
  match (generalizing := false) g8ok A with
  | true => match (generalizing := false) !(g8r0 A) with
    | true => kk (bO false) []
    | false => g6J4 A n kk  a (g8r0 A)
  | false => none
end Go.Sx
