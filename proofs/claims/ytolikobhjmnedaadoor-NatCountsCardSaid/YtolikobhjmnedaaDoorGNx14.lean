-- A text of this session's own: written by its program gprint
import Derived.Test.YtolikobhjmnedaaDoorGNx0
import Derived.Test.YtolikobhjmnedaaDoorGNx7
import Derived.Test.YtolikobhjmnedaaDoorGNx8
import Derived.Test.YtolikobhjmnedaaDoorGNx9
import Derived.Test.YtolikobhjmnedaaDoorGNx11
import Derived.Test.YtolikobhjmnedaaDoorGNx13
-- shrunk
namespace Go.Proofs.YtolikobhjmnedaaDoor.GN
open Go.RowKit Go.Proofs.YtolikobhjmnedaaDoorW.PrintWords Go.Proofs.YtolikobhjmnedaaDoorW.PrintLast Go.Proofs.YtolikobhjmnedaaDoorW.PrintMore
attribute [local go_sem] max2_int min2_int max_two min_two max_three min_three max_four min_four   -- for this text's walks alone
set_option linter.unusedVariables false
set_option linter.unusedSimpArgs false

/-! ### gamehalllaw2_NatCounts: function 6 -/
mutual
def gamehalllaw2_NatCounts.j0 : Nat → Int → Int → ByteArray → Int → ByteArray → Int → Bool → Option (Bool)
 | 0, _, _, _, _, _, _, _ => none
 | k + 1, x0, x1, x5, x6, x7, x8, x32 => if x32 = true then (if x6 = 4 then (if x8 = 4 then (if x5.toList = ([] : List UInt8) then (some (x7.toList == ([] : List UInt8))) else (some false)) else (some false)) else (some false)) else (if x1 < 0 then (gamehalllaw2_NatCounts.j1 k x0 x1 x5 x6 x7 x8 true) else (gamehalllaw2_NatCounts.j1 k x0 x1 x5 x6 x7 x8 (decide (x1 > x0))))
def gamehalllaw2_NatCounts.j1 : Nat → Int → Int → ByteArray → Int → ByteArray → Int → Bool → Option (Bool)
 | 0, _, _, _, _, _, _, _ => none
 | k + 1, x0, x1, x5, x6, x7, x8, x53 => if x53 = true then (if x8 = 4 then (if x7.toList = ([] : List UInt8) then (gamehalllaw2_NatCounts.j2 k x0 x1 x5 x6 x7 x8) else (some false)) else (some false)) else (gamehalllaw2_NatCounts.j2 k x0 x1 x5 x6 x7 x8)
def gamehalllaw2_NatCounts.j2 : Nat → Int → Int → ByteArray → Int → ByteArray → Int → Option (Bool)
 | 0, _, _, _, _, _, _ => none
 | k + 1, x0, x1, x5, x6, x7, x8 => if x0 > 25 then (if x6 = 0 then (some true) else (if x6 = 2 then (some (x5.toList == ([] : List UInt8))) else (some false))) else (gamehalllaw2_NatCounts.l0 k x0 x1 x5 x6 x7 x8 (⟨#[49]⟩ : ByteArray) x0 0)
def gamehalllaw2_NatCounts.l0 : Nat → Int → Int → ByteArray → Int → ByteArray → Int → ByteArray → Int → Int → Option (Bool)
 | 0, _, _, _, _, _, _, _, _, _ => none
 | k + 1, x0, x1, x5, x6, x7, x8, x9, x72, x73 => if x73 < x72 then ((gamehallref2_RatInt.f k (wrap64 (x73 + 1))).bind fun t487 => ((gamehallref2_NatMul.f k x9 t487).bind fun t488 => (gamehalllaw2_NatCounts.l0 k x0 x1 x5 x6 x7 x8 t488 x72 (wrap64 (x73 + 1))))) else (gamehalllaw2_NatCounts.l1 k x0 x1 x5 x6 x7 x8 x9 (([(⟨#[49]⟩ : ByteArray)] : List ByteArray)) x0 0)
def gamehalllaw2_NatCounts.l1 : Nat → Int → Int → ByteArray → Int → ByteArray → Int → ByteArray → List ByteArray → Int → Int → Option (Bool)
 | 0, _, _, _, _, _, _, _, _, _, _ => none
 | k + 1, x0, x1, x5, x6, x7, x8, x9, x11, x83, x84 => if x84 < x83 then (if 1 ≤ (x11.length : Int) then (gamehalllaw2_NatCounts.l2 k x0 x1 x5 x6 x7 x8 x9 x11 (([(⟨#[49]⟩ : ByteArray)] : List ByteArray)) x83 x84 ((x11.drop 1).length : Int) 0) else (none)) else (if x6 = 0 then (if x5.toList = x9.toList then (if x1 < 0 then (some true) else (if x1 > x0 then (some true) else (if x8 = 0 then (if 0 ≤ x1 then (if x1 < (x11.length : Int) then (some (x7.toList == (rdOf ByteArray.empty x11 x1).toList)) else (none)) else (none)) else (some false)))) else (some false)) else (some false))
def gamehalllaw2_NatCounts.l2 : Nat → Int → Int → ByteArray → Int → ByteArray → Int → ByteArray → List ByteArray → List ByteArray → Int → Int → Int → Int → Option (Bool)
 | 0, _, _, _, _, _, _, _, _, _, _, _, _, _ => none
 | k + 1, x0, x1, x5, x6, x7, x8, x9, x11, x12, x83, x84, x89, x90 => if x90 < x89 then (if 0 ≤ x90 then (if x90 < (x11.length : Int) then (if 0 ≤ (wrap64 (x90 + 1)) then (if (wrap64 (x90 + 1)) < (x11.length : Int) then ((gamehallref2_NatAdd.f k (rdOf ByteArray.empty x11 x90) (rdOf ByteArray.empty x11 (wrap64 (x90 + 1)))).bind fun t502 => (if x12.length < 8796093022208 then (gamehalllaw2_NatCounts.l2 k x0 x1 x5 x6 x7 x8 x9 x11 (x12 ++ [t502]) x83 x84 x89 (wrap64 (x90 + 1))) else (none))) else (none)) else (none)) else (none)) else (none)) else (if x12.length < 8796093022208 then (gamehalllaw2_NatCounts.l1 k x0 x1 x5 x6 x7 x8 x9 (x12 ++ [(⟨#[49]⟩ : ByteArray)]) x83 (wrap64 (x84 + 1))) else (none))
end
def gamehalllaw2_NatCounts.f (k : Nat) (a0 : Int) (a1 : Int) : Option (Bool) := (gamehalllaw2_natFact.f k).bind fun t482 => (if t482 = true then ((nat_Factorial.f k a0).bind fun bt483 => ((nat_Binomial.f k a0 a1).bind fun bt485 => (if a0 < 0 then (gamehalllaw2_NatCounts.j0 k a0 a1 bt483.1 bt483.2 bt485.1 bt485.2 true) else (gamehalllaw2_NatCounts.j0 k a0 a1 bt483.1 bt483.2 bt485.1 bt485.2 (decide (a0 > 1000)))))) else (some false))
theorem gamehalllaw2_NatCounts.mono_l : ∀ k, (∀ y0 y1 y2 y3 y4 y5 y6, LeO (gamehalllaw2_NatCounts.j0 k y0 y1 y2 y3 y4 y5 y6) (gamehalllaw2_NatCounts.j0 (k + 1) y0 y1 y2 y3 y4 y5 y6)) ∧ (∀ y0 y1 y2 y3 y4 y5 y6, LeO (gamehalllaw2_NatCounts.j1 k y0 y1 y2 y3 y4 y5 y6) (gamehalllaw2_NatCounts.j1 (k + 1) y0 y1 y2 y3 y4 y5 y6)) ∧ (∀ y0 y1 y2 y3 y4 y5, LeO (gamehalllaw2_NatCounts.j2 k y0 y1 y2 y3 y4 y5) (gamehalllaw2_NatCounts.j2 (k + 1) y0 y1 y2 y3 y4 y5)) ∧ (∀ y0 y1 y2 y3 y4 y5 y6 y7 y8, LeO (gamehalllaw2_NatCounts.l0 k y0 y1 y2 y3 y4 y5 y6 y7 y8) (gamehalllaw2_NatCounts.l0 (k + 1) y0 y1 y2 y3 y4 y5 y6 y7 y8)) ∧ (∀ y0 y1 y2 y3 y4 y5 y6 y7 y8 y9, LeO (gamehalllaw2_NatCounts.l1 k y0 y1 y2 y3 y4 y5 y6 y7 y8 y9) (gamehalllaw2_NatCounts.l1 (k + 1) y0 y1 y2 y3 y4 y5 y6 y7 y8 y9)) ∧ (∀ y0 y1 y2 y3 y4 y5 y6 y7 y8 y9 y10 y11 y12, LeO (gamehalllaw2_NatCounts.l2 k y0 y1 y2 y3 y4 y5 y6 y7 y8 y9 y10 y11 y12) (gamehalllaw2_NatCounts.l2 (k + 1) y0 y1 y2 y3 y4 y5 y6 y7 y8 y9 y10 y11 y12))
 | 0 => ⟨fun _ _ _ _ _ _ _ r h => by simp [gamehalllaw2_NatCounts.j0] at h, fun _ _ _ _ _ _ _ r h => by simp [gamehalllaw2_NatCounts.j1] at h, fun _ _ _ _ _ _ r h => by simp [gamehalllaw2_NatCounts.j2] at h, fun _ _ _ _ _ _ _ _ _ r h => by simp [gamehalllaw2_NatCounts.l0] at h, fun _ _ _ _ _ _ _ _ _ _ r h => by simp [gamehalllaw2_NatCounts.l1] at h, fun _ _ _ _ _ _ _ _ _ _ _ _ _ r h => by simp [gamehalllaw2_NatCounts.l2] at h⟩
 | k + 1 => by
  obtain ⟨ih0, ih1, ih2, ih3, ih4, ih5⟩ := gamehalllaw2_NatCounts.mono_l k
  refine ⟨?_, ?_, ?_, ?_, ?_, ?_⟩
  ·intro y0 y1 y2 y3 y4 y5 y6
   unfold gamehalllaw2_NatCounts.j0
   repeat' first
   | (with_reducible exact ih0 _ _ _ _ _ _ _)
   | (with_reducible exact ih1 _ _ _ _ _ _ _)
   | (with_reducible exact ih2 _ _ _ _ _ _)
   | (with_reducible exact ih3 _ _ _ _ _ _ _ _ _)
   | (with_reducible exact ih4 _ _ _ _ _ _ _ _ _ _)
   | (with_reducible exact ih5 _ _ _ _ _ _ _ _ _ _ _ _ _)
   | (with_reducible exact gamehalllaw2_natFact.mono _)
   | (with_reducible exact gamehallref2_NatAdd.mono _ _ _)
   | (with_reducible exact gamehallref2_NatMul.mono _ _ _)
   | (with_reducible exact gamehallref2_RatInt.mono _ _)
   | (with_reducible exact nat_Binomial.mono _ _ _)
   | (with_reducible exact nat_Factorial.mono _ _)
   | (with_reducible exact LeO.refl _)
   | (with_reducible exact LeO.none _)
   | (with_reducible refine LeO.ite ?_ ?_)
   | (with_reducible refine LeO.bind ?_ (fun _ => ?_))
   | exact ih0 _ _ _ _ _ _ _
   | exact ih1 _ _ _ _ _ _ _
   | exact ih2 _ _ _ _ _ _
   | exact ih3 _ _ _ _ _ _ _ _ _
   | exact ih4 _ _ _ _ _ _ _ _ _ _
   | exact ih5 _ _ _ _ _ _ _ _ _ _ _ _ _
   | exact gamehalllaw2_natFact.mono _
   | exact gamehallref2_NatAdd.mono _ _ _
   | exact gamehallref2_NatMul.mono _ _ _
   | exact gamehallref2_RatInt.mono _ _
   | exact nat_Binomial.mono _ _ _
   | exact nat_Factorial.mono _ _
   | exact LeO.none _
   | refine LeO.ite ?_ ?_
   | refine LeO.bind ?_ (fun _ => ?_)
  ·intro y0 y1 y2 y3 y4 y5 y6
   unfold gamehalllaw2_NatCounts.j1
   repeat' first
   | (with_reducible exact ih0 _ _ _ _ _ _ _)
   | (with_reducible exact ih1 _ _ _ _ _ _ _)
   | (with_reducible exact ih2 _ _ _ _ _ _)
   | (with_reducible exact ih3 _ _ _ _ _ _ _ _ _)
   | (with_reducible exact ih4 _ _ _ _ _ _ _ _ _ _)
   | (with_reducible exact ih5 _ _ _ _ _ _ _ _ _ _ _ _ _)
   | (with_reducible exact gamehalllaw2_natFact.mono _)
   | (with_reducible exact gamehallref2_NatAdd.mono _ _ _)
   | (with_reducible exact gamehallref2_NatMul.mono _ _ _)
   | (with_reducible exact gamehallref2_RatInt.mono _ _)
   | (with_reducible exact nat_Binomial.mono _ _ _)
   | (with_reducible exact nat_Factorial.mono _ _)
   | (with_reducible exact LeO.refl _)
   | (with_reducible exact LeO.none _)
   | (with_reducible refine LeO.ite ?_ ?_)
   | (with_reducible refine LeO.bind ?_ (fun _ => ?_))
   | exact ih0 _ _ _ _ _ _ _
   | exact ih1 _ _ _ _ _ _ _
   | exact ih2 _ _ _ _ _ _
   | exact ih3 _ _ _ _ _ _ _ _ _
   | exact ih4 _ _ _ _ _ _ _ _ _ _
   | exact ih5 _ _ _ _ _ _ _ _ _ _ _ _ _
   | exact gamehalllaw2_natFact.mono _
   | exact gamehallref2_NatAdd.mono _ _ _
   | exact gamehallref2_NatMul.mono _ _ _
   | exact gamehallref2_RatInt.mono _ _
   | exact nat_Binomial.mono _ _ _
   | exact nat_Factorial.mono _ _
   | exact LeO.none _
   | refine LeO.ite ?_ ?_
   | refine LeO.bind ?_ (fun _ => ?_)
  ·intro y0 y1 y2 y3 y4 y5
   unfold gamehalllaw2_NatCounts.j2
   repeat' first
   | (with_reducible exact ih0 _ _ _ _ _ _ _)
   | (with_reducible exact ih1 _ _ _ _ _ _ _)
   | (with_reducible exact ih2 _ _ _ _ _ _)
   | (with_reducible exact ih3 _ _ _ _ _ _ _ _ _)
   | (with_reducible exact ih4 _ _ _ _ _ _ _ _ _ _)
   | (with_reducible exact ih5 _ _ _ _ _ _ _ _ _ _ _ _ _)
   | (with_reducible exact gamehalllaw2_natFact.mono _)
   | (with_reducible exact gamehallref2_NatAdd.mono _ _ _)
   | (with_reducible exact gamehallref2_NatMul.mono _ _ _)
   | (with_reducible exact gamehallref2_RatInt.mono _ _)
   | (with_reducible exact nat_Binomial.mono _ _ _)
   | (with_reducible exact nat_Factorial.mono _ _)
   | (with_reducible exact LeO.refl _)
   | (with_reducible exact LeO.none _)
   | (with_reducible refine LeO.ite ?_ ?_)
   | (with_reducible refine LeO.bind ?_ (fun _ => ?_))
   | exact ih0 _ _ _ _ _ _ _
   | exact ih1 _ _ _ _ _ _ _
   | exact ih2 _ _ _ _ _ _
   | exact ih3 _ _ _ _ _ _ _ _ _
   | exact ih4 _ _ _ _ _ _ _ _ _ _
   | exact ih5 _ _ _ _ _ _ _ _ _ _ _ _ _
   | exact gamehalllaw2_natFact.mono _
   | exact gamehallref2_NatAdd.mono _ _ _
   | exact gamehallref2_NatMul.mono _ _ _
   | exact gamehallref2_RatInt.mono _ _
   | exact nat_Binomial.mono _ _ _
   | exact nat_Factorial.mono _ _
   | exact LeO.none _
   | refine LeO.ite ?_ ?_
   | refine LeO.bind ?_ (fun _ => ?_)
  ·intro y0 y1 y2 y3 y4 y5 y6 y7 y8
   unfold gamehalllaw2_NatCounts.l0
   repeat' first
   | (with_reducible exact ih0 _ _ _ _ _ _ _)
   | (with_reducible exact ih1 _ _ _ _ _ _ _)
   | (with_reducible exact ih2 _ _ _ _ _ _)
   | (with_reducible exact ih3 _ _ _ _ _ _ _ _ _)
   | (with_reducible exact ih4 _ _ _ _ _ _ _ _ _ _)
   | (with_reducible exact ih5 _ _ _ _ _ _ _ _ _ _ _ _ _)
   | (with_reducible exact gamehalllaw2_natFact.mono _)
   | (with_reducible exact gamehallref2_NatAdd.mono _ _ _)
   | (with_reducible exact gamehallref2_NatMul.mono _ _ _)
   | (with_reducible exact gamehallref2_RatInt.mono _ _)
   | (with_reducible exact nat_Binomial.mono _ _ _)
   | (with_reducible exact nat_Factorial.mono _ _)
   | (with_reducible exact LeO.refl _)
   | (with_reducible exact LeO.none _)
   | (with_reducible refine LeO.ite ?_ ?_)
   | (with_reducible refine LeO.bind ?_ (fun _ => ?_))
   | exact ih0 _ _ _ _ _ _ _
   | exact ih1 _ _ _ _ _ _ _
   | exact ih2 _ _ _ _ _ _
   | exact ih3 _ _ _ _ _ _ _ _ _
   | exact ih4 _ _ _ _ _ _ _ _ _ _
   | exact ih5 _ _ _ _ _ _ _ _ _ _ _ _ _
   | exact gamehalllaw2_natFact.mono _
   | exact gamehallref2_NatAdd.mono _ _ _
   | exact gamehallref2_NatMul.mono _ _ _
   | exact gamehallref2_RatInt.mono _ _
   | exact nat_Binomial.mono _ _ _
   | exact nat_Factorial.mono _ _
   | exact LeO.none _
   | refine LeO.ite ?_ ?_
   | refine LeO.bind ?_ (fun _ => ?_)
  ·intro y0 y1 y2 y3 y4 y5 y6 y7 y8 y9
   unfold gamehalllaw2_NatCounts.l1
   repeat' first
   | (with_reducible exact ih0 _ _ _ _ _ _ _)
   | (with_reducible exact ih1 _ _ _ _ _ _ _)
   | (with_reducible exact ih2 _ _ _ _ _ _)
   | (with_reducible exact ih3 _ _ _ _ _ _ _ _ _)
   | (with_reducible exact ih4 _ _ _ _ _ _ _ _ _ _)
   | (with_reducible exact ih5 _ _ _ _ _ _ _ _ _ _ _ _ _)
   | (with_reducible exact gamehalllaw2_natFact.mono _)
   | (with_reducible exact gamehallref2_NatAdd.mono _ _ _)
   | (with_reducible exact gamehallref2_NatMul.mono _ _ _)
   | (with_reducible exact gamehallref2_RatInt.mono _ _)
   | (with_reducible exact nat_Binomial.mono _ _ _)
   | (with_reducible exact nat_Factorial.mono _ _)
   | (with_reducible exact LeO.refl _)
   | (with_reducible exact LeO.none _)
   | (with_reducible refine LeO.ite ?_ ?_)
   | (with_reducible refine LeO.bind ?_ (fun _ => ?_))
   | exact ih0 _ _ _ _ _ _ _
   | exact ih1 _ _ _ _ _ _ _
   | exact ih2 _ _ _ _ _ _
   | exact ih3 _ _ _ _ _ _ _ _ _
   | exact ih4 _ _ _ _ _ _ _ _ _ _
   | exact ih5 _ _ _ _ _ _ _ _ _ _ _ _ _
   | exact gamehalllaw2_natFact.mono _
   | exact gamehallref2_NatAdd.mono _ _ _
   | exact gamehallref2_NatMul.mono _ _ _
   | exact gamehallref2_RatInt.mono _ _
   | exact nat_Binomial.mono _ _ _
   | exact nat_Factorial.mono _ _
   | exact LeO.none _
   | refine LeO.ite ?_ ?_
   | refine LeO.bind ?_ (fun _ => ?_)
  ·intro y0 y1 y2 y3 y4 y5 y6 y7 y8 y9 y10 y11 y12
   unfold gamehalllaw2_NatCounts.l2
   repeat' first
   | (with_reducible exact ih0 _ _ _ _ _ _ _)
   | (with_reducible exact ih1 _ _ _ _ _ _ _)
   | (with_reducible exact ih2 _ _ _ _ _ _)
   | (with_reducible exact ih3 _ _ _ _ _ _ _ _ _)
   | (with_reducible exact ih4 _ _ _ _ _ _ _ _ _ _)
   | (with_reducible exact ih5 _ _ _ _ _ _ _ _ _ _ _ _ _)
   | (with_reducible exact gamehalllaw2_natFact.mono _)
   | (with_reducible exact gamehallref2_NatAdd.mono _ _ _)
   | (with_reducible exact gamehallref2_NatMul.mono _ _ _)
   | (with_reducible exact gamehallref2_RatInt.mono _ _)
   | (with_reducible exact nat_Binomial.mono _ _ _)
   | (with_reducible exact nat_Factorial.mono _ _)
   | (with_reducible exact LeO.refl _)
   | (with_reducible exact LeO.none _)
   | (with_reducible refine LeO.ite ?_ ?_)
   | (with_reducible refine LeO.bind ?_ (fun _ => ?_))
   | exact ih0 _ _ _ _ _ _ _
   | exact ih1 _ _ _ _ _ _ _
   | exact ih2 _ _ _ _ _ _
   | exact ih3 _ _ _ _ _ _ _ _ _
   | exact ih4 _ _ _ _ _ _ _ _ _ _
   | exact ih5 _ _ _ _ _ _ _ _ _ _ _ _ _
   | exact gamehalllaw2_natFact.mono _
   | exact gamehallref2_NatAdd.mono _ _ _
   | exact gamehallref2_NatMul.mono _ _ _
   | exact gamehallref2_RatInt.mono _ _
   | exact nat_Binomial.mono _ _ _
   | exact nat_Factorial.mono _ _
   | exact LeO.none _
   | refine LeO.ite ?_ ?_
   | refine LeO.bind ?_ (fun _ => ?_)
theorem gamehalllaw2_NatCounts.mono : ∀ a0 a1 k, LeO (gamehalllaw2_NatCounts.f k a0 a1) (gamehalllaw2_NatCounts.f (k + 1) a0 a1) := by
 intro a0 a1 k
 obtain ⟨ih0, ih1, ih2, ih3, ih4, ih5⟩ := gamehalllaw2_NatCounts.mono_l k
 unfold gamehalllaw2_NatCounts.f
 repeat' first
   | (with_reducible exact ih0 _ _ _ _ _ _ _)
   | (with_reducible exact ih1 _ _ _ _ _ _ _)
   | (with_reducible exact ih2 _ _ _ _ _ _)
   | (with_reducible exact ih3 _ _ _ _ _ _ _ _ _)
   | (with_reducible exact ih4 _ _ _ _ _ _ _ _ _ _)
   | (with_reducible exact ih5 _ _ _ _ _ _ _ _ _ _ _ _ _)
   | (with_reducible exact gamehalllaw2_natFact.mono _)
   | (with_reducible exact gamehallref2_NatAdd.mono _ _ _)
   | (with_reducible exact gamehallref2_NatMul.mono _ _ _)
   | (with_reducible exact gamehallref2_RatInt.mono _ _)
   | (with_reducible exact nat_Binomial.mono _ _ _)
   | (with_reducible exact nat_Factorial.mono _ _)
   | (with_reducible exact LeO.refl _)
   | (with_reducible exact LeO.none _)
   | (with_reducible refine LeO.ite ?_ ?_)
   | (with_reducible refine LeO.bind ?_ (fun _ => ?_))
   | exact ih0 _ _ _ _ _ _ _
   | exact ih1 _ _ _ _ _ _ _
   | exact ih2 _ _ _ _ _ _
   | exact ih3 _ _ _ _ _ _ _ _ _
   | exact ih4 _ _ _ _ _ _ _ _ _ _
   | exact ih5 _ _ _ _ _ _ _ _ _ _ _ _ _
   | exact gamehalllaw2_natFact.mono _
   | exact gamehallref2_NatAdd.mono _ _ _
   | exact gamehallref2_NatMul.mono _ _ _
   | exact gamehallref2_RatInt.mono _ _
   | exact nat_Binomial.mono _ _ _
   | exact nat_Factorial.mono _ _
   | exact LeO.none _
   | refine LeO.ite ?_ ?_
   | refine LeO.bind ?_ (fun _ => ?_)
def gamehalllaw2_NatCounts.T25 : Bool × List (List Nat × List Nat) := (true, [([], []), ([], []), ([], []), ([1, 2], [1, 2]), ([3], [3]), ([], []), ([], []), ([6], [6]), ([5, 7], [5, 7]), ([8], [8]), ([4, 9], [4, 9]), ([10], [10]), ([0, 11, 10], [0, 11]), ([12, 12, 0, 1, 2, 3, 4, 5, 6, 7, 8, 9, 10, 11, 12], [0, 12])])
def gamehalllaw2_NatCounts.B25 : List Nat := [0, 0, 0, 6, 14, 0, 0, 64, 224, 480, 1022, 2046, 4095, 8191]
theorem gamehalllaw2_NatCounts.tab25 : rtab .any (opsOf Tryd.f6 25) = gamehalllaw2_NatCounts.T25 := by kernel_rfl
theorem gamehalllaw2_NatCounts.bits25 : waitsOk gamehalllaw2_NatCounts.T25.2 gamehalllaw2_NatCounts.B25 = true := by kernel_rfl
set_option maxHeartbeats 8000000 in
set_option maxRecDepth 100000 in
theorem gamehalllaw2_NatCounts.calls (k : Nat) (a0 : Int) (a1 : Int) (r : Bool) (w : World) (h : gamehalllaw2_NatCounts.f k a0 a1 = some r) :
  Calls Tryd.prog 6 #[.int .i64 a0, .int .i64 a1] w fun e w' => e = .returned (.bool r) ∧ Below w.heap.size w w' := by
 have HB := Aside0.mk (Below.refl w.heap.size w)
 have H : ((gamehalllaw2_natFact.f k).bind fun t482 => (if t482 = true then ((nat_Factorial.f k a0).bind fun bt483 => ((nat_Binomial.f k a0 a1).bind fun bt485 => (if a0 < 0 then (gamehalllaw2_NatCounts.j0 k a0 a1 bt483.1 bt483.2 bt485.1 bt485.2 true) else (gamehalllaw2_NatCounts.j0 k a0 a1 bt483.1 bt483.2 bt485.1 bt485.2 (decide (a0 > 1000)))))) else (some false))) = some r := h
 clear h
 replace H := Option.bind_eq_some_iff.mp H
 obtain ⟨t482, A30, H⟩ := H
 replace H : (if t482 = true then ((nat_Factorial.f k a0).bind fun bt483 => ((nat_Binomial.f k a0 a1).bind fun bt485 => (if a0 < 0 then (gamehalllaw2_NatCounts.j0 k a0 a1 bt483.1 bt483.2 bt485.1 bt485.2 true) else (gamehalllaw2_NatCounts.j0 k a0 a1 bt483.1 bt483.2 bt485.1 bt485.2 (decide (a0 > 1000)))))) else (some false)) = some r := H
 have A3 := Aside0.mk A30
 clear A30
 by_cases c4 : t482 = true
 ·subst c4
  have H1 : ((nat_Factorial.f k a0).bind fun bt483 => ((nat_Binomial.f k a0 a1).bind fun bt485 => (if a0 < 0 then (gamehalllaw2_NatCounts.j0 k a0 a1 bt483.1 bt483.2 bt485.1 bt485.2 true) else (gamehalllaw2_NatCounts.j0 k a0 a1 bt483.1 bt483.2 bt485.1 bt485.2 (decide (a0 > 1000)))))) = some r := by rw [if_pos rfl] at H; exact H
  clear H
  have H := H1
  clear H1
  replace H := Option.bind_eq_some_iff.mp H
  obtain ⟨⟨t483, t484⟩, A50, H⟩ := H
  replace H : ((nat_Binomial.f k a0 a1).bind fun bt485 => (if a0 < 0 then (gamehalllaw2_NatCounts.j0 k a0 a1 t483 t484 bt485.1 bt485.2 true) else (gamehalllaw2_NatCounts.j0 k a0 a1 t483 t484 bt485.1 bt485.2 (decide (a0 > 1000))))) = some r := H
  have A5 := Aside0.mk A50
  clear A50
  replace H := Option.bind_eq_some_iff.mp H
  obtain ⟨⟨t485, t486⟩, A60, H⟩ := H
  replace H : (if a0 < 0 then (gamehalllaw2_NatCounts.j0 k a0 a1 t483 t484 t485 t486 true) else (gamehalllaw2_NatCounts.j0 k a0 a1 t483 t484 t485 t486 (decide (a0 > 1000)))) = some r := H
  have A6 := Aside0.mk A60
  clear A60
  have HC7 := Aside0.mk H
  clear H
  go_enter Tryd.func6, Tryd.ntmps6
  go_upto_region 5 with (first | ((with_reducible refine gate_callee (f := 12) rfl ?_); refine goesL_ (some 14) rfl rfl Tryd.func12 (by kernel_rfl) rfl #[] rfl (by (try simp only [List.map_toArray, List.map_cons, List.map_nil]); first | done | rfl | (simp only [List.length_drop, List.length_take]; rfl)) ?_; (with_reducible refine (gamehalllaw2_natFact.calls k  true _ A3.out).mono ?_); rintro e w8 ⟨rfl, hb⟩; refine ⟨_, rfl, ?_⟩; have n0_ := Aside0.mk (below_step (by repeat (first | exact HB.out | apply below_alloc | apply pw_below_drewN | apply below_drew1)) hb); clear HB; have HB := n0_; clear n0_; (try clear hb); (try clear hb2); (try clear hk); (try clear hi)) | ((with_reducible refine gate_callee (f := 29) rfl ?_); refine goesL_ (some 18) rfl rfl Tryd.func29 (by kernel_rfl) rfl #[.int .i64 a0] rfl (by (try simp only [List.map_toArray, List.map_cons, List.map_nil]); first | done | rfl | (simp only [List.length_drop, List.length_take]; rfl)) ?_; (with_reducible refine (nat_Factorial.calls k a0 t483 t484 _ A5.out).mono ?_); rintro e w9 ⟨rfl, hb⟩; refine ⟨_, rfl, ?_⟩; have n0_ := Aside0.mk (below_step (by repeat (first | exact HB.out | apply below_alloc | apply pw_below_drewN | apply below_drew1)) hb); clear HB; have HB := n0_; clear n0_; (try clear hb); (try clear hb2); (try clear hk); (try clear hi)) | ((with_reducible refine gate_callee (f := 30) rfl ?_); refine goesL_ (some 24) rfl rfl Tryd.func30 (by kernel_rfl) rfl #[.int .i64 a0, .int .i64 a1] rfl (by (try simp only [List.map_toArray, List.map_cons, List.map_nil]); first | done | rfl | (simp only [List.length_drop, List.length_take]; rfl)) ?_; (with_reducible refine (nat_Binomial.calls k a0 a1 t485 t486 _ A6.out).mono ?_); rintro e w10 ⟨rfl, hb⟩; refine ⟨_, rfl, ?_⟩; have n0_ := Aside0.mk (below_step (by repeat (first | exact HB.out | apply below_alloc | apply pw_below_drewN | apply below_drew1)) hb); clear HB; have HB := n0_; clear n0_; (try clear hb); (try clear hb2); (try clear hk); (try clear hi)))
  (try simp only [Act.put, List.setIfInBounds_toArray, List.set_cons_zero, List.set_cons_succ])
  go_cut [32] (fun v32 wc => ∃ (kq : Nat) (x32_6 : Bool), v32 = .bool x32_6 ∧ Aside0 (gamehalllaw2_NatCounts.j0 kq a0 a1 t483 t484 t485 t486 x32_6 = some r) ∧ Aside0 (kq ≤ k) ∧ Aside0 (Below w.heap.size w wc))
  case first =>
   have H := HC7.out
   clear HC7
   by_cases c11 : a0 < 0
   ·rw [if_pos c11] at H
    have c11b0 : decide (a0 < 0) = true := decide_eq_true c11
    clear c11
    (first | rw [c11b0] | (simp only [i64_w, i32_w]; rw [c11b0]) | rw [c11b1] | skip)
    have H' := Aside0.mk H
    clear H
    go_wp2
    go_meet
    case rel => exact ⟨_, (true), (by first | rfl | (simp; done) | (simp [*]; done)), H', ⟨by first | omega | exact Nat.le_refl _⟩, ⟨by repeat (first | exact HB.out | apply below_alloc | apply pw_below_drewN | apply below_drew1)⟩⟩
   ·rw [if_neg c11] at H
    have c11b0 : decide (a0 < 0) = false := decide_eq_false c11
    clear c11
    (first | rw [c11b0] | (simp only [i64_w, i32_w]; rw [c11b0]) | rw [c11b1] | skip)
    have H' := Aside0.mk H
    clear H
    go_wp2
    go_meet
    case rel => exact ⟨_, (decide (a0 > 1000)), (by first | rfl | (simp; done) | (simp [*]; done)), H', ⟨by first | omega | exact Nat.le_refl _⟩, ⟨by repeat (first | exact HB.out | apply below_alloc | apply pw_below_drewN | apply below_drew1)⟩⟩
  case rest =>
   clear HC7
   try clear c1; try clear c2; try clear p2; try clear c3; try clear c4; try clear c6; try clear c11; try clear c11b0; try clear c11b1
   obtain ⟨kq, x32_6, rfl, HA, HJ6, HB⟩ := hcut
   cases kq with
   | zero => exact absurd HA.out (by simp [gamehalllaw2_NatCounts.j0])
   | succ kj6 =>
    have H := HA.out
    clear HA
    simp only [gamehalllaw2_NatCounts.j0] at H
    by_cases c12 : x32_6 = true
    ·subst c12
     have H1 : (if t484 = 4 then (if t486 = 4 then (if t483.toList = ([] : List UInt8) then (some (t485.toList == ([] : List UInt8))) else (some false)) else (some false)) else (some false)) = some r := by rw [if_pos rfl] at H; exact H
     clear H
     have H := H1
     clear H1
     by_cases c13 : t484 = 4
     ·rw [if_pos c13] at H
      have c13b0 : (t484 == 4) = true := beq_iff_eq.mpr c13
      have c13b1 : (t484 != 4) = false := bne_eq_false_iff_eq.mpr c13
      clear c13
      by_cases c14 : t486 = 4
      ·rw [if_pos c14] at H
       have c14b0 : (t486 == 4) = true := beq_iff_eq.mpr c14
       have c14b1 : (t486 != 4) = false := bne_eq_false_iff_eq.mpr c14
       clear c14
       by_cases c15 : t483.toList = ([] : List UInt8)
       ·rw [if_pos c15] at H
        have c15b0 : (t483.toList == ([] : List UInt8)) = true := beq_iff_eq.mpr c15
        have c15b1 : (t483.toList != ([] : List UInt8)) = false := bne_eq_false_iff_eq.mpr c15
        clear c15
        obtain rfl := Option.some.inj H
        go_wp2
        go_ret
        exact ⟨by first | rfl | (simp [errW_none, errW_some] <;> rfl) | (simp [*, errW_none, errW_some] <;> rfl), by repeat (first | exact HB.out | apply below_alloc | apply pw_below_drewN | apply below_drew1)⟩
       ·rw [if_neg c15] at H
        have c15b0 : (t483.toList == ([] : List UInt8)) = false := beq_eq_false_iff_ne.mpr c15
        have c15b1 : (t483.toList != ([] : List UInt8)) = true := bne_iff_ne.mpr c15
        obtain rfl := Option.some.inj H
        go_wp2
        go_ret
        exact ⟨by first | rfl | (simp [errW_none, errW_some] <;> rfl) | (simp [*, errW_none, errW_some] <;> rfl), by repeat (first | exact HB.out | apply below_alloc | apply pw_below_drewN | apply below_drew1)⟩
      ·rw [if_neg c14] at H
       have c14b0 : (t486 == 4) = false := beq_eq_false_iff_ne.mpr c14
       have c14b1 : (t486 != 4) = true := bne_iff_ne.mpr c14
       obtain rfl := Option.some.inj H
       go_wp2
       go_ret
       exact ⟨by first | rfl | (simp [errW_none, errW_some] <;> rfl) | (simp [*, errW_none, errW_some] <;> rfl), by repeat (first | exact HB.out | apply below_alloc | apply pw_below_drewN | apply below_drew1)⟩
     ·rw [if_neg c13] at H
      have c13b0 : (t484 == 4) = false := beq_eq_false_iff_ne.mpr c13
      have c13b1 : (t484 != 4) = true := bne_iff_ne.mpr c13
      obtain rfl := Option.some.inj H
      go_wp2
      go_ret
      exact ⟨by first | rfl | (simp [errW_none, errW_some] <;> rfl) | (simp [*, errW_none, errW_some] <;> rfl), by repeat (first | exact HB.out | apply below_alloc | apply pw_below_drewN | apply below_drew1)⟩
    ·replace c12 := Bool.eq_false_iff.mpr c12
     subst c12
     have H1 : (if a1 < 0 then (gamehalllaw2_NatCounts.j1 kj6 a0 a1 t483 t484 t485 t486 true) else (gamehalllaw2_NatCounts.j1 kj6 a0 a1 t483 t484 t485 t486 (decide (a1 > a0)))) = some r := by rw [if_neg (show ¬ (false = true) by decide)] at H; exact H
     clear H
     have H := H1
     clear H1
     have HC16 := Aside0.mk H
     clear H
     go_upto_region 7 with (fail)
     go_cut [53] (fun v53 wc => ∃ (kq : Nat) (x53_15 : Bool), v53 = .bool x53_15 ∧ Aside0 (gamehalllaw2_NatCounts.j1 kq a0 a1 t483 t484 t485 t486 x53_15 = some r) ∧ Aside0 (kq ≤ kj6) ∧ Aside0 (Below w.heap.size w wc))
     case first =>
      have H := HC16.out
      clear HC16
      by_cases c17 : a1 < 0
      ·rw [if_pos c17] at H
       have c17b0 : decide (a1 < 0) = true := decide_eq_true c17
       clear c17
       (first | rw [c17b0] | (simp only [i64_w, i32_w]; rw [c17b0]) | rw [c17b1] | skip)
       have H' := Aside0.mk H
       clear H
       go_wp2
       go_meet
       case rel => exact ⟨_, (true), (by first | rfl | (simp; done) | (simp [*]; done)), H', ⟨by have := HJ6.out; first | omega | exact Nat.le_refl _⟩, ⟨by repeat (first | exact HB.out | apply below_alloc | apply pw_below_drewN | apply below_drew1)⟩⟩
      ·rw [if_neg c17] at H
       have c17b0 : decide (a1 < 0) = false := decide_eq_false c17
       clear c17
       (first | rw [c17b0] | (simp only [i64_w, i32_w]; rw [c17b0]) | rw [c17b1] | skip)
       have H' := Aside0.mk H
       clear H
       go_wp2
       go_meet
       case rel => exact ⟨_, (decide (a1 > a0)), (by first | rfl | (simp; done) | (simp [*]; done)), H', ⟨by have := HJ6.out; first | omega | exact Nat.le_refl _⟩, ⟨by repeat (first | exact HB.out | apply below_alloc | apply pw_below_drewN | apply below_drew1)⟩⟩
     case rest =>
      clear HC16
      try clear c1; try clear c2; try clear p2; try clear c3; try clear c4; try clear c6; try clear c11; try clear c11b0; try clear c11b1; try clear c12; try clear c13; try clear c13b0; try clear c13b1; try clear c14; try clear c14b0; try clear c14b1; try clear c15; try clear c15b0; try clear c15b1; try clear c17; try clear c17b0; try clear c17b1; try clear p2
      obtain ⟨kq, x53_15, rfl, HA, HJ15, HB⟩ := hcut
      cases kq with
      | zero => exact absurd HA.out (by simp [gamehalllaw2_NatCounts.j1])
      | succ kj15 =>
       have H := HA.out
       clear HA
       simp only [gamehalllaw2_NatCounts.j1] at H
       have HC18 := Aside0.mk H
       clear H
       go_upto_if 53 with (fail)
       go_cut [] (fun wc => ∃ (kq : Nat), Aside0 (gamehalllaw2_NatCounts.j2 kq a0 a1 t483 t484 t485 t486 = some r) ∧ Aside0 (kq ≤ kj15) ∧ Aside0 (Below w.heap.size w wc))
       case first =>
        have H := HC18.out
        clear HC18
        by_cases c19 : x53_15 = true
        ·subst c19
         have H1 : (if t486 = 4 then (if t485.toList = ([] : List UInt8) then (gamehalllaw2_NatCounts.j2 kj15 a0 a1 t483 t484 t485 t486) else (some false)) else (some false)) = some r := by rw [if_pos rfl] at H; exact H
         clear H
         have H := H1
         clear H1
         by_cases c20 : t486 = 4
         ·rw [if_pos c20] at H
          have c20b0 : (t486 == 4) = true := beq_iff_eq.mpr c20
          have c20b1 : (t486 != 4) = false := bne_eq_false_iff_eq.mpr c20
          clear c20
          (first | rw [c20b0] | (simp only [i64_w, i32_w]; rw [c20b0]) | rw [c20b1] | skip)
          by_cases c21 : t485.toList = ([] : List UInt8)
          ·rw [if_pos c21] at H
           have c21b0 : (t485.toList == ([] : List UInt8)) = true := beq_iff_eq.mpr c21
           have c21b1 : (t485.toList != ([] : List UInt8)) = false := bne_eq_false_iff_eq.mpr c21
           clear c21
           have H' := Aside0.mk H
           clear H
           go_wp2
           go_meet
           case rel => exact ⟨_, H', ⟨by have := HJ6.out; have := HJ15.out; first | omega | exact Nat.le_refl _⟩, ⟨by repeat (first | exact HB.out | apply below_alloc | apply pw_below_drewN | apply below_drew1)⟩⟩
          ·rw [if_neg c21] at H
           have c21b0 : (t485.toList == ([] : List UInt8)) = false := beq_eq_false_iff_ne.mpr c21
           have c21b1 : (t485.toList != ([] : List UInt8)) = true := bne_iff_ne.mpr c21
           obtain rfl := Option.some.inj H
           go_wp2
           go_ret
           exact ⟨by first | rfl | (simp [errW_none, errW_some] <;> rfl) | (simp [*, errW_none, errW_some] <;> rfl), by repeat (first | exact HB.out | apply below_alloc | apply pw_below_drewN | apply below_drew1)⟩
         ·rw [if_neg c20] at H
          have c20b0 : (t486 == 4) = false := beq_eq_false_iff_ne.mpr c20
          have c20b1 : (t486 != 4) = true := bne_iff_ne.mpr c20
          (first | rw [c20b0] | (simp only [i64_w, i32_w]; rw [c20b0]) | rw [c20b1] | skip)
          obtain rfl := Option.some.inj H
          go_wp2
          go_ret
          exact ⟨by first | rfl | (simp [errW_none, errW_some] <;> rfl) | (simp [*, errW_none, errW_some] <;> rfl), by repeat (first | exact HB.out | apply below_alloc | apply pw_below_drewN | apply below_drew1)⟩
        ·replace c19 := Bool.eq_false_iff.mpr c19
         subst c19
         have H1 : (gamehalllaw2_NatCounts.j2 kj15 a0 a1 t483 t484 t485 t486) = some r := by rw [if_neg (show ¬ (false = true) by decide)] at H; exact H
         clear H
         have H := H1
         clear H1
         have H' := Aside0.mk H
         clear H
         go_wp2
         go_meet
         case rel => exact ⟨_, H', ⟨by have := HJ6.out; have := HJ15.out; first | omega | exact Nat.le_refl _⟩, ⟨by repeat (first | exact HB.out | apply below_alloc | apply pw_below_drewN | apply below_drew1)⟩⟩
       case rest =>
        clear HC18
        try clear c1; try clear c2; try clear p2; try clear c3; try clear c4; try clear c6; try clear c11; try clear c11b0; try clear c11b1; try clear c12; try clear c13; try clear c13b0; try clear c13b1; try clear c14; try clear c14b0; try clear c14b1; try clear c15; try clear c15b0; try clear c15b1; try clear c17; try clear c17b0; try clear c17b1; try clear c19; try clear c20; try clear c20b0; try clear c20b1; try clear c21; try clear c21b0; try clear c21b1; try clear p2
        obtain ⟨kq, HA, HJ17, HB⟩ := hcut
        cases kq with
        | zero => exact absurd HA.out (by simp [gamehalllaw2_NatCounts.j2])
        | succ kj17 =>
         have H := HA.out
         clear HA
         simp only [gamehalllaw2_NatCounts.j2] at H
         by_cases c22 : a0 > 25
         ·rw [if_pos c22] at H
          have c22b0 : decide (25 < a0) = true := decide_eq_true c22
          clear c22
          by_cases c23 : t484 = 0
          ·rw [if_pos c23] at H
           have c23b0 : (t484 == 0) = true := beq_iff_eq.mpr c23
           have c23b1 : (t484 != 0) = false := bne_eq_false_iff_eq.mpr c23
           clear c23
           obtain rfl := Option.some.inj H
           go_wp2
           go_ret
           exact ⟨by first | rfl | (simp [errW_none, errW_some] <;> rfl) | (simp [*, errW_none, errW_some] <;> rfl), by repeat (first | exact HB.out | apply below_alloc | apply pw_below_drewN | apply below_drew1)⟩
          ·rw [if_neg c23] at H
           have c23b0 : (t484 == 0) = false := beq_eq_false_iff_ne.mpr c23
           have c23b1 : (t484 != 0) = true := bne_iff_ne.mpr c23
           by_cases c24 : t484 = 2
           ·rw [if_pos c24] at H
            have c24b0 : (t484 == 2) = true := beq_iff_eq.mpr c24
            have c24b1 : (t484 != 2) = false := bne_eq_false_iff_eq.mpr c24
            clear c24
            obtain rfl := Option.some.inj H
            go_wp2
            go_ret
            exact ⟨by first | rfl | (simp [errW_none, errW_some] <;> rfl) | (simp [*, errW_none, errW_some] <;> rfl), by repeat (first | exact HB.out | apply below_alloc | apply pw_below_drewN | apply below_drew1)⟩
           ·rw [if_neg c24] at H
            have c24b0 : (t484 == 2) = false := beq_eq_false_iff_ne.mpr c24
            have c24b1 : (t484 != 2) = true := bne_iff_ne.mpr c24
            obtain rfl := Option.some.inj H
            go_wp2
            go_ret
            exact ⟨by first | rfl | (simp [errW_none, errW_some] <;> rfl) | (simp [*, errW_none, errW_some] <;> rfl), by repeat (first | exact HB.out | apply below_alloc | apply pw_below_drewN | apply below_drew1)⟩
         ·rw [if_neg c22] at H
          have c22b0 : decide (25 < a0) = false := decide_eq_false c22
          clear c22
          have H' := Aside0.mk H
          clear H
          go_wp2
          go_loopg [9, 73] kj17 (fun kq v9 v73 w' => ∃ (x9_4 : ByteArray) (x73_4 : Int), v9 = .string x9_4 ∧ v73 = .int .i64 x73_4 ∧ Aside0 (gamehalllaw2_NatCounts.l0 kq a0 a1 t483 t484 t485 t486 x9_4 a0 x73_4 = some r) ∧ Aside0 (kq ≤ kj17) ∧ Aside0 (Below w.heap.size w w'))
          case atStart => exact ⟨((⟨#[49]⟩ : ByteArray)), (0), (by first | rfl | (simp; done) | (simp [*]; done)), (by first | rfl | (simp; done) | (simp [*]; done)), H', ⟨Nat.le_refl _⟩, ⟨by repeat (first | exact HB.out | apply below_alloc | apply pw_below_drewN | apply below_drew1)⟩⟩
          case round =>
           clear H'
           try clear c1; try clear c2; try clear p2; try clear c3; try clear c4; try clear c6; try clear c11; try clear c11b0; try clear c11b1; try clear c12; try clear c13; try clear c13b0; try clear c13b1; try clear c14; try clear c14b0; try clear c14b1; try clear c15; try clear c15b0; try clear c15b1; try clear c17; try clear c17b0; try clear c17b1; try clear c19; try clear c20; try clear c20b0; try clear c20b1; try clear c21; try clear c21b0; try clear c21b1; try clear c22; try clear c22b0; try clear c23; try clear c23b0; try clear c23b1; try clear c24; try clear c24b0; try clear c24b1; try clear p2
           obtain ⟨x9_4, x73_4, rfl, rfl, HA, HK4, HB⟩ := hrel
           cases gk with
           | zero => exact absurd HA.out (by simp [gamehalllaw2_NatCounts.l0])
           | succ k4 =>
            have H := HA.out
            clear HA
            simp only [gamehalllaw2_NatCounts.l0] at H
            by_cases c25 : x73_4 < a0
            ·rw [if_pos c25] at H
             have c25b0 : decide (x73_4 < a0) = true := decide_eq_true c25
             clear c25
             replace H := Option.bind_eq_some_iff.mp H
             obtain ⟨t487, A260, H⟩ := H
             replace H : ((gamehallref2_NatMul.f k4 x9_4 t487).bind fun t488 => (gamehalllaw2_NatCounts.l0 k4 a0 a1 t483 t484 t485 t486 t488 a0 (wrap64 (x73_4 + 1)))) = some r := H
             have A26 := Aside0.mk A260
             clear A260
             replace H := Option.bind_eq_some_iff.mp H
             obtain ⟨t488, A270, H⟩ := H
             replace H : (gamehalllaw2_NatCounts.l0 k4 a0 a1 t483 t484 t485 t486 t488 a0 (wrap64 (x73_4 + 1))) = some r := H
             have A27 := Aside0.mk A270
             clear A270
             have H' := Aside0.mk H
             clear H
             go_wp2_with (first | ((with_reducible refine gate_callee (f := 31) rfl ?_); refine goesL_ (some 79) rfl rfl Tryd.func31 (by kernel_rfl) rfl #[.int .i64 (wrap64 (x73_4 + 1))] rfl (by (try simp only [List.map_toArray, List.map_cons, List.map_nil]); first | done | rfl | (simp only [List.length_drop, List.length_take]; rfl)) ?_; (with_reducible refine (gamehallref2_RatInt.calls k4 (wrap64 (x73_4 + 1)) t487 _ A26.out).mono ?_); rintro e w' ⟨rfl, ⟨nd, rfl⟩⟩; refine ⟨_, rfl, ?_⟩) | ((with_reducible refine gate_callee (f := 26) rfl ?_); refine goesL_ (some 80) rfl rfl Tryd.func26 (by kernel_rfl) rfl #[.string x9_4, .string t487] rfl (by (try simp only [List.map_toArray, List.map_cons, List.map_nil]); first | done | rfl | (simp only [List.length_drop, List.length_take]; rfl)) ?_; (with_reducible refine (gamehallref2_NatMul.calls k4 x9_4 t487 t488 _ A27.out).mono ?_); rintro e w28 ⟨rfl, hb⟩; refine ⟨_, rfl, ?_⟩; have n0_ := Aside0.mk (below_step (by repeat (first | exact HB.out | apply below_alloc | apply pw_below_drewN | apply below_drew1)) hb); clear HB; have HB := n0_; clear n0_; (try clear hb); (try clear hb2); (try clear hk); (try clear hi)))
             go_roundg k4
             case measure => have := HJ6.out; have := HJ15.out; have := HJ17.out; have := HK4.out; omega
             case rel => exact ⟨(t488), (wrap64 (x73_4 + 1)), (by first | rfl | (simp; done) | (simp [*]; done)), (by first | rfl | (simp; done) | (simp [*]; done)), H', ⟨by have := HJ6.out; have := HJ15.out; have := HJ17.out; have := HK4.out; omega⟩, ⟨by repeat (first | exact HB.out | apply below_alloc | apply pw_below_drewN | apply below_drew1)⟩⟩
            ·rw [if_neg c25] at H
             have c25b0 : decide (x73_4 < a0) = false := decide_eq_false c25
             clear c25
             obtain ⟨y489, hy489⟩ : ∃ y_ : List ByteArray, y_ = (([(⟨#[49]⟩ : ByteArray)] : List ByteArray)) := ⟨_, rfl⟩
             replace H : (gamehalllaw2_NatCounts.l1 k4 a0 a1 t483 t484 t485 t486 x9_4 y489 a0 0) = some r := by first | (rw [hy489]; with_reducible exact H) | (have H2_ := (Option.bind_some _ _).symm.trans H; rw [hy489]; with_reducible exact H2_) | (have H2_ := (Option.bind_some _ _).symm.trans H; with_reducible exact H2_) | with_reducible exact H | (rw [hy489]; exact H) | exact H
             have Ny489 := Aside0.mk hy489
             clear hy489
             have H' := Aside0.mk H
             clear H
             go_wp2_with (first | ((with_reducible refine gate_dst (N := 82) rfl ?_); refine Kd.R_lit Kd.string _ 9 ?hg (N := 82) ?hd (xs := ([(⟨#[49]⟩ : ByteArray)] : List ByteArray)) (inner := [.string (⟨#[49]⟩ : ByteArray)]) (ok := fun _ => True) (okp := fun _ => True) ?hr ?hp (fun _ hk => hk) trivial (Below.refl _ _) (Nat.le_refl _) (by simp) ?_; (case hd => rfl); (case hg => rfl); (case hr => first | (go_simp; done) | (go_simp; rfl)); (case hp => exact (Reps.one (show Kd.M Kd.string _ _ _ (⟨#[49]⟩ : ByteArray) [.string (⟨#[49]⟩ : ByteArray)] from rfl) (Reps.none _ _))); intro v490 w29 ho30 hb hg_ hnew_; clear hg_ hnew_; (first | rw [← Ny489.out] at ho30 | (simp only [Int.reduceToNat] at ho30; rw [← Ny489.out] at ho30)); have n0_ := Aside0.mk (Kd.R_lower ho30 (below_size (by repeat (first | exact HB.out | apply below_alloc | apply pw_below_drewN | apply below_drew1)))); have n1_ := Aside0.mk (below_step (by repeat (first | exact HB.out | apply below_alloc | apply pw_below_drewN | apply below_drew1)) hb); clear HB; have HO491 := n0_; have HB := n1_; clear n0_ n1_; clear hb ho30))
             go_loopg [11, 84] k4 (fun kq v11 v84 w' => ∃ (x11_5 : List ByteArray) (x84_5 : Int), v84 = .int .i64 x84_5 ∧ Aside0 (gamehalllaw2_NatCounts.l1 kq a0 a1 t483 t484 t485 t486 x9_4 x11_5 a0 x84_5 = some r) ∧ Aside0 (kq ≤ k4) ∧ Aside0 (Kd.R Kd.string 9 w' w.heap.size (fun _ => True) v11 x11_5) ∧ Aside0 (Below w.heap.size w w'))
             case atStart => exact ⟨(y489), (0), (by first | rfl | (simp; done) | (simp [*]; done)), H', ⟨Nat.le_refl _⟩, ⟨by (with_reducible repeat (first | apply Kd.R_alloc | apply Kd.R_drewN | apply Kd.R_drew)); exact HO491.out⟩, ⟨by repeat (first | exact HB.out | apply below_alloc | apply pw_below_drewN | apply below_drew1)⟩⟩
             case round =>
              clear H'
              try clear c1; try clear c2; try clear p2; try clear c3; try clear c4; try clear c6; try clear p6; try clear c11; try clear c11b0; try clear c11b1; try clear c12; try clear c13; try clear c13b0; try clear c13b1; try clear c14; try clear c14b0; try clear c14b1; try clear c15; try clear c15b0; try clear c15b1; try clear c17; try clear c17b0; try clear c17b1; try clear c19; try clear c20; try clear c20b0; try clear c20b1; try clear c21; try clear c21b0; try clear c21b1; try clear c22; try clear c22b0; try clear c23; try clear c23b0; try clear c23b1; try clear c24; try clear c24b0; try clear c24b1; try clear c25; try clear c25b0; try clear c26; try clear c29; try clear c30; try clear p2
              obtain ⟨x11_5, x84_5, rfl, HA, HK5, HO_11, HB⟩ := hrel
              cases gk with
              | zero => exact absurd HA.out (by simp [gamehalllaw2_NatCounts.l1])
              | succ k5 =>
               have H := HA.out
               clear HA
               simp only [gamehalllaw2_NatCounts.l1] at H
               by_cases c31 : x84_5 < a0
               ·rw [if_pos c31] at H
                have c31b0 : decide (x84_5 < a0) = true := decide_eq_true c31
                clear c31
                obtain ⟨y493, hy493⟩ : ∃ y_ : List ByteArray, y_ = (([(⟨#[49]⟩ : ByteArray)] : List ByteArray)) := ⟨_, rfl⟩
                replace H : (if 1 ≤ (x11_5.length : Int) then (gamehalllaw2_NatCounts.l2 k5 a0 a1 t483 t484 t485 t486 x9_4 x11_5 y493 a0 x84_5 ((x11_5.drop 1).length : Int) 0) else (none)) = some r := by first | (rw [hy493]; with_reducible exact H) | (have H2_ := (Option.bind_some _ _).symm.trans H; rw [hy493]; with_reducible exact H2_) | (have H2_ := (Option.bind_some _ _).symm.trans H; with_reducible exact H2_) | with_reducible exact H | (rw [hy493]; exact H) | exact H
                have Ny493 := Aside0.mk hy493
                clear hy493
                by_cases c32 : 1 ≤ (x11_5.length : Int)
                ·rw [if_pos c32] at H
                 have c32b0 := eq_true c32
                 have c32b1 : decide (1 ≤ (x11_5.length : Int)) = true := decide_eq_true c32
                 clear c32
                 obtain ⟨y496, hy496⟩ : ∃ y_ : List ByteArray, y_ = (x11_5.drop 1) := ⟨_, rfl⟩
                 replace H : (gamehalllaw2_NatCounts.l2 k5 a0 a1 t483 t484 t485 t486 x9_4 x11_5 y493 a0 x84_5 (y496.length : Int) 0) = some r := by first | (rw [hy496]; with_reducible exact H) | (have H2_ := (Option.bind_some _ _).symm.trans H; rw [hy496]; with_reducible exact H2_) | (have H2_ := (Option.bind_some _ _).symm.trans H; with_reducible exact H2_) | with_reducible exact H | (rw [hy496]; exact H) | exact H
                 have Ny496 := Aside0.mk hy496
                 clear hy496
                 have H' := Aside0.mk H
                 clear H
                 go_wp2_with (first | ((with_reducible refine gate_dst (N := 86) rfl ?_); refine Kd.R_lit Kd.string _ 9 ?hg (N := 86) ?hd (xs := ([(⟨#[49]⟩ : ByteArray)] : List ByteArray)) (inner := [.string (⟨#[49]⟩ : ByteArray)]) (ok := fun _ => True) (okp := fun _ => True) ?hr ?hp (fun _ hk => hk) trivial (Below.refl _ _) (Nat.le_refl _) (by simp) ?_; (case hd => rfl); (case hg => rfl); (case hr => first | (go_simp; done) | (go_simp; rfl)); (case hp => exact (Reps.one (show Kd.M Kd.string _ _ _ (⟨#[49]⟩ : ByteArray) [.string (⟨#[49]⟩ : ByteArray)] from rfl) (Reps.none _ _))); intro v494 w33 ho34 hb hg_ hnew_; clear hg_ hnew_; (first | rw [← Ny493.out] at ho34 | (simp only [Int.reduceToNat] at ho34; rw [← Ny493.out] at ho34)); have n0_ := Aside0.mk (Kd.R_elder' (by (with_reducible repeat (first | apply Kd.R_alloc | apply Kd.R_drewN | apply Kd.R_drew)); exact HO_11.out) (Kd.R_base ho34) hb); have n1_ := Aside0.mk (Kd.R_lower (Kd.R_new' ho34 (Kd.R_lt (by (with_reducible repeat (first | apply Kd.R_alloc | apply Kd.R_drewN | apply Kd.R_drew)); exact HO_11.out))) (below_size (by repeat (first | exact HB.out | apply below_alloc | apply pw_below_drewN | apply below_drew1)))); have n2_ := Aside0.mk (below_step (by repeat (first | exact HB.out | apply below_alloc | apply pw_below_drewN | apply below_drew1)) hb); clear HO_11; clear HB; have HO_11 := n0_; have HO495 := n1_; have HB := n2_; clear n0_ n1_ n2_; clear hb ho34; obtain ⟨Ao36, co36, eo36⟩ := Kd.R_slice HO_11.out; subst eo36; have q35 : (1 : Int) ≤ ((x11_5.length : Int) : Int) := of_decide_eq_true (by assumption); obtain ⟨i035, hi035, _, hsz35, _⟩ := info_parts info9; have hroom35 : x11_5.length ≤ co36 := (Kd.R_reads' HO_11.out).2.1; have hC35 : Kd.C Kd.string _ Ao36 x11_5.length x11_5 := (Kd.R_reads' HO_11.out).2.2; have hcut35 := cut_from (P := Tryd.prog) 42 9 .i64 Tryd.underlying42 hi035 1 hsz35 Ao36 x11_5.length co36 1 (by omega) q35; have hr35 := Kd.C_drop (m := (1 : Int).toNat) (c := co36) hC35 (by omega) hroom35; obtain ⟨A35, hA35⟩ : ∃ A1, A1 = (if co36 = (1 : Int).toNat then Ao36 else (Ao36 : Option Addr).map (·.add ((1 : Int).toNat * 1))) := ⟨_, rfl⟩; obtain ⟨c35, hc35⟩ : ∃ c1, c1 = co36 - (1 : Int).toNat := ⟨_, rfl⟩; have hy35 : y496.length = x11_5.length - (1 : Int).toNat := (by rw [Ny496.out, List.length_drop] <;> omega); rw [show (x11_5).drop (1 : Int).toNat = y496 from Ny496.out.symm] at hr35; replace hr35 : Kd.C Kd.string _ A35 y496.length y496 := (by rw [hA35]; exact hr35); rw [← hy35, ← hA35, ← hc35] at hcut35; have HR499 := Aside0.mk hr35; have HC499 := Aside0.mk (show y496.length ≤ c35 from by rw [hy35, hc35]; exact Nat.sub_le_sub_right hroom35 _); clear hr35 hC35 hroom35 hi035 hsz35 hc35; have KY35 := Aside0.mk hy35; have KA35 := Aside0.mk hA35; clear hy35 hA35; have KL35 := Aside0.mk (show 1 ≤ x11_5.length from by omega); replace q35 := eq_true q35))
                 go_loopg [12, 90] k5 (fun kq v12 v90 w' => ∃ (x12_6 : List ByteArray) (x90_6 : Int), v90 = .int .i64 x90_6 ∧ Aside0 (gamehalllaw2_NatCounts.l2 kq a0 a1 t483 t484 t485 t486 x9_4 x11_5 x12_6 a0 x84_5 (y496.length : Int) x90_6 = some r) ∧ Aside0 (kq ≤ k5) ∧ Aside0 (Kd.R Kd.string 9 w' w.heap.size (fun k_ => some k_ ≠ (v12 : Value).ownBlock) (.slice Ao36 x11_5.length co36) x11_5) ∧ Aside0 (Kd.R Kd.string 9 w' w.heap.size (fun k_ => some k_ ≠ ((.slice Ao36 x11_5.length co36) : Value).ownBlock) v12 x12_6) ∧ Aside0 (Kd.C Kd.string w' A35 y496.length y496) ∧ Aside0 (Below w.heap.size w w'))
                 case atStart => exact ⟨(y493), (0), (by first | rfl | (simp; done) | (simp [*]; done)), H', ⟨Nat.le_refl _⟩, ⟨by (with_reducible repeat (first | apply Kd.R_alloc | apply Kd.R_drewN | apply Kd.R_drew)); exact Kd.R_mono HO_11.out (fun _ hk => hk.2)⟩, ⟨by (with_reducible repeat (first | apply Kd.R_alloc | apply Kd.R_drewN | apply Kd.R_drew)); exact Kd.R_mono HO495.out (fun _ hk => hk.2)⟩, ⟨by repeat (first | (with_reducible exact HR499.out) | (with_reducible refine Kd.C_alloc ?_ _) | (with_reducible refine Kd.C_drewN ?_ _) | (with_reducible refine Kd.C_drew ?_) | exact HR499.out)⟩, ⟨by repeat (first | exact HB.out | apply below_alloc | apply pw_below_drewN | apply below_drew1)⟩⟩
                 case round =>
                  clear H'
                  try clear c1; try clear c2; try clear p2; try clear c3; try clear q3; try clear c4; try clear c6; try clear p6; try clear c11; try clear c11b0; try clear c11b1; try clear c12; try clear c13; try clear c13b0; try clear c13b1; try clear c14; try clear c14b0; try clear c14b1; try clear c15; try clear c15b0; try clear c15b1; try clear c17; try clear c17b0; try clear c17b1; try clear c19; try clear c20; try clear c20b0; try clear c20b1; try clear c21; try clear c21b0; try clear c21b1; try clear c22; try clear c22b0; try clear c23; try clear c23b0; try clear c23b1; try clear c24; try clear c24b0; try clear c24b1; try clear c25; try clear c25b0; try clear c26; try clear c29; try clear c30; try clear c31; try clear c31b0; try clear c32; try clear c32b0; try clear c32b1; try clear c35; try clear q35; try clear p2; try clear p6; try clear q35
                  obtain ⟨x12_6, x90_6, rfl, HA, HK6, HO_11, HO_12, HR499, HB⟩ := hrel
                  cases gk with
                  | zero => exact absurd HA.out (by simp [gamehalllaw2_NatCounts.l2])
                  | succ k6 =>
                   have H := HA.out
                   clear HA
                   simp only [gamehalllaw2_NatCounts.l2] at H
                   by_cases c37 : x90_6 < (y496.length : Int)
                   ·rw [if_pos c37] at H
                    have c37b0 : decide (x90_6 < (y496.length : Int)) = true := decide_eq_true c37
                    clear c37
                    by_cases c38 : 0 ≤ x90_6
                    ·rw [if_pos c38] at H
                     have c38b0 : decide (0 ≤ x90_6) = true := decide_eq_true c38
                     clear c38
                     by_cases c39 : x90_6 < (x11_5.length : Int)
                     ·rw [if_pos c39] at H
                      have c39b0 : decide (x90_6 < (x11_5.length : Int)) = true := decide_eq_true c39
                      clear c39
                      obtain ⟨ji40, hji40⟩ : ∃ j_ : Int, (wrap64 (x90_6 + 1)) = j_ := ⟨_, rfl⟩
                      replace H : (if 0 ≤ (ji40) then (if (ji40) < (x11_5.length : Int) then ((gamehallref2_NatAdd.f k6 (rdOf ByteArray.empty x11_5 x90_6) (rdOf ByteArray.empty x11_5 (ji40))).bind fun t502 => (if x12_6.length < 8796093022208 then (gamehalllaw2_NatCounts.l2 k6 a0 a1 t483 t484 t485 t486 x9_4 x11_5 (x12_6 ++ [t502]) a0 x84_5 (y496.length : Int) ji40) else (none))) else (none)) else (none)) = some r := by first | (rw [hji40] at H; exact H) | (simp only [hji40] at H ⊢; exact H)
                      have hji40w : (IntKind.i64.wrap (x90_6 + 1)) = ji40 := (i64_w _).trans hji40
                      by_cases c41 : 0 ≤ (ji40)
                      ·rw [if_pos c41] at H
                       have c41b0 : decide (0 ≤ (ji40)) = true := decide_eq_true c41
                       clear c41
                       by_cases c42 : (ji40) < (x11_5.length : Int)
                       ·rw [if_pos c42] at H
                        have c42b0 : decide ((ji40) < (x11_5.length : Int)) = true := decide_eq_true c42
                        clear c42
                        replace H := Option.bind_eq_some_iff.mp H
                        obtain ⟨t502, A430, H⟩ := H
                        replace H : (if x12_6.length < 8796093022208 then (gamehalllaw2_NatCounts.l2 k6 a0 a1 t483 t484 t485 t486 x9_4 x11_5 (x12_6 ++ [t502]) a0 x84_5 (y496.length : Int) ji40) else (none)) = some r := H
                        have A43 := Aside0.mk A430
                        clear A430
                        by_cases c44 : x12_6.length < 8796093022208
                        ·rw [if_pos c44] at H
                         have LMc44 := Aside0.mk c44
                         clear c44
                         obtain ⟨y503, hy503⟩ : ∃ y_ : List ByteArray, y_ = (x12_6 ++ [t502]) := ⟨_, rfl⟩
                         replace H : (gamehalllaw2_NatCounts.l2 k6 a0 a1 t483 t484 t485 t486 x9_4 x11_5 y503 a0 x84_5 (y496.length : Int) ji40) = some r := by first | (rw [hy503]; with_reducible exact H) | (have H2_ := (Option.bind_some _ _).symm.trans H; rw [hy503]; with_reducible exact H2_) | (have H2_ := (Option.bind_some _ _).symm.trans H; with_reducible exact H2_) | with_reducible exact H | (rw [hy503]; exact H) | exact H
                         have Ny503 := Aside0.mk hy503
                         clear hy503
                         have H' := Aside0.mk H
                         clear H
                         try go_wp2
                         have n0_ := Aside0.mk (Kd.R_drew HO_11.out)
                         have n1_ := Aside0.mk (Kd.R_drew HO_12.out)
                         have n2_ := Aside0.mk (Kd.C_drew HR499.out)
                         have n3_ := Aside0.mk (below_drew1 HB.out)
                         clear HO_11
                         clear HO_12
                         clear HR499
                         clear HB
                         have HO_11 := n0_
                         have HO_12 := n1_
                         have HR499 := n2_
                         have HB := n3_
                         clear n0_ n1_ n2_ n3_
                         have p500 : 0 ≤ (x90_6 : Int) := of_decide_eq_true (by assumption)
                         have q500 : x90_6 < (x11_5.length : Int) := of_decide_eq_true (by assumption)
                         obtain ⟨ad500, e500, hx500_0⟩ := Kd.at_string (Kd.R_reads' HO_11.out).2.2 x90_6 p500 q500
                         cases e500
                         replace p500 := eq_true p500
                         replace q500 := eq_true q500
                         have p501 : 0 ≤ ((ji40) : Int) := of_decide_eq_true (by assumption)
                         have q501 : (ji40) < (x11_5.length : Int) := of_decide_eq_true (by assumption)
                         obtain ⟨ad501, e501, hx501_0⟩ := Kd.at_string (Kd.R_reads' HO_11.out).2.2 (ji40) p501 q501
                         obtain rfl : ad500 = ad501 := (by injection e501)
                         replace p501 := eq_true p501
                         replace q501 := eq_true q501
                         refine start_ (n := 14) (S := fun w' => w'.cell? (ad500.add (x90_6).toNat) = some (.string (rdOf ByteArray.empty x11_5 x90_6)) ∧ w'.cell? (ad500.add ((ji40)).toNat) = some (.string (rdOf ByteArray.empty x11_5 (ji40)))) (ds := [11, 12]) #[false, false, false, false, false, false, false, false, false, false, false, false, false, false] (by kernel_rfl) rfl rfl ⟨hx500_0, hx501_0⟩ (fun hHeld => ?_); refine with_tabW gamehalllaw2_NatCounts.tab25 gamehalllaw2_NatCounts.bits25 (fun HT_ HW_ => ?_)
                         generalize wr.drew = w45 at HO_11 HO_12 HR499 HB hx500_0 hx501_0 hHeld ⊢
                         refine pure_ (i := 0) (N := some 93) (v := ?_) (a' := ?_) #[true, false, false, false, false, false, false, false, false, false, false, false, false, false] rfl rfl (any_of HT_.out (by kernel_rfl)) (fun _ _ _ h => h) (Or.inl ⟨by rfl, ?_⟩) ?_ ?_
                         rotate_left
                         ·intro w'
                          go_simp
                          with_reducible rfl
                         rotate_left
                         ·simp only [Act.put, List.setIfInBounds_toArray, List.set_cons_zero, List.set_cons_succ, i64_w, i32_w]
                          rfl
                         refine pure_ (i := 1) (N := some 94) (v := ?_) (a' := ?_) #[true, true, false, false, false, false, false, false, false, false, false, false, false, false] rfl rfl (any_of HT_.out (by kernel_rfl)) (fun _ _ _ h => h) (Or.inl ⟨by rfl, ?_⟩) ?_ ?_
                         rotate_left
                         ·intro w'
                          go_simp
                          with_reducible rfl
                         rotate_left
                         ·simp only [Act.put, List.setIfInBounds_toArray, List.set_cons_zero, List.set_cons_succ, i64_w, i32_w]
                          rfl
                         refine pure_ (i := 2) (N := some 95) (v := ?_) (a' := ?_) #[true, true, true, false, false, false, false, false, false, false, false, false, false, false] rfl rfl (any_of HT_.out (by kernel_rfl)) (fun _ _ _ h => h) (Or.inl ⟨by rfl, ?_⟩) ?_ ?_
                         rotate_left
                         ·intro w'
                          go_simp
                          with_reducible rfl
                         rotate_left
                         ·simp only [Act.put, List.setIfInBounds_toArray, List.set_cons_zero, List.set_cons_succ, i64_w, i32_w]
                          rfl
                         refine pure_ (i := 3) (N := some 96) (v := ?_) (a' := ?_) #[true, true, true, true, false, false, false, false, false, false, false, false, false, false] rfl rfl (any_of HT_.out (by kernel_rfl)) (fun _ _ _ h => h) (Or.inl ⟨by rfl, ?_⟩) ?_ ?_
                         rotate_left
                         ·intro w'
                          go_simp
                          with_reducible rfl
                         rotate_left
                         ·simp only [Act.put, List.setIfInBounds_toArray, List.set_cons_zero, List.set_cons_succ, i64_w, i32_w]
                          rfl
                         refine pure_ (i := 5) (N := some 98) (v := ?_) (a' := ?_) #[true, true, true, true, false, true, false, false, false, false, false, false, false, false] rfl rfl (any_of HT_.out (by kernel_rfl)) (fun _ _ _ h => h) (Or.inl ⟨by rfl, ?_⟩) ?_ ?_
                         rotate_left
                         ·intro w'
                          go_simp
                          with_reducible rfl
                         rotate_left
                         ·simp only [Act.put, List.setIfInBounds_toArray, List.set_cons_zero, List.set_cons_succ, i64_w, i32_w]
                          rfl
                         refine pure_ (i := 6) (N := some 99) (v := ?_) (a' := ?_) #[true, true, true, true, false, true, true, false, false, false, false, false, false, false] rfl rfl (any_of HT_.out (by kernel_rfl)) (fun _ _ _ h => h) (Or.inl ⟨by rfl, ?_⟩) ?_ ?_
                         rotate_left
                         ·intro w'
                          go_simp
                          with_reducible rfl
                         rotate_left
                         ·simp only [Act.put, List.setIfInBounds_toArray, List.set_cons_zero, List.set_cons_succ, i64_w, i32_w]
                          rfl
                         refine pure_ (i := 7) (N := some 100) (v := ?_) (a' := ?_) #[true, true, true, true, false, true, true, true, false, false, false, false, false, false] rfl rfl (any_of HT_.out (by kernel_rfl)) (fun _ _ _ h => h) (Or.inl ⟨by rfl, ?_⟩) ?_ ?_
                         rotate_left
                         ·intro w'
                          go_simp
                          with_reducible rfl
                         rotate_left
                         ·simp only [Act.put, List.setIfInBounds_toArray, List.set_cons_zero, List.set_cons_succ, i64_w, i32_w]
                          rfl
                         refine pure_ (i := 8) (N := some 101) (v := ?_) (a' := ?_) #[true, true, true, true, false, true, true, true, true, false, false, false, false, false] rfl rfl (any_of HT_.out (by kernel_rfl)) (fun _ _ _ h => h) (Or.inl ⟨by rfl, ?_⟩) ?_ ?_
                         rotate_left
                         ·intro w'
                          go_simp
                          with_reducible rfl
                         rotate_left
                         ·simp only [Act.put, List.setIfInBounds_toArray, List.set_cons_zero, List.set_cons_succ, i64_w, i32_w]
                          rfl
                         refine take_ (i := 4) (N := some 97) (v := ?_) (a' := ?_) #[true, true, true, true, true, true, true, true, true, false, false, false, false, false] rfl rfl (take_ofW HT_.out HW_.out (by kernel_rfl)) (fun _ _ _ h => h) (Or.inl ⟨by rfl, ?_⟩) hHeld ?_ ?_
                         rotate_left
                         ·rintro w' ⟨s0, s1⟩
                          go_simp
                          with_reducible rfl
                         rotate_left
                         ·simp only [Act.put, List.setIfInBounds_toArray, List.set_cons_zero, List.set_cons_succ, i64_w, i32_w]
                          rfl
                         refine take_ (i := 9) (N := some 102) (v := ?_) (a' := ?_) #[true, true, true, true, true, true, true, true, true, true, false, false, false, false] rfl rfl (take_ofW HT_.out HW_.out (by kernel_rfl)) (fun _ _ _ h => h) (Or.inl ⟨by rfl, ?_⟩) hHeld ?_ ?_
                         rotate_left
                         ·rintro w' ⟨s0, s1⟩
                          go_simp
                          with_reducible rfl
                         rotate_left
                         ·simp only [Act.put, List.setIfInBounds_toArray, List.set_cons_zero, List.set_cons_succ, i64_w, i32_w]
                          rfl
                         refine one_ (i := 10) (N := some 103) #[true, true, true, true, true, true, true, true, true, true, true, false, false, false] rfl rfl (one_of HT_.out (by kernel_rfl)) (by decide) (fun K hK => ?_)
                         refine goes_ Tryd.func19 (by kernel_rfl) rfl #[.string (rdOf ByteArray.empty x11_5 x90_6), .string (rdOf ByteArray.empty x11_5 (ji40))] (by rfl) rfl rfl (by (try simp only [List.map_toArray, List.map_cons, List.map_nil]); first | done | (simp only [hji40]; rfl) | rfl | (simp only [List.length_drop, List.length_take]; rfl)) ?_
                         with_reducible refine (gamehallref2_NatAdd.calls k6 (rdOf ByteArray.empty x11_5 x90_6) (rdOf ByteArray.empty x11_5 (ji40)) t502 _ A43.out).mono ?_
                         rintro e w46 ⟨rfl, hb⟩
                         have HS0_ := (hb.cell (World.block_lt_of_cell? _ _ (hHeld.1))).trans (hHeld.1)
                         have HS1_ := (hb.cell (World.block_lt_of_cell? _ _ (hHeld.2))).trans (hHeld.2)
                         refine ⟨_, rfl, ?_⟩
                         have n0_ := Aside0.mk (Kd.R_below (by (with_reducible repeat (first | apply Kd.R_alloc | apply Kd.R_drewN | apply Kd.R_drew)); exact HO_11.out) hb)
                         have n1_ := Aside0.mk (Kd.R_below (by (with_reducible repeat (first | apply Kd.R_alloc | apply Kd.R_drewN | apply Kd.R_drew)); exact HO_12.out) hb)
                         have n2_ := Aside0.mk (Kd.C_below (by repeat (first | (with_reducible exact HR499.out) | (with_reducible refine Kd.C_alloc ?_ _) | (with_reducible refine Kd.C_drewN ?_ _) | (with_reducible refine Kd.C_drew ?_) | exact HR499.out)) hb)
                         have n3_ := Aside0.mk (below_step (by repeat (first | exact HB.out | apply below_alloc | apply pw_below_drewN | apply below_drew1)) hb)
                         clear HO_11
                         clear HO_12
                         clear HR499
                         clear HB
                         have HO_11 := n0_
                         have HO_12 := n1_
                         have HR499 := n2_
                         have HB := n3_
                         clear n0_ n1_ n2_ n3_
                         (try clear hb)
                         (try clear hb2)
                         (try clear hk)
                         (try clear hi)
                         refine hK.out _ _ ⟨HS0_, HS1_⟩ (fun hHeld => ?_)
                         clear hK K
                         refine norm_ (a' := ?_) ?_ ?_
                         rotate_left
                         ·show Act.put _ (some 103) _ = _
                          simp only [Act.put, List.setIfInBounds_toArray, List.set_cons_zero, List.set_cons_succ, i64_w, i32_w]
                          rfl
                         refine last_ (i := 11) (N := some 104) #[true, true, true, true, true, true, true, true, true, true, true, true, false, false] rfl rfl (one_of HT_.out (by kernel_rfl)) (by decide) (fun K hK => ?_)
                         refine value_ (w1 := ?_) (v := ?_) (by rfl) rfl ?_ ?_
                         rotate_left 2
                         ·go_simp
                          constructor
                          ·rfl
                          ·rfl
                         refine hK.out _ _ ?_
                         clear hK K
                         refine norm_ (a' := ?_) ?_ ?_
                         rotate_left
                         ·show Act.put _ (some 104) _ = _
                          simp only [Act.put, List.setIfInBounds_toArray, List.set_cons_zero, List.set_cons_succ, i64_w, i32_w]
                          rfl
                         refine last_ (i := 12) (N := some 105) #[true, true, true, true, true, true, true, true, true, true, true, true, true, false] rfl rfl (one_of HT_.out (by kernel_rfl)) (by decide) (fun K hK => ?_)
                         refine Kd.R_append_step Kd.string (w0 := w) w.heap.size (by rfl) (.tmp 93) (.tmp 104) 42 9 (.string ⟨#[]⟩) 16 rfl Tryd.underlying42 info9 rfl (by decide) (by omega) u12 x12_6 t502 [.string t502] (fun k_ => some k_ ≠ (.slice (some ad500) x11_5.length co36 : Value).ownBlock) (fun _ => False) rfl rfl ?aP (fun _ hk => hk.elim) ?aF ?aO ?aB ?aS ?aL ?_
                         (case aP => exact rfl)
                         (case aB => exact (by repeat (first | exact HB.out | apply below_alloc | apply pw_below_drewN | apply below_drew1)))
                         (case aF => exact (fun k_ hk => Kd.fresh' (Kd.R_lt (by (with_reducible repeat (first | apply Kd.R_alloc | apply Kd.R_drewN | apply Kd.R_drew)); exact HO_11.out)) k_ hk))
                         (case aO => exact (by (with_reducible repeat (first | apply Kd.R_alloc | apply Kd.R_drewN | apply Kd.R_drew)); exact HO_12.out))
                         (case aS => exact (below_size (by repeat (first | exact HB.out | apply below_alloc | apply pw_below_drewN | apply below_drew1))))
                         (case aL => have := LMc44.out; omega)
                         intro v504 w47 ho hb hg hat
                         rw [← Ny503.out] at ho
                         have n0_ := Aside0.mk (Kd.R_after (ok := (fun _ => True)) (by (with_reducible repeat (first | apply Kd.R_alloc | apply Kd.R_drewN | apply Kd.R_drew)); exact Kd.R_mono HO_11.out (fun _ hk => ⟨trivial, hk⟩)) hg hat)
                         have n1_ := Aside0.mk (hb)
                         have n2_ := Aside0.mk ((show Kd.C Kd.string w47 A35 y496.length y496 from by rw [Ny496.out, KA35.out]; exact Kd.C_drop (m := 1) (c := co36) ((Kd.R_reads' (Kd.R_after (ok := (fun _ => True)) (by (with_reducible repeat (first | apply Kd.R_alloc | apply Kd.R_drewN | apply Kd.R_drew)); exact Kd.R_mono HO_11.out (fun _ hk => ⟨trivial, hk⟩)) hg hat)).2.2) KL35.out ((Kd.R_reads' (Kd.R_after (ok := (fun _ => True)) (by (with_reducible repeat (first | apply Kd.R_alloc | apply Kd.R_drewN | apply Kd.R_drew)); exact Kd.R_mono HO_11.out (fun _ hk => ⟨trivial, hk⟩)) hg hat)).2.1)))
                         have n3_ := Aside0.mk (ho)
                         clear HO_11
                         clear HB
                         clear HR499
                         clear HO_12
                         have HO_11 := n0_
                         have HB := n1_
                         have HR499 := n2_
                         have HO505 := n3_
                         clear n0_ n1_ n2_ n3_
                         clear ho hb hg hat
                         refine hK.out _ _ ?_
                         clear hK K
                         refine norm_ (a' := ?_) ?_ ?_
                         rotate_left
                         ·show Act.put _ (some 105) _ = _
                          simp only [Act.put, List.setIfInBounds_toArray, List.set_cons_zero, List.set_cons_succ, i64_w, i32_w]
                          rfl
                         refine pure_ (i := 13) (N := some 12) (v := ?_) (a' := ?_) #[true, true, true, true, true, true, true, true, true, true, true, true, true, true] rfl rfl (any_of HT_.out (by kernel_rfl)) (fun _ _ _ h => h) (Or.inl ⟨by rfl, ?_⟩) ?_ ?_
                         rotate_left
                         ·intro w'
                          go_simp
                          with_reducible rfl
                         rotate_left
                         ·simp only [Act.put, List.setIfInBounds_toArray, List.set_cons_zero, List.set_cons_succ, i64_w, i32_w]
                          rfl
                         refine done_ (done_of HT_.out (by kernel_rfl)) ?_
                         try go_wp2
                         go_roundg k6
                         case measure => have := HJ6.out; have := HJ15.out; have := HJ17.out; have := HK4.out; have := HK5.out; have := HK6.out; omega
                         case rel => exact ⟨(y503), (ji40), (by first | rfl | (simp; done) | (simp only [← hji40] <;> (first | rfl | simp)) | (simp [*]; done)), H', ⟨by have := HJ6.out; have := HJ15.out; have := HJ17.out; have := HK4.out; have := HK5.out; have := HK6.out; omega⟩, ⟨by (with_reducible repeat (first | apply Kd.R_alloc | apply Kd.R_drewN | apply Kd.R_drew)); exact Kd.R_mono HO_11.out (fun _ hk => hk.2)⟩, ⟨by (with_reducible repeat (first | apply Kd.R_alloc | apply Kd.R_drewN | apply Kd.R_drew)); exact HO505.out⟩, ⟨by repeat (first | (with_reducible exact HR499.out) | (with_reducible refine Kd.C_alloc ?_ _) | (with_reducible refine Kd.C_drewN ?_ _) | (with_reducible refine Kd.C_drew ?_) | exact HR499.out)⟩, ⟨by repeat (first | exact HB.out | apply below_alloc | apply pw_below_drewN | apply below_drew1)⟩⟩
                        ·rw [if_neg c44] at H
                         exact absurd H (by simp)
                       ·rw [if_neg c42] at H
                        exact absurd H (by simp)
                      ·rw [if_neg c41] at H
                       exact absurd H (by simp)
                     ·rw [if_neg c39] at H
                      exact absurd H (by simp)
                    ·rw [if_neg c38] at H
                     exact absurd H (by simp)
                   ·rw [if_neg c37] at H
                    have c37b0 : decide (x90_6 < (y496.length : Int)) = false := decide_eq_false c37
                    clear c37
                    by_cases c48 : x12_6.length < 8796093022208
                    ·rw [if_pos c48] at H
                     have LMc48 := Aside0.mk c48
                     clear c48
                     obtain ⟨y506, hy506⟩ : ∃ y_ : List ByteArray, y_ = (x12_6 ++ [(⟨#[49]⟩ : ByteArray)]) := ⟨_, rfl⟩
                     replace H : (gamehalllaw2_NatCounts.l1 k6 a0 a1 t483 t484 t485 t486 x9_4 y506 a0 (wrap64 (x84_5 + 1))) = some r := by first | (rw [hy506]; with_reducible exact H) | (have H2_ := (Option.bind_some _ _).symm.trans H; rw [hy506]; with_reducible exact H2_) | (have H2_ := (Option.bind_some _ _).symm.trans H; with_reducible exact H2_) | with_reducible exact H | (rw [hy506]; exact H) | exact H
                     have Ny506 := Aside0.mk hy506
                     clear hy506
                     have H' := Aside0.mk H
                     clear H
                     go_wp2_with (first | ((with_reducible refine gate_builtin (b := .append) (xs := #[.tmp 107, .tmp 108]) rfl ?_); at_builtin; refine Kd.R_append Kd.string (w0 := w) w.heap.size rfl (.tmp 107) (.tmp 108) 42 9 (.string ⟨#[]⟩) 16 rfl Tryd.underlying42 info9 rfl (by decide) (by omega) u12 x12_6 (⟨#[49]⟩ : ByteArray) [.string (⟨#[49]⟩ : ByteArray)] (fun k_ => some k_ ≠ (.slice Ao36 x11_5.length co36 : Value).ownBlock) (fun _ => False) rfl rfl ?aP (fun _ hk => hk.elim) ?aF ?aO ?aB ?aS ?aL ?_; (case aP => exact rfl); (case aB => exact (by repeat (first | exact HB.out | apply below_alloc | apply pw_below_drewN | apply below_drew1))); (case aF => exact (fun k_ hk => Kd.fresh' (Kd.R_lt (by (with_reducible repeat (first | apply Kd.R_alloc | apply Kd.R_drewN | apply Kd.R_drew)); exact HO_11.out)) k_ hk)); (case aO => exact (by (with_reducible repeat (first | apply Kd.R_alloc | apply Kd.R_drewN | apply Kd.R_drew)); exact HO_12.out)); (case aS => exact (below_size (by repeat (first | exact HB.out | apply below_alloc | apply pw_below_drewN | apply below_drew1)))); (case aL => have := LMc48.out; omega); intro v507 w49 ho hb hg hat; rw [← Ny506.out] at ho; have n0_ := Aside0.mk (Kd.R_after (ok := (fun _ => True)) (by (with_reducible repeat (first | apply Kd.R_alloc | apply Kd.R_drewN | apply Kd.R_drew)); exact Kd.R_mono HO_11.out (fun _ hk => ⟨trivial, hk⟩)) hg hat); have n1_ := Aside0.mk (hb); have n2_ := Aside0.mk ((show Kd.C Kd.string w49 A35 y496.length y496 from by rw [Ny496.out, KA35.out]; exact Kd.C_drop (m := 1) (c := co36) ((Kd.R_reads' (Kd.R_after (ok := (fun _ => True)) (by (with_reducible repeat (first | apply Kd.R_alloc | apply Kd.R_drewN | apply Kd.R_drew)); exact Kd.R_mono HO_11.out (fun _ hk => ⟨trivial, hk⟩)) hg hat)).2.2) KL35.out ((Kd.R_reads' (Kd.R_after (ok := (fun _ => True)) (by (with_reducible repeat (first | apply Kd.R_alloc | apply Kd.R_drewN | apply Kd.R_drew)); exact Kd.R_mono HO_11.out (fun _ hk => ⟨trivial, hk⟩)) hg hat)).2.1))); have n3_ := Aside0.mk (ho); clear HO_11; clear HB; clear HR499; clear HO_12; have HO_11 := n0_; have HB := n1_; have HR499 := n2_; have HO508 := n3_; clear n0_ n1_ n2_ n3_; clear ho hb hg hat))
                     go_roundg k6
                     case measure => have := HJ6.out; have := HJ15.out; have := HJ17.out; have := HK4.out; have := HK5.out; have := HK6.out; omega
                     case rel => exact ⟨(y506), (wrap64 (x84_5 + 1)), (by first | rfl | (simp; done) | (simp [*]; done)), H', ⟨by have := HJ6.out; have := HJ15.out; have := HJ17.out; have := HK4.out; have := HK5.out; have := HK6.out; omega⟩, ⟨by (with_reducible repeat (first | apply Kd.R_alloc | apply Kd.R_drewN | apply Kd.R_drew)); exact Kd.R_mono HO508.out (fun _ hk => trivial)⟩, ⟨by repeat (first | exact HB.out | apply below_alloc | apply pw_below_drewN | apply below_drew1)⟩⟩
                    ·rw [if_neg c48] at H
                     exact absurd H (by simp)
                ·rw [if_neg c32] at H
                 exact absurd H (by simp)
               ·rw [if_neg c31] at H
                have c31b0 : decide (x84_5 < a0) = false := decide_eq_false c31
                clear c31
                by_cases c50 : t484 = 0
                ·rw [if_pos c50] at H
                 have c50b0 : (t484 == 0) = true := beq_iff_eq.mpr c50
                 have c50b1 : (t484 != 0) = false := bne_eq_false_iff_eq.mpr c50
                 clear c50
                 by_cases c51 : t483.toList = x9_4.toList
                 ·rw [if_pos c51] at H
                  have c51b0 : (t483.toList == x9_4.toList) = true := beq_iff_eq.mpr c51
                  have c51b1 : (t483.toList != x9_4.toList) = false := bne_eq_false_iff_eq.mpr c51
                  clear c51
                  by_cases c52 : a1 < 0
                  ·rw [if_pos c52] at H
                   have c52b0 : decide (a1 < 0) = true := decide_eq_true c52
                   clear c52
                   obtain rfl := Option.some.inj H
                   go_wp2
                   go_ret
                   exact ⟨by first | rfl | (simp [errW_none, errW_some] <;> rfl) | (simp [*, errW_none, errW_some] <;> rfl), by repeat (first | exact HB.out | apply below_alloc | apply pw_below_drewN | apply below_drew1)⟩
                  ·rw [if_neg c52] at H
                   have c52b0 : decide (a1 < 0) = false := decide_eq_false c52
                   clear c52
                   by_cases c53 : a1 > a0
                   ·rw [if_pos c53] at H
                    have c53b0 : decide (a0 < a1) = true := decide_eq_true c53
                    clear c53
                    obtain rfl := Option.some.inj H
                    go_wp2
                    go_ret
                    exact ⟨by first | rfl | (simp [errW_none, errW_some] <;> rfl) | (simp [*, errW_none, errW_some] <;> rfl), by repeat (first | exact HB.out | apply below_alloc | apply pw_below_drewN | apply below_drew1)⟩
                   ·rw [if_neg c53] at H
                    have c53b0 : decide (a0 < a1) = false := decide_eq_false c53
                    clear c53
                    by_cases c54 : t486 = 0
                    ·rw [if_pos c54] at H
                     have c54b0 : (t486 == 0) = true := beq_iff_eq.mpr c54
                     have c54b1 : (t486 != 0) = false := bne_eq_false_iff_eq.mpr c54
                     clear c54
                     by_cases c55 : 0 ≤ a1
                     ·rw [if_pos c55] at H
                      have c55b0 : decide (0 ≤ a1) = true := decide_eq_true c55
                      clear c55
                      by_cases c56 : a1 < (x11_5.length : Int)
                      ·rw [if_pos c56] at H
                       have c56b0 : decide (a1 < (x11_5.length : Int)) = true := decide_eq_true c56
                       clear c56
                       obtain rfl := Option.some.inj H
                       obtain ⟨Ao57, co57, eo57⟩ := Kd.R_slice HO_11.out
                       subst eo57
                       have p492 : 0 ≤ (a1 : Int) := of_decide_eq_true (by assumption)
                       have q492 : a1 < (x11_5.length : Int) := of_decide_eq_true (by assumption)
                       obtain ⟨ad492, e492, hx492_0⟩ := Kd.at_string (Kd.R_reads' HO_11.out).2.2 a1 p492 q492
                       cases e492
                       replace p492 := eq_true p492
                       replace q492 := eq_true q492
                       go_wp2
                       go_ret
                       exact ⟨by first | rfl | (simp [errW_none, errW_some] <;> rfl) | (simp [*, errW_none, errW_some] <;> rfl), by repeat (first | exact HB.out | apply below_alloc | apply pw_below_drewN | apply below_drew1)⟩
                      ·rw [if_neg c56] at H
                       exact absurd H (by simp)
                     ·rw [if_neg c55] at H
                      exact absurd H (by simp)
                    ·rw [if_neg c54] at H
                     have c54b0 : (t486 == 0) = false := beq_eq_false_iff_ne.mpr c54
                     have c54b1 : (t486 != 0) = true := bne_iff_ne.mpr c54
                     obtain rfl := Option.some.inj H
                     go_wp2
                     go_ret
                     exact ⟨by first | rfl | (simp [errW_none, errW_some] <;> rfl) | (simp [*, errW_none, errW_some] <;> rfl), by repeat (first | exact HB.out | apply below_alloc | apply pw_below_drewN | apply below_drew1)⟩
                 ·rw [if_neg c51] at H
                  have c51b0 : (t483.toList == x9_4.toList) = false := beq_eq_false_iff_ne.mpr c51
                  have c51b1 : (t483.toList != x9_4.toList) = true := bne_iff_ne.mpr c51
                  obtain rfl := Option.some.inj H
                  go_wp2
                  go_ret
                  exact ⟨by first | rfl | (simp [errW_none, errW_some] <;> rfl) | (simp [*, errW_none, errW_some] <;> rfl), by repeat (first | exact HB.out | apply below_alloc | apply pw_below_drewN | apply below_drew1)⟩
                ·rw [if_neg c50] at H
                 have c50b0 : (t484 == 0) = false := beq_eq_false_iff_ne.mpr c50
                 have c50b1 : (t484 != 0) = true := bne_iff_ne.mpr c50
                 obtain rfl := Option.some.inj H
                 go_wp2
                 go_ret
                 exact ⟨by first | rfl | (simp [errW_none, errW_some] <;> rfl) | (simp [*, errW_none, errW_some] <;> rfl), by repeat (first | exact HB.out | apply below_alloc | apply pw_below_drewN | apply below_drew1)⟩
 ·replace c4 := Bool.eq_false_iff.mpr c4
  subst c4
  have H1 : (some false) = some r := by rw [if_neg (show ¬ (false = true) by decide)] at H; exact H
  clear H
  have H := H1
  clear H1
  obtain rfl := Option.some.inj H
  go_enter Tryd.func6, Tryd.ntmps6
  go_wp2_with (first | ((with_reducible refine gate_callee (f := 12) rfl ?_); refine goesL_ (some 14) rfl rfl Tryd.func12 (by kernel_rfl) rfl #[] rfl (by (try simp only [List.map_toArray, List.map_cons, List.map_nil]); first | done | rfl | (simp only [List.length_drop, List.length_take]; rfl)) ?_; (with_reducible refine (gamehalllaw2_natFact.calls k  false _ A3.out).mono ?_); rintro e w58 ⟨rfl, hb⟩; refine ⟨_, rfl, ?_⟩; have n0_ := Aside0.mk (below_step (by repeat (first | exact HB.out | apply below_alloc | apply pw_below_drewN | apply below_drew1)) hb); clear HB; have HB := n0_; clear n0_; (try clear hb); (try clear hb2); (try clear hk); (try clear hi)))
  go_ret
  exact ⟨by first | rfl | (simp [errW_none, errW_some] <;> rfl) | (simp [*, errW_none, errW_some] <;> rfl), by repeat (first | exact HB.out | apply below_alloc | apply pw_below_drewN | apply below_drew1)⟩

/-- THE ONE PURE STATEMENT of gamehalllaw2_NatCounts: yours. -/
def gamehalllaw2_NatCounts.Pure : Prop := ∀ (a0 : Int) (a1 : Int), (Lit.int .i64 a0).wf = true → (Lit.int .i64 a1).wf = true → ∃ k, gamehalllaw2_NatCounts.f k a0 a1 = some true
theorem gamehalllaw2_NatCounts.walk (P : gamehalllaw2_NatCounts.Pure) (a0 : Int) (a1 : Int) (w : World) (w0 : (Lit.int .i64 a0).wf = true) (w1 : (Lit.int .i64 a1).wf = true) :
  Calls Tryd.prog 6 #[.int .i64 a0, .int .i64 a1] w fun e w' => e = .returned (.bool true) ∧ Below w.heap.size w w' := by
 obtain ⟨k, h⟩ := P a0 a1 w0 w1
 refine (gamehalllaw2_NatCounts.calls k a0 a1 true w h).mono ?_
 rintro e w' ⟨rfl, hd⟩
 exact ⟨rfl, hd⟩

end Go.Proofs.YtolikobhjmnedaaDoor.GN
