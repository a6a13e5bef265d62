-- A text of this session's own: written by its program gprint
import Derived.Test.YtejcniaepjahbaaGICx0
import Derived.Test.YtejcniaepjahbaaGICx1
import Derived.Test.YtejcniaepjahbaaGICx5
import Derived.Test.YtejcniaepjahbaaGICx6
namespace Go.Proofs.Ytejcniaepjahbaa.GIC
open Go.RowKit Go.Proofs.YtejcniaepjahbaaW.PrintWords Go.Proofs.YtejcniaepjahbaaW.PrintLast Go.Proofs.YtejcniaepjahbaaW.PrintMore
attribute [local go_sem] max2_int min2_int max_two min_two max_three min_three max_four min_four   -- for this text's walks alone
set_option linter.unusedVariables false
set_option linter.unusedSimpArgs false

/-! ### gamehalllaw2_IndexCounts: function 3 -/
mutual
def gamehalllaw2_IndexCounts.j0 : Nat → List Int → List Int → List Int → Int → Int → Int → Bool → Option (Bool)
  | 0, _, _, _, _, _, _, _ => none
  | k + 1, x0, x1, x5, x7, x9, x10, x53 => if x53 = true then (some false) else (if x9 = 0 then (if x10 = 0 then (gamehalllaw2_IndexCounts.j1 k x0 x1 x5 x7 x9 x10 false) else (gamehalllaw2_IndexCounts.j1 k x0 x1 x5 x7 x9 x10 (x7 != 0))) else (if (x5.length : Int) > 0 then (gamehalllaw2_IndexCounts.j1 k x0 x1 x5 x7 x9 x10 true) else (if x10 = 0 then (gamehalllaw2_IndexCounts.j1 k x0 x1 x5 x7 x9 x10 false) else (gamehalllaw2_IndexCounts.j1 k x0 x1 x5 x7 x9 x10 (x7 != 0)))))
def gamehalllaw2_IndexCounts.j1 : Nat → List Int → List Int → List Int → Int → Int → Int → Bool → Option (Bool)
  | 0, _, _, _, _, _, _, _ => none
  | k + 1, x0, x1, x5, x7, x9, x10, x68 => if x68 = true then (some false) else (if x9 = 0 then (if (x5.length : Int) = 7 then (gamehalllaw2_IndexCounts.l0 k x0 x1 x7 x10 x5 (x5.length : Int) 0) else (some false)) else (gamehalllaw2_IndexCounts.j4 k x1 x7 x10))
def gamehalllaw2_IndexCounts.j4 : Nat → List Int → Int → Int → Option (Bool)
  | 0, _, _, _ => none
  | k + 1, x1, x7, x10 => gamehalllaw2_IndexCounts.l2 k x1 x7 x10 0 x1 (x1.length : Int) 0
def gamehalllaw2_IndexCounts.l2 : Nat → List Int → Int → Int → Int → List Int → Int → Int → Option (Bool)
  | 0, _, _, _, _, _, _, _ => none
  | k + 1, x1, x7, x10, x15, x96, x97, x98 => if x98 < x97 then (if 0 ≤ x98 then (if x98 < (x96.length : Int) then (if x10 = 0 then (gamehalllaw2_IndexCounts.l2 k x1 x7 x10 (wrap64 (x15 + (rd x96 x98))) x96 x97 (wrap64 (x98 + 1))) else (gamehalllaw2_IndexCounts.l2 k x1 x7 x10 x15 x96 x97 (wrap64 (x98 + 1)))) else (none)) else (none)) else (if x10 = 0 then (if x15 > 7 then (some true) else ((gamehallref2_Placements.f k x1).bind fun t237 => (some (x7 == (t237.length : Int))))) else (some true))
def gamehalllaw2_IndexCounts.l0 : Nat → List Int → List Int → Int → Int → List Int → Int → Int → Option (Bool)
  | 0, _, _, _, _, _, _, _ => none
  | k + 1, x0, x1, x7, x10, x74, x75, x76 => if x76 < x75 then (if 0 ≤ x76 then (if x76 < (x74.length : Int) then (gamehalllaw2_IndexCounts.l1 k x0 x1 x7 x10 x76 (rd x74 x76) x74 x75 x76 x0 (x0.length : Int) 0) else (none)) else (none)) else (gamehalllaw2_IndexCounts.j4 k x1 x7 x10)
def gamehalllaw2_IndexCounts.l1 : Nat → List Int → List Int → Int → Int → Int → Int → List Int → Int → Int → List Int → Int → Int → Option (Bool)
  | 0, _, _, _, _, _, _, _, _, _, _, _, _ => none
  | k + 1, x0, x1, x7, x10, x11, x12, x74, x75, x76, x81, x82, x83 => if x83 < x82 then (if 0 ≤ x83 then (if x83 < (x81.length : Int) then (if (rd x81 x83) = x11 then (gamehalllaw2_IndexCounts.l1 k x0 x1 x7 x10 x11 (wrap64 (x12 - 1)) x74 x75 x76 x81 x82 (wrap64 (x83 + 1))) else (gamehalllaw2_IndexCounts.l1 k x0 x1 x7 x10 x11 x12 x74 x75 x76 x81 x82 (wrap64 (x83 + 1)))) else (none)) else (none)) else (if x12 = 0 then (gamehalllaw2_IndexCounts.l0 k x0 x1 x7 x10 x74 x75 (wrap64 (x76 + 1))) else (some false))
end
def gamehalllaw2_IndexCounts.f (k : Nat) (l0 : List Int) (l1 : List Int) : Option (Bool) := (gamehalllaw2_indexFact.f k).bind fun t223 => (if t223 = true then ((index_Counts.f k l0).bind fun bt224 => ((index_Count.f k l1).bind fun bt228 => ((gamehallref2_CellsError.f k l0).bind fun t230 => ((gamehallref2_CountsError.f k l1).bind fun t231 => ((index_Check.f k l0).bind fun t232 => (if t232 = t230 then ((index_CheckCounts.f k l1).bind fun t233 => (if t233 = t231 then (if bt224.2 = t230 then (gamehalllaw2_IndexCounts.j0 k l0 l1 bt224.1 bt228.1 t230 t231 (bt228.2 != t231)) else (gamehalllaw2_IndexCounts.j0 k l0 l1 bt224.1 bt228.1 t230 t231 true)) else (gamehalllaw2_IndexCounts.j0 k l0 l1 bt224.1 bt228.1 t230 t231 true))) else (gamehalllaw2_IndexCounts.j0 k l0 l1 bt224.1 bt228.1 t230 t231 true))))))) else (some false))
theorem gamehalllaw2_IndexCounts.mono_l : ∀ k, (∀ y0 y1 y2 y3 y4 y5 y6, LeO (gamehalllaw2_IndexCounts.j0 k y0 y1 y2 y3 y4 y5 y6) (gamehalllaw2_IndexCounts.j0 (k + 1) y0 y1 y2 y3 y4 y5 y6)) ∧ (∀ y0 y1 y2 y3 y4 y5 y6, LeO (gamehalllaw2_IndexCounts.j1 k y0 y1 y2 y3 y4 y5 y6) (gamehalllaw2_IndexCounts.j1 (k + 1) y0 y1 y2 y3 y4 y5 y6)) ∧ (∀ y0 y1 y2, LeO (gamehalllaw2_IndexCounts.j4 k y0 y1 y2) (gamehalllaw2_IndexCounts.j4 (k + 1) y0 y1 y2)) ∧ (∀ y0 y1 y2 y3 y4 y5 y6, LeO (gamehalllaw2_IndexCounts.l2 k y0 y1 y2 y3 y4 y5 y6) (gamehalllaw2_IndexCounts.l2 (k + 1) y0 y1 y2 y3 y4 y5 y6)) ∧ (∀ y0 y1 y2 y3 y4 y5 y6, LeO (gamehalllaw2_IndexCounts.l0 k y0 y1 y2 y3 y4 y5 y6) (gamehalllaw2_IndexCounts.l0 (k + 1) y0 y1 y2 y3 y4 y5 y6)) ∧ (∀ y0 y1 y2 y3 y4 y5 y6 y7 y8 y9 y10 y11, LeO (gamehalllaw2_IndexCounts.l1 k y0 y1 y2 y3 y4 y5 y6 y7 y8 y9 y10 y11) (gamehalllaw2_IndexCounts.l1 (k + 1) y0 y1 y2 y3 y4 y5 y6 y7 y8 y9 y10 y11))
  | 0 => ⟨fun _ _ _ _ _ _ _ r h => by simp [gamehalllaw2_IndexCounts.j0] at h, fun _ _ _ _ _ _ _ r h => by simp [gamehalllaw2_IndexCounts.j1] at h, fun _ _ _ r h => by simp [gamehalllaw2_IndexCounts.j4] at h, fun _ _ _ _ _ _ _ r h => by simp [gamehalllaw2_IndexCounts.l2] at h, fun _ _ _ _ _ _ _ r h => by simp [gamehalllaw2_IndexCounts.l0] at h, fun _ _ _ _ _ _ _ _ _ _ _ _ r h => by simp [gamehalllaw2_IndexCounts.l1] at h⟩
  | k + 1 => by
    obtain ⟨ih0, ih1, ih2, ih3, ih4, ih5⟩ := gamehalllaw2_IndexCounts.mono_l k
    refine ⟨?_, ?_, ?_, ?_, ?_, ?_⟩
    · intro y0 y1 y2 y3 y4 y5 y6
      unfold gamehalllaw2_IndexCounts.j0
      repeat' first
      | (with_reducible exact ih0 _ _ _ _ _ _ _)
      | (with_reducible exact ih1 _ _ _ _ _ _ _)
      | (with_reducible exact ih2 _ _ _)
      | (with_reducible exact ih3 _ _ _ _ _ _ _)
      | (with_reducible exact ih4 _ _ _ _ _ _ _)
      | (with_reducible exact ih5 _ _ _ _ _ _ _ _ _ _ _ _)
      | (with_reducible exact gamehalllaw2_indexFact.mono _)
      | (with_reducible exact gamehallref2_CellsError.mono _ _)
      | (with_reducible exact gamehallref2_CountsError.mono _ _)
      | (with_reducible exact gamehallref2_Placements.mono _ _)
      | (with_reducible exact index_Check.mono _ _)
      | (with_reducible exact index_CheckCounts.mono _ _)
      | (with_reducible exact index_Count.mono _ _)
      | (with_reducible exact index_Counts.mono _ _)
      | (with_reducible exact LeO.refl _)
      | (with_reducible exact LeO.none _)
      | (with_reducible refine LeO.ite ?_ ?_)
      | (with_reducible refine LeO.bind ?_ (fun _ => ?_))
      | exact ih0 _ _ _ _ _ _ _
      | exact ih1 _ _ _ _ _ _ _
      | exact ih2 _ _ _
      | exact ih3 _ _ _ _ _ _ _
      | exact ih4 _ _ _ _ _ _ _
      | exact ih5 _ _ _ _ _ _ _ _ _ _ _ _
      | exact gamehalllaw2_indexFact.mono _
      | exact gamehallref2_CellsError.mono _ _
      | exact gamehallref2_CountsError.mono _ _
      | exact gamehallref2_Placements.mono _ _
      | exact index_Check.mono _ _
      | exact index_CheckCounts.mono _ _
      | exact index_Count.mono _ _
      | exact index_Counts.mono _ _
      | exact LeO.none _
      | refine LeO.ite ?_ ?_
      | refine LeO.bind ?_ (fun _ => ?_)
    · intro y0 y1 y2 y3 y4 y5 y6
      unfold gamehalllaw2_IndexCounts.j1
      repeat' first
      | (with_reducible exact ih0 _ _ _ _ _ _ _)
      | (with_reducible exact ih1 _ _ _ _ _ _ _)
      | (with_reducible exact ih2 _ _ _)
      | (with_reducible exact ih3 _ _ _ _ _ _ _)
      | (with_reducible exact ih4 _ _ _ _ _ _ _)
      | (with_reducible exact ih5 _ _ _ _ _ _ _ _ _ _ _ _)
      | (with_reducible exact gamehalllaw2_indexFact.mono _)
      | (with_reducible exact gamehallref2_CellsError.mono _ _)
      | (with_reducible exact gamehallref2_CountsError.mono _ _)
      | (with_reducible exact gamehallref2_Placements.mono _ _)
      | (with_reducible exact index_Check.mono _ _)
      | (with_reducible exact index_CheckCounts.mono _ _)
      | (with_reducible exact index_Count.mono _ _)
      | (with_reducible exact index_Counts.mono _ _)
      | (with_reducible exact LeO.refl _)
      | (with_reducible exact LeO.none _)
      | (with_reducible refine LeO.ite ?_ ?_)
      | (with_reducible refine LeO.bind ?_ (fun _ => ?_))
      | exact ih0 _ _ _ _ _ _ _
      | exact ih1 _ _ _ _ _ _ _
      | exact ih2 _ _ _
      | exact ih3 _ _ _ _ _ _ _
      | exact ih4 _ _ _ _ _ _ _
      | exact ih5 _ _ _ _ _ _ _ _ _ _ _ _
      | exact gamehalllaw2_indexFact.mono _
      | exact gamehallref2_CellsError.mono _ _
      | exact gamehallref2_CountsError.mono _ _
      | exact gamehallref2_Placements.mono _ _
      | exact index_Check.mono _ _
      | exact index_CheckCounts.mono _ _
      | exact index_Count.mono _ _
      | exact index_Counts.mono _ _
      | exact LeO.none _
      | refine LeO.ite ?_ ?_
      | refine LeO.bind ?_ (fun _ => ?_)
    · intro y0 y1 y2
      unfold gamehalllaw2_IndexCounts.j4
      repeat' first
      | (with_reducible exact ih0 _ _ _ _ _ _ _)
      | (with_reducible exact ih1 _ _ _ _ _ _ _)
      | (with_reducible exact ih2 _ _ _)
      | (with_reducible exact ih3 _ _ _ _ _ _ _)
      | (with_reducible exact ih4 _ _ _ _ _ _ _)
      | (with_reducible exact ih5 _ _ _ _ _ _ _ _ _ _ _ _)
      | (with_reducible exact gamehalllaw2_indexFact.mono _)
      | (with_reducible exact gamehallref2_CellsError.mono _ _)
      | (with_reducible exact gamehallref2_CountsError.mono _ _)
      | (with_reducible exact gamehallref2_Placements.mono _ _)
      | (with_reducible exact index_Check.mono _ _)
      | (with_reducible exact index_CheckCounts.mono _ _)
      | (with_reducible exact index_Count.mono _ _)
      | (with_reducible exact index_Counts.mono _ _)
      | (with_reducible exact LeO.refl _)
      | (with_reducible exact LeO.none _)
      | (with_reducible refine LeO.ite ?_ ?_)
      | (with_reducible refine LeO.bind ?_ (fun _ => ?_))
      | exact ih0 _ _ _ _ _ _ _
      | exact ih1 _ _ _ _ _ _ _
      | exact ih2 _ _ _
      | exact ih3 _ _ _ _ _ _ _
      | exact ih4 _ _ _ _ _ _ _
      | exact ih5 _ _ _ _ _ _ _ _ _ _ _ _
      | exact gamehalllaw2_indexFact.mono _
      | exact gamehallref2_CellsError.mono _ _
      | exact gamehallref2_CountsError.mono _ _
      | exact gamehallref2_Placements.mono _ _
      | exact index_Check.mono _ _
      | exact index_CheckCounts.mono _ _
      | exact index_Count.mono _ _
      | exact index_Counts.mono _ _
      | exact LeO.none _
      | refine LeO.ite ?_ ?_
      | refine LeO.bind ?_ (fun _ => ?_)
    · intro y0 y1 y2 y3 y4 y5 y6
      unfold gamehalllaw2_IndexCounts.l2
      repeat' first
      | (with_reducible exact ih0 _ _ _ _ _ _ _)
      | (with_reducible exact ih1 _ _ _ _ _ _ _)
      | (with_reducible exact ih2 _ _ _)
      | (with_reducible exact ih3 _ _ _ _ _ _ _)
      | (with_reducible exact ih4 _ _ _ _ _ _ _)
      | (with_reducible exact ih5 _ _ _ _ _ _ _ _ _ _ _ _)
      | (with_reducible exact gamehalllaw2_indexFact.mono _)
      | (with_reducible exact gamehallref2_CellsError.mono _ _)
      | (with_reducible exact gamehallref2_CountsError.mono _ _)
      | (with_reducible exact gamehallref2_Placements.mono _ _)
      | (with_reducible exact index_Check.mono _ _)
      | (with_reducible exact index_CheckCounts.mono _ _)
      | (with_reducible exact index_Count.mono _ _)
      | (with_reducible exact index_Counts.mono _ _)
      | (with_reducible exact LeO.refl _)
      | (with_reducible exact LeO.none _)
      | (with_reducible refine LeO.ite ?_ ?_)
      | (with_reducible refine LeO.bind ?_ (fun _ => ?_))
      | exact ih0 _ _ _ _ _ _ _
      | exact ih1 _ _ _ _ _ _ _
      | exact ih2 _ _ _
      | exact ih3 _ _ _ _ _ _ _
      | exact ih4 _ _ _ _ _ _ _
      | exact ih5 _ _ _ _ _ _ _ _ _ _ _ _
      | exact gamehalllaw2_indexFact.mono _
      | exact gamehallref2_CellsError.mono _ _
      | exact gamehallref2_CountsError.mono _ _
      | exact gamehallref2_Placements.mono _ _
      | exact index_Check.mono _ _
      | exact index_CheckCounts.mono _ _
      | exact index_Count.mono _ _
      | exact index_Counts.mono _ _
      | exact LeO.none _
      | refine LeO.ite ?_ ?_
      | refine LeO.bind ?_ (fun _ => ?_)
    · intro y0 y1 y2 y3 y4 y5 y6
      unfold gamehalllaw2_IndexCounts.l0
      repeat' first
      | (with_reducible exact ih0 _ _ _ _ _ _ _)
      | (with_reducible exact ih1 _ _ _ _ _ _ _)
      | (with_reducible exact ih2 _ _ _)
      | (with_reducible exact ih3 _ _ _ _ _ _ _)
      | (with_reducible exact ih4 _ _ _ _ _ _ _)
      | (with_reducible exact ih5 _ _ _ _ _ _ _ _ _ _ _ _)
      | (with_reducible exact gamehalllaw2_indexFact.mono _)
      | (with_reducible exact gamehallref2_CellsError.mono _ _)
      | (with_reducible exact gamehallref2_CountsError.mono _ _)
      | (with_reducible exact gamehallref2_Placements.mono _ _)
      | (with_reducible exact index_Check.mono _ _)
      | (with_reducible exact index_CheckCounts.mono _ _)
      | (with_reducible exact index_Count.mono _ _)
      | (with_reducible exact index_Counts.mono _ _)
      | (with_reducible exact LeO.refl _)
      | (with_reducible exact LeO.none _)
      | (with_reducible refine LeO.ite ?_ ?_)
      | (with_reducible refine LeO.bind ?_ (fun _ => ?_))
      | exact ih0 _ _ _ _ _ _ _
      | exact ih1 _ _ _ _ _ _ _
      | exact ih2 _ _ _
      | exact ih3 _ _ _ _ _ _ _
      | exact ih4 _ _ _ _ _ _ _
      | exact ih5 _ _ _ _ _ _ _ _ _ _ _ _
      | exact gamehalllaw2_indexFact.mono _
      | exact gamehallref2_CellsError.mono _ _
      | exact gamehallref2_CountsError.mono _ _
      | exact gamehallref2_Placements.mono _ _
      | exact index_Check.mono _ _
      | exact index_CheckCounts.mono _ _
      | exact index_Count.mono _ _
      | exact index_Counts.mono _ _
      | exact LeO.none _
      | refine LeO.ite ?_ ?_
      | refine LeO.bind ?_ (fun _ => ?_)
    · intro y0 y1 y2 y3 y4 y5 y6 y7 y8 y9 y10 y11
      unfold gamehalllaw2_IndexCounts.l1
      repeat' first
      | (with_reducible exact ih0 _ _ _ _ _ _ _)
      | (with_reducible exact ih1 _ _ _ _ _ _ _)
      | (with_reducible exact ih2 _ _ _)
      | (with_reducible exact ih3 _ _ _ _ _ _ _)
      | (with_reducible exact ih4 _ _ _ _ _ _ _)
      | (with_reducible exact ih5 _ _ _ _ _ _ _ _ _ _ _ _)
      | (with_reducible exact gamehalllaw2_indexFact.mono _)
      | (with_reducible exact gamehallref2_CellsError.mono _ _)
      | (with_reducible exact gamehallref2_CountsError.mono _ _)
      | (with_reducible exact gamehallref2_Placements.mono _ _)
      | (with_reducible exact index_Check.mono _ _)
      | (with_reducible exact index_CheckCounts.mono _ _)
      | (with_reducible exact index_Count.mono _ _)
      | (with_reducible exact index_Counts.mono _ _)
      | (with_reducible exact LeO.refl _)
      | (with_reducible exact LeO.none _)
      | (with_reducible refine LeO.ite ?_ ?_)
      | (with_reducible refine LeO.bind ?_ (fun _ => ?_))
      | exact ih0 _ _ _ _ _ _ _
      | exact ih1 _ _ _ _ _ _ _
      | exact ih2 _ _ _
      | exact ih3 _ _ _ _ _ _ _
      | exact ih4 _ _ _ _ _ _ _
      | exact ih5 _ _ _ _ _ _ _ _ _ _ _ _
      | exact gamehalllaw2_indexFact.mono _
      | exact gamehallref2_CellsError.mono _ _
      | exact gamehallref2_CountsError.mono _ _
      | exact gamehallref2_Placements.mono _ _
      | exact index_Check.mono _ _
      | exact index_CheckCounts.mono _ _
      | exact index_Count.mono _ _
      | exact index_Counts.mono _ _
      | exact LeO.none _
      | refine LeO.ite ?_ ?_
      | refine LeO.bind ?_ (fun _ => ?_)
theorem gamehalllaw2_IndexCounts.mono : ∀ a0 a1 k, LeO (gamehalllaw2_IndexCounts.f k a0 a1) (gamehalllaw2_IndexCounts.f (k + 1) a0 a1) := by
  intro a0 a1 k
  obtain ⟨ih0, ih1, ih2, ih3, ih4, ih5⟩ := gamehalllaw2_IndexCounts.mono_l k
  unfold gamehalllaw2_IndexCounts.f
  repeat' first
      | (with_reducible exact ih0 _ _ _ _ _ _ _)
      | (with_reducible exact ih1 _ _ _ _ _ _ _)
      | (with_reducible exact ih2 _ _ _)
      | (with_reducible exact ih3 _ _ _ _ _ _ _)
      | (with_reducible exact ih4 _ _ _ _ _ _ _)
      | (with_reducible exact ih5 _ _ _ _ _ _ _ _ _ _ _ _)
      | (with_reducible exact gamehalllaw2_indexFact.mono _)
      | (with_reducible exact gamehallref2_CellsError.mono _ _)
      | (with_reducible exact gamehallref2_CountsError.mono _ _)
      | (with_reducible exact gamehallref2_Placements.mono _ _)
      | (with_reducible exact index_Check.mono _ _)
      | (with_reducible exact index_CheckCounts.mono _ _)
      | (with_reducible exact index_Count.mono _ _)
      | (with_reducible exact index_Counts.mono _ _)
      | (with_reducible exact LeO.refl _)
      | (with_reducible exact LeO.none _)
      | (with_reducible refine LeO.ite ?_ ?_)
      | (with_reducible refine LeO.bind ?_ (fun _ => ?_))
      | exact ih0 _ _ _ _ _ _ _
      | exact ih1 _ _ _ _ _ _ _
      | exact ih2 _ _ _
      | exact ih3 _ _ _ _ _ _ _
      | exact ih4 _ _ _ _ _ _ _
      | exact ih5 _ _ _ _ _ _ _ _ _ _ _ _
      | exact gamehalllaw2_indexFact.mono _
      | exact gamehallref2_CellsError.mono _ _
      | exact gamehallref2_CountsError.mono _ _
      | exact gamehallref2_Placements.mono _ _
      | exact index_Check.mono _ _
      | exact index_CheckCounts.mono _ _
      | exact index_Count.mono _ _
      | exact index_Counts.mono _ _
      | exact LeO.none _
      | refine LeO.ite ?_ ?_
      | refine LeO.bind ?_ (fun _ => ?_)
set_option maxHeartbeats 8000000 in
set_option maxRecDepth 100000 in
theorem gamehalllaw2_IndexCounts.calls (k : Nat) (A0 : Option Addr) (c0 : Nat) (l0 : List Int) (A1 : Option Addr) (c1 : Nat) (l1 : List Int) (r : Bool) (w : World) (hr0 : Kd.C (Kd.int .i64) w A0 l0.length l0) (hc0 : l0.length ≤ c0) (hr1 : Kd.C (Kd.int .i64) w A1 l1.length l1) (hc1 : l1.length ≤ c1) (h : gamehalllaw2_IndexCounts.f k l0 l1 = some r) :
    Calls Try.prog 3 #[.slice A0 l0.length c0, .slice A1 l1.length c1] w fun e w' => e = .returned (.bool r) ∧ Below w.heap.size w w' := by
  have HR0 := Aside0.mk hr0
  have HC0 := Aside0.mk hc0
  clear hr0 hc0
  have HR1 := Aside0.mk hr1
  have HC1 := Aside0.mk hc1
  clear hr1 hc1
  have HB := Aside0.mk (Below.refl w.heap.size w)
  have H : ((gamehalllaw2_indexFact.f k).bind fun t223 => (if t223 = true then ((index_Counts.f k l0).bind fun bt224 => ((index_Count.f k l1).bind fun bt228 => ((gamehallref2_CellsError.f k l0).bind fun t230 => ((gamehallref2_CountsError.f k l1).bind fun t231 => ((index_Check.f k l0).bind fun t232 => (if t232 = t230 then ((index_CheckCounts.f k l1).bind fun t233 => (if t233 = t231 then (if bt224.2 = t230 then (gamehalllaw2_IndexCounts.j0 k l0 l1 bt224.1 bt228.1 t230 t231 (bt228.2 != t231)) else (gamehalllaw2_IndexCounts.j0 k l0 l1 bt224.1 bt228.1 t230 t231 true)) else (gamehalllaw2_IndexCounts.j0 k l0 l1 bt224.1 bt228.1 t230 t231 true))) else (gamehalllaw2_IndexCounts.j0 k l0 l1 bt224.1 bt228.1 t230 t231 true))))))) else (some false))) = some r := h
  clear h
  replace H := Option.bind_eq_some_iff.mp H
  obtain ⟨t223, A30, H⟩ := H
  replace H : (if t223 = true then ((index_Counts.f k l0).bind fun bt224 => ((index_Count.f k l1).bind fun bt228 => ((gamehallref2_CellsError.f k l0).bind fun t230 => ((gamehallref2_CountsError.f k l1).bind fun t231 => ((index_Check.f k l0).bind fun t232 => (if t232 = t230 then ((index_CheckCounts.f k l1).bind fun t233 => (if t233 = t231 then (if bt224.2 = t230 then (gamehalllaw2_IndexCounts.j0 k l0 l1 bt224.1 bt228.1 t230 t231 (bt228.2 != t231)) else (gamehalllaw2_IndexCounts.j0 k l0 l1 bt224.1 bt228.1 t230 t231 true)) else (gamehalllaw2_IndexCounts.j0 k l0 l1 bt224.1 bt228.1 t230 t231 true))) else (gamehalllaw2_IndexCounts.j0 k l0 l1 bt224.1 bt228.1 t230 t231 true))))))) else (some false)) = some r := H
  have A3 := Aside0.mk A30
  clear A30
  by_cases c4 : t223 = true
  · subst c4
    have H1 : ((index_Counts.f k l0).bind fun bt224 => ((index_Count.f k l1).bind fun bt228 => ((gamehallref2_CellsError.f k l0).bind fun t230 => ((gamehallref2_CountsError.f k l1).bind fun t231 => ((index_Check.f k l0).bind fun t232 => (if t232 = t230 then ((index_CheckCounts.f k l1).bind fun t233 => (if t233 = t231 then (if bt224.2 = t230 then (gamehalllaw2_IndexCounts.j0 k l0 l1 bt224.1 bt228.1 t230 t231 (bt228.2 != t231)) else (gamehalllaw2_IndexCounts.j0 k l0 l1 bt224.1 bt228.1 t230 t231 true)) else (gamehalllaw2_IndexCounts.j0 k l0 l1 bt224.1 bt228.1 t230 t231 true))) else (gamehalllaw2_IndexCounts.j0 k l0 l1 bt224.1 bt228.1 t230 t231 true))))))) = some r := by rw [if_pos rfl] at H; exact H
    clear H
    have H := H1
    clear H1
    replace H := Option.bind_eq_some_iff.mp H
    obtain ⟨⟨t224, t225⟩, A50, H⟩ := H
    replace H : ((index_Count.f k l1).bind fun bt228 => ((gamehallref2_CellsError.f k l0).bind fun t230 => ((gamehallref2_CountsError.f k l1).bind fun t231 => ((index_Check.f k l0).bind fun t232 => (if t232 = t230 then ((index_CheckCounts.f k l1).bind fun t233 => (if t233 = t231 then (if t225 = t230 then (gamehalllaw2_IndexCounts.j0 k l0 l1 t224 bt228.1 t230 t231 (bt228.2 != t231)) else (gamehalllaw2_IndexCounts.j0 k l0 l1 t224 bt228.1 t230 t231 true)) else (gamehalllaw2_IndexCounts.j0 k l0 l1 t224 bt228.1 t230 t231 true))) else (gamehalllaw2_IndexCounts.j0 k l0 l1 t224 bt228.1 t230 t231 true)))))) = some r := H
    have A5 := Aside0.mk A50
    clear A50
    replace H := Option.bind_eq_some_iff.mp H
    obtain ⟨⟨t228, t229⟩, A60, H⟩ := H
    replace H : ((gamehallref2_CellsError.f k l0).bind fun t230 => ((gamehallref2_CountsError.f k l1).bind fun t231 => ((index_Check.f k l0).bind fun t232 => (if t232 = t230 then ((index_CheckCounts.f k l1).bind fun t233 => (if t233 = t231 then (if t225 = t230 then (gamehalllaw2_IndexCounts.j0 k l0 l1 t224 t228 t230 t231 (t229 != t231)) else (gamehalllaw2_IndexCounts.j0 k l0 l1 t224 t228 t230 t231 true)) else (gamehalllaw2_IndexCounts.j0 k l0 l1 t224 t228 t230 t231 true))) else (gamehalllaw2_IndexCounts.j0 k l0 l1 t224 t228 t230 t231 true))))) = some r := H
    have A6 := Aside0.mk A60
    clear A60
    replace H := Option.bind_eq_some_iff.mp H
    obtain ⟨t230, A70, H⟩ := H
    replace H : ((gamehallref2_CountsError.f k l1).bind fun t231 => ((index_Check.f k l0).bind fun t232 => (if t232 = t230 then ((index_CheckCounts.f k l1).bind fun t233 => (if t233 = t231 then (if t225 = t230 then (gamehalllaw2_IndexCounts.j0 k l0 l1 t224 t228 t230 t231 (t229 != t231)) else (gamehalllaw2_IndexCounts.j0 k l0 l1 t224 t228 t230 t231 true)) else (gamehalllaw2_IndexCounts.j0 k l0 l1 t224 t228 t230 t231 true))) else (gamehalllaw2_IndexCounts.j0 k l0 l1 t224 t228 t230 t231 true)))) = some r := H
    have A7 := Aside0.mk A70
    clear A70
    replace H := Option.bind_eq_some_iff.mp H
    obtain ⟨t231, A80, H⟩ := H
    replace H : ((index_Check.f k l0).bind fun t232 => (if t232 = t230 then ((index_CheckCounts.f k l1).bind fun t233 => (if t233 = t231 then (if t225 = t230 then (gamehalllaw2_IndexCounts.j0 k l0 l1 t224 t228 t230 t231 (t229 != t231)) else (gamehalllaw2_IndexCounts.j0 k l0 l1 t224 t228 t230 t231 true)) else (gamehalllaw2_IndexCounts.j0 k l0 l1 t224 t228 t230 t231 true))) else (gamehalllaw2_IndexCounts.j0 k l0 l1 t224 t228 t230 t231 true))) = some r := H
    have A8 := Aside0.mk A80
    clear A80
    have HC9 := Aside0.mk H
    clear H
    go_enter Try.func3, Try.ntmps3
    go_upto_region 6 with (first | ((with_reducible refine gate_callee (f := 10) rfl ?_); refine goesL_ (some 18) rfl rfl Try.func10 (by kernel_rfl) rfl #[] rfl (by (try simp only [List.map_toArray, List.map_cons, List.map_nil]); first | done | rfl | (simp only [List.length_drop, List.length_take]; rfl)) ?_; (with_reducible refine (gamehalllaw2_indexFact.calls k  true _ A3.out).mono ?_); rintro e w10 ⟨rfl, hb⟩; refine ⟨_, rfl, ?_⟩; have n0_ := Aside0.mk (below_step (by repeat (first | (with_reducible first | exact HB.out | apply below_alloc | apply pw_below_drewN | apply below_drew1) | exact HB.out)) hb); clear HB; have HB := n0_; clear n0_; (try clear hb); (try clear hb2); (try clear hk); (try clear hi)) | ((with_reducible refine gate_callee (f := 11) rfl ?_); refine goesL_ (some 22) rfl rfl Try.func11 (by kernel_rfl) rfl #[.slice A0 l0.length c0] rfl (by (try simp only [List.map_toArray, List.map_cons, List.map_nil]); first | done | rfl | (simp only [List.length_drop, List.length_take]; rfl)) ?_; (with_reducible refine (index_Counts.calls k _ _ l0 t224 t225 _ ?side1 ?side2 A5.out).mono ?_); (case side1 => repeat (first | exact (Kd.C_below HR0.out HB.out) | (with_reducible refine Kd.C_alloc ?_ _) | (with_reducible refine Kd.C_drewN ?_ _) | (with_reducible refine Kd.C_drew ?_))); (case side2 => exact HC0.out); rintro e w11 ⟨v226, rfl, ho0, hb⟩; refine ⟨_, rfl, ?_⟩; have n0_ := Aside0.mk (Kd.R_lower ho0 (below_size (by repeat (first | (with_reducible first | exact HB.out | apply below_alloc | apply pw_below_drewN | apply below_drew1) | exact HB.out)))); have n1_ := Aside0.mk (below_step (by repeat (first | (with_reducible first | exact HB.out | apply below_alloc | apply pw_below_drewN | apply below_drew1) | exact HB.out)) hb); clear HB; have HO227 := n0_; have HB := n1_; clear n0_ n1_; (try clear hb); (try clear hb2); (try clear hk); (try clear hi); (try clear ho0)) | ((with_reducible refine gate_callee (f := 12) rfl ?_); refine goesL_ (some 27) rfl rfl Try.func12 (by kernel_rfl) rfl #[.slice A1 l1.length c1] rfl (by (try simp only [List.map_toArray, List.map_cons, List.map_nil]); first | done | rfl | (simp only [List.length_drop, List.length_take]; rfl)) ?_; (with_reducible refine (index_Count.calls k _ _ l1 t228 t229 _ ?side1 ?side2 A6.out).mono ?_); (case side1 => repeat (first | exact (Kd.C_below HR1.out HB.out) | (with_reducible refine Kd.C_alloc ?_ _) | (with_reducible refine Kd.C_drewN ?_ _) | (with_reducible refine Kd.C_drew ?_))); (case side2 => exact HC1.out); rintro e w' ⟨rfl, ⟨nd, rfl⟩⟩; refine ⟨_, rfl, ?_⟩) | ((with_reducible refine gate_callee (f := 13) rfl ?_); refine goesL_ (some 31) rfl rfl Try.func13 (by kernel_rfl) rfl #[.slice A0 l0.length c0] rfl (by (try simp only [List.map_toArray, List.map_cons, List.map_nil]); first | done | rfl | (simp only [List.length_drop, List.length_take]; rfl)) ?_; (with_reducible refine (gamehallref2_CellsError.calls k _ _ l0 t230 _ ?side1 ?side2 A7.out).mono ?_); (case side1 => repeat (first | exact (Kd.C_below HR0.out (by repeat (first | (with_reducible first | exact HB.out | apply below_alloc | apply pw_below_drewN | apply below_drew1) | exact HB.out))) | (with_reducible refine Kd.C_alloc ?_ _) | (with_reducible refine Kd.C_drewN ?_ _) | (with_reducible refine Kd.C_drew ?_))); (case side2 => exact HC0.out); rintro e w' ⟨rfl, ⟨nd, rfl⟩⟩; refine ⟨_, rfl, ?_⟩) | ((with_reducible refine gate_callee (f := 14) rfl ?_); refine goesL_ (some 33) rfl rfl Try.func14 (by kernel_rfl) rfl #[.slice A1 l1.length c1] rfl (by (try simp only [List.map_toArray, List.map_cons, List.map_nil]); first | done | rfl | (simp only [List.length_drop, List.length_take]; rfl)) ?_; (with_reducible refine (gamehallref2_CountsError.calls k _ _ l1 t231 _ ?side1 ?side2 A8.out).mono ?_); (case side1 => repeat (first | exact (Kd.C_below HR1.out (by repeat (first | (with_reducible first | exact HB.out | apply below_alloc | apply pw_below_drewN | apply below_drew1) | exact HB.out))) | (with_reducible refine Kd.C_alloc ?_ _) | (with_reducible refine Kd.C_drewN ?_ _) | (with_reducible refine Kd.C_drew ?_))); (case side2 => exact HC1.out); rintro e w' ⟨rfl, ⟨nd, rfl⟩⟩; refine ⟨_, rfl, ?_⟩))
    (try simp only [Act.put, List.setIfInBounds_toArray, List.set_cons_zero, List.set_cons_succ])
    go_cut [53] (fun v53 wc => ∃ (kq : Nat) (x53_8 : Bool), v53 = .bool x53_8 ∧ Aside0 (gamehalllaw2_IndexCounts.j0 kq l0 l1 t224 t228 t230 t231 x53_8 = some r) ∧ Aside0 (kq ≤ k) ∧ Aside0 (Kd.R (Kd.int .i64) 3 wc w.heap.size (fun _ => True) v226 t224) ∧ Aside0 (Below w.heap.size w wc))
    case first =>
      have H := HC9.out
      clear HC9
      replace H := Option.bind_eq_some_iff.mp H
      obtain ⟨t232, A120, H⟩ := H
      replace H : (if t232 = t230 then ((index_CheckCounts.f k l1).bind fun t233 => (if t233 = t231 then (if t225 = t230 then (gamehalllaw2_IndexCounts.j0 k l0 l1 t224 t228 t230 t231 (t229 != t231)) else (gamehalllaw2_IndexCounts.j0 k l0 l1 t224 t228 t230 t231 true)) else (gamehalllaw2_IndexCounts.j0 k l0 l1 t224 t228 t230 t231 true))) else (gamehalllaw2_IndexCounts.j0 k l0 l1 t224 t228 t230 t231 true)) = some r := H
      have A12 := Aside0.mk A120
      clear A120
      by_cases c13 : t232 = t230
      · rw [if_pos c13] at H
        have c13b0 : (t232 == t230) = true := beq_iff_eq.mpr c13
        have c13b1 : (t232 != t230) = false := bne_eq_false_iff_eq.mpr c13
        clear c13
        (first | rw [c13b0] | (simp only [i64_w, i32_w]; rw [c13b0]) | skip)
        replace H := Option.bind_eq_some_iff.mp H
        obtain ⟨t233, A140, H⟩ := H
        replace H : (if t233 = t231 then (if t225 = t230 then (gamehalllaw2_IndexCounts.j0 k l0 l1 t224 t228 t230 t231 (t229 != t231)) else (gamehalllaw2_IndexCounts.j0 k l0 l1 t224 t228 t230 t231 true)) else (gamehalllaw2_IndexCounts.j0 k l0 l1 t224 t228 t230 t231 true)) = some r := H
        have A14 := Aside0.mk A140
        clear A140
        by_cases c15 : t233 = t231
        · rw [if_pos c15] at H
          have c15b0 : (t233 == t231) = true := beq_iff_eq.mpr c15
          have c15b1 : (t233 != t231) = false := bne_eq_false_iff_eq.mpr c15
          clear c15
          by_cases c16 : t225 = t230
          · rw [if_pos c16] at H
            have c16b0 : (t225 == t230) = true := beq_iff_eq.mpr c16
            have c16b1 : (t225 != t230) = false := bne_eq_false_iff_eq.mpr c16
            clear c16
            have H' := Aside0.mk H
            clear H
            go_wp2_with (first | ((with_reducible refine gate_callee (f := 15) rfl ?_); refine goesL_ (some 35) rfl rfl Try.func15 (by kernel_rfl) rfl #[.slice A0 l0.length c0] rfl (by (try simp only [List.map_toArray, List.map_cons, List.map_nil]); first | done | rfl | (simp only [List.length_drop, List.length_take]; rfl)) ?_; (with_reducible refine (index_Check.calls k _ _ l0 t232 _ ?side1 ?side2 A12.out).mono ?_); (case side1 => repeat (first | exact (Kd.C_below HR0.out HB.out) | (with_reducible refine Kd.C_alloc ?_ _) | (with_reducible refine Kd.C_drewN ?_ _) | (with_reducible refine Kd.C_drew ?_))); (case side2 => exact HC0.out); rintro e w' ⟨rfl, ⟨nd, rfl⟩⟩; refine ⟨_, rfl, ?_⟩) | (go_at_call 16; (with_reducible refine (index_CheckCounts.calls k _ _ l1 t233 _ ?side1 ?side2 A14.out).mono ?_); (case side1 => repeat (first | exact (Kd.C_below HR1.out (by repeat (first | (with_reducible first | exact HB.out | apply below_alloc | apply pw_below_drewN | apply below_drew1) | exact HB.out))) | (with_reducible refine Kd.C_alloc ?_ _) | (with_reducible refine Kd.C_drewN ?_ _) | (with_reducible refine Kd.C_drew ?_))); (case side2 => exact HC1.out); rintro e w' ⟨rfl, ⟨nd, rfl⟩⟩))
            go_meet
            case rel => exact ⟨_, ((t229 != t231)), (by first | rfl | (simp; done) | (simp [*]; done)), H', ⟨by first | omega | exact Nat.le_refl _⟩, ⟨by (with_reducible repeat (first | apply Kd.R_alloc | apply Kd.R_drewN | apply Kd.R_drew)); exact HO227.out⟩, ⟨by repeat (first | (with_reducible first | exact HB.out | apply below_alloc | apply pw_below_drewN | apply below_drew1) | exact HB.out)⟩⟩
          · rw [if_neg c16] at H
            have c16b0 : (t225 == t230) = false := beq_eq_false_iff_ne.mpr c16
            have c16b1 : (t225 != t230) = true := bne_iff_ne.mpr c16
            have H' := Aside0.mk H
            clear H
            go_wp2_with (first | ((with_reducible refine gate_callee (f := 15) rfl ?_); refine goesL_ (some 35) rfl rfl Try.func15 (by kernel_rfl) rfl #[.slice A0 l0.length c0] rfl (by (try simp only [List.map_toArray, List.map_cons, List.map_nil]); first | done | rfl | (simp only [List.length_drop, List.length_take]; rfl)) ?_; (with_reducible refine (index_Check.calls k _ _ l0 t232 _ ?side1 ?side2 A12.out).mono ?_); (case side1 => repeat (first | exact (Kd.C_below HR0.out HB.out) | (with_reducible refine Kd.C_alloc ?_ _) | (with_reducible refine Kd.C_drewN ?_ _) | (with_reducible refine Kd.C_drew ?_))); (case side2 => exact HC0.out); rintro e w' ⟨rfl, ⟨nd, rfl⟩⟩; refine ⟨_, rfl, ?_⟩) | (go_at_call 16; (with_reducible refine (index_CheckCounts.calls k _ _ l1 t233 _ ?side1 ?side2 A14.out).mono ?_); (case side1 => repeat (first | exact (Kd.C_below HR1.out (by repeat (first | (with_reducible first | exact HB.out | apply below_alloc | apply pw_below_drewN | apply below_drew1) | exact HB.out))) | (with_reducible refine Kd.C_alloc ?_ _) | (with_reducible refine Kd.C_drewN ?_ _) | (with_reducible refine Kd.C_drew ?_))); (case side2 => exact HC1.out); rintro e w' ⟨rfl, ⟨nd, rfl⟩⟩))
            go_meet
            case rel => exact ⟨_, (true), (by first | rfl | (simp; done) | (simp [*]; done)), H', ⟨by first | omega | exact Nat.le_refl _⟩, ⟨by (with_reducible repeat (first | apply Kd.R_alloc | apply Kd.R_drewN | apply Kd.R_drew)); exact HO227.out⟩, ⟨by repeat (first | (with_reducible first | exact HB.out | apply below_alloc | apply pw_below_drewN | apply below_drew1) | exact HB.out)⟩⟩
        · rw [if_neg c15] at H
          have c15b0 : (t233 == t231) = false := beq_eq_false_iff_ne.mpr c15
          have c15b1 : (t233 != t231) = true := bne_iff_ne.mpr c15
          have H' := Aside0.mk H
          clear H
          go_wp2_with (first | ((with_reducible refine gate_callee (f := 15) rfl ?_); refine goesL_ (some 35) rfl rfl Try.func15 (by kernel_rfl) rfl #[.slice A0 l0.length c0] rfl (by (try simp only [List.map_toArray, List.map_cons, List.map_nil]); first | done | rfl | (simp only [List.length_drop, List.length_take]; rfl)) ?_; (with_reducible refine (index_Check.calls k _ _ l0 t232 _ ?side1 ?side2 A12.out).mono ?_); (case side1 => repeat (first | exact (Kd.C_below HR0.out HB.out) | (with_reducible refine Kd.C_alloc ?_ _) | (with_reducible refine Kd.C_drewN ?_ _) | (with_reducible refine Kd.C_drew ?_))); (case side2 => exact HC0.out); rintro e w' ⟨rfl, ⟨nd, rfl⟩⟩; refine ⟨_, rfl, ?_⟩) | (go_at_call 16; (with_reducible refine (index_CheckCounts.calls k _ _ l1 t233 _ ?side1 ?side2 A14.out).mono ?_); (case side1 => repeat (first | exact (Kd.C_below HR1.out (by repeat (first | (with_reducible first | exact HB.out | apply below_alloc | apply pw_below_drewN | apply below_drew1) | exact HB.out))) | (with_reducible refine Kd.C_alloc ?_ _) | (with_reducible refine Kd.C_drewN ?_ _) | (with_reducible refine Kd.C_drew ?_))); (case side2 => exact HC1.out); rintro e w' ⟨rfl, ⟨nd, rfl⟩⟩))
          go_meet
          case rel => exact ⟨_, (true), (by first | rfl | (simp; done) | (simp [*]; done)), H', ⟨by first | omega | exact Nat.le_refl _⟩, ⟨by (with_reducible repeat (first | apply Kd.R_alloc | apply Kd.R_drewN | apply Kd.R_drew)); exact HO227.out⟩, ⟨by repeat (first | (with_reducible first | exact HB.out | apply below_alloc | apply pw_below_drewN | apply below_drew1) | exact HB.out)⟩⟩
      · rw [if_neg c13] at H
        have c13b0 : (t232 == t230) = false := beq_eq_false_iff_ne.mpr c13
        have c13b1 : (t232 != t230) = true := bne_iff_ne.mpr c13
        (first | rw [c13b0] | (simp only [i64_w, i32_w]; rw [c13b0]) | skip)
        have H' := Aside0.mk H
        clear H
        go_wp2_with (first | ((with_reducible refine gate_callee (f := 15) rfl ?_); refine goesL_ (some 35) rfl rfl Try.func15 (by kernel_rfl) rfl #[.slice A0 l0.length c0] rfl (by (try simp only [List.map_toArray, List.map_cons, List.map_nil]); first | done | rfl | (simp only [List.length_drop, List.length_take]; rfl)) ?_; (with_reducible refine (index_Check.calls k _ _ l0 t232 _ ?side1 ?side2 A12.out).mono ?_); (case side1 => repeat (first | exact (Kd.C_below HR0.out HB.out) | (with_reducible refine Kd.C_alloc ?_ _) | (with_reducible refine Kd.C_drewN ?_ _) | (with_reducible refine Kd.C_drew ?_))); (case side2 => exact HC0.out); rintro e w' ⟨rfl, ⟨nd, rfl⟩⟩; refine ⟨_, rfl, ?_⟩))
        go_meet
        case rel => exact ⟨_, (true), (by first | rfl | (simp; done) | (simp [*]; done)), H', ⟨by first | omega | exact Nat.le_refl _⟩, ⟨by (with_reducible repeat (first | apply Kd.R_alloc | apply Kd.R_drewN | apply Kd.R_drew)); exact HO227.out⟩, ⟨by repeat (first | (with_reducible first | exact HB.out | apply below_alloc | apply pw_below_drewN | apply below_drew1) | exact HB.out)⟩⟩
    case rest =>
      clear HC9
      try clear c1
      try clear p2
      try clear c3
      try clear c4
      try clear c10
      try clear c11
      try clear c12
      try clear c13
      try clear c13b0
      try clear c13b1
      try clear c14
      try clear c15
      try clear c15b0
      try clear c15b1
      try clear c16
      try clear c16b0
      try clear c16b1
      obtain ⟨kq, x53_8, rfl, HA, HJ8, HO_5, HB⟩ := hcut
      cases kq with
      | zero => exact absurd HA.out (by simp [gamehalllaw2_IndexCounts.j0])
      | succ kj8 =>
        have H := HA.out
        clear HA
        simp only [gamehalllaw2_IndexCounts.j0] at H
        by_cases c17 : x53_8 = true
        · subst c17
          have H1 : (some false) = some r := by rw [if_pos rfl] at H; exact H
          clear H
          have H := H1
          clear H1
          obtain rfl := Option.some.inj H
          go_wp2
          go_ret
          exact ⟨by first | rfl | (simp [errW_none, errW_some] <;> rfl) | (simp [*, errW_none, errW_some] <;> rfl), by repeat (first | (with_reducible first | exact HB.out | apply below_alloc | apply pw_below_drewN | apply below_drew1) | exact HB.out)⟩
        · replace c17 := Bool.eq_false_iff.mpr c17
          subst c17
          have H1 : (if t230 = 0 then (if t231 = 0 then (gamehalllaw2_IndexCounts.j1 kj8 l0 l1 t224 t228 t230 t231 false) else (gamehalllaw2_IndexCounts.j1 kj8 l0 l1 t224 t228 t230 t231 (t228 != 0))) else (if (t224.length : Int) > 0 then (gamehalllaw2_IndexCounts.j1 kj8 l0 l1 t224 t228 t230 t231 true) else (if t231 = 0 then (gamehalllaw2_IndexCounts.j1 kj8 l0 l1 t224 t228 t230 t231 false) else (gamehalllaw2_IndexCounts.j1 kj8 l0 l1 t224 t228 t230 t231 (t228 != 0))))) = some r := by rw [if_neg (show ¬ (false = true) by decide)] at H; exact H
          clear H
          have H := H1
          clear H1
          have HC18 := Aside0.mk H
          clear H
          go_upto_region 8 with (fail)
          go_cut [68] (fun v68 wc => ∃ (kq : Nat) (x68_17 : Bool), v68 = .bool x68_17 ∧ Aside0 (gamehalllaw2_IndexCounts.j1 kq l0 l1 t224 t228 t230 t231 x68_17 = some r) ∧ Aside0 (kq ≤ kj8) ∧ Aside0 (Kd.R (Kd.int .i64) 3 wc w.heap.size (fun _ => True) v226 t224) ∧ Aside0 (Below w.heap.size w wc))
          case first =>
            have H := HC18.out
            clear HC18
            by_cases c19 : t230 = 0
            · rw [if_pos c19] at H
              have c19b0 : (t230 == 0) = true := beq_iff_eq.mpr c19
              have c19b1 : (t230 != 0) = false := bne_eq_false_iff_eq.mpr c19
              clear c19
              (first | rw [c19b0] | (simp only [i64_w, i32_w]; rw [c19b0]) | skip)
              by_cases c20 : t231 = 0
              · rw [if_pos c20] at H
                have c20b0 : (t231 == 0) = true := beq_iff_eq.mpr c20
                have c20b1 : (t231 != 0) = false := bne_eq_false_iff_eq.mpr c20
                clear c20
                have H' := Aside0.mk H
                clear H
                go_wp2
                go_meet
                case rel => exact ⟨_, (false), (by first | rfl | (simp; done) | (simp [*]; done)), H', ⟨by have := HJ8.out; first | omega | exact Nat.le_refl _⟩, ⟨by (with_reducible repeat (first | apply Kd.R_alloc | apply Kd.R_drewN | apply Kd.R_drew)); exact HO_5.out⟩, ⟨by repeat (first | (with_reducible first | exact HB.out | apply below_alloc | apply pw_below_drewN | apply below_drew1) | exact HB.out)⟩⟩
              · rw [if_neg c20] at H
                have c20b0 : (t231 == 0) = false := beq_eq_false_iff_ne.mpr c20
                have c20b1 : (t231 != 0) = true := bne_iff_ne.mpr c20
                have H' := Aside0.mk H
                clear H
                go_wp2
                go_meet
                case rel => exact ⟨_, ((t228 != 0)), (by first | rfl | (simp; done) | (simp [*]; done)), H', ⟨by have := HJ8.out; first | omega | exact Nat.le_refl _⟩, ⟨by (with_reducible repeat (first | apply Kd.R_alloc | apply Kd.R_drewN | apply Kd.R_drew)); exact HO_5.out⟩, ⟨by repeat (first | (with_reducible first | exact HB.out | apply below_alloc | apply pw_below_drewN | apply below_drew1) | exact HB.out)⟩⟩
            · rw [if_neg c19] at H
              have c19b0 : (t230 == 0) = false := beq_eq_false_iff_ne.mpr c19
              have c19b1 : (t230 != 0) = true := bne_iff_ne.mpr c19
              (first | rw [c19b0] | (simp only [i64_w, i32_w]; rw [c19b0]) | skip)
              by_cases c21 : (t224.length : Int) > 0
              · rw [if_pos c21] at H
                have c21b0 : decide (0 < (t224.length : Int)) = true := decide_eq_true c21
                have c21b1 : decide (0 < t224.length) = true := decide_eq_true (by omega)
                clear c21
                have H' := Aside0.mk H
                clear H
                obtain ⟨Ao22, co22, eo22⟩ := Kd.R_slice HO_5.out
                subst eo22
                go_wp2
                go_meet
                case rel => exact ⟨_, (true), (by first | rfl | (simp; done) | (simp [*]; done)), H', ⟨by have := HJ8.out; first | omega | exact Nat.le_refl _⟩, ⟨by (with_reducible repeat (first | apply Kd.R_alloc | apply Kd.R_drewN | apply Kd.R_drew)); exact HO_5.out⟩, ⟨by repeat (first | (with_reducible first | exact HB.out | apply below_alloc | apply pw_below_drewN | apply below_drew1) | exact HB.out)⟩⟩
              · rw [if_neg c21] at H
                have c21b0 : decide (0 < (t224.length : Int)) = false := decide_eq_false c21
                have c21b1 : decide (0 < t224.length) = false := decide_eq_false (by omega)
                clear c21
                by_cases c23 : t231 = 0
                · rw [if_pos c23] at H
                  have c23b0 : (t231 == 0) = true := beq_iff_eq.mpr c23
                  have c23b1 : (t231 != 0) = false := bne_eq_false_iff_eq.mpr c23
                  clear c23
                  have H' := Aside0.mk H
                  clear H
                  obtain ⟨Ao24, co24, eo24⟩ := Kd.R_slice HO_5.out
                  subst eo24
                  go_wp2
                  go_meet
                  case rel => exact ⟨_, (false), (by first | rfl | (simp; done) | (simp [*]; done)), H', ⟨by have := HJ8.out; first | omega | exact Nat.le_refl _⟩, ⟨by (with_reducible repeat (first | apply Kd.R_alloc | apply Kd.R_drewN | apply Kd.R_drew)); exact HO_5.out⟩, ⟨by repeat (first | (with_reducible first | exact HB.out | apply below_alloc | apply pw_below_drewN | apply below_drew1) | exact HB.out)⟩⟩
                · rw [if_neg c23] at H
                  have c23b0 : (t231 == 0) = false := beq_eq_false_iff_ne.mpr c23
                  have c23b1 : (t231 != 0) = true := bne_iff_ne.mpr c23
                  have H' := Aside0.mk H
                  clear H
                  obtain ⟨Ao25, co25, eo25⟩ := Kd.R_slice HO_5.out
                  subst eo25
                  go_wp2
                  go_meet
                  case rel => exact ⟨_, ((t228 != 0)), (by first | rfl | (simp; done) | (simp [*]; done)), H', ⟨by have := HJ8.out; first | omega | exact Nat.le_refl _⟩, ⟨by (with_reducible repeat (first | apply Kd.R_alloc | apply Kd.R_drewN | apply Kd.R_drew)); exact HO_5.out⟩, ⟨by repeat (first | (with_reducible first | exact HB.out | apply below_alloc | apply pw_below_drewN | apply below_drew1) | exact HB.out)⟩⟩
          case rest =>
            clear HC18
            try clear c1
            try clear c2
            try clear p2
            try clear c3
            try clear c4
            try clear c10
            try clear c11
            try clear c12
            try clear c13
            try clear c13b0
            try clear c13b1
            try clear c14
            try clear c15
            try clear c15b0
            try clear c15b1
            try clear c16
            try clear c16b0
            try clear c16b1
            try clear c17
            try clear c19
            try clear c19b0
            try clear c19b1
            try clear c20
            try clear c20b0
            try clear c20b1
            try clear c21
            try clear c21b0
            try clear c21b1
            try clear c23
            try clear c23b0
            try clear c23b1
            try clear p2
            obtain ⟨kq, x68_17, rfl, HA, HJ17, HO_5, HB⟩ := hcut
            cases kq with
            | zero => exact absurd HA.out (by simp [gamehalllaw2_IndexCounts.j1])
            | succ kj17 =>
              have H := HA.out
              clear HA
              simp only [gamehalllaw2_IndexCounts.j1] at H
              by_cases c26 : x68_17 = true
              · subst c26
                have H1 : (some false) = some r := by rw [if_pos rfl] at H; exact H
                clear H
                have H := H1
                clear H1
                obtain rfl := Option.some.inj H
                go_wp2
                go_ret
                exact ⟨by first | rfl | (simp [errW_none, errW_some] <;> rfl) | (simp [*, errW_none, errW_some] <;> rfl), by repeat (first | (with_reducible first | exact HB.out | apply below_alloc | apply pw_below_drewN | apply below_drew1) | exact HB.out)⟩
              · replace c26 := Bool.eq_false_iff.mpr c26
                subst c26
                have H1 : (if t230 = 0 then (if (t224.length : Int) = 7 then (gamehalllaw2_IndexCounts.l0 kj17 l0 l1 t228 t231 t224 (t224.length : Int) 0) else (some false)) else (gamehalllaw2_IndexCounts.j4 kj17 l1 t228 t231)) = some r := by rw [if_neg (show ¬ (false = true) by decide)] at H; exact H
                clear H
                have H := H1
                clear H1
                have HC27 := Aside0.mk H
                clear H
                go_upto_if 70 with (fail)
                go_cut [] (fun wc => ∃ (kq : Nat), Aside0 (gamehalllaw2_IndexCounts.j4 kq l1 t228 t231 = some r) ∧ Aside0 (kq ≤ kj17) ∧ Aside0 (Below w.heap.size w wc))
                case first =>
                  have H := HC27.out
                  clear HC27
                  by_cases c28 : t230 = 0
                  · rw [if_pos c28] at H
                    have c28b0 : (t230 == 0) = true := beq_iff_eq.mpr c28
                    have c28b1 : (t230 != 0) = false := bne_eq_false_iff_eq.mpr c28
                    clear c28
                    (first | rw [c28b0] | (simp only [i64_w, i32_w]; rw [c28b0]) | skip)
                    by_cases c29 : (t224.length : Int) = 7
                    · rw [if_pos c29] at H
                      have c29b0 : ((t224.length : Int) == 7) = true := beq_iff_eq.mpr c29
                      have c29b1 : ((t224.length : Int) != 7) = false := bne_eq_false_iff_eq.mpr c29
                      clear c29
                      have H' := Aside0.mk H
                      clear H
                      obtain ⟨Ao30, co30, eo30⟩ := Kd.R_slice HO_5.out
                      subst eo30
                      go_wp2
                      go_loopg [76] kj17 (fun kq v76 w' => ∃ (x76_3 : Int), v76 = .int .i64 x76_3 ∧ Aside0 (gamehalllaw2_IndexCounts.l0 kq l0 l1 t228 t231 t224 (t224.length : Int) x76_3 = some r) ∧ Aside0 (kq ≤ kj17) ∧ Aside0 (Kd.R (Kd.int .i64) 3 w' w.heap.size (fun _ => True) (.slice Ao30 t224.length co30) t224) ∧ Aside0 (Below w.heap.size w w'))
                      case atStart => exact ⟨(0), (by first | rfl | (simp; done) | (simp [*]; done)), H', ⟨Nat.le_refl _⟩, ⟨by (with_reducible repeat (first | apply Kd.R_alloc | apply Kd.R_drewN | apply Kd.R_drew)); exact HO_5.out⟩, ⟨by repeat (first | (with_reducible first | exact HB.out | apply below_alloc | apply pw_below_drewN | apply below_drew1) | exact HB.out)⟩⟩
                      case round =>
                        clear H'
                        try clear c1
                        try clear c2
                        try clear p2
                        try clear c3
                        try clear c4
                        try clear c10
                        try clear c11
                        try clear c12
                        try clear c13
                        try clear c13b0
                        try clear c13b1
                        try clear c14
                        try clear c15
                        try clear c15b0
                        try clear c15b1
                        try clear c16
                        try clear c16b0
                        try clear c16b1
                        try clear c17
                        try clear c19
                        try clear c19b0
                        try clear c19b1
                        try clear c20
                        try clear c20b0
                        try clear c20b1
                        try clear c21
                        try clear c21b0
                        try clear c21b1
                        try clear c23
                        try clear c23b0
                        try clear c23b1
                        try clear c26
                        try clear c28
                        try clear c28b0
                        try clear c28b1
                        try clear c29
                        try clear c29b0
                        try clear c29b1
                        try clear p2
                        obtain ⟨x76_3, rfl, HA, HK3, HO_74, HB⟩ := hrel
                        cases gk with
                        | zero => exact absurd HA.out (by simp [gamehalllaw2_IndexCounts.l0])
                        | succ k3 =>
                          have H := HA.out
                          clear HA
                          simp only [gamehalllaw2_IndexCounts.l0] at H
                          by_cases c31 : x76_3 < (t224.length : Int)
                          · rw [if_pos c31] at H
                            have c31b0 : decide (x76_3 < (t224.length : Int)) = true := decide_eq_true c31
                            clear c31
                            by_cases c32 : 0 ≤ x76_3
                            · rw [if_pos c32] at H
                              have c32b0 : decide (0 ≤ x76_3) = true := decide_eq_true c32
                              clear c32
                              by_cases c33 : x76_3 < (t224.length : Int)
                              · rw [if_pos c33] at H
                                have c33b0 : decide (x76_3 < (t224.length : Int)) = true := decide_eq_true c33
                                clear c33
                                have H' := Aside0.mk H
                                clear H
                                have p234 : 0 ≤ (x76_3 : Int) := of_decide_eq_true (by first | (with_reducible assumption) | assumption)
                                have q234 : x76_3 < (t224.length : Int) := of_decide_eq_true (by first | (with_reducible assumption) | assumption)
                                obtain ⟨ad234, e234, hx234_0⟩ := Kd.at_int (Kd.R_reads' HO_74.out).2.2 x76_3 p234 q234
                                cases e234
                                replace p234 := eq_true p234
                                replace q234 := eq_true q234
                                go_wp2
                                go_loopg [12, 83] k3 (fun kq v12 v83 w' => ∃ (x12_4 : Int) (x83_4 : Int), v12 = .int .i64 x12_4 ∧ v83 = .int .i64 x83_4 ∧ Aside0 (gamehalllaw2_IndexCounts.l1 kq l0 l1 t228 t231 x76_3 x12_4 t224 (t224.length : Int) x76_3 l0 (l0.length : Int) x83_4 = some r) ∧ Aside0 (kq ≤ k3) ∧ Aside0 (Kd.R (Kd.int .i64) 3 w' w.heap.size (fun _ => True) (.slice (some ad234) t224.length co30) t224) ∧ Aside0 (Below w.heap.size w w'))
                                case atStart => exact ⟨(rd t224 x76_3), (0), (by first | rfl | (simp; done) | (simp [*]; done)), (by first | rfl | (simp; done) | (simp [*]; done)), H', ⟨Nat.le_refl _⟩, ⟨by (with_reducible repeat (first | apply Kd.R_alloc | apply Kd.R_drewN | apply Kd.R_drew)); exact HO_74.out⟩, ⟨by repeat (first | (with_reducible first | exact HB.out | apply below_alloc | apply pw_below_drewN | apply below_drew1) | exact HB.out)⟩⟩
                                case round =>
                                  clear H'
                                  try clear c1
                                  try clear c2
                                  try clear p2
                                  try clear q2
                                  try clear hx2
                                  try clear c3
                                  try clear c4
                                  try clear c10
                                  try clear c11
                                  try clear c12
                                  try clear c13
                                  try clear c13b0
                                  try clear c13b1
                                  try clear c14
                                  try clear c15
                                  try clear c15b0
                                  try clear c15b1
                                  try clear c16
                                  try clear c16b0
                                  try clear c16b1
                                  try clear c17
                                  try clear c19
                                  try clear c19b0
                                  try clear c19b1
                                  try clear c20
                                  try clear c20b0
                                  try clear c20b1
                                  try clear c21
                                  try clear c21b0
                                  try clear c21b1
                                  try clear c23
                                  try clear c23b0
                                  try clear c23b1
                                  try clear p23
                                  try clear q23
                                  try clear hx23
                                  try clear c26
                                  try clear c28
                                  try clear c28b0
                                  try clear c28b1
                                  try clear c29
                                  try clear c29b0
                                  try clear c29b1
                                  try clear c31
                                  try clear c31b0
                                  try clear c32
                                  try clear c32b0
                                  try clear c33
                                  try clear c33b0
                                  try clear hx234_0
                                  try clear p2
                                  try clear p234
                                  try clear q234
                                  obtain ⟨x12_4, x83_4, rfl, rfl, HA, HK4, HO_74, HB⟩ := hrel
                                  cases gk with
                                  | zero => exact absurd HA.out (by simp [gamehalllaw2_IndexCounts.l1])
                                  | succ k4 =>
                                    have H := HA.out
                                    clear HA
                                    simp only [gamehalllaw2_IndexCounts.l1] at H
                                    by_cases c34 : x83_4 < (l0.length : Int)
                                    · rw [if_pos c34] at H
                                      have c34b0 : decide (x83_4 < (l0.length : Int)) = true := decide_eq_true c34
                                      clear c34
                                      by_cases c35 : 0 ≤ x83_4
                                      · rw [if_pos c35] at H
                                        have c35b0 : decide (0 ≤ x83_4) = true := decide_eq_true c35
                                        clear c35
                                        by_cases c36 : x83_4 < (l0.length : Int)
                                        · rw [if_pos c36] at H
                                          have c36b0 : decide (x83_4 < (l0.length : Int)) = true := decide_eq_true c36
                                          clear c36
                                          by_cases c37 : (rd l0 x83_4) = x76_3
                                          · rw [if_pos c37] at H
                                            have c37b0 : ((rd l0 x83_4) == x76_3) = true := beq_iff_eq.mpr c37
                                            have c37b1 : ((rd l0 x83_4) != x76_3) = false := bne_eq_false_iff_eq.mpr c37
                                            clear c37
                                            have H' := Aside0.mk H
                                            clear H
                                            have p235 : 0 ≤ (x83_4 : Int) := of_decide_eq_true (by first | (with_reducible assumption) | assumption)
                                            have q235 : x83_4 < (l0.length : Int) := of_decide_eq_true (by first | (with_reducible assumption) | assumption)
                                            obtain ⟨ad235, e235, hx235_0⟩ := Kd.at_int HR0.out x83_4 p235 q235
                                            cases e235
                                            replace hx235_0 := (HB.out.cell (World.block_lt_of_cell? w _ hx235_0)).trans hx235_0
                                            replace p235 := eq_true p235
                                            replace q235 := eq_true q235
                                            go_wp2
                                            go_roundg k4
                                            case measure => have := HJ8.out; have := HJ17.out; have := HK3.out; have := HK4.out; omega
                                            case rel => exact ⟨(wrap64 (x12_4 - 1)), (wrap64 (x83_4 + 1)), (by first | rfl | (simp; done) | (simp [*]; done)), (by first | rfl | (simp; done) | (simp [*]; done)), H', ⟨by have := HJ8.out; have := HJ17.out; have := HK3.out; have := HK4.out; omega⟩, ⟨by (with_reducible repeat (first | apply Kd.R_alloc | apply Kd.R_drewN | apply Kd.R_drew)); exact HO_74.out⟩, ⟨by repeat (first | (with_reducible first | exact HB.out | apply below_alloc | apply pw_below_drewN | apply below_drew1) | exact HB.out)⟩⟩
                                          · rw [if_neg c37] at H
                                            have c37b0 : ((rd l0 x83_4) == x76_3) = false := beq_eq_false_iff_ne.mpr c37
                                            have c37b1 : ((rd l0 x83_4) != x76_3) = true := bne_iff_ne.mpr c37
                                            have H' := Aside0.mk H
                                            clear H
                                            have p235 : 0 ≤ (x83_4 : Int) := of_decide_eq_true (by first | (with_reducible assumption) | assumption)
                                            have q235 : x83_4 < (l0.length : Int) := of_decide_eq_true (by first | (with_reducible assumption) | assumption)
                                            obtain ⟨ad235, e235, hx235_0⟩ := Kd.at_int HR0.out x83_4 p235 q235
                                            cases e235
                                            replace hx235_0 := (HB.out.cell (World.block_lt_of_cell? w _ hx235_0)).trans hx235_0
                                            replace p235 := eq_true p235
                                            replace q235 := eq_true q235
                                            go_wp2
                                            go_roundg k4
                                            case measure => have := HJ8.out; have := HJ17.out; have := HK3.out; have := HK4.out; omega
                                            case rel => exact ⟨(x12_4), (wrap64 (x83_4 + 1)), (by first | rfl | (simp; done) | (simp [*]; done)), (by first | rfl | (simp; done) | (simp [*]; done)), H', ⟨by have := HJ8.out; have := HJ17.out; have := HK3.out; have := HK4.out; omega⟩, ⟨by (with_reducible repeat (first | apply Kd.R_alloc | apply Kd.R_drewN | apply Kd.R_drew)); exact HO_74.out⟩, ⟨by repeat (first | (with_reducible first | exact HB.out | apply below_alloc | apply pw_below_drewN | apply below_drew1) | exact HB.out)⟩⟩
                                        · rw [if_neg c36] at H
                                          exact absurd H (by simp)
                                      · rw [if_neg c35] at H
                                        exact absurd H (by simp)
                                    · rw [if_neg c34] at H
                                      have c34b0 : decide (x83_4 < (l0.length : Int)) = false := decide_eq_false c34
                                      clear c34
                                      by_cases c38 : x12_4 = 0
                                      · rw [if_pos c38] at H
                                        have c38b0 : (x12_4 == 0) = true := beq_iff_eq.mpr c38
                                        have c38b1 : (x12_4 != 0) = false := bne_eq_false_iff_eq.mpr c38
                                        clear c38
                                        have H' := Aside0.mk H
                                        clear H
                                        go_wp2
                                        go_roundg k4
                                        case measure => have := HJ8.out; have := HJ17.out; have := HK3.out; have := HK4.out; omega
                                        case rel => exact ⟨(wrap64 (x76_3 + 1)), (by first | rfl | (simp; done) | (simp [*]; done)), H', ⟨by have := HJ8.out; have := HJ17.out; have := HK3.out; have := HK4.out; omega⟩, ⟨by (with_reducible repeat (first | apply Kd.R_alloc | apply Kd.R_drewN | apply Kd.R_drew)); exact HO_74.out⟩, ⟨by repeat (first | (with_reducible first | exact HB.out | apply below_alloc | apply pw_below_drewN | apply below_drew1) | exact HB.out)⟩⟩
                                      · rw [if_neg c38] at H
                                        have c38b0 : (x12_4 == 0) = false := beq_eq_false_iff_ne.mpr c38
                                        have c38b1 : (x12_4 != 0) = true := bne_iff_ne.mpr c38
                                        obtain rfl := Option.some.inj H
                                        go_wp2
                                        go_ret
                                        exact ⟨by first | rfl | (simp [errW_none, errW_some] <;> rfl) | (simp [*, errW_none, errW_some] <;> rfl), by repeat (first | (with_reducible first | exact HB.out | apply below_alloc | apply pw_below_drewN | apply below_drew1) | exact HB.out)⟩
                              · rw [if_neg c33] at H
                                exact absurd H (by simp)
                            · rw [if_neg c32] at H
                              exact absurd H (by simp)
                          · rw [if_neg c31] at H
                            have c31b0 : decide (x76_3 < (t224.length : Int)) = false := decide_eq_false c31
                            clear c31
                            have H' := Aside0.mk H
                            clear H
                            go_wp2
                            go_meet
                            case rel => exact ⟨_, H', ⟨by have := HJ8.out; have := HJ17.out; have := HK3.out; first | omega | exact Nat.le_refl _⟩, ⟨by repeat (first | (with_reducible first | exact HB.out | apply below_alloc | apply pw_below_drewN | apply below_drew1) | exact HB.out)⟩⟩
                    · rw [if_neg c29] at H
                      have c29b0 : ((t224.length : Int) == 7) = false := beq_eq_false_iff_ne.mpr c29
                      have c29b1 : ((t224.length : Int) != 7) = true := bne_iff_ne.mpr c29
                      obtain rfl := Option.some.inj H
                      obtain ⟨Ao39, co39, eo39⟩ := Kd.R_slice HO_5.out
                      subst eo39
                      go_wp2
                      go_ret
                      exact ⟨by first | rfl | (simp [errW_none, errW_some] <;> rfl) | (simp [*, errW_none, errW_some] <;> rfl), by repeat (first | (with_reducible first | exact HB.out | apply below_alloc | apply pw_below_drewN | apply below_drew1) | exact HB.out)⟩
                  · rw [if_neg c28] at H
                    have c28b0 : (t230 == 0) = false := beq_eq_false_iff_ne.mpr c28
                    have c28b1 : (t230 != 0) = true := bne_iff_ne.mpr c28
                    (first | rw [c28b0] | (simp only [i64_w, i32_w]; rw [c28b0]) | skip)
                    have H' := Aside0.mk H
                    clear H
                    go_wp2
                    go_meet
                    case rel => exact ⟨_, H', ⟨by have := HJ8.out; have := HJ17.out; first | omega | exact Nat.le_refl _⟩, ⟨by repeat (first | (with_reducible first | exact HB.out | apply below_alloc | apply pw_below_drewN | apply below_drew1) | exact HB.out)⟩⟩
                case rest =>
                  clear HC27
                  try clear c1
                  try clear c2
                  try clear p2
                  try clear q2
                  try clear hx2
                  try clear c3
                  try clear c4
                  try clear p6
                  try clear c10
                  try clear c11
                  try clear c12
                  try clear c13
                  try clear c13b0
                  try clear c13b1
                  try clear c14
                  try clear c15
                  try clear c15b0
                  try clear c15b1
                  try clear c16
                  try clear c16b0
                  try clear c16b1
                  try clear c17
                  try clear c19
                  try clear c19b0
                  try clear c19b1
                  try clear c20
                  try clear c20b0
                  try clear c20b1
                  try clear c21
                  try clear c21b0
                  try clear c21b1
                  try clear c23
                  try clear c23b0
                  try clear c23b1
                  try clear p23
                  try clear q23
                  try clear hx23
                  try clear c26
                  try clear c28
                  try clear c28b0
                  try clear c28b1
                  try clear c29
                  try clear c29b0
                  try clear c29b1
                  try clear c31
                  try clear c31b0
                  try clear c32
                  try clear c32b0
                  try clear c33
                  try clear c33b0
                  try clear c34
                  try clear c34b0
                  try clear c35
                  try clear c35b0
                  try clear c36
                  try clear c36b0
                  try clear c37
                  try clear c37b0
                  try clear c37b1
                  try clear c38
                  try clear c38b0
                  try clear c38b1
                  try clear hx234_0
                  try clear hx235_0
                  try clear p2
                  try clear p23
                  try clear p234
                  try clear p235
                  try clear q2
                  try clear q23
                  try clear q234
                  try clear q235
                  obtain ⟨kq, HA, HJ26, HB⟩ := hcut
                  cases kq with
                  | zero => exact absurd HA.out (by simp [gamehalllaw2_IndexCounts.j4])
                  | succ kj26 =>
                    have H := HA.out
                    clear HA
                    simp only [gamehalllaw2_IndexCounts.j4] at H
                    have H' := Aside0.mk H
                    clear H
                    go_wp2
                    go_loopg [15, 98] kj26 (fun kq v15 v98 w' => ∃ (x15_4 : Int) (x98_4 : Int), v15 = .int .i64 x15_4 ∧ v98 = .int .i64 x98_4 ∧ Aside0 (gamehalllaw2_IndexCounts.l2 kq l1 t228 t231 x15_4 l1 (l1.length : Int) x98_4 = some r) ∧ Aside0 (kq ≤ kj26) ∧ Aside0 (Below w.heap.size w w'))
                    case atStart => exact ⟨(0), (0), (by first | rfl | (simp; done) | (simp [*]; done)), (by first | rfl | (simp; done) | (simp [*]; done)), H', ⟨Nat.le_refl _⟩, ⟨by repeat (first | (with_reducible first | exact HB.out | apply below_alloc | apply pw_below_drewN | apply below_drew1) | exact HB.out)⟩⟩
                    case round =>
                      clear H'
                      try clear c1
                      try clear c2
                      try clear p2
                      try clear q2
                      try clear hx2
                      try clear c3
                      try clear c4
                      try clear p6
                      try clear c10
                      try clear c11
                      try clear c12
                      try clear c13
                      try clear c13b0
                      try clear c13b1
                      try clear c14
                      try clear c15
                      try clear c15b0
                      try clear c15b1
                      try clear c16
                      try clear c16b0
                      try clear c16b1
                      try clear c17
                      try clear c19
                      try clear c19b0
                      try clear c19b1
                      try clear c20
                      try clear c20b0
                      try clear c20b1
                      try clear c21
                      try clear c21b0
                      try clear c21b1
                      try clear c23
                      try clear c23b0
                      try clear c23b1
                      try clear p23
                      try clear q23
                      try clear hx23
                      try clear c26
                      try clear c28
                      try clear c28b0
                      try clear c28b1
                      try clear c29
                      try clear c29b0
                      try clear c29b1
                      try clear c31
                      try clear c31b0
                      try clear c32
                      try clear c32b0
                      try clear c33
                      try clear c33b0
                      try clear c34
                      try clear c34b0
                      try clear c35
                      try clear c35b0
                      try clear c36
                      try clear c36b0
                      try clear c37
                      try clear c37b0
                      try clear c37b1
                      try clear c38
                      try clear c38b0
                      try clear c38b1
                      try clear hx234_0
                      try clear hx235_0
                      try clear p2
                      try clear p23
                      try clear p234
                      try clear p235
                      try clear p6
                      try clear q2
                      try clear q23
                      try clear q234
                      try clear q235
                      obtain ⟨x15_4, x98_4, rfl, rfl, HA, HK4, HB⟩ := hrel
                      cases gk with
                      | zero => exact absurd HA.out (by simp [gamehalllaw2_IndexCounts.l2])
                      | succ k4 =>
                        have H := HA.out
                        clear HA
                        simp only [gamehalllaw2_IndexCounts.l2] at H
                        by_cases c40 : x98_4 < (l1.length : Int)
                        · rw [if_pos c40] at H
                          have c40b0 : decide (x98_4 < (l1.length : Int)) = true := decide_eq_true c40
                          clear c40
                          by_cases c41 : 0 ≤ x98_4
                          · rw [if_pos c41] at H
                            have c41b0 : decide (0 ≤ x98_4) = true := decide_eq_true c41
                            clear c41
                            by_cases c42 : x98_4 < (l1.length : Int)
                            · rw [if_pos c42] at H
                              have c42b0 : decide (x98_4 < (l1.length : Int)) = true := decide_eq_true c42
                              clear c42
                              by_cases c43 : t231 = 0
                              · rw [if_pos c43] at H
                                have c43b0 : (t231 == 0) = true := beq_iff_eq.mpr c43
                                have c43b1 : (t231 != 0) = false := bne_eq_false_iff_eq.mpr c43
                                clear c43
                                have H' := Aside0.mk H
                                clear H
                                have p236 : 0 ≤ (x98_4 : Int) := of_decide_eq_true (by first | (with_reducible assumption) | assumption)
                                have q236 : x98_4 < (l1.length : Int) := of_decide_eq_true (by first | (with_reducible assumption) | assumption)
                                obtain ⟨ad236, e236, hx236_0⟩ := Kd.at_int HR1.out x98_4 p236 q236
                                cases e236
                                replace hx236_0 := (HB.out.cell (World.block_lt_of_cell? w _ hx236_0)).trans hx236_0
                                replace p236 := eq_true p236
                                replace q236 := eq_true q236
                                go_wp2
                                go_roundg k4
                                case measure => have := HJ8.out; have := HJ17.out; have := HJ26.out; have := HK4.out; omega
                                case rel => exact ⟨(wrap64 (x15_4 + (rd l1 x98_4))), (wrap64 (x98_4 + 1)), (by first | rfl | (simp; done) | (simp [*]; done)), (by first | rfl | (simp; done) | (simp [*]; done)), H', ⟨by have := HJ8.out; have := HJ17.out; have := HJ26.out; have := HK4.out; omega⟩, ⟨by repeat (first | (with_reducible first | exact HB.out | apply below_alloc | apply pw_below_drewN | apply below_drew1) | exact HB.out)⟩⟩
                              · rw [if_neg c43] at H
                                have c43b0 : (t231 == 0) = false := beq_eq_false_iff_ne.mpr c43
                                have c43b1 : (t231 != 0) = true := bne_iff_ne.mpr c43
                                have H' := Aside0.mk H
                                clear H
                                have p236 : 0 ≤ (x98_4 : Int) := of_decide_eq_true (by first | (with_reducible assumption) | assumption)
                                have q236 : x98_4 < (l1.length : Int) := of_decide_eq_true (by first | (with_reducible assumption) | assumption)
                                obtain ⟨ad236, e236, hx236_0⟩ := Kd.at_int HR1.out x98_4 p236 q236
                                cases e236
                                replace hx236_0 := (HB.out.cell (World.block_lt_of_cell? w _ hx236_0)).trans hx236_0
                                replace p236 := eq_true p236
                                replace q236 := eq_true q236
                                go_wp2
                                go_roundg k4
                                case measure => have := HJ8.out; have := HJ17.out; have := HJ26.out; have := HK4.out; omega
                                case rel => exact ⟨(x15_4), (wrap64 (x98_4 + 1)), (by first | rfl | (simp; done) | (simp [*]; done)), (by first | rfl | (simp; done) | (simp [*]; done)), H', ⟨by have := HJ8.out; have := HJ17.out; have := HJ26.out; have := HK4.out; omega⟩, ⟨by repeat (first | (with_reducible first | exact HB.out | apply below_alloc | apply pw_below_drewN | apply below_drew1) | exact HB.out)⟩⟩
                            · rw [if_neg c42] at H
                              exact absurd H (by simp)
                          · rw [if_neg c41] at H
                            exact absurd H (by simp)
                        · rw [if_neg c40] at H
                          have c40b0 : decide (x98_4 < (l1.length : Int)) = false := decide_eq_false c40
                          clear c40
                          by_cases c44 : t231 = 0
                          · rw [if_pos c44] at H
                            have c44b0 : (t231 == 0) = true := beq_iff_eq.mpr c44
                            have c44b1 : (t231 != 0) = false := bne_eq_false_iff_eq.mpr c44
                            clear c44
                            by_cases c45 : x15_4 > 7
                            · rw [if_pos c45] at H
                              have c45b0 : decide (7 < x15_4) = true := decide_eq_true c45
                              clear c45
                              obtain rfl := Option.some.inj H
                              go_wp2
                              go_ret
                              exact ⟨by first | rfl | (simp [errW_none, errW_some] <;> rfl) | (simp [*, errW_none, errW_some] <;> rfl), by repeat (first | (with_reducible first | exact HB.out | apply below_alloc | apply pw_below_drewN | apply below_drew1) | exact HB.out)⟩
                            · rw [if_neg c45] at H
                              have c45b0 : decide (7 < x15_4) = false := decide_eq_false c45
                              clear c45
                              replace H := Option.bind_eq_some_iff.mp H
                              obtain ⟨t237, A460, H⟩ := H
                              replace H : (some (t228 == (t237.length : Int))) = some r := H
                              have A46 := Aside0.mk A460
                              clear A460
                              obtain rfl := Option.some.inj H
                              go_wp2_with (first | (go_at_call 17; (with_reducible refine (gamehallref2_Placements.calls k4 _ _ l1 t237 _ ?side1 ?side2 A46.out).mono ?_); (case side1 => repeat (first | exact (Kd.C_below HR1.out HB.out) | (with_reducible refine Kd.C_alloc ?_ _) | (with_reducible refine Kd.C_drewN ?_ _) | (with_reducible refine Kd.C_drew ?_))); (case side2 => exact HC1.out); rintro e w47 ⟨v238, rfl, ho0, hb⟩; have n0_ := Aside0.mk (Kd.S_lower ho0 (below_size (by repeat (first | (with_reducible first | exact HB.out | apply below_alloc | apply pw_below_drewN | apply below_drew1) | exact HB.out)))); have n1_ := Aside0.mk (below_step (by repeat (first | (with_reducible first | exact HB.out | apply below_alloc | apply pw_below_drewN | apply below_drew1) | exact HB.out)) hb); clear HB; have HO239 := n0_; have HB := n1_; clear n0_ n1_; (try clear hb); (try clear hb2); (try clear hk); (try clear hi); (try clear ho0); obtain ⟨Ao48, co48, eo48⟩ := Kd.S_slice HO239.out; subst eo48))
                              go_ret
                              exact ⟨by first | rfl | (simp [errW_none, errW_some] <;> rfl) | (simp [*, errW_none, errW_some] <;> rfl), by repeat (first | (with_reducible first | exact HB.out | apply below_alloc | apply pw_below_drewN | apply below_drew1) | exact HB.out)⟩
                          · rw [if_neg c44] at H
                            have c44b0 : (t231 == 0) = false := beq_eq_false_iff_ne.mpr c44
                            have c44b1 : (t231 != 0) = true := bne_iff_ne.mpr c44
                            obtain rfl := Option.some.inj H
                            go_wp2
                            go_ret
                            exact ⟨by first | rfl | (simp [errW_none, errW_some] <;> rfl) | (simp [*, errW_none, errW_some] <;> rfl), by repeat (first | (with_reducible first | exact HB.out | apply below_alloc | apply pw_below_drewN | apply below_drew1) | exact HB.out)⟩
  · replace c4 := Bool.eq_false_iff.mpr c4
    subst c4
    have H1 : (some false) = some r := by rw [if_neg (show ¬ (false = true) by decide)] at H; exact H
    clear H
    have H := H1
    clear H1
    obtain rfl := Option.some.inj H
    go_enter Try.func3, Try.ntmps3
    go_wp2_with (first | ((with_reducible refine gate_callee (f := 10) rfl ?_); refine goesL_ (some 18) rfl rfl Try.func10 (by kernel_rfl) rfl #[] rfl (by (try simp only [List.map_toArray, List.map_cons, List.map_nil]); first | done | rfl | (simp only [List.length_drop, List.length_take]; rfl)) ?_; (with_reducible refine (gamehalllaw2_indexFact.calls k  false _ A3.out).mono ?_); rintro e w49 ⟨rfl, hb⟩; refine ⟨_, rfl, ?_⟩; have n0_ := Aside0.mk (below_step (by repeat (first | (with_reducible first | exact HB.out | apply below_alloc | apply pw_below_drewN | apply below_drew1) | exact HB.out)) hb); clear HB; have HB := n0_; clear n0_; (try clear hb); (try clear hb2); (try clear hk); (try clear hi)))
    go_ret
    exact ⟨by first | rfl | (simp [errW_none, errW_some] <;> rfl) | (simp [*, errW_none, errW_some] <;> rfl), by repeat (first | (with_reducible first | exact HB.out | apply below_alloc | apply pw_below_drewN | apply below_drew1) | exact HB.out)⟩

/-- THE ONE PURE STATEMENT of gamehalllaw2_IndexCounts: yours. -/
def gamehalllaw2_IndexCounts.Pure : Prop := ∀ (l0 : List Int) (l1 : List Int), l0.length ≤ maxLen → l0.length * 8 ≤ 140737488351232 → (∀ x ∈ l0, (Lit.int .i64 x).wf = true) → l1.length ≤ maxLen → l1.length * 8 ≤ 140737488351232 → (∀ x ∈ l1, (Lit.int .i64 x).wf = true) → ∃ k, gamehalllaw2_IndexCounts.f k l0 l1 = some true
theorem gamehalllaw2_IndexCounts.walk (P : gamehalllaw2_IndexCounts.Pure) (a0 : Option Addr) (len0 cap0 : Nat) (z0 : List Int) (a1 : Option Addr) (len1 cap1 : Nat) (z1 : List Int) (w : World) (w0 : (a0 = none ∧ len0 = 0 ∧ cap0 = 0 ∧ z0 = []) ∨ ∃ x, a0 = some x ∧ len0 ≤ cap0 ∧ cap0 ≤ maxLen ∧ z0.length = cap0 ∧ (∀ i, i < z0.length → w.cell? (x.add i) = some (.int .i64 (z0.getD i 0))) ∧ ∀ n ∈ z0, (Lit.int .i64 n).wf = true) (y0 : len0 * 8 ≤ 140737488351232) (w1 : (a1 = none ∧ len1 = 0 ∧ cap1 = 0 ∧ z1 = []) ∨ ∃ x, a1 = some x ∧ len1 ≤ cap1 ∧ cap1 ≤ maxLen ∧ z1.length = cap1 ∧ (∀ i, i < z1.length → w.cell? (x.add i) = some (.int .i64 (z1.getD i 0))) ∧ ∀ n ∈ z1, (Lit.int .i64 n).wf = true) (y1 : len1 * 8 ≤ 140737488351232) :
    Calls Try.prog 3 #[.slice a0 len0 cap0, .slice a1 len1 cap1] w fun e w' => e = .returned (.bool true) ∧ Below w.heap.size w w' := by
  obtain ⟨l0, rfl, hr0, hm0, hw0, hc0⟩ := ReadsInt.ofRowC w0
  obtain ⟨l1, rfl, hr1, hm1, hw1, hc1⟩ := ReadsInt.ofRowC w1
  obtain ⟨k, h⟩ := P l0 l1 hm0 y0 hw0 hm1 y1 hw1
  refine (gamehalllaw2_IndexCounts.calls k _ _ l0 _ _ l1 true w (Kd.C_of_reads (d := (0 : Int)) (h1 := fun _ => rfl) hr0) hc0 (Kd.C_of_reads (d := (0 : Int)) (h1 := fun _ => rfl) hr1) hc1 h).mono ?_
  rintro e w' ⟨rfl, hd⟩
  exact ⟨rfl, hd⟩

end Go.Proofs.Ytejcniaepjahbaa.GIC
