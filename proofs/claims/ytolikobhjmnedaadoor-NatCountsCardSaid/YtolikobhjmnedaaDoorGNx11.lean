-- A text of this session's own: written by its program gprint
import Derived.Test.YtolikobhjmnedaaDoorGNx0
import Derived.Test.YtolikobhjmnedaaDoorGNx9
-- shrunk
namespace Go.Proofs.YtolikobhjmnedaaDoor.GN
open Go.RowKit Go.Proofs.YtolikobhjmnedaaDoorW.PrintWords Go.Proofs.YtolikobhjmnedaaDoorW.PrintLast Go.Proofs.YtolikobhjmnedaaDoorW.PrintMore
attribute [local go_sem] max2_int min2_int max_two min_two max_three min_three max_four min_four   -- for this text's walks alone
set_option linter.unusedVariables false
set_option linter.unusedSimpArgs false

/-! ### gamehallref2_NatMul: function 26 -/
mutual
def gamehallref2_NatMul.l0 : Nat → ByteArray → ByteArray → List Int → Int → Int → Option (ByteArray)
 | 0, _, _, _, _, _ => none
 | k + 1, x0, x1, x5, x18, x19 => if x19 < x18 then ((gamehallref2_digit.f x0 x19).bind fun t438 => (gamehallref2_NatMul.l1 k x0 x1 x5 x19 t438 x18 x19 (x1.size : Int) 0)) else ((gamehallref2_text.f k x5).bind fun t437 => (some t437))
def gamehallref2_NatMul.l1 : Nat → ByteArray → ByteArray → List Int → Int → Int → Int → Int → Int → Int → Option (ByteArray)
 | 0, _, _, _, _, _, _, _, _, _ => none
 | k + 1, x0, x1, x5, x6, x7, x18, x19, x26, x27 => if x27 < x26 then (if 0 ≤ (wrap64 (x6 + x27)) then (if (wrap64 (x6 + x27)) < (x5.length : Int) then ((gamehallref2_digit.f x1 x27).bind fun t440 => (gamehallref2_NatMul.l1 k x0 x1 (x5.set ((wrap64 (x6 + x27)) : Int).toNat (wrap64 ((rd x5 (wrap64 (x6 + x27))) + (wrap64 (x7 * t440))))) x6 x7 x18 x19 x26 (wrap64 (x27 + 1)))) else (none)) else (none)) else (if 0 ≤ (wrap64 ((x5.length : Int) - 1)) then (if (wrap64 ((x5.length : Int) - 1)) ≤ (x5.length : Int) then (gamehallref2_NatMul.l2 k x0 x1 x5 x18 x19 ((x5.take ((wrap64 ((x5.length : Int) - 1)) : Int).toNat).length : Int) 0) else (none)) else (none))
def gamehallref2_NatMul.l2 : Nat → ByteArray → ByteArray → List Int → Int → Int → Int → Int → Option (ByteArray)
 | 0, _, _, _, _, _, _, _ => none
 | k + 1, x0, x1, x5, x18, x19, x49, x50 => if x50 < x49 then (if 0 ≤ x50 then (if x50 < (x5.length : Int) then (if (rd x5 x50) > 9 then (if 0 ≤ (wrap64 (x50 + 1)) then (if (wrap64 (x50 + 1)) < (x5.length : Int) then ((some (x5.set ((wrap64 (x50 + 1)) : Int).toNat (wrap64 ((rd x5 (wrap64 (x50 + 1))) + (wrap64 (Int.tdiv (rd x5 x50) 10)))) : List Int)).bind fun y449 => (gamehallref2_NatMul.l2 k x0 x1 (y449.set (x50 : Int).toNat (Int.tmod (rd y449 x50) 10)) x18 x19 x49 (wrap64 (x50 + 1)))) else (none)) else (none)) else (gamehallref2_NatMul.l2 k x0 x1 x5 x18 x19 x49 (wrap64 (x50 + 1)))) else (none)) else (none)) else (gamehallref2_NatMul.l0 k x0 x1 x5 x18 (wrap64 (x19 + 1)))
end
def gamehallref2_NatMul.f (k : Nat) (a0 : ByteArray) (a1 : ByteArray) : Option (ByteArray) := if 0 ≤ (wrap64 ((wrap64 ((a0.size : Int) + (a1.size : Int))) + 1)) then (if (wrap64 ((wrap64 ((a0.size : Int) + (a1.size : Int))) + 1) : Int).toNat ≤ 35184372088832 then (gamehallref2_NatMul.l0 k a0 a1 (List.replicate (wrap64 ((wrap64 ((a0.size : Int) + (a1.size : Int))) + 1) : Int).toNat 0) (a0.size : Int) 0) else (none)) else (none)
theorem gamehallref2_NatMul.mono_l : ∀ k, (∀ y0 y1 y2 y3 y4, LeO (gamehallref2_NatMul.l0 k y0 y1 y2 y3 y4) (gamehallref2_NatMul.l0 (k + 1) y0 y1 y2 y3 y4)) ∧ (∀ y0 y1 y2 y3 y4 y5 y6 y7 y8, LeO (gamehallref2_NatMul.l1 k y0 y1 y2 y3 y4 y5 y6 y7 y8) (gamehallref2_NatMul.l1 (k + 1) y0 y1 y2 y3 y4 y5 y6 y7 y8)) ∧ (∀ y0 y1 y2 y3 y4 y5 y6, LeO (gamehallref2_NatMul.l2 k y0 y1 y2 y3 y4 y5 y6) (gamehallref2_NatMul.l2 (k + 1) y0 y1 y2 y3 y4 y5 y6))
 | 0 => ⟨fun _ _ _ _ _ r h => by simp [gamehallref2_NatMul.l0] at h, fun _ _ _ _ _ _ _ _ _ r h => by simp [gamehallref2_NatMul.l1] at h, fun _ _ _ _ _ _ _ r h => by simp [gamehallref2_NatMul.l2] at h⟩
 | k + 1 => by
  obtain ⟨ih0, ih1, ih2⟩ := gamehallref2_NatMul.mono_l k
  refine ⟨?_, ?_, ?_⟩
  ·intro y0 y1 y2 y3 y4
   unfold gamehallref2_NatMul.l0
   repeat' first
   | (with_reducible exact ih0 _ _ _ _ _)
   | (with_reducible exact ih1 _ _ _ _ _ _ _ _ _)
   | (with_reducible exact ih2 _ _ _ _ _ _ _)
   | (with_reducible exact gamehallref2_text.mono _ _)
   | (with_reducible exact LeO.refl _)
   | (with_reducible exact LeO.none _)
   | (with_reducible refine LeO.ite ?_ ?_)
   | (with_reducible refine LeO.bind ?_ (fun _ => ?_))
   | exact ih0 _ _ _ _ _
   | exact ih1 _ _ _ _ _ _ _ _ _
   | exact ih2 _ _ _ _ _ _ _
   | exact gamehallref2_text.mono _ _
   | exact LeO.none _
   | refine LeO.ite ?_ ?_
   | refine LeO.bind ?_ (fun _ => ?_)
  ·intro y0 y1 y2 y3 y4 y5 y6 y7 y8
   unfold gamehallref2_NatMul.l1
   repeat' first
   | (with_reducible exact ih0 _ _ _ _ _)
   | (with_reducible exact ih1 _ _ _ _ _ _ _ _ _)
   | (with_reducible exact ih2 _ _ _ _ _ _ _)
   | (with_reducible exact gamehallref2_text.mono _ _)
   | (with_reducible exact LeO.refl _)
   | (with_reducible exact LeO.none _)
   | (with_reducible refine LeO.ite ?_ ?_)
   | (with_reducible refine LeO.bind ?_ (fun _ => ?_))
   | exact ih0 _ _ _ _ _
   | exact ih1 _ _ _ _ _ _ _ _ _
   | exact ih2 _ _ _ _ _ _ _
   | exact gamehallref2_text.mono _ _
   | exact LeO.none _
   | refine LeO.ite ?_ ?_
   | refine LeO.bind ?_ (fun _ => ?_)
  ·intro y0 y1 y2 y3 y4 y5 y6
   unfold gamehallref2_NatMul.l2
   repeat' first
   | (with_reducible exact ih0 _ _ _ _ _)
   | (with_reducible exact ih1 _ _ _ _ _ _ _ _ _)
   | (with_reducible exact ih2 _ _ _ _ _ _ _)
   | (with_reducible exact gamehallref2_text.mono _ _)
   | (with_reducible exact LeO.refl _)
   | (with_reducible exact LeO.none _)
   | (with_reducible refine LeO.ite ?_ ?_)
   | (with_reducible refine LeO.bind ?_ (fun _ => ?_))
   | exact ih0 _ _ _ _ _
   | exact ih1 _ _ _ _ _ _ _ _ _
   | exact ih2 _ _ _ _ _ _ _
   | exact gamehallref2_text.mono _ _
   | exact LeO.none _
   | refine LeO.ite ?_ ?_
   | refine LeO.bind ?_ (fun _ => ?_)
theorem gamehallref2_NatMul.mono : ∀ a0 a1 k, LeO (gamehallref2_NatMul.f k a0 a1) (gamehallref2_NatMul.f (k + 1) a0 a1) := by
 intro a0 a1 k
 obtain ⟨ih0, ih1, ih2⟩ := gamehallref2_NatMul.mono_l k
 unfold gamehallref2_NatMul.f
 repeat' first
   | (with_reducible exact ih0 _ _ _ _ _)
   | (with_reducible exact ih1 _ _ _ _ _ _ _ _ _)
   | (with_reducible exact ih2 _ _ _ _ _ _ _)
   | (with_reducible exact gamehallref2_text.mono _ _)
   | (with_reducible exact LeO.refl _)
   | (with_reducible exact LeO.none _)
   | (with_reducible refine LeO.ite ?_ ?_)
   | (with_reducible refine LeO.bind ?_ (fun _ => ?_))
   | exact ih0 _ _ _ _ _
   | exact ih1 _ _ _ _ _ _ _ _ _
   | exact ih2 _ _ _ _ _ _ _
   | exact gamehallref2_text.mono _ _
   | exact LeO.none _
   | refine LeO.ite ?_ ?_
   | refine LeO.bind ?_ (fun _ => ?_)
def gamehallref2_NatMul.T9 : Bool × List (List Nat × List Nat) := (true, [([], []), ([], []), ([], []), ([1, 2], [1, 2]), ([0, 3], [0, 3]), ([4], [4]), ([], []), ([], []), ([], []), ([7, 8], [7, 8]), ([6, 9], [6, 9]), ([5, 10], [5, 10]), ([0, 3, 0, 1, 2, 3, 4, 5, 6, 7, 8, 9, 10, 11], [0, 3]), ([12, 11, 9, 0, 1, 2, 3, 4, 5, 6, 7, 8, 9, 10, 11], [11, 12])])
def gamehallref2_NatMul.B9 : List Nat := [0, 0, 0, 6, 15, 31, 0, 0, 0, 384, 960, 2047, 4095, 8191]
theorem gamehallref2_NatMul.tab9 : rtab .any (opsOf Tryd.f26 9) = gamehallref2_NatMul.T9 := by kernel_rfl
theorem gamehallref2_NatMul.bits9 : waitsOk gamehallref2_NatMul.T9.2 gamehallref2_NatMul.B9 = true := by kernel_rfl
def gamehallref2_NatMul.T15 : Bool × List (List Nat × List Nat) := (true, [([], []), ([], []), ([1], [1]), ([0, 2], [0, 2]), ([3], [3]), ([], []), ([], []), ([5, 6], [5, 6]), ([7], [7]), ([8], [8]), ([4, 9], [4, 9]), ([0, 2, 0, 1, 2, 3, 4, 5, 6, 7, 8, 9, 10], [0, 2]), ([11, 10, 0, 1, 2, 3, 4, 5, 6, 7, 8, 9, 10], [10, 11])])
def gamehallref2_NatMul.B15 : List Nat := [0, 0, 2, 7, 15, 0, 0, 96, 224, 480, 1023, 2047, 4095]
theorem gamehallref2_NatMul.tab15 : rtab .any (opsOf Tryd.f26 15) = gamehallref2_NatMul.T15 := by kernel_rfl
theorem gamehallref2_NatMul.bits15 : waitsOk gamehallref2_NatMul.T15.2 gamehallref2_NatMul.B15 = true := by kernel_rfl
set_option maxHeartbeats 8000000 in
set_option maxRecDepth 100000 in
theorem gamehallref2_NatMul.calls (k : Nat) (a0 : ByteArray) (a1 : ByteArray) (r : ByteArray) (w : World) (h : gamehallref2_NatMul.f k a0 a1 = some r) :
  Calls Tryd.prog 26 #[.string a0, .string a1] w fun e w' => e = .returned (.string r) ∧ Below w.heap.size w w' := by
 have HB := Aside0.mk (Below.refl w.heap.size w)
 have H : (if 0 ≤ (wrap64 ((wrap64 ((a0.size : Int) + (a1.size : Int))) + 1)) then (if (wrap64 ((wrap64 ((a0.size : Int) + (a1.size : Int))) + 1) : Int).toNat ≤ 35184372088832 then (gamehallref2_NatMul.l0 k a0 a1 (List.replicate (wrap64 ((wrap64 ((a0.size : Int) + (a1.size : Int))) + 1) : Int).toNat 0) (a0.size : Int) 0) else (none)) else (none)) = some r := h
 clear h
 obtain ⟨ji3, hji3⟩ : ∃ j_ : Int, (wrap64 ((wrap64 ((a0.size : Int) + (a1.size : Int))) + 1)) = j_ := ⟨_, rfl⟩
 replace H : (if 0 ≤ (ji3) then (if (ji3 : Int).toNat ≤ 35184372088832 then (gamehallref2_NatMul.l0 k a0 a1 (List.replicate (ji3 : Int).toNat 0) (a0.size : Int) 0) else (none)) else (none)) = some r := by first | (rw [hji3] at H; exact H) | (simp only [hji3] at H ⊢; exact H)
 have hji3w : (IntKind.i64.wrap ((wrap64 ((a0.size : Int) + (a1.size : Int))) + 1)) = ji3 := (i64_w _).trans hji3
 by_cases c4 : 0 ≤ (ji3)
 ·rw [if_pos c4] at H
  have c4b0 := eq_true c4
  have c4b1 : decide (0 ≤ (ji3)) = true := decide_eq_true c4
  clear c4
  by_cases c5 : (ji3 : Int).toNat ≤ 35184372088832
  ·rw [if_pos c5] at H
   have c5b0 := eq_true c5
   have c5b1 : decide ((ji3 : Int).toNat ≤ 35184372088832) = true := decide_eq_true c5
   clear c5
   obtain ⟨y434, hy434⟩ : ∃ y_ : List Int, y_ = (List.replicate (ji3 : Int).toNat 0) := ⟨_, rfl⟩
   replace H : (gamehallref2_NatMul.l0 k a0 a1 y434 (a0.size : Int) 0) = some r := by first | (rw [hy434]; with_reducible exact H) | (have H2_ := (Option.bind_some _ _).symm.trans H; rw [hy434]; with_reducible exact H2_) | (have H2_ := (Option.bind_some _ _).symm.trans H; with_reducible exact H2_) | with_reducible exact H | (rw [hy434]; exact H) | exact H
   have Ny434 := Aside0.mk hy434
   clear hy434
   have H' := Aside0.mk H
   clear H
   go_enter Tryd.func26, Tryd.ntmps26
   go_wp2_with (first | ((with_reducible refine gate_dst (N := 16) rfl ?_); refine Kd.R_make (Kd.int .i64) _ 3 rfl (N := 16) rfl 70 _ _ rfl ji3 rfl rfl Tryd.underlying70 (.int .i64 0) 8 info3 rfl (by decide) (by omega) 0 (ok := fun _ => True) (okp := fun _ => True) rfl (fun _ hk => hk) trivial (of_decide_eq_true (by assumption)) (Nat.le_trans (Nat.mul_le_mul_right _ (of_decide_eq_true (by assumption) : ji3.toNat ≤ 35184372088832)) (by omega)) (Below.refl _ _) (Nat.le_refl _) ?_; intro v435 w6 ho7 hb hg_ hnew_; clear hg_ hnew_; (first | rw [← Ny434.out] at ho7 | (simp only [Int.reduceToNat] at ho7; rw [← Ny434.out] at ho7)); have n0_ := Aside0.mk (Kd.R_lower ho7 (below_size (by repeat (first | exact HB.out | apply below_alloc | apply pw_below_drewN | apply below_drew1)))); have n1_ := Aside0.mk (below_step (by repeat (first | exact HB.out | apply below_alloc | apply pw_below_drewN | apply below_drew1)) hb); clear HB; have HO436 := n0_; have HB := n1_; clear n0_ n1_; clear hb ho7))
   go_loopg [19] k (fun kq v19 w' => ∃ (x5_1 : List Int) (x19_1 : Int), v19 = .int .i64 x19_1 ∧ Aside0 (gamehallref2_NatMul.l0 kq a0 a1 x5_1 (a0.size : Int) x19_1 = some r) ∧ Aside0 (kq ≤ k) ∧ Aside0 (Kd.R (Kd.int .i64) 3 w' w.heap.size (fun _ => True) v435 x5_1) ∧ Aside0 (Below w.heap.size w w'))
   case atStart => exact ⟨(y434), (0), (by first | rfl | (simp; done) | (simp [*]; done)), H', ⟨Nat.le_refl _⟩, ⟨by (with_reducible repeat (first | apply Kd.R_alloc | apply Kd.R_drewN | apply Kd.R_drew)); exact HO436.out⟩, ⟨by repeat (first | exact HB.out | apply below_alloc | apply pw_below_drewN | apply below_drew1)⟩⟩
   case round =>
    clear H'
    try clear c2; try clear p2; try clear c4; try clear c4b0; try clear c4b1; try clear c5; try clear c5b0; try clear c5b1; try clear p6
    obtain ⟨x5_1, x19_1, rfl, HA, HK1, HO_5, HB⟩ := hrel
    cases gk with
    | zero => exact absurd HA.out (by simp [gamehallref2_NatMul.l0])
    | succ k1 =>
     have H := HA.out
     clear HA
     simp only [gamehallref2_NatMul.l0] at H
     by_cases c8 : x19_1 < (a0.size : Int)
     ·rw [if_pos c8] at H
      have c8b0 : decide (x19_1 < (a0.size : Int)) = true := decide_eq_true c8
      clear c8
      replace H := Option.bind_eq_some_iff.mp H
      obtain ⟨t438, A90, H⟩ := H
      replace H : (gamehallref2_NatMul.l1 k1 a0 a1 x5_1 x19_1 t438 (a0.size : Int) x19_1 (a1.size : Int) 0) = some r := H
      have A9 := Aside0.mk A90
      clear A90
      have H' := Aside0.mk H
      clear H
      go_wp2_with (first | ((with_reducible refine gate_callee (f := 61) rfl ?_); refine goesL_ (some 24) rfl rfl Tryd.func61 (by kernel_rfl) rfl #[.string a0, .int .i64 x19_1] rfl (by (try simp only [List.map_toArray, List.map_cons, List.map_nil]); first | done | rfl | (simp only [List.length_drop, List.length_take]; rfl)) ?_; (with_reducible refine (gamehallref2_digit.calls a0 x19_1 t438 _ A9.out).mono ?_); rintro e w' ⟨rfl, ⟨nd, rfl⟩⟩; refine ⟨_, rfl, ?_⟩))
      go_loopg [27] k1 (fun kq v27 w' => ∃ (x5_2 : List Int) (x27_2 : Int), v27 = .int .i64 x27_2 ∧ Aside0 (gamehallref2_NatMul.l1 kq a0 a1 x5_2 x19_1 t438 (a0.size : Int) x19_1 (a1.size : Int) x27_2 = some r) ∧ Aside0 (kq ≤ k1) ∧ Aside0 (Kd.R (Kd.int .i64) 3 w' w.heap.size (fun _ => True) v435 x5_2) ∧ Aside0 (Below w.heap.size w w'))
      case atStart => exact ⟨(x5_1), (0), (by first | rfl | (simp; done) | (simp [*]; done)), H', ⟨Nat.le_refl _⟩, ⟨by (with_reducible repeat (first | apply Kd.R_alloc | apply Kd.R_drewN | apply Kd.R_drew)); exact HO_5.out⟩, ⟨by repeat (first | exact HB.out | apply below_alloc | apply pw_below_drewN | apply below_drew1)⟩⟩
      case round =>
       clear H'
       try clear c2; try clear p2; try clear c4; try clear c4b0; try clear c4b1; try clear c5; try clear c5b0; try clear c5b1; try clear c6; try clear p6; try clear c8; try clear c8b0; try clear p2; try clear p6
       obtain ⟨x5_2, x27_2, rfl, HA, HK2, HO_5, HB⟩ := hrel
       cases gk with
       | zero => exact absurd HA.out (by simp [gamehallref2_NatMul.l1])
       | succ k2 =>
        have H := HA.out
        clear HA
        simp only [gamehallref2_NatMul.l1] at H
        by_cases c10 : x27_2 < (a1.size : Int)
        ·rw [if_pos c10] at H
         have c10b0 : decide (x27_2 < (a1.size : Int)) = true := decide_eq_true c10
         clear c10
         obtain ⟨ji11, hji11⟩ : ∃ j_ : Int, (wrap64 (x19_1 + x27_2)) = j_ := ⟨_, rfl⟩
         replace H : (if 0 ≤ (ji11) then (if (ji11) < (x5_2.length : Int) then ((gamehallref2_digit.f a1 x27_2).bind fun t440 => (gamehallref2_NatMul.l1 k2 a0 a1 (x5_2.set ((ji11) : Int).toNat (wrap64 ((rd x5_2 (ji11)) + (wrap64 (t438 * t440))))) x19_1 t438 (a0.size : Int) x19_1 (a1.size : Int) (wrap64 (x27_2 + 1)))) else (none)) else (none)) = some r := by first | (rw [hji11] at H; exact H) | (simp only [hji11] at H ⊢; exact H)
         have hji11w : (IntKind.i64.wrap (x19_1 + x27_2)) = ji11 := (i64_w _).trans hji11
         by_cases c12 : 0 ≤ (ji11)
         ·rw [if_pos c12] at H
          have c12b0 : decide (0 ≤ (ji11)) = true := decide_eq_true c12
          clear c12
          by_cases c13 : (ji11) < (x5_2.length : Int)
          ·rw [if_pos c13] at H
           have c13b0 : decide ((ji11) < (x5_2.length : Int)) = true := decide_eq_true c13
           clear c13
           replace H := Option.bind_eq_some_iff.mp H
           obtain ⟨t440, A140, H⟩ := H
           replace H : (gamehallref2_NatMul.l1 k2 a0 a1 (x5_2.set ((ji11) : Int).toNat (wrap64 ((rd x5_2 (ji11)) + (wrap64 (t438 * t440))))) x19_1 t438 (a0.size : Int) x19_1 (a1.size : Int) (wrap64 (x27_2 + 1))) = some r := H
           have A14 := Aside0.mk A140
           clear A140
           obtain ⟨y441, hy441⟩ : ∃ y_ : List Int, y_ = (x5_2.set ((ji11) : Int).toNat (wrap64 ((rd x5_2 (ji11)) + (wrap64 (t438 * t440))))) := ⟨_, rfl⟩
           replace H : (gamehallref2_NatMul.l1 k2 a0 a1 y441 x19_1 t438 (a0.size : Int) x19_1 (a1.size : Int) (wrap64 (x27_2 + 1))) = some r := by first | (rw [hy441]; with_reducible exact H) | (have H2_ := (Option.bind_some _ _).symm.trans H; rw [hy441]; with_reducible exact H2_) | (have H2_ := (Option.bind_some _ _).symm.trans H; with_reducible exact H2_) | with_reducible exact H | (rw [hy441]; exact H) | exact H
           have Ny441 := Aside0.mk hy441
           clear hy441
           have H' := Aside0.mk H
           clear H
           try go_wp2
           have n0_ := Aside0.mk (Kd.R_drew HO_5.out)
           have n1_ := Aside0.mk (below_drew1 HB.out)
           clear HO_5
           clear HB
           have HO_5 := n0_
           have HB := n1_
           clear n0_ n1_
           obtain ⟨Ao17, co17, eo17⟩ := Kd.R_slice HO_5.out
           (first | subst eo17 | (injection eo17 with f1_ f2_ f3_; have f4_ := f1_.symm; have f5_ := f3_.symm; clear f1_ f2_ f3_; subst f4_; subst f5_))
           have p439 : 0 ≤ ((ji11) : Int) := of_decide_eq_true (by assumption)
           have q439 : (ji11) < (x5_2.length : Int) := of_decide_eq_true (by assumption)
           obtain ⟨ad439, e439, hx439_0⟩ := Kd.at_int (Kd.R_reads' HO_5.out).2.2 (ji11) p439 q439
           cases e439
           replace p439 := eq_true p439
           replace q439 := eq_true q439
           refine start_ (n := 14) (S := fun w' => w'.cell? (ad439.add ((ji11)).toNat) = some (.int .i64 (rd x5_2 (ji11)))) (ds := [13]) #[false, false, false, false, false, false, false, false, false, false, false, false, false, false] (by kernel_rfl) rfl rfl (hx439_0) (fun hHeld => ?_); refine with_tabW gamehallref2_NatMul.tab9 gamehallref2_NatMul.bits9 (fun HT_ HW_ => ?_)
           generalize wr.drew = w16 at HO_5 HB hx439_0 hHeld ⊢
           refine pure_ (i := 0) (N := some 30) (v := ?_) (a' := ?_) #[true, false, false, false, false, false, false, false, false, false, false, false, false, false] rfl rfl (any_of HT_.out (by kernel_rfl)) (fun _ _ _ h => h) (Or.inl ⟨by rfl, ?_⟩) ?_ ?_
           rotate_left
           ·intro w'
            go_simp
            with_reducible rfl
           rotate_left
           ·simp only [Act.put, List.setIfInBounds_toArray, List.set_cons_zero, List.set_cons_succ, i64_w, i32_w]
            rfl
           refine pure_ (i := 1) (N := some 31) (v := ?_) (a' := ?_) #[true, true, false, false, false, false, false, false, false, false, false, false, false, false] rfl rfl (any_of HT_.out (by kernel_rfl)) (fun _ _ _ h => h) (Or.inl ⟨by rfl, ?_⟩) ?_ ?_
           rotate_left
           ·intro w'
            go_simp
            with_reducible rfl
           rotate_left
           ·simp only [Act.put, List.setIfInBounds_toArray, List.set_cons_zero, List.set_cons_succ, i64_w, i32_w]
            rfl
           refine pure_ (i := 2) (N := some 32) (v := ?_) (a' := ?_) #[true, true, true, false, false, false, false, false, false, false, false, false, false, false] rfl rfl (any_of HT_.out (by kernel_rfl)) (fun _ _ _ h => h) (Or.inl ⟨by rfl, ?_⟩) ?_ ?_
           rotate_left
           ·intro w'
            go_simp
            with_reducible rfl
           rotate_left
           ·simp only [Act.put, List.setIfInBounds_toArray, List.set_cons_zero, List.set_cons_succ, i64_w, i32_w]
            rfl
           refine pure_ (i := 3) (N := some 33) (v := ?_) (a' := ?_) #[true, true, true, true, false, false, false, false, false, false, false, false, false, false] rfl rfl (any_of HT_.out (by kernel_rfl)) (fun _ _ _ h => h) (Or.inl ⟨by rfl, ?_⟩) ?_ ?_
           rotate_left
           ·intro w'
            go_simp
            with_reducible rfl
           rotate_left
           ·simp only [Act.put, List.setIfInBounds_toArray, List.set_cons_zero, List.set_cons_succ, i64_w, i32_w]
            rfl
           refine pure_ (i := 4) (N := some 34) (v := ?_) (a' := ?_) #[true, true, true, true, true, false, false, false, false, false, false, false, false, false] rfl rfl (any_of HT_.out (by kernel_rfl)) (fun _ _ _ h => h) (Or.inl ⟨by rfl, ?_⟩) ?_ ?_
           rotate_left
           ·intro w'
            go_simp
            with_reducible rfl
           rotate_left
           ·simp only [Act.put, List.setIfInBounds_toArray, List.set_cons_zero, List.set_cons_succ, i64_w, i32_w]
            rfl
           refine pure_ (i := 6) (N := some 36) (v := ?_) (a' := ?_) #[true, true, true, true, true, false, true, false, false, false, false, false, false, false] rfl rfl (any_of HT_.out (by kernel_rfl)) (fun _ _ _ h => h) (Or.inl ⟨by rfl, ?_⟩) ?_ ?_
           rotate_left
           ·intro w'
            go_simp
            with_reducible rfl
           rotate_left
           ·simp only [Act.put, List.setIfInBounds_toArray, List.set_cons_zero, List.set_cons_succ, i64_w, i32_w]
            rfl
           refine pure_ (i := 7) (N := some 37) (v := ?_) (a' := ?_) #[true, true, true, true, true, false, true, true, false, false, false, false, false, false] rfl rfl (any_of HT_.out (by kernel_rfl)) (fun _ _ _ h => h) (Or.inl ⟨by rfl, ?_⟩) ?_ ?_
           rotate_left
           ·intro w'
            go_simp
            with_reducible rfl
           rotate_left
           ·simp only [Act.put, List.setIfInBounds_toArray, List.set_cons_zero, List.set_cons_succ, i64_w, i32_w]
            rfl
           refine pure_ (i := 8) (N := some 38) (v := ?_) (a' := ?_) #[true, true, true, true, true, false, true, true, true, false, false, false, false, false] rfl rfl (any_of HT_.out (by kernel_rfl)) (fun _ _ _ h => h) (Or.inl ⟨by rfl, ?_⟩) ?_ ?_
           rotate_left
           ·intro w'
            go_simp
            with_reducible rfl
           rotate_left
           ·simp only [Act.put, List.setIfInBounds_toArray, List.set_cons_zero, List.set_cons_succ, i64_w, i32_w]
            rfl
           refine take_ (i := 5) (N := some 35) (v := ?_) (a' := ?_) #[true, true, true, true, true, true, true, true, true, false, false, false, false, false] rfl rfl (take_ofW HT_.out HW_.out (by kernel_rfl)) (fun _ _ _ h => h) (Or.inl ⟨by rfl, ?_⟩) hHeld ?_ ?_
           rotate_left
           ·intro w' s0
            go_simp
            with_reducible rfl
           rotate_left
           ·simp only [Act.put, List.setIfInBounds_toArray, List.set_cons_zero, List.set_cons_succ, i64_w, i32_w]
            rfl
           refine one_ (i := 9) (N := some 39) #[true, true, true, true, true, true, true, true, true, true, false, false, false, false] rfl rfl (one_of HT_.out (by kernel_rfl)) (by decide) (fun K hK => ?_)
           refine goes_ Tryd.func61 (by kernel_rfl) rfl #[.string a1, .int .i64 x27_2] (by rfl) rfl rfl (by (try simp only [List.map_toArray, List.map_cons, List.map_nil]); first | done | rfl | (simp only [List.length_drop, List.length_take]; rfl)) ?_
           with_reducible refine (gamehallref2_digit.calls a1 x27_2 t440 _ A14.out).mono ?_
           rintro e w' ⟨rfl, ⟨nd, rfl⟩⟩
           refine ⟨_, rfl, ?_⟩
           have p15 : 0 ≤ ((ji11) : Int) := of_decide_eq_true (by assumption)
           have q15 : ((ji11) : Int) < ((x5_2.length : Int) : Int) := of_decide_eq_true (by assumption)
           obtain ⟨go15, co15, eo15, gb15, gl15, cl15, HG15⟩ := Kd.R_form HO_5.out (by omega)
           (first | cases eo15 | (injection eo15 with ea_ en_ ec_; (first | subst ea_ | (injection ea_ with ea_; subst ea_)); subst ec_; clear en_))
           have GB15 := Aside0.mk gb15
           have GG15 := Aside0.mk HG15
           clear gb15 gl15 HG15
           (first | simp only [add_plain] at hx439_0 | skip)
           obtain ⟨hx15_0, hf15_0⟩ := Kd.R_celln 0 HO_5.out ((ji11) : Int) p15 q15
           replace p15 := eq_true p15
           replace q15 := eq_true q15
           have HP18 := Kd.R_putn HO_5.out ((ji11) : Int) (wrap64 ((rd x5_2 (ji11)) + (wrap64 (t438 * t440))))
           rw [← Ny441.out] at HP18
           have HQ18 := Aside0.mk HP18
           clear HP18
           refine hK.out _ _ (hHeld) (fun hHeld => ?_)
           clear hK K
           refine norm_ (a' := ?_) ?_ ?_
           rotate_left
           ·show Act.put _ (some 39) _ = _
            simp only [Act.put, List.setIfInBounds_toArray, List.set_cons_zero, List.set_cons_succ, i64_w, i32_w]
            rfl
           refine pure_ (i := 10) (N := some 40) (v := ?_) (a' := ?_) #[true, true, true, true, true, true, true, true, true, true, true, false, false, false] rfl rfl (any_of HT_.out (by kernel_rfl)) (fun _ _ _ h => h) (Or.inl ⟨by rfl, ?_⟩) ?_ ?_
           rotate_left
           ·intro w'
            go_simp
            with_reducible rfl
           rotate_left
           ·simp only [Act.put, List.setIfInBounds_toArray, List.set_cons_zero, List.set_cons_succ, i64_w, i32_w]
            rfl
           refine pure_ (i := 11) (N := some 41) (v := ?_) (a' := ?_) #[true, true, true, true, true, true, true, true, true, true, true, true, false, false] rfl rfl (any_of HT_.out (by kernel_rfl)) (fun _ _ _ h => h) (Or.inl ⟨by rfl, ?_⟩) ?_ ?_
           rotate_left
           ·intro w'
            go_simp
            with_reducible rfl
           rotate_left
           ·simp only [Act.put, List.setIfInBounds_toArray, List.set_cons_zero, List.set_cons_succ, i64_w, i32_w]
            rfl
           refine pure_ (i := 12) (N := some 42) (v := ?_) (a' := ?_) #[true, true, true, true, true, true, true, true, true, true, true, true, true, false] rfl rfl (any_of HT_.out (by kernel_rfl)) (fun _ _ _ h => h) (Or.inl ⟨by rfl, ?_⟩) ?_ ?_
           rotate_left
           ·intro w'
            go_simp
            with_reducible rfl
           rotate_left
           ·simp only [Act.put, List.setIfInBounds_toArray, List.set_cons_zero, List.set_cons_succ, i64_w, i32_w]
            rfl
           refine last_ (i := 13) (N := none) #[true, true, true, true, true, true, true, true, true, true, true, true, true, true] rfl rfl (one_of HT_.out (by kernel_rfl)) (by decide) (fun K hK => ?_)
           refine skip_ (w1 := ?_) (by rfl) rfl ?_ ?_
           rotate_left
           ·go_simp
            rfl
           refine hK.out _ _ ?_
           clear hK K
           refine done_ (done_of HT_.out (by kernel_rfl)) ?_
           try go_wp2
           go_roundg k2
           case measure => have := HK1.out; have := HK2.out; omega
           case rel => exact ⟨(y441), (wrap64 (x27_2 + 1)), (by first | rfl | (simp; done) | (simp [*]; done)), H', ⟨by have := HK1.out; have := HK2.out; omega⟩, ⟨by (with_reducible repeat (first | apply Kd.R_alloc | apply Kd.R_drewN | apply Kd.R_drew)); exact HQ18.out⟩, ⟨by repeat (first | (with_reducible first | exact HB.out | apply below_alloc | apply pw_below_drewN | apply below_drew1 | refine below_set ?_ GB15.out) | exact HB.out)⟩⟩
          ·rw [if_neg c13] at H
           exact absurd H (by simp)
         ·rw [if_neg c12] at H
          exact absurd H (by simp)
        ·rw [if_neg c10] at H
         have c10b0 : decide (x27_2 < (a1.size : Int)) = false := decide_eq_false c10
         clear c10
         obtain ⟨ji19, hji19⟩ : ∃ j_ : Int, (wrap64 ((x5_2.length : Int) - 1)) = j_ := ⟨_, rfl⟩
         replace H : (if 0 ≤ (ji19) then (if (ji19) ≤ (x5_2.length : Int) then (gamehallref2_NatMul.l2 k2 a0 a1 x5_2 (a0.size : Int) x19_1 ((x5_2.take ((ji19) : Int).toNat).length : Int) 0) else (none)) else (none)) = some r := by first | (rw [hji19] at H; exact H) | (simp only [hji19] at H ⊢; exact H)
         have hji19w : (IntKind.i64.wrap ((x5_2.length : Int) - 1)) = ji19 := (i64_w _).trans hji19
         by_cases c20 : 0 ≤ (ji19)
         ·rw [if_pos c20] at H
          have c20b0 := eq_true c20
          have c20b1 : decide (0 ≤ (ji19)) = true := decide_eq_true c20
          clear c20
          by_cases c21 : (ji19) ≤ (x5_2.length : Int)
          ·rw [if_pos c21] at H
           have c21b0 := eq_true c21
           have c21b1 : decide ((ji19) ≤ (x5_2.length : Int)) = true := decide_eq_true c21
           clear c21
           obtain ⟨y442, hy442⟩ : ∃ y_ : List Int, y_ = (x5_2.take ((ji19) : Int).toNat) := ⟨_, rfl⟩
           replace H : (gamehallref2_NatMul.l2 k2 a0 a1 x5_2 (a0.size : Int) x19_1 (y442.length : Int) 0) = some r := by first | (rw [hy442]; with_reducible exact H) | (have H2_ := (Option.bind_some _ _).symm.trans H; rw [hy442]; with_reducible exact H2_) | (have H2_ := (Option.bind_some _ _).symm.trans H; with_reducible exact H2_) | with_reducible exact H | (rw [hy442]; exact H) | exact H
           have Ny442 := Aside0.mk hy442
           clear hy442
           have H' := Aside0.mk H
           clear H
           obtain ⟨Ao22, co22, eo22⟩ := Kd.R_slice HO_5.out
           subst eo22
           have q23 : ((ji19) : Int) ≤ ((x5_2.length : Int) : Int) := of_decide_eq_true (by assumption)
           obtain ⟨i023, hi023, _, hsz23, _⟩ := info_parts info3
           have hroom23 : x5_2.length ≤ co22 := (Kd.R_reads' HO_5.out).2.1
           have hC23 : Kd.C (Kd.int .i64) _ Ao22 x5_2.length x5_2 := (Kd.R_reads' HO_5.out).2.2
           have hcut23 := cut_to (P := Tryd.prog) 70 3 .i64 Tryd.underlying70 hi023 Ao22 x5_2.length co22 (ji19) (of_decide_eq_true (by assumption)) q23 hroom23
           have hr23 := Kd.C_take (m := ((ji19) : Int).toNat) hC23 (by omega)
           have hy23 : y442.length = ((ji19) : Int).toNat := (by rw [Ny442.out, List.length_take]; omega)
           rw [← Ny442.out] at hr23
           rw [← hy23] at hcut23
           have HR445 := Aside0.mk hr23
           have HC445 := Aside0.mk (show y442.length ≤ co22 from by omega)
           clear hr23 hC23 hroom23 hi023 hsz23
           have KY23 := Aside0.mk hy23
           clear hy23
           have KL23 := Aside0.mk (show ((ji19) : Int).toNat ≤ x5_2.length from by omega)
           replace q23 := eq_true q23
           go_wp2
           go_loopg [50] k2 (fun kq v50 w' => ∃ (x5_3 : List Int) (x50_3 : Int), v50 = .int .i64 x50_3 ∧ Aside0 (gamehallref2_NatMul.l2 kq a0 a1 x5_3 (a0.size : Int) x19_1 (y442.length : Int) x50_3 = some r) ∧ Aside0 (kq ≤ k2) ∧ Aside0 (Kd.R (Kd.int .i64) 3 w' w.heap.size (fun _ => True) (.slice Ao22 x5_2.length co22) x5_3) ∧ Aside0 (Below w.heap.size w w'))
           case atStart => exact ⟨(x5_2), (0), (by first | rfl | (simp; done) | (simp [*]; done)), H', ⟨Nat.le_refl _⟩, ⟨by (with_reducible repeat (first | apply Kd.R_alloc | apply Kd.R_drewN | apply Kd.R_drew)); exact HO_5.out⟩, ⟨by repeat (first | exact HB.out | apply below_alloc | apply pw_below_drewN | apply below_drew1)⟩⟩
           case round =>
            clear H'
            try clear c1; try clear p1; try clear q1; try clear hx1; try clear c2; try clear p2; try clear q2; try clear c4; try clear c4b0; try clear c4b1; try clear p4; try clear q4; try clear hx4; try clear c5; try clear c5b0; try clear c5b1; try clear c6; try clear p6; try clear c8; try clear c8b0; try clear c10; try clear c10b0; try clear c12; try clear c12b0; try clear c13; try clear c13b0; try clear p15; try clear q15; try clear hx15; try clear hf15; try clear c20; try clear c20b0; try clear c20b1; try clear c21; try clear c21b0; try clear c21b1; try clear q23; try clear hx15_0; try clear hx439_0; try clear p15; try clear p2; try clear p439; try clear p6; try clear q15; try clear q23; try clear q439
            obtain ⟨x5_3, x50_3, rfl, HA, HK3, HO_5, HB⟩ := hrel
            have hl5_3 := (Kd.R_reads' HO_5.out).1
            rw [hl5_3] at HO_5
            (try simp only [hl5_3])
            cases gk with
            | zero => exact absurd HA.out (by simp [gamehallref2_NatMul.l2])
            | succ k3 =>
             have H := HA.out
             clear HA
             simp only [gamehallref2_NatMul.l2] at H
             by_cases c24 : x50_3 < (y442.length : Int)
             ·rw [if_pos c24] at H
              have c24b0 : decide (x50_3 < (y442.length : Int)) = true := decide_eq_true c24
              (try (have c24h0 := c24b0; simp only [hl5_3] at c24h0))
              clear c24
              by_cases c25 : 0 ≤ x50_3
              ·rw [if_pos c25] at H
               have c25b0 : decide (0 ≤ x50_3) = true := decide_eq_true c25
               (try (have c25h0 := c25b0; simp only [hl5_3] at c25h0))
               clear c25
               by_cases c26 : x50_3 < (x5_3.length : Int)
               ·rw [if_pos c26] at H
                have c26b0 : decide (x50_3 < (x5_3.length : Int)) = true := decide_eq_true c26
                (try (have c26h0 := c26b0; simp only [hl5_3] at c26h0))
                clear c26
                by_cases c27 : (rd x5_3 x50_3) > 9
                ·rw [if_pos c27] at H
                 have c27b0 : decide (9 < (rd x5_3 x50_3)) = true := decide_eq_true c27
                 (try (have c27h0 := c27b0; simp only [hl5_3] at c27h0))
                 clear c27
                 obtain ⟨ji28, hji28⟩ : ∃ j_ : Int, (wrap64 (x50_3 + 1)) = j_ := ⟨_, rfl⟩
                 replace H : (if 0 ≤ (ji28) then (if (ji28) < (x5_3.length : Int) then ((some (x5_3.set ((ji28) : Int).toNat (wrap64 ((rd x5_3 (ji28)) + (wrap64 (Int.tdiv (rd x5_3 x50_3) 10)))) : List Int)).bind fun y449 => (gamehallref2_NatMul.l2 k3 a0 a1 (y449.set (x50_3 : Int).toNat (Int.tmod (rd y449 x50_3) 10)) (a0.size : Int) x19_1 (y442.length : Int) ji28)) else (none)) else (none)) = some r := by first | (rw [hji28] at H; exact H) | (simp only [hji28] at H ⊢; exact H)
                 have hji28w : (IntKind.i64.wrap (x50_3 + 1)) = ji28 := (i64_w _).trans hji28
                 by_cases c29 : 0 ≤ (ji28)
                 ·rw [if_pos c29] at H
                  have c29b0 : decide (0 ≤ (ji28)) = true := decide_eq_true c29
                  (try (have c29h0 := c29b0; simp only [hl5_3] at c29h0))
                  clear c29
                  by_cases c30 : (ji28) < (x5_3.length : Int)
                  ·rw [if_pos c30] at H
                   have c30b0 : decide ((ji28) < (x5_3.length : Int)) = true := decide_eq_true c30
                   (try (have c30h0 := c30b0; simp only [hl5_3] at c30h0))
                   clear c30
                   obtain ⟨y449, hy449⟩ : ∃ y_ : List Int, y_ = (x5_3.set ((ji28) : Int).toNat (wrap64 ((rd x5_3 (ji28)) + (wrap64 (Int.tdiv (rd x5_3 x50_3) 10))))) := ⟨_, rfl⟩
                   replace H : (gamehallref2_NatMul.l2 k3 a0 a1 (y449.set (x50_3 : Int).toNat (Int.tmod (rd y449 x50_3) 10)) (a0.size : Int) x19_1 (y442.length : Int) ji28) = some r := by first | (rw [hy449]; with_reducible exact H) | (have H2_ := (Option.bind_some _ _).symm.trans H; rw [hy449]; with_reducible exact H2_) | (have H2_ := (Option.bind_some _ _).symm.trans H; with_reducible exact H2_) | with_reducible exact H | (rw [hy449]; exact H) | exact H
                   have Ny449 := Aside0.mk hy449
                   clear hy449
                   obtain ⟨y451, hy451⟩ : ∃ y_ : List Int, y_ = (y449.set (x50_3 : Int).toNat (Int.tmod (rd y449 x50_3) 10)) := ⟨_, rfl⟩
                   replace H : (gamehallref2_NatMul.l2 k3 a0 a1 y451 (a0.size : Int) x19_1 (y442.length : Int) ji28) = some r := by first | (rw [hy451]; with_reducible exact H) | (have H2_ := (Option.bind_some _ _).symm.trans H; rw [hy451]; with_reducible exact H2_) | (have H2_ := (Option.bind_some _ _).symm.trans H; with_reducible exact H2_) | with_reducible exact H | (rw [hy451]; exact H) | exact H
                   have Ny451 := Aside0.mk hy451
                   clear hy451
                   have H' := Aside0.mk H
                   clear H
                   have p446 : 0 ≤ (x50_3 : Int) := of_decide_eq_true (by assumption)
                   have q446 : x50_3 < (x5_3.length : Int) := of_decide_eq_true (by assumption)
                   obtain ⟨ad446, e446, hx446_0⟩ := Kd.at_int (Kd.R_reads' HO_5.out).2.2 x50_3 p446 q446
                   cases e446
                   replace p446 := eq_true p446
                   replace q446 := eq_true q446
                   try go_wp2
                   have n0_ := Aside0.mk (Kd.R_drew HO_5.out)
                   have n1_ := Aside0.mk (below_drew1 HB.out)
                   clear HO_5
                   clear HB
                   have HO_5 := n0_
                   have HB := n1_
                   clear n0_ n1_
                   have p447 : 0 ≤ ((ji28) : Int) := of_decide_eq_true (by assumption)
                   have q447 : (ji28) < (x5_3.length : Int) := of_decide_eq_true (by assumption)
                   obtain ⟨ad447, e447, hx447_0⟩ := Kd.at_int (Kd.R_reads' HO_5.out).2.2 (ji28) p447 q447
                   obtain rfl : ad446 = ad447 := (by injection e447)
                   replace p447 := eq_true p447
                   replace q447 := eq_true q447
                   have p448 : 0 ≤ (x50_3 : Int) := of_decide_eq_true (by assumption)
                   have q448 : x50_3 < (x5_3.length : Int) := of_decide_eq_true (by assumption)
                   obtain ⟨ad448, e448, hx448_0⟩ := Kd.at_int (Kd.R_reads' HO_5.out).2.2 x50_3 p448 q448
                   obtain rfl : ad446 = ad448 := (by injection e448)
                   replace p448 := eq_true p448
                   replace q448 := eq_true q448
                   have p31 : 0 ≤ ((ji28) : Int) := of_decide_eq_true (by assumption)
                   have q31 : ((ji28) : Int) < ((x5_3.length : Int) : Int) := of_decide_eq_true (by assumption)
                   obtain ⟨go31, co31, eo31, gb31, gl31, cl31, HG31⟩ := Kd.R_form HO_5.out (by omega)
                   (first | cases eo31 | (injection eo31 with ea_ en_ ec_; (first | subst ea_ | (injection ea_ with ea_; subst ea_)); subst ec_; clear en_))
                   have GB31 := Aside0.mk gb31
                   have GG31 := Aside0.mk HG31
                   clear gb31 gl31 HG31
                   (first | simp only [add_plain] at hx446_0 | skip)
                   (first | simp only [add_plain] at hx447_0 | skip)
                   (first | simp only [add_plain] at hx448_0 | skip)
                   obtain ⟨hx31_0, hf31_0⟩ := Kd.R_celln 0 HO_5.out ((ji28) : Int) p31 q31
                   replace p31 := eq_true p31
                   replace q31 := eq_true q31
                   have HP34 := Kd.R_putn HO_5.out ((ji28) : Int) (wrap64 ((rd x5_3 (ji28)) + (wrap64 (Int.tdiv (rd x5_3 x50_3) 10))))
                   rw [← Ny449.out] at HP34
                   have HQ34 := Aside0.mk HP34
                   clear HP34
                   refine start_ (n := 13) (S := fun w' => w'.cell? ⟨go31, ((ji28)).toNat, none⟩ = some (.int .i64 (rd x5_3 (ji28))) ∧ w'.cell? ⟨go31, (x50_3).toNat, none⟩ = some (.int .i64 (rd x5_3 x50_3))) (ds := [12]) #[false, false, false, false, false, false, false, false, false, false, false, false, false] (by kernel_rfl) rfl rfl ⟨hx447_0, hx448_0⟩ (fun hHeld => ?_); refine with_tabW gamehallref2_NatMul.tab15 gamehallref2_NatMul.bits15 (fun HT_ HW_ => ?_)
                   generalize wr.drew = w33 at HO_5 HB GG31 HQ34 hf31_0 hx31_0 hx446_0 hx447_0 hx448_0 hHeld ⊢
                   refine pure_ (i := 0) (N := some 58) (v := ?_) (a' := ?_) #[true, false, false, false, false, false, false, false, false, false, false, false, false] rfl rfl (any_of HT_.out (by kernel_rfl)) (fun _ _ _ h => h) (Or.inl ⟨by rfl, ?_⟩) ?_ ?_
                   rotate_left
                   ·intro w'
                    go_simp
                    with_reducible rfl
                   rotate_left
                   ·simp only [Act.put, List.setIfInBounds_toArray, List.set_cons_zero, List.set_cons_succ, i64_w, i32_w]
                    rfl
                   refine pure_ (i := 1) (N := some 59) (v := ?_) (a' := ?_) #[true, true, false, false, false, false, false, false, false, false, false, false, false] rfl rfl (any_of HT_.out (by kernel_rfl)) (fun _ _ _ h => h) (Or.inl ⟨by rfl, ?_⟩) ?_ ?_
                   rotate_left
                   ·intro w'
                    go_simp
                    with_reducible rfl
                   rotate_left
                   ·simp only [Act.put, List.setIfInBounds_toArray, List.set_cons_zero, List.set_cons_succ, i64_w, i32_w]
                    rfl
                   refine pure_ (i := 2) (N := some 60) (v := ?_) (a' := ?_) #[true, true, true, false, false, false, false, false, false, false, false, false, false] rfl rfl (any_of HT_.out (by kernel_rfl)) (fun _ _ _ h => h) (Or.inl ⟨by rfl, ?_⟩) ?_ ?_
                   rotate_left
                   ·intro w'
                    go_simp
                    with_reducible rfl
                   rotate_left
                   ·simp only [Act.put, List.setIfInBounds_toArray, List.set_cons_zero, List.set_cons_succ, i64_w, i32_w]
                    rfl
                   refine pure_ (i := 3) (N := some 61) (v := ?_) (a' := ?_) #[true, true, true, true, false, false, false, false, false, false, false, false, false] rfl rfl (any_of HT_.out (by kernel_rfl)) (fun _ _ _ h => h) (Or.inl ⟨by rfl, ?_⟩) ?_ ?_
                   rotate_left
                   ·intro w'
                    go_simp
                    with_reducible rfl
                   rotate_left
                   ·simp only [Act.put, List.setIfInBounds_toArray, List.set_cons_zero, List.set_cons_succ, i64_w, i32_w]
                    rfl
                   refine pure_ (i := 5) (N := some 63) (v := ?_) (a' := ?_) #[true, true, true, true, false, true, false, false, false, false, false, false, false] rfl rfl (any_of HT_.out (by kernel_rfl)) (fun _ _ _ h => h) (Or.inl ⟨by rfl, ?_⟩) ?_ ?_
                   rotate_left
                   ·intro w'
                    go_simp
                    with_reducible rfl
                   rotate_left
                   ·simp only [Act.put, List.setIfInBounds_toArray, List.set_cons_zero, List.set_cons_succ, i64_w, i32_w]
                    rfl
                   refine pure_ (i := 6) (N := some 64) (v := ?_) (a' := ?_) #[true, true, true, true, false, true, true, false, false, false, false, false, false] rfl rfl (any_of HT_.out (by kernel_rfl)) (fun _ _ _ h => h) (Or.inl ⟨by rfl, ?_⟩) ?_ ?_
                   rotate_left
                   ·intro w'
                    go_simp
                    with_reducible rfl
                   rotate_left
                   ·simp only [Act.put, List.setIfInBounds_toArray, List.set_cons_zero, List.set_cons_succ, i64_w, i32_w]
                    rfl
                   refine pure_ (i := 7) (N := some 65) (v := ?_) (a' := ?_) #[true, true, true, true, false, true, true, true, false, false, false, false, false] rfl rfl (any_of HT_.out (by kernel_rfl)) (fun _ _ _ h => h) (Or.inl ⟨by rfl, ?_⟩) ?_ ?_
                   rotate_left
                   ·intro w'
                    go_simp
                    with_reducible rfl
                   rotate_left
                   ·simp only [Act.put, List.setIfInBounds_toArray, List.set_cons_zero, List.set_cons_succ, i64_w, i32_w]
                    rfl
                   refine take_ (i := 4) (N := some 62) (v := ?_) (a' := ?_) #[true, true, true, true, true, true, true, true, false, false, false, false, false] rfl rfl (take_ofW HT_.out HW_.out (by kernel_rfl)) (fun _ _ _ h => h) (Or.inl ⟨by rfl, ?_⟩) hHeld ?_ ?_
                   rotate_left
                   ·rintro w' ⟨s0, s1⟩
                    go_simp
                    with_reducible rfl
                   rotate_left
                   ·simp only [Act.put, List.setIfInBounds_toArray, List.set_cons_zero, List.set_cons_succ, i64_w, i32_w]
                    rfl
                   refine take_ (i := 8) (N := some 66) (v := ?_) (a' := ?_) #[true, true, true, true, true, true, true, true, true, false, false, false, false] rfl rfl (take_ofW HT_.out HW_.out (by kernel_rfl)) (fun _ _ _ h => h) (Or.inl ⟨by rfl, ?_⟩) hHeld ?_ ?_
                   rotate_left
                   ·rintro w' ⟨s0, s1⟩
                    go_simp
                    with_reducible rfl
                   rotate_left
                   ·simp only [Act.put, List.setIfInBounds_toArray, List.set_cons_zero, List.set_cons_succ, i64_w, i32_w]
                    rfl
                   refine pure_ (i := 9) (N := some 67) (v := ?_) (a' := ?_) #[true, true, true, true, true, true, true, true, true, true, false, false, false] rfl rfl (any_of HT_.out (by kernel_rfl)) (fun _ _ _ h => h) (Or.inl ⟨by rfl, ?_⟩) ?_ ?_
                   rotate_left
                   ·intro w'
                    go_simp
                    with_reducible rfl
                   rotate_left
                   ·simp only [Act.put, List.setIfInBounds_toArray, List.set_cons_zero, List.set_cons_succ, i64_w, i32_w]
                    rfl
                   refine pure_ (i := 10) (N := some 68) (v := ?_) (a' := ?_) #[true, true, true, true, true, true, true, true, true, true, true, false, false] rfl rfl (any_of HT_.out (by kernel_rfl)) (fun _ _ _ h => h) (Or.inl ⟨by rfl, ?_⟩) ?_ ?_
                   rotate_left
                   ·intro w'
                    go_simp
                    with_reducible rfl
                   rotate_left
                   ·simp only [Act.put, List.setIfInBounds_toArray, List.set_cons_zero, List.set_cons_succ, i64_w, i32_w]
                    rfl
                   refine pure_ (i := 11) (N := some 69) (v := ?_) (a' := ?_) #[true, true, true, true, true, true, true, true, true, true, true, true, false] rfl rfl (any_of HT_.out (by kernel_rfl)) (fun _ _ _ h => h) (Or.inl ⟨by rfl, ?_⟩) ?_ ?_
                   rotate_left
                   ·intro w'
                    go_simp
                    with_reducible rfl
                   rotate_left
                   ·simp only [Act.put, List.setIfInBounds_toArray, List.set_cons_zero, List.set_cons_succ, i64_w, i32_w]
                    rfl
                   refine last_ (i := 12) (N := none) #[true, true, true, true, true, true, true, true, true, true, true, true, true] rfl rfl (one_of HT_.out (by kernel_rfl)) (by decide) (fun K hK => ?_)
                   refine skip_ (w1 := ?_) (by rfl) rfl ?_ ?_
                   rotate_left
                   ·go_simp
                    rfl
                   refine hK.out _ _ ?_
                   clear hK K
                   refine done_ (done_of HT_.out (by kernel_rfl)) ?_
                   have n0_ : Aside0 (Kd.R (Kd.int .i64) 3 (w33.setCell ⟨go31, ((ji28) : Int).toNat, none⟩ (.int .i64 (wrap64 ((rd x5_3 (ji28)) + (wrap64 (Int.tdiv (rd x5_3 x50_3) 10)))))) w.heap.size (fun _ => True) (.slice (some ⟨go31, 0, none⟩) x5_3.length co22) y449) := ⟨by (with_reducible repeat (first | apply Kd.R_alloc | apply Kd.R_drewN | apply Kd.R_drew)); exact HQ34.out⟩
                   have n1_ : Aside0 (Below w.heap.size w (w33.setCell ⟨go31, ((ji28) : Int).toNat, none⟩ (.int .i64 (wrap64 ((rd x5_3 (ji28)) + (wrap64 (Int.tdiv (rd x5_3 x50_3) 10))))))) := ⟨by repeat (first | (with_reducible first | exact HB.out | apply below_alloc | apply pw_below_drewN | apply below_drew1 | refine below_set ?_ GB31.out) | exact HB.out)⟩
                   (try clear HO_5)
                   (try clear HB)
                   generalize (w33.setCell ⟨go31, ((ji28) : Int).toNat, none⟩ (.int .i64 (wrap64 ((rd x5_3 (ji28)) + (wrap64 (Int.tdiv (rd x5_3 x50_3) 10)))))) = w35 at n0_ n1_ ⊢
                   have HO_5 := n0_
                   have HB := n1_
                   clear n0_ n1_
                   have p450 : 0 ≤ (x50_3 : Int) := of_decide_eq_true (by assumption)
                   have q450 : x50_3 < (y449.length : Int) := (by have h_ : (x50_3 : Int) < ((x5_3.length : Int) : Int) := of_decide_eq_true (by assumption); first | (have e_ := (Kd.R_reads' HO_5.out).1; omega) | simpa only [Ny449.out, List.length_set] using h_)
                   have ql450 : ((x50_3 : Int) < ((x5_3.length : Int) : Int)) = True := eq_true (of_decide_eq_true (by assumption))
                   obtain ⟨ad450, e450, hx450_0⟩ := Kd.at_int (Kd.R_reads' HO_5.out).2.2 x50_3 p450 q450
                   obtain rfl : (⟨go31, 0, none⟩ : Addr) = ad450 := (by injection e450)
                   (first | simp only [add_plain] at hx450_0 | simp only [add_at] at hx450_0 | simp only [Addr.add, Nat.zero_add] at hx450_0 | skip)
                   replace p450 := eq_true p450
                   replace q450 := eq_true q450
                   have p32 : 0 ≤ (x50_3 : Int) := of_decide_eq_true (by assumption)
                   have q32 : (x50_3 : Int) < ((x5_3.length : Int) : Int) := of_decide_eq_true (by assumption)
                   obtain ⟨hx32_0, hf32_0⟩ := Kd.R_celln 0 HO_5.out (x50_3 : Int) p32 q32
                   replace p32 := eq_true p32
                   replace q32 := eq_true q32
                   obtain ⟨hy36_, hz36_⟩ := Kd.R_celln 0 HO_5.out (x50_3 : Int) (of_decide_eq_true (by assumption)) (of_decide_eq_true (by assumption))
                   have HP36 := Kd.R_putg HO_5.out (x50_3 : Int) (Int.tmod (rd y449 x50_3) 10)
                   try go_wp2_with (first | ((with_reducible refine gate_store (t := 3) (p := 75) rfl ?_); refine store_event (t := 3) (p := 75) (v := ?vo_w37) (w1 := (w35.setCell ⟨go31, (x50_3 : Int).toNat, none⟩ (.int .i64 (Int.tmod (rd y449 x50_3) 10)))) ?hg ?ho ?hn ?hr ?_; (case ho => rfl); (case hg => rfl); (case hn => rfl); (case hr => first | (go_simp; done) | (go_simp; rfl)); intro w37 hw; have hg : w35.grownBy w37 (some go31) := (by rw [hw]; exact HP36.2); have hp_ : Kd.R (Kd.int .i64) 3 w37 w.heap.size (fun _ => True) (.slice (some ⟨go31, 0, none⟩) x5_3.length co22) y451 := (by rw [hw, Ny451.out]; exact HP36.1); clear HP36; have n0_ := Aside0.mk (hp_); have n1_ := Aside0.mk ((by rw [hw]; exact below_set (HB.out) GB31.out : Below w.heap.size w w37)); clear HO_5; clear HB; have HO_5 := n0_; have HB := n1_; clear n0_ n1_; clear hg hw hp_))
                   (try simp only [← hl5_3])
                   go_roundg k3
                   case measure => have := HK1.out; have := HK2.out; have := HK3.out; omega
                   case rel => exact ⟨(y451), (ji28), (by first | rfl | (simp; done) | (simp only [← hji28] <;> (first | rfl | simp)) | (simp [*]; done)), H', ⟨by have := HK1.out; have := HK2.out; have := HK3.out; omega⟩, ⟨by (try simp only [hl5_3]); (with_reducible repeat (first | apply Kd.R_alloc | apply Kd.R_drewN | apply Kd.R_drew)); exact HO_5.out⟩, ⟨by repeat (first | exact HB.out | apply below_alloc | apply pw_below_drewN | apply below_drew1)⟩⟩
                  ·rw [if_neg c30] at H
                   exact absurd H (by simp)
                 ·rw [if_neg c29] at H
                  exact absurd H (by simp)
                ·rw [if_neg c27] at H
                 have c27b0 : decide (9 < (rd x5_3 x50_3)) = false := decide_eq_false c27
                 (try (have c27h0 := c27b0; simp only [hl5_3] at c27h0))
                 clear c27
                 have H' := Aside0.mk H
                 clear H
                 have p446 : 0 ≤ (x50_3 : Int) := of_decide_eq_true (by assumption)
                 have q446 : x50_3 < (x5_3.length : Int) := of_decide_eq_true (by assumption)
                 obtain ⟨ad446, e446, hx446_0⟩ := Kd.at_int (Kd.R_reads' HO_5.out).2.2 x50_3 p446 q446
                 cases e446
                 replace p446 := eq_true p446
                 replace q446 := eq_true q446
                 go_wp2
                 (try simp only [← hl5_3])
                 go_roundg k3
                 case measure => have := HK1.out; have := HK2.out; have := HK3.out; omega
                 case rel => exact ⟨(x5_3), (wrap64 (x50_3 + 1)), (by first | rfl | (simp; done) | (simp [*]; done)), H', ⟨by have := HK1.out; have := HK2.out; have := HK3.out; omega⟩, ⟨by (try simp only [hl5_3]); (with_reducible repeat (first | apply Kd.R_alloc | apply Kd.R_drewN | apply Kd.R_drew)); exact HO_5.out⟩, ⟨by repeat (first | exact HB.out | apply below_alloc | apply pw_below_drewN | apply below_drew1)⟩⟩
               ·rw [if_neg c26] at H
                exact absurd H (by simp)
              ·rw [if_neg c25] at H
               exact absurd H (by simp)
             ·rw [if_neg c24] at H
              have c24b0 : decide (x50_3 < (y442.length : Int)) = false := decide_eq_false c24
              (try (have c24h0 := c24b0; simp only [hl5_3] at c24h0))
              clear c24
              have H' := Aside0.mk H
              clear H
              go_wp2
              (try simp only [← hl5_3])
              go_roundg k3
              case measure => have := HK1.out; have := HK2.out; have := HK3.out; omega
              case rel => exact ⟨(x5_3), (wrap64 (x19_1 + 1)), (by first | rfl | (simp; done) | (simp [*]; done)), H', ⟨by have := HK1.out; have := HK2.out; have := HK3.out; omega⟩, ⟨by (try simp only [hl5_3]); (with_reducible repeat (first | apply Kd.R_alloc | apply Kd.R_drewN | apply Kd.R_drew)); exact HO_5.out⟩, ⟨by repeat (first | exact HB.out | apply below_alloc | apply pw_below_drewN | apply below_drew1)⟩⟩
          ·rw [if_neg c21] at H
           exact absurd H (by simp)
         ·rw [if_neg c20] at H
          exact absurd H (by simp)
     ·rw [if_neg c8] at H
      have c8b0 : decide (x19_1 < (a0.size : Int)) = false := decide_eq_false c8
      clear c8
      replace H := Option.bind_eq_some_iff.mp H
      obtain ⟨t437, A380, H⟩ := H
      replace H : (some t437) = some r := H
      have A38 := Aside0.mk A380
      clear A380
      obtain rfl := Option.some.inj H
      obtain ⟨Ao39, co39, eo39⟩ := Kd.R_slice HO_5.out
      subst eo39
      go_wp2_with (first | ((with_reducible refine gate_callee (f := 62) rfl ?_); refine goesL_ (some 79) rfl rfl Tryd.func62 (by kernel_rfl) rfl #[.slice Ao39 x5_1.length co39] rfl (by (try simp only [List.map_toArray, List.map_cons, List.map_nil]); first | done | rfl | (simp only [List.length_drop, List.length_take]; rfl)) ?_; (with_reducible refine (gamehallref2_text.calls k1 _ _ x5_1 t437 _ ?side1 ?side2 A38.out).mono ?_); (case side1 => repeat (first | exact (Kd.R_reads' HO_5.out).2.2 | (with_reducible refine Kd.C_alloc ?_ _) | (with_reducible refine Kd.C_drewN ?_ _) | (with_reducible refine Kd.C_drew ?_))); (case side2 => exact (Kd.R_reads' HO_5.out).2.1); rintro e w40 ⟨rfl, hb⟩; refine ⟨_, rfl, ?_⟩; have n0_ := Aside0.mk (Kd.R_below (by (with_reducible repeat (first | apply Kd.R_alloc | apply Kd.R_drewN | apply Kd.R_drew)); exact HO_5.out) hb); have n1_ := Aside0.mk (below_step (by repeat (first | exact HB.out | apply below_alloc | apply pw_below_drewN | apply below_drew1)) hb); clear HO_5; clear HB; have HO_5 := n0_; have HB := n1_; clear n0_ n1_; (try clear hb); (try clear hb2); (try clear hk); (try clear hi)))
      go_ret
      exact ⟨by first | rfl | (simp [errW_none, errW_some] <;> rfl) | (simp only [← hji3]; first | rfl | (simp [errW_none, errW_some] <;> rfl)) | (simp [*, errW_none, errW_some] <;> rfl), by repeat (first | exact HB.out | apply below_alloc | apply pw_below_drewN | apply below_drew1)⟩
  ·rw [if_neg c5] at H
   exact absurd H (by simp)
 ·rw [if_neg c4] at H
  exact absurd H (by simp)

end Go.Proofs.YtolikobhjmnedaaDoor.GN
