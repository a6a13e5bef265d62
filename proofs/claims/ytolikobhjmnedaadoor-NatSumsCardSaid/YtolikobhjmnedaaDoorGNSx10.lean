-- A text of this session's own: written by its program gprint
import Derived.Test.YtolikobhjmnedaaDoorGNSx0
import Derived.Test.YtolikobhjmnedaaDoorGNSx3
import Derived.Test.YtolikobhjmnedaaDoorGNSx4
import Derived.Test.YtolikobhjmnedaaDoorGNSx8
import Derived.Test.YtolikobhjmnedaaDoorGNSx9
-- shrunk
namespace Go.Proofs.YtolikobhjmnedaaDoor.GNS
open Go.RowKit Go.Proofs.YtolikobhjmnedaaDoorW.PrintWords Go.Proofs.YtolikobhjmnedaaDoorW.PrintLast Go.Proofs.YtolikobhjmnedaaDoorW.PrintMore
attribute [local go_sem] max2_int min2_int max_two min_two max_three min_three max_four min_four   -- for this text's walks alone
set_option linter.unusedVariables false
set_option linter.unusedSimpArgs false

/-! ### gamehalllaw2_NatSums: function 4 -/
def gamehalllaw2_NatSums.j0 : Nat → ByteArray → ByteArray → ByteArray → Int → Bool → Option (Bool)
 | 0, _, _, _, _, _ => none
 | k + 1, x0, x1, x7, x8, x64 => if x64 = true then (some false) else ((gamehallref2_NatCmp.f x0 x1).bind fun t425 => (if t425 < 0 then (if x8 = 4 then (some (x7.toList == ([] : List UInt8))) else (some false)) else (if x8 = 0 then ((gamehallref2_NatSub.f k x0 x1).bind fun t426 => (some (x7.toList == t426.toList))) else (some false))))
def gamehalllaw2_NatSums.f (k : Nat) (a0 : ByteArray) (a1 : ByteArray) : Option (Bool) := (gamehalllaw2_natFact.f k).bind fun t411 => (if t411 = true then ((nat_Add.f k a0 a1).bind fun bt412 => ((nat_Sub.f k a0 a1).bind fun bt414 => ((gamehallref2_NatError.f k a0).bind fun t416 => ((gamehallref2_NatError.f k a1).bind fun t417 => ((gamehalllaw2_first.f k (([t416, t417] : List Int))).bind fun t421 => (if t421 = 0 then ((gamehallref2_NatAdd.f k a0 a1).bind fun t422 => ((gamehalllaw2_natural.f t422).bind fun bt423 => (if bt412.2 = bt423.2 then (gamehalllaw2_NatSums.j0 k a0 a1 bt414.1 bt414.2 (bt412.1.toList != bt423.1.toList)) else (gamehalllaw2_NatSums.j0 k a0 a1 bt414.1 bt414.2 true)))) else (if bt412.2 = t421 then (if bt414.2 = t421 then (if bt412.1.toList = ([] : List UInt8) then (some (bt414.1.toList == ([] : List UInt8))) else (some false)) else (some false)) else (some false)))))))) else (some false))
theorem gamehalllaw2_NatSums.mono_l : ∀ k, (∀ y0 y1 y2 y3 y4, LeO (gamehalllaw2_NatSums.j0 k y0 y1 y2 y3 y4) (gamehalllaw2_NatSums.j0 (k + 1) y0 y1 y2 y3 y4))
 | 0 => fun _ _ _ _ _ r h => by simp [gamehalllaw2_NatSums.j0] at h
 | k + 1 => by
  have ih0 := gamehalllaw2_NatSums.mono_l k
  ·intro y0 y1 y2 y3 y4
   unfold gamehalllaw2_NatSums.j0
   repeat' first
   | (with_reducible exact ih0 _ _ _ _ _)
   | (with_reducible exact gamehalllaw2_first.mono _ _)
   | (with_reducible exact gamehalllaw2_natFact.mono _)
   | (with_reducible exact gamehallref2_NatAdd.mono _ _ _)
   | (with_reducible exact gamehallref2_NatError.mono _ _)
   | (with_reducible exact gamehallref2_NatSub.mono _ _ _)
   | (with_reducible exact nat_Add.mono _ _ _)
   | (with_reducible exact nat_Sub.mono _ _ _)
   | (with_reducible exact LeO.refl _)
   | (with_reducible exact LeO.none _)
   | (with_reducible refine LeO.ite ?_ ?_)
   | (with_reducible refine LeO.bind ?_ (fun _ => ?_))
   | exact ih0 _ _ _ _ _
   | exact gamehalllaw2_first.mono _ _
   | exact gamehalllaw2_natFact.mono _
   | exact gamehallref2_NatAdd.mono _ _ _
   | exact gamehallref2_NatError.mono _ _
   | exact gamehallref2_NatSub.mono _ _ _
   | exact nat_Add.mono _ _ _
   | exact nat_Sub.mono _ _ _
   | exact LeO.none _
   | refine LeO.ite ?_ ?_
   | refine LeO.bind ?_ (fun _ => ?_)
theorem gamehalllaw2_NatSums.mono : ∀ a0 a1 k, LeO (gamehalllaw2_NatSums.f k a0 a1) (gamehalllaw2_NatSums.f (k + 1) a0 a1) := by
 intro a0 a1 k
 have ih0 := gamehalllaw2_NatSums.mono_l k
 unfold gamehalllaw2_NatSums.f
 repeat' first
   | (with_reducible exact ih0 _ _ _ _ _)
   | (with_reducible exact gamehalllaw2_first.mono _ _)
   | (with_reducible exact gamehalllaw2_natFact.mono _)
   | (with_reducible exact gamehallref2_NatAdd.mono _ _ _)
   | (with_reducible exact gamehallref2_NatError.mono _ _)
   | (with_reducible exact gamehallref2_NatSub.mono _ _ _)
   | (with_reducible exact nat_Add.mono _ _ _)
   | (with_reducible exact nat_Sub.mono _ _ _)
   | (with_reducible exact LeO.refl _)
   | (with_reducible exact LeO.none _)
   | (with_reducible refine LeO.ite ?_ ?_)
   | (with_reducible refine LeO.bind ?_ (fun _ => ?_))
   | exact ih0 _ _ _ _ _
   | exact gamehalllaw2_first.mono _ _
   | exact gamehalllaw2_natFact.mono _
   | exact gamehallref2_NatAdd.mono _ _ _
   | exact gamehallref2_NatError.mono _ _
   | exact gamehallref2_NatSub.mono _ _ _
   | exact nat_Add.mono _ _ _
   | exact nat_Sub.mono _ _ _
   | exact LeO.none _
   | refine LeO.ite ?_ ?_
   | refine LeO.bind ?_ (fun _ => ?_)
set_option maxHeartbeats 8000000 in
set_option maxRecDepth 100000 in
theorem gamehalllaw2_NatSums.calls (k : Nat) (a0 : ByteArray) (a1 : ByteArray) (r : Bool) (w : World) (h : gamehalllaw2_NatSums.f k a0 a1 = some r) :
  Calls Tryd.prog 4 #[.string a0, .string a1] w fun e w' => e = .returned (.bool r) ∧ Below w.heap.size w w' := by
 have HB := Aside0.mk (Below.refl w.heap.size w)
 have H : ((gamehalllaw2_natFact.f k).bind fun t411 => (if t411 = true then ((nat_Add.f k a0 a1).bind fun bt412 => ((nat_Sub.f k a0 a1).bind fun bt414 => ((gamehallref2_NatError.f k a0).bind fun t416 => ((gamehallref2_NatError.f k a1).bind fun t417 => ((gamehalllaw2_first.f k (([t416, t417] : List Int))).bind fun t421 => (if t421 = 0 then ((gamehallref2_NatAdd.f k a0 a1).bind fun t422 => ((gamehalllaw2_natural.f t422).bind fun bt423 => (if bt412.2 = bt423.2 then (gamehalllaw2_NatSums.j0 k a0 a1 bt414.1 bt414.2 (bt412.1.toList != bt423.1.toList)) else (gamehalllaw2_NatSums.j0 k a0 a1 bt414.1 bt414.2 true)))) else (if bt412.2 = t421 then (if bt414.2 = t421 then (if bt412.1.toList = ([] : List UInt8) then (some (bt414.1.toList == ([] : List UInt8))) else (some false)) else (some false)) else (some false)))))))) else (some false))) = some r := h
 clear h
 replace H := Option.bind_eq_some_iff.mp H
 obtain ⟨t411, A30, H⟩ := H
 replace H : (if t411 = true then ((nat_Add.f k a0 a1).bind fun bt412 => ((nat_Sub.f k a0 a1).bind fun bt414 => ((gamehallref2_NatError.f k a0).bind fun t416 => ((gamehallref2_NatError.f k a1).bind fun t417 => ((gamehalllaw2_first.f k (([t416, t417] : List Int))).bind fun t421 => (if t421 = 0 then ((gamehallref2_NatAdd.f k a0 a1).bind fun t422 => ((gamehalllaw2_natural.f t422).bind fun bt423 => (if bt412.2 = bt423.2 then (gamehalllaw2_NatSums.j0 k a0 a1 bt414.1 bt414.2 (bt412.1.toList != bt423.1.toList)) else (gamehalllaw2_NatSums.j0 k a0 a1 bt414.1 bt414.2 true)))) else (if bt412.2 = t421 then (if bt414.2 = t421 then (if bt412.1.toList = ([] : List UInt8) then (some (bt414.1.toList == ([] : List UInt8))) else (some false)) else (some false)) else (some false)))))))) else (some false)) = some r := H
 have A3 := Aside0.mk A30
 clear A30
 by_cases c4 : t411 = true
 ·subst c4
  have H1 : ((nat_Add.f k a0 a1).bind fun bt412 => ((nat_Sub.f k a0 a1).bind fun bt414 => ((gamehallref2_NatError.f k a0).bind fun t416 => ((gamehallref2_NatError.f k a1).bind fun t417 => ((gamehalllaw2_first.f k (([t416, t417] : List Int))).bind fun t421 => (if t421 = 0 then ((gamehallref2_NatAdd.f k a0 a1).bind fun t422 => ((gamehalllaw2_natural.f t422).bind fun bt423 => (if bt412.2 = bt423.2 then (gamehalllaw2_NatSums.j0 k a0 a1 bt414.1 bt414.2 (bt412.1.toList != bt423.1.toList)) else (gamehalllaw2_NatSums.j0 k a0 a1 bt414.1 bt414.2 true)))) else (if bt412.2 = t421 then (if bt414.2 = t421 then (if bt412.1.toList = ([] : List UInt8) then (some (bt414.1.toList == ([] : List UInt8))) else (some false)) else (some false)) else (some false)))))))) = some r := by rw [if_pos rfl] at H; exact H
  clear H
  have H := H1
  clear H1
  replace H := Option.bind_eq_some_iff.mp H
  obtain ⟨⟨t412, t413⟩, A50, H⟩ := H
  replace H : ((nat_Sub.f k a0 a1).bind fun bt414 => ((gamehallref2_NatError.f k a0).bind fun t416 => ((gamehallref2_NatError.f k a1).bind fun t417 => ((gamehalllaw2_first.f k (([t416, t417] : List Int))).bind fun t421 => (if t421 = 0 then ((gamehallref2_NatAdd.f k a0 a1).bind fun t422 => ((gamehalllaw2_natural.f t422).bind fun bt423 => (if t413 = bt423.2 then (gamehalllaw2_NatSums.j0 k a0 a1 bt414.1 bt414.2 (t412.toList != bt423.1.toList)) else (gamehalllaw2_NatSums.j0 k a0 a1 bt414.1 bt414.2 true)))) else (if t413 = t421 then (if bt414.2 = t421 then (if t412.toList = ([] : List UInt8) then (some (bt414.1.toList == ([] : List UInt8))) else (some false)) else (some false)) else (some false))))))) = some r := H
  have A5 := Aside0.mk A50
  clear A50
  replace H := Option.bind_eq_some_iff.mp H
  obtain ⟨⟨t414, t415⟩, A60, H⟩ := H
  replace H : ((gamehallref2_NatError.f k a0).bind fun t416 => ((gamehallref2_NatError.f k a1).bind fun t417 => ((gamehalllaw2_first.f k (([t416, t417] : List Int))).bind fun t421 => (if t421 = 0 then ((gamehallref2_NatAdd.f k a0 a1).bind fun t422 => ((gamehalllaw2_natural.f t422).bind fun bt423 => (if t413 = bt423.2 then (gamehalllaw2_NatSums.j0 k a0 a1 t414 t415 (t412.toList != bt423.1.toList)) else (gamehalllaw2_NatSums.j0 k a0 a1 t414 t415 true)))) else (if t413 = t421 then (if t415 = t421 then (if t412.toList = ([] : List UInt8) then (some (t414.toList == ([] : List UInt8))) else (some false)) else (some false)) else (some false)))))) = some r := H
  have A6 := Aside0.mk A60
  clear A60
  replace H := Option.bind_eq_some_iff.mp H
  obtain ⟨t416, A70, H⟩ := H
  replace H : ((gamehallref2_NatError.f k a1).bind fun t417 => ((gamehalllaw2_first.f k (([t416, t417] : List Int))).bind fun t421 => (if t421 = 0 then ((gamehallref2_NatAdd.f k a0 a1).bind fun t422 => ((gamehalllaw2_natural.f t422).bind fun bt423 => (if t413 = bt423.2 then (gamehalllaw2_NatSums.j0 k a0 a1 t414 t415 (t412.toList != bt423.1.toList)) else (gamehalllaw2_NatSums.j0 k a0 a1 t414 t415 true)))) else (if t413 = t421 then (if t415 = t421 then (if t412.toList = ([] : List UInt8) then (some (t414.toList == ([] : List UInt8))) else (some false)) else (some false)) else (some false))))) = some r := H
  have A7 := Aside0.mk A70
  clear A70
  replace H := Option.bind_eq_some_iff.mp H
  obtain ⟨t417, A80, H⟩ := H
  replace H : ((gamehalllaw2_first.f k (([t416, t417] : List Int))).bind fun t421 => (if t421 = 0 then ((gamehallref2_NatAdd.f k a0 a1).bind fun t422 => ((gamehalllaw2_natural.f t422).bind fun bt423 => (if t413 = bt423.2 then (gamehalllaw2_NatSums.j0 k a0 a1 t414 t415 (t412.toList != bt423.1.toList)) else (gamehalllaw2_NatSums.j0 k a0 a1 t414 t415 true)))) else (if t413 = t421 then (if t415 = t421 then (if t412.toList = ([] : List UInt8) then (some (t414.toList == ([] : List UInt8))) else (some false)) else (some false)) else (some false)))) = some r := H
  have A8 := Aside0.mk A80
  clear A80
  obtain ⟨y418, hy418⟩ : ∃ y_ : List Int, y_ = (([t416, t417] : List Int)) := ⟨_, rfl⟩
  replace H : ((gamehalllaw2_first.f k y418).bind fun t421 => (if t421 = 0 then ((gamehallref2_NatAdd.f k a0 a1).bind fun t422 => ((gamehalllaw2_natural.f t422).bind fun bt423 => (if t413 = bt423.2 then (gamehalllaw2_NatSums.j0 k a0 a1 t414 t415 (t412.toList != bt423.1.toList)) else (gamehalllaw2_NatSums.j0 k a0 a1 t414 t415 true)))) else (if t413 = t421 then (if t415 = t421 then (if t412.toList = ([] : List UInt8) then (some (t414.toList == ([] : List UInt8))) else (some false)) else (some false)) else (some false)))) = some r := by first | (rw [hy418]; with_reducible exact H) | (have H2_ := (Option.bind_some _ _).symm.trans H; rw [hy418]; with_reducible exact H2_) | (have H2_ := (Option.bind_some _ _).symm.trans H; with_reducible exact H2_) | with_reducible exact H | (rw [hy418]; exact H) | exact H
  have Ny418 := Aside0.mk hy418
  clear hy418
  replace H := Option.bind_eq_some_iff.mp H
  obtain ⟨t421, A90, H⟩ := H
  replace H : (if t421 = 0 then ((gamehallref2_NatAdd.f k a0 a1).bind fun t422 => ((gamehalllaw2_natural.f t422).bind fun bt423 => (if t413 = bt423.2 then (gamehalllaw2_NatSums.j0 k a0 a1 t414 t415 (t412.toList != bt423.1.toList)) else (gamehalllaw2_NatSums.j0 k a0 a1 t414 t415 true)))) else (if t413 = t421 then (if t415 = t421 then (if t412.toList = ([] : List UInt8) then (some (t414.toList == ([] : List UInt8))) else (some false)) else (some false)) else (some false))) = some r := H
  have A9 := Aside0.mk A90
  clear A90
  by_cases c10 : t421 = 0
  ·rw [if_pos c10] at H
   have c10b0 : (t421 == 0) = true := beq_iff_eq.mpr c10
   have c10b1 : (t421 != 0) = false := bne_eq_false_iff_eq.mpr c10
   clear c10
   replace H := Option.bind_eq_some_iff.mp H
   obtain ⟨t422, A110, H⟩ := H
   replace H : ((gamehalllaw2_natural.f t422).bind fun bt423 => (if t413 = bt423.2 then (gamehalllaw2_NatSums.j0 k a0 a1 t414 t415 (t412.toList != bt423.1.toList)) else (gamehalllaw2_NatSums.j0 k a0 a1 t414 t415 true))) = some r := H
   have A11 := Aside0.mk A110
   clear A110
   replace H := Option.bind_eq_some_iff.mp H
   obtain ⟨⟨t423, t424⟩, A120, H⟩ := H
   replace H : (if t413 = t424 then (gamehalllaw2_NatSums.j0 k a0 a1 t414 t415 (t412.toList != t423.toList)) else (gamehalllaw2_NatSums.j0 k a0 a1 t414 t415 true)) = some r := H
   have A12 := Aside0.mk A120
   clear A120
   have HC13 := Aside0.mk H
   clear H
   go_enter Tryd.func4, Tryd.ntmps4
   go_upto_region 9 with (first | ((with_reducible refine gate_callee (f := 12) rfl ?_); refine goesL_ (some 12) rfl rfl Tryd.func12 (by kernel_rfl) rfl #[] rfl (by (try simp only [List.map_toArray, List.map_cons, List.map_nil]); first | done | rfl | (simp only [List.length_drop, List.length_take]; rfl)) ?_; (with_reducible refine (gamehalllaw2_natFact.calls k  true _ A3.out).mono ?_); rintro e w14 ⟨rfl, hb⟩; refine ⟨_, rfl, ?_⟩; have n0_ := Aside0.mk (below_step (by repeat (first | exact HB.out | apply below_alloc | apply pw_below_drewN | apply below_drew1)) hb); clear HB; have HB := n0_; clear n0_; (try clear hb); (try clear hb2); (try clear hk); (try clear hi)) | ((with_reducible refine gate_callee (f := 15) rfl ?_); refine goesL_ (some 17) rfl rfl Tryd.func15 (by kernel_rfl) rfl #[.string a0, .string a1] rfl (by (try simp only [List.map_toArray, List.map_cons, List.map_nil]); first | done | rfl | (simp only [List.length_drop, List.length_take]; rfl)) ?_; (with_reducible refine (nat_Add.calls k a0 a1 t412 t413 _ A5.out).mono ?_); rintro e w15 ⟨rfl, hb⟩; refine ⟨_, rfl, ?_⟩; have n0_ := Aside0.mk (below_step (by repeat (first | exact HB.out | apply below_alloc | apply pw_below_drewN | apply below_drew1)) hb); clear HB; have HB := n0_; clear n0_; (try clear hb); (try clear hb2); (try clear hk); (try clear hi)) | ((with_reducible refine gate_callee (f := 16) rfl ?_); refine goesL_ (some 23) rfl rfl Tryd.func16 (by kernel_rfl) rfl #[.string a0, .string a1] rfl (by (try simp only [List.map_toArray, List.map_cons, List.map_nil]); first | done | rfl | (simp only [List.length_drop, List.length_take]; rfl)) ?_; (with_reducible refine (nat_Sub.calls k a0 a1 t414 t415 _ A6.out).mono ?_); rintro e w16 ⟨rfl, hb⟩; refine ⟨_, rfl, ?_⟩; have n0_ := Aside0.mk (below_step (by repeat (first | exact HB.out | apply below_alloc | apply pw_below_drewN | apply below_drew1)) hb); clear HB; have HB := n0_; clear n0_; (try clear hb); (try clear hb2); (try clear hk); (try clear hi)) | ((with_reducible refine gate_callee (f := 14) rfl ?_); refine goesL_ (some 27) rfl rfl Tryd.func14 (by kernel_rfl) rfl #[.string a0] rfl (by (try simp only [List.map_toArray, List.map_cons, List.map_nil]); first | done | rfl | (simp only [List.length_drop, List.length_take]; rfl)) ?_; (with_reducible refine (gamehallref2_NatError.calls k a0 t416 _ A7.out).mono ?_); rintro e w' ⟨rfl, ⟨nd, rfl⟩⟩; refine ⟨_, rfl, ?_⟩) | ((with_reducible refine gate_callee (f := 14) rfl ?_); refine goesL_ (some 29) rfl rfl Tryd.func14 (by kernel_rfl) rfl #[.string a1] rfl (by (try simp only [List.map_toArray, List.map_cons, List.map_nil]); first | done | rfl | (simp only [List.length_drop, List.length_take]; rfl)) ?_; (with_reducible refine (gamehallref2_NatError.calls k a1 t417 _ A8.out).mono ?_); rintro e w' ⟨rfl, ⟨nd, rfl⟩⟩; refine ⟨_, rfl, ?_⟩) | ((with_reducible refine gate_dst (N := 30) rfl ?_); refine Kd.R_lit (Kd.int .i64) _ 23 ?hg (N := 30) ?hd (xs := ([t416, t417] : List Int)) (inner := [.int .i64 t416, .int .i64 t417]) (ok := fun _ => True) (okp := fun _ => True) ?hr ?hp (fun _ hk => hk) trivial (Below.refl _ _) (Nat.le_refl _) (by simp) ?_; (case hd => rfl); (case hg => rfl); (case hr => first | (go_simp; done) | (go_simp; rfl)); (case hp => exact (Reps.one (show Kd.M (Kd.int .i64) _ _ _ t416 [.int .i64 t416] from rfl) (Reps.one (show Kd.M (Kd.int .i64) _ _ _ t417 [.int .i64 t417] from rfl) (Reps.none _ _)))); intro v419 w17 ho18 hb hg_ hnew_; clear hg_ hnew_; (first | rw [← Ny418.out] at ho18 | (simp only [Int.reduceToNat] at ho18; rw [← Ny418.out] at ho18)); have n0_ := Aside0.mk (Kd.R_lower ho18 (below_size (by repeat (first | exact HB.out | apply below_alloc | apply pw_below_drewN | apply below_drew1)))); have n1_ := Aside0.mk (below_step (by repeat (first | exact HB.out | apply below_alloc | apply pw_below_drewN | apply below_drew1)) hb); clear HB; have HO420 := n0_; have HB := n1_; clear n0_ n1_; clear hb ho18; obtain ⟨Ao19, co19, eo19⟩ := Kd.R_slice HO420.out; subst eo19) | ((with_reducible refine gate_callee (f := 17) rfl ?_); refine goesL_ (some 31) rfl rfl Tryd.func17 (by kernel_rfl) rfl #[.slice Ao19 y418.length co19] rfl (by (try simp only [List.map_toArray, List.map_cons, List.map_nil]); first | done | rfl | (simp only [List.length_drop, List.length_take]; rfl)) ?_; (with_reducible refine (gamehalllaw2_first.calls k _ _ y418 t421 _ ?side1 ?side2 A9.out).mono ?_); (case side1 => repeat (first | exact (Kd.R_reads' HO420.out).2.2 | (with_reducible refine Kd.C_alloc ?_ _) | (with_reducible refine Kd.C_drewN ?_ _) | (with_reducible refine Kd.C_drew ?_))); (case side2 => exact (Kd.R_reads' HO420.out).2.1); rintro e w' ⟨rfl, ⟨nd, rfl⟩⟩; refine ⟨_, rfl, ?_⟩) | ((with_reducible refine gate_callee (f := 19) rfl ?_); refine goesL_ (some 53) rfl rfl Tryd.func19 (by kernel_rfl) rfl #[.string a0, .string a1] rfl (by (try simp only [List.map_toArray, List.map_cons, List.map_nil]); first | done | rfl | (simp only [List.length_drop, List.length_take]; rfl)) ?_; (with_reducible refine (gamehallref2_NatAdd.calls k a0 a1 t422 _ A11.out).mono ?_); rintro e w20 ⟨rfl, hb⟩; refine ⟨_, rfl, ?_⟩; have n0_ := Aside0.mk (Kd.R_below (by (with_reducible repeat (first | apply Kd.R_alloc | apply Kd.R_drewN | apply Kd.R_drew)); exact HO420.out) hb); have n1_ := Aside0.mk (below_step (by repeat (first | exact HB.out | apply below_alloc | apply pw_below_drewN | apply below_drew1)) hb); clear HO420; clear HB; have HO420 := n0_; have HB := n1_; clear n0_ n1_; (try clear hb); (try clear hb2); (try clear hk); (try clear hi)) | ((with_reducible refine gate_callee (f := 18) rfl ?_); refine goesL_ (some 54) rfl rfl Tryd.func18 (by kernel_rfl) rfl #[.string t422] rfl (by (try simp only [List.map_toArray, List.map_cons, List.map_nil]); first | done | rfl | (simp only [List.length_drop, List.length_take]; rfl)) ?_; (with_reducible refine (gamehalllaw2_natural.calls t422 t423 t424 _ A12.out).mono ?_); rintro e w' ⟨rfl, ⟨nd, rfl⟩⟩; refine ⟨_, rfl, ?_⟩))
   (try simp only [Act.put, List.setIfInBounds_toArray, List.set_cons_zero, List.set_cons_succ])
   go_cut [64] (fun v64 wc => ∃ (kq : Nat) (x64_12 : Bool), v64 = .bool x64_12 ∧ Aside0 (gamehalllaw2_NatSums.j0 kq a0 a1 t414 t415 x64_12 = some r) ∧ Aside0 (kq ≤ k) ∧ Aside0 (Below w.heap.size w wc))
   case first =>
    have H := HC13.out
    clear HC13
    by_cases c21 : t413 = t424
    ·rw [if_pos c21] at H
     have c21b0 : (t413 == t424) = true := beq_iff_eq.mpr c21
     have c21b1 : (t413 != t424) = false := bne_eq_false_iff_eq.mpr c21
     clear c21
     (first | rw [c21b0] | (simp only [i64_w, i32_w]; rw [c21b0]) | rw [c21b1] | skip)
     have H' := Aside0.mk H
     clear H
     go_wp2
     go_meet
     case rel => exact ⟨_, ((t412.toList != t423.toList)), (by first | rfl | (simp; done) | (simp [*]; done)), H', ⟨by first | omega | exact Nat.le_refl _⟩, ⟨by repeat (first | exact HB.out | apply below_alloc | apply pw_below_drewN | apply below_drew1)⟩⟩
    ·rw [if_neg c21] at H
     have c21b0 : (t413 == t424) = false := beq_eq_false_iff_ne.mpr c21
     have c21b1 : (t413 != t424) = true := bne_iff_ne.mpr c21
     (first | rw [c21b0] | (simp only [i64_w, i32_w]; rw [c21b0]) | rw [c21b1] | skip)
     have H' := Aside0.mk H
     clear H
     go_wp2
     go_meet
     case rel => exact ⟨_, (true), (by first | rfl | (simp; done) | (simp [*]; done)), H', ⟨by first | omega | exact Nat.le_refl _⟩, ⟨by repeat (first | exact HB.out | apply below_alloc | apply pw_below_drewN | apply below_drew1)⟩⟩
   case rest =>
    clear HC13
    try clear c1; try clear c2; try clear p2; try clear c4; try clear c10; try clear c10b0; try clear c10b1; try clear c12; try clear c14; try clear c15; try clear c16; try clear c17; try clear c18; try clear c19; try clear c21; try clear c21b0; try clear c21b1
    obtain ⟨kq, x64_12, rfl, HA, HJ12, HB⟩ := hcut
    cases kq with
    | zero => exact absurd HA.out (by simp [gamehalllaw2_NatSums.j0])
    | succ kj12 =>
     have H := HA.out
     clear HA
     simp only [gamehalllaw2_NatSums.j0] at H
     by_cases c22 : x64_12 = true
     ·subst c22
      have H1 : (some false) = some r := by rw [if_pos rfl] at H; exact H
      clear H
      have H := H1
      clear H1
      obtain rfl := Option.some.inj H
      go_wp2
      go_ret
      exact ⟨by first | rfl | (simp [errW_none, errW_some] <;> rfl) | (simp [*, errW_none, errW_some] <;> rfl), by repeat (first | exact HB.out | apply below_alloc | apply pw_below_drewN | apply below_drew1)⟩
     ·replace c22 := Bool.eq_false_iff.mpr c22
      subst c22
      have H1 : ((gamehallref2_NatCmp.f a0 a1).bind fun t425 => (if t425 < 0 then (if t415 = 4 then (some (t414.toList == ([] : List UInt8))) else (some false)) else (if t415 = 0 then ((gamehallref2_NatSub.f kj12 a0 a1).bind fun t426 => (some (t414.toList == t426.toList))) else (some false)))) = some r := by rw [if_neg (show ¬ (false = true) by decide)] at H; exact H
      clear H
      have H := H1
      clear H1
      replace H := Option.bind_eq_some_iff.mp H
      obtain ⟨t425, A230, H⟩ := H
      replace H : (if t425 < 0 then (if t415 = 4 then (some (t414.toList == ([] : List UInt8))) else (some false)) else (if t415 = 0 then ((gamehallref2_NatSub.f kj12 a0 a1).bind fun t426 => (some (t414.toList == t426.toList))) else (some false))) = some r := H
      have A23 := Aside0.mk A230
      clear A230
      by_cases c24 : t425 < 0
      ·rw [if_pos c24] at H
       have c24b0 : decide (t425 < 0) = true := decide_eq_true c24
       clear c24
       by_cases c25 : t415 = 4
       ·rw [if_pos c25] at H
        have c25b0 : (t415 == 4) = true := beq_iff_eq.mpr c25
        have c25b1 : (t415 != 4) = false := bne_eq_false_iff_eq.mpr c25
        clear c25
        obtain rfl := Option.some.inj H
        go_wp2_with (first | ((with_reducible refine gate_callee (f := 20) rfl ?_); refine goesL_ (some 67) rfl rfl Tryd.func20 (by kernel_rfl) rfl #[.string a0, .string a1] rfl (by (try simp only [List.map_toArray, List.map_cons, List.map_nil]); first | done | rfl | (simp only [List.length_drop, List.length_take]; rfl)) ?_; (with_reducible refine (gamehallref2_NatCmp.calls a0 a1 t425 _ A23.out).mono ?_); rintro e w' ⟨rfl, ⟨nd, rfl⟩⟩; refine ⟨_, rfl, ?_⟩))
        go_ret
        exact ⟨by first | rfl | (simp [errW_none, errW_some] <;> rfl) | (simp [*, errW_none, errW_some] <;> rfl), by repeat (first | exact HB.out | apply below_alloc | apply pw_below_drewN | apply below_drew1)⟩
       ·rw [if_neg c25] at H
        have c25b0 : (t415 == 4) = false := beq_eq_false_iff_ne.mpr c25
        have c25b1 : (t415 != 4) = true := bne_iff_ne.mpr c25
        obtain rfl := Option.some.inj H
        go_wp2_with (first | ((with_reducible refine gate_callee (f := 20) rfl ?_); refine goesL_ (some 67) rfl rfl Tryd.func20 (by kernel_rfl) rfl #[.string a0, .string a1] rfl (by (try simp only [List.map_toArray, List.map_cons, List.map_nil]); first | done | rfl | (simp only [List.length_drop, List.length_take]; rfl)) ?_; (with_reducible refine (gamehallref2_NatCmp.calls a0 a1 t425 _ A23.out).mono ?_); rintro e w' ⟨rfl, ⟨nd, rfl⟩⟩; refine ⟨_, rfl, ?_⟩))
        go_ret
        exact ⟨by first | rfl | (simp [errW_none, errW_some] <;> rfl) | (simp [*, errW_none, errW_some] <;> rfl), by repeat (first | exact HB.out | apply below_alloc | apply pw_below_drewN | apply below_drew1)⟩
      ·rw [if_neg c24] at H
       have c24b0 : decide (t425 < 0) = false := decide_eq_false c24
       clear c24
       by_cases c26 : t415 = 0
       ·rw [if_pos c26] at H
        have c26b0 : (t415 == 0) = true := beq_iff_eq.mpr c26
        have c26b1 : (t415 != 0) = false := bne_eq_false_iff_eq.mpr c26
        clear c26
        replace H := Option.bind_eq_some_iff.mp H
        obtain ⟨t426, A270, H⟩ := H
        replace H : (some (t414.toList == t426.toList)) = some r := H
        have A27 := Aside0.mk A270
        clear A270
        obtain rfl := Option.some.inj H
        go_wp2_with (first | ((with_reducible refine gate_callee (f := 20) rfl ?_); refine goesL_ (some 67) rfl rfl Tryd.func20 (by kernel_rfl) rfl #[.string a0, .string a1] rfl (by (try simp only [List.map_toArray, List.map_cons, List.map_nil]); first | done | rfl | (simp only [List.length_drop, List.length_take]; rfl)) ?_; (with_reducible refine (gamehallref2_NatCmp.calls a0 a1 t425 _ A23.out).mono ?_); rintro e w' ⟨rfl, ⟨nd, rfl⟩⟩; refine ⟨_, rfl, ?_⟩) | (go_at_call 21; (with_reducible refine (gamehallref2_NatSub.calls kj12 a0 a1 t426 _ A27.out).mono ?_); rintro e w28 ⟨rfl, hb⟩; have n0_ := Aside0.mk (below_step (by repeat (first | exact HB.out | apply below_alloc | apply pw_below_drewN | apply below_drew1)) hb); clear HB; have HB := n0_; clear n0_; (try clear hb); (try clear hb2); (try clear hk); (try clear hi)))
        go_ret
        exact ⟨by first | rfl | (simp [errW_none, errW_some] <;> rfl) | (simp [*, errW_none, errW_some] <;> rfl), by repeat (first | exact HB.out | apply below_alloc | apply pw_below_drewN | apply below_drew1)⟩
       ·rw [if_neg c26] at H
        have c26b0 : (t415 == 0) = false := beq_eq_false_iff_ne.mpr c26
        have c26b1 : (t415 != 0) = true := bne_iff_ne.mpr c26
        obtain rfl := Option.some.inj H
        go_wp2_with (first | ((with_reducible refine gate_callee (f := 20) rfl ?_); refine goesL_ (some 67) rfl rfl Tryd.func20 (by kernel_rfl) rfl #[.string a0, .string a1] rfl (by (try simp only [List.map_toArray, List.map_cons, List.map_nil]); first | done | rfl | (simp only [List.length_drop, List.length_take]; rfl)) ?_; (with_reducible refine (gamehallref2_NatCmp.calls a0 a1 t425 _ A23.out).mono ?_); rintro e w' ⟨rfl, ⟨nd, rfl⟩⟩; refine ⟨_, rfl, ?_⟩))
        go_ret
        exact ⟨by first | rfl | (simp [errW_none, errW_some] <;> rfl) | (simp [*, errW_none, errW_some] <;> rfl), by repeat (first | exact HB.out | apply below_alloc | apply pw_below_drewN | apply below_drew1)⟩
  ·rw [if_neg c10] at H
   have c10b0 : (t421 == 0) = false := beq_eq_false_iff_ne.mpr c10
   have c10b1 : (t421 != 0) = true := bne_iff_ne.mpr c10
   by_cases c29 : t413 = t421
   ·rw [if_pos c29] at H
    have c29b0 : (t413 == t421) = true := beq_iff_eq.mpr c29
    have c29b1 : (t413 != t421) = false := bne_eq_false_iff_eq.mpr c29
    clear c29
    by_cases c30 : t415 = t421
    ·rw [if_pos c30] at H
     have c30b0 : (t415 == t421) = true := beq_iff_eq.mpr c30
     have c30b1 : (t415 != t421) = false := bne_eq_false_iff_eq.mpr c30
     clear c30
     by_cases c31 : t412.toList = ([] : List UInt8)
     ·rw [if_pos c31] at H
      have c31b0 : (t412.toList == ([] : List UInt8)) = true := beq_iff_eq.mpr c31
      have c31b1 : (t412.toList != ([] : List UInt8)) = false := bne_eq_false_iff_eq.mpr c31
      clear c31
      obtain rfl := Option.some.inj H
      go_enter Tryd.func4, Tryd.ntmps4
      go_wp2_with (first | ((with_reducible refine gate_callee (f := 12) rfl ?_); refine goesL_ (some 12) rfl rfl Tryd.func12 (by kernel_rfl) rfl #[] rfl (by (try simp only [List.map_toArray, List.map_cons, List.map_nil]); first | done | rfl | (simp only [List.length_drop, List.length_take]; rfl)) ?_; (with_reducible refine (gamehalllaw2_natFact.calls k  true _ A3.out).mono ?_); rintro e w32 ⟨rfl, hb⟩; refine ⟨_, rfl, ?_⟩; have n0_ := Aside0.mk (below_step (by repeat (first | exact HB.out | apply below_alloc | apply pw_below_drewN | apply below_drew1)) hb); clear HB; have HB := n0_; clear n0_; (try clear hb); (try clear hb2); (try clear hk); (try clear hi)) | ((with_reducible refine gate_callee (f := 15) rfl ?_); refine goesL_ (some 17) rfl rfl Tryd.func15 (by kernel_rfl) rfl #[.string a0, .string a1] rfl (by (try simp only [List.map_toArray, List.map_cons, List.map_nil]); first | done | rfl | (simp only [List.length_drop, List.length_take]; rfl)) ?_; (with_reducible refine (nat_Add.calls k a0 a1 t412 t413 _ A5.out).mono ?_); rintro e w33 ⟨rfl, hb⟩; refine ⟨_, rfl, ?_⟩; have n0_ := Aside0.mk (below_step (by repeat (first | exact HB.out | apply below_alloc | apply pw_below_drewN | apply below_drew1)) hb); clear HB; have HB := n0_; clear n0_; (try clear hb); (try clear hb2); (try clear hk); (try clear hi)) | ((with_reducible refine gate_callee (f := 16) rfl ?_); refine goesL_ (some 23) rfl rfl Tryd.func16 (by kernel_rfl) rfl #[.string a0, .string a1] rfl (by (try simp only [List.map_toArray, List.map_cons, List.map_nil]); first | done | rfl | (simp only [List.length_drop, List.length_take]; rfl)) ?_; (with_reducible refine (nat_Sub.calls k a0 a1 t414 t415 _ A6.out).mono ?_); rintro e w34 ⟨rfl, hb⟩; refine ⟨_, rfl, ?_⟩; have n0_ := Aside0.mk (below_step (by repeat (first | exact HB.out | apply below_alloc | apply pw_below_drewN | apply below_drew1)) hb); clear HB; have HB := n0_; clear n0_; (try clear hb); (try clear hb2); (try clear hk); (try clear hi)) | ((with_reducible refine gate_callee (f := 14) rfl ?_); refine goesL_ (some 27) rfl rfl Tryd.func14 (by kernel_rfl) rfl #[.string a0] rfl (by (try simp only [List.map_toArray, List.map_cons, List.map_nil]); first | done | rfl | (simp only [List.length_drop, List.length_take]; rfl)) ?_; (with_reducible refine (gamehallref2_NatError.calls k a0 t416 _ A7.out).mono ?_); rintro e w' ⟨rfl, ⟨nd, rfl⟩⟩; refine ⟨_, rfl, ?_⟩) | ((with_reducible refine gate_callee (f := 14) rfl ?_); refine goesL_ (some 29) rfl rfl Tryd.func14 (by kernel_rfl) rfl #[.string a1] rfl (by (try simp only [List.map_toArray, List.map_cons, List.map_nil]); first | done | rfl | (simp only [List.length_drop, List.length_take]; rfl)) ?_; (with_reducible refine (gamehallref2_NatError.calls k a1 t417 _ A8.out).mono ?_); rintro e w' ⟨rfl, ⟨nd, rfl⟩⟩; refine ⟨_, rfl, ?_⟩) | ((with_reducible refine gate_dst (N := 30) rfl ?_); refine Kd.R_lit (Kd.int .i64) _ 23 ?hg (N := 30) ?hd (xs := ([t416, t417] : List Int)) (inner := [.int .i64 t416, .int .i64 t417]) (ok := fun _ => True) (okp := fun _ => True) ?hr ?hp (fun _ hk => hk) trivial (Below.refl _ _) (Nat.le_refl _) (by simp) ?_; (case hd => rfl); (case hg => rfl); (case hr => first | (go_simp; done) | (go_simp; rfl)); (case hp => exact (Reps.one (show Kd.M (Kd.int .i64) _ _ _ t416 [.int .i64 t416] from rfl) (Reps.one (show Kd.M (Kd.int .i64) _ _ _ t417 [.int .i64 t417] from rfl) (Reps.none _ _)))); intro v419 w35 ho36 hb hg_ hnew_; clear hg_ hnew_; (first | rw [← Ny418.out] at ho36 | (simp only [Int.reduceToNat] at ho36; rw [← Ny418.out] at ho36)); have n0_ := Aside0.mk (Kd.R_lower ho36 (below_size (by repeat (first | exact HB.out | apply below_alloc | apply pw_below_drewN | apply below_drew1)))); have n1_ := Aside0.mk (below_step (by repeat (first | exact HB.out | apply below_alloc | apply pw_below_drewN | apply below_drew1)) hb); clear HB; have HO420 := n0_; have HB := n1_; clear n0_ n1_; clear hb ho36; obtain ⟨Ao37, co37, eo37⟩ := Kd.R_slice HO420.out; subst eo37) | ((with_reducible refine gate_callee (f := 17) rfl ?_); refine goesL_ (some 31) rfl rfl Tryd.func17 (by kernel_rfl) rfl #[.slice Ao37 y418.length co37] rfl (by (try simp only [List.map_toArray, List.map_cons, List.map_nil]); first | done | rfl | (simp only [List.length_drop, List.length_take]; rfl)) ?_; (with_reducible refine (gamehalllaw2_first.calls k _ _ y418 t421 _ ?side1 ?side2 A9.out).mono ?_); (case side1 => repeat (first | exact (Kd.R_reads' HO420.out).2.2 | (with_reducible refine Kd.C_alloc ?_ _) | (with_reducible refine Kd.C_drewN ?_ _) | (with_reducible refine Kd.C_drew ?_))); (case side2 => exact (Kd.R_reads' HO420.out).2.1); rintro e w' ⟨rfl, ⟨nd, rfl⟩⟩; refine ⟨_, rfl, ?_⟩))
      go_ret
      exact ⟨by first | rfl | (simp [errW_none, errW_some] <;> rfl) | (simp [*, errW_none, errW_some] <;> rfl), by repeat (first | exact HB.out | apply below_alloc | apply pw_below_drewN | apply below_drew1)⟩
     ·rw [if_neg c31] at H
      have c31b0 : (t412.toList == ([] : List UInt8)) = false := beq_eq_false_iff_ne.mpr c31
      have c31b1 : (t412.toList != ([] : List UInt8)) = true := bne_iff_ne.mpr c31
      obtain rfl := Option.some.inj H
      go_enter Tryd.func4, Tryd.ntmps4
      go_wp2_with (first | ((with_reducible refine gate_callee (f := 12) rfl ?_); refine goesL_ (some 12) rfl rfl Tryd.func12 (by kernel_rfl) rfl #[] rfl (by (try simp only [List.map_toArray, List.map_cons, List.map_nil]); first | done | rfl | (simp only [List.length_drop, List.length_take]; rfl)) ?_; (with_reducible refine (gamehalllaw2_natFact.calls k  true _ A3.out).mono ?_); rintro e w38 ⟨rfl, hb⟩; refine ⟨_, rfl, ?_⟩; have n0_ := Aside0.mk (below_step (by repeat (first | exact HB.out | apply below_alloc | apply pw_below_drewN | apply below_drew1)) hb); clear HB; have HB := n0_; clear n0_; (try clear hb); (try clear hb2); (try clear hk); (try clear hi)) | ((with_reducible refine gate_callee (f := 15) rfl ?_); refine goesL_ (some 17) rfl rfl Tryd.func15 (by kernel_rfl) rfl #[.string a0, .string a1] rfl (by (try simp only [List.map_toArray, List.map_cons, List.map_nil]); first | done | rfl | (simp only [List.length_drop, List.length_take]; rfl)) ?_; (with_reducible refine (nat_Add.calls k a0 a1 t412 t413 _ A5.out).mono ?_); rintro e w39 ⟨rfl, hb⟩; refine ⟨_, rfl, ?_⟩; have n0_ := Aside0.mk (below_step (by repeat (first | exact HB.out | apply below_alloc | apply pw_below_drewN | apply below_drew1)) hb); clear HB; have HB := n0_; clear n0_; (try clear hb); (try clear hb2); (try clear hk); (try clear hi)) | ((with_reducible refine gate_callee (f := 16) rfl ?_); refine goesL_ (some 23) rfl rfl Tryd.func16 (by kernel_rfl) rfl #[.string a0, .string a1] rfl (by (try simp only [List.map_toArray, List.map_cons, List.map_nil]); first | done | rfl | (simp only [List.length_drop, List.length_take]; rfl)) ?_; (with_reducible refine (nat_Sub.calls k a0 a1 t414 t415 _ A6.out).mono ?_); rintro e w40 ⟨rfl, hb⟩; refine ⟨_, rfl, ?_⟩; have n0_ := Aside0.mk (below_step (by repeat (first | exact HB.out | apply below_alloc | apply pw_below_drewN | apply below_drew1)) hb); clear HB; have HB := n0_; clear n0_; (try clear hb); (try clear hb2); (try clear hk); (try clear hi)) | ((with_reducible refine gate_callee (f := 14) rfl ?_); refine goesL_ (some 27) rfl rfl Tryd.func14 (by kernel_rfl) rfl #[.string a0] rfl (by (try simp only [List.map_toArray, List.map_cons, List.map_nil]); first | done | rfl | (simp only [List.length_drop, List.length_take]; rfl)) ?_; (with_reducible refine (gamehallref2_NatError.calls k a0 t416 _ A7.out).mono ?_); rintro e w' ⟨rfl, ⟨nd, rfl⟩⟩; refine ⟨_, rfl, ?_⟩) | ((with_reducible refine gate_callee (f := 14) rfl ?_); refine goesL_ (some 29) rfl rfl Tryd.func14 (by kernel_rfl) rfl #[.string a1] rfl (by (try simp only [List.map_toArray, List.map_cons, List.map_nil]); first | done | rfl | (simp only [List.length_drop, List.length_take]; rfl)) ?_; (with_reducible refine (gamehallref2_NatError.calls k a1 t417 _ A8.out).mono ?_); rintro e w' ⟨rfl, ⟨nd, rfl⟩⟩; refine ⟨_, rfl, ?_⟩) | ((with_reducible refine gate_dst (N := 30) rfl ?_); refine Kd.R_lit (Kd.int .i64) _ 23 ?hg (N := 30) ?hd (xs := ([t416, t417] : List Int)) (inner := [.int .i64 t416, .int .i64 t417]) (ok := fun _ => True) (okp := fun _ => True) ?hr ?hp (fun _ hk => hk) trivial (Below.refl _ _) (Nat.le_refl _) (by simp) ?_; (case hd => rfl); (case hg => rfl); (case hr => first | (go_simp; done) | (go_simp; rfl)); (case hp => exact (Reps.one (show Kd.M (Kd.int .i64) _ _ _ t416 [.int .i64 t416] from rfl) (Reps.one (show Kd.M (Kd.int .i64) _ _ _ t417 [.int .i64 t417] from rfl) (Reps.none _ _)))); intro v419 w41 ho42 hb hg_ hnew_; clear hg_ hnew_; (first | rw [← Ny418.out] at ho42 | (simp only [Int.reduceToNat] at ho42; rw [← Ny418.out] at ho42)); have n0_ := Aside0.mk (Kd.R_lower ho42 (below_size (by repeat (first | exact HB.out | apply below_alloc | apply pw_below_drewN | apply below_drew1)))); have n1_ := Aside0.mk (below_step (by repeat (first | exact HB.out | apply below_alloc | apply pw_below_drewN | apply below_drew1)) hb); clear HB; have HO420 := n0_; have HB := n1_; clear n0_ n1_; clear hb ho42; obtain ⟨Ao43, co43, eo43⟩ := Kd.R_slice HO420.out; subst eo43) | ((with_reducible refine gate_callee (f := 17) rfl ?_); refine goesL_ (some 31) rfl rfl Tryd.func17 (by kernel_rfl) rfl #[.slice Ao43 y418.length co43] rfl (by (try simp only [List.map_toArray, List.map_cons, List.map_nil]); first | done | rfl | (simp only [List.length_drop, List.length_take]; rfl)) ?_; (with_reducible refine (gamehalllaw2_first.calls k _ _ y418 t421 _ ?side1 ?side2 A9.out).mono ?_); (case side1 => repeat (first | exact (Kd.R_reads' HO420.out).2.2 | (with_reducible refine Kd.C_alloc ?_ _) | (with_reducible refine Kd.C_drewN ?_ _) | (with_reducible refine Kd.C_drew ?_))); (case side2 => exact (Kd.R_reads' HO420.out).2.1); rintro e w' ⟨rfl, ⟨nd, rfl⟩⟩; refine ⟨_, rfl, ?_⟩))
      go_ret
      exact ⟨by first | rfl | (simp [errW_none, errW_some] <;> rfl) | (simp [*, errW_none, errW_some] <;> rfl), by repeat (first | exact HB.out | apply below_alloc | apply pw_below_drewN | apply below_drew1)⟩
    ·rw [if_neg c30] at H
     have c30b0 : (t415 == t421) = false := beq_eq_false_iff_ne.mpr c30
     have c30b1 : (t415 != t421) = true := bne_iff_ne.mpr c30
     obtain rfl := Option.some.inj H
     go_enter Tryd.func4, Tryd.ntmps4
     go_wp2_with (first | ((with_reducible refine gate_callee (f := 12) rfl ?_); refine goesL_ (some 12) rfl rfl Tryd.func12 (by kernel_rfl) rfl #[] rfl (by (try simp only [List.map_toArray, List.map_cons, List.map_nil]); first | done | rfl | (simp only [List.length_drop, List.length_take]; rfl)) ?_; (with_reducible refine (gamehalllaw2_natFact.calls k  true _ A3.out).mono ?_); rintro e w44 ⟨rfl, hb⟩; refine ⟨_, rfl, ?_⟩; have n0_ := Aside0.mk (below_step (by repeat (first | exact HB.out | apply below_alloc | apply pw_below_drewN | apply below_drew1)) hb); clear HB; have HB := n0_; clear n0_; (try clear hb); (try clear hb2); (try clear hk); (try clear hi)) | ((with_reducible refine gate_callee (f := 15) rfl ?_); refine goesL_ (some 17) rfl rfl Tryd.func15 (by kernel_rfl) rfl #[.string a0, .string a1] rfl (by (try simp only [List.map_toArray, List.map_cons, List.map_nil]); first | done | rfl | (simp only [List.length_drop, List.length_take]; rfl)) ?_; (with_reducible refine (nat_Add.calls k a0 a1 t412 t413 _ A5.out).mono ?_); rintro e w45 ⟨rfl, hb⟩; refine ⟨_, rfl, ?_⟩; have n0_ := Aside0.mk (below_step (by repeat (first | exact HB.out | apply below_alloc | apply pw_below_drewN | apply below_drew1)) hb); clear HB; have HB := n0_; clear n0_; (try clear hb); (try clear hb2); (try clear hk); (try clear hi)) | ((with_reducible refine gate_callee (f := 16) rfl ?_); refine goesL_ (some 23) rfl rfl Tryd.func16 (by kernel_rfl) rfl #[.string a0, .string a1] rfl (by (try simp only [List.map_toArray, List.map_cons, List.map_nil]); first | done | rfl | (simp only [List.length_drop, List.length_take]; rfl)) ?_; (with_reducible refine (nat_Sub.calls k a0 a1 t414 t415 _ A6.out).mono ?_); rintro e w46 ⟨rfl, hb⟩; refine ⟨_, rfl, ?_⟩; have n0_ := Aside0.mk (below_step (by repeat (first | exact HB.out | apply below_alloc | apply pw_below_drewN | apply below_drew1)) hb); clear HB; have HB := n0_; clear n0_; (try clear hb); (try clear hb2); (try clear hk); (try clear hi)) | ((with_reducible refine gate_callee (f := 14) rfl ?_); refine goesL_ (some 27) rfl rfl Tryd.func14 (by kernel_rfl) rfl #[.string a0] rfl (by (try simp only [List.map_toArray, List.map_cons, List.map_nil]); first | done | rfl | (simp only [List.length_drop, List.length_take]; rfl)) ?_; (with_reducible refine (gamehallref2_NatError.calls k a0 t416 _ A7.out).mono ?_); rintro e w' ⟨rfl, ⟨nd, rfl⟩⟩; refine ⟨_, rfl, ?_⟩) | ((with_reducible refine gate_callee (f := 14) rfl ?_); refine goesL_ (some 29) rfl rfl Tryd.func14 (by kernel_rfl) rfl #[.string a1] rfl (by (try simp only [List.map_toArray, List.map_cons, List.map_nil]); first | done | rfl | (simp only [List.length_drop, List.length_take]; rfl)) ?_; (with_reducible refine (gamehallref2_NatError.calls k a1 t417 _ A8.out).mono ?_); rintro e w' ⟨rfl, ⟨nd, rfl⟩⟩; refine ⟨_, rfl, ?_⟩) | ((with_reducible refine gate_dst (N := 30) rfl ?_); refine Kd.R_lit (Kd.int .i64) _ 23 ?hg (N := 30) ?hd (xs := ([t416, t417] : List Int)) (inner := [.int .i64 t416, .int .i64 t417]) (ok := fun _ => True) (okp := fun _ => True) ?hr ?hp (fun _ hk => hk) trivial (Below.refl _ _) (Nat.le_refl _) (by simp) ?_; (case hd => rfl); (case hg => rfl); (case hr => first | (go_simp; done) | (go_simp; rfl)); (case hp => exact (Reps.one (show Kd.M (Kd.int .i64) _ _ _ t416 [.int .i64 t416] from rfl) (Reps.one (show Kd.M (Kd.int .i64) _ _ _ t417 [.int .i64 t417] from rfl) (Reps.none _ _)))); intro v419 w47 ho48 hb hg_ hnew_; clear hg_ hnew_; (first | rw [← Ny418.out] at ho48 | (simp only [Int.reduceToNat] at ho48; rw [← Ny418.out] at ho48)); have n0_ := Aside0.mk (Kd.R_lower ho48 (below_size (by repeat (first | exact HB.out | apply below_alloc | apply pw_below_drewN | apply below_drew1)))); have n1_ := Aside0.mk (below_step (by repeat (first | exact HB.out | apply below_alloc | apply pw_below_drewN | apply below_drew1)) hb); clear HB; have HO420 := n0_; have HB := n1_; clear n0_ n1_; clear hb ho48; obtain ⟨Ao49, co49, eo49⟩ := Kd.R_slice HO420.out; subst eo49) | ((with_reducible refine gate_callee (f := 17) rfl ?_); refine goesL_ (some 31) rfl rfl Tryd.func17 (by kernel_rfl) rfl #[.slice Ao49 y418.length co49] rfl (by (try simp only [List.map_toArray, List.map_cons, List.map_nil]); first | done | rfl | (simp only [List.length_drop, List.length_take]; rfl)) ?_; (with_reducible refine (gamehalllaw2_first.calls k _ _ y418 t421 _ ?side1 ?side2 A9.out).mono ?_); (case side1 => repeat (first | exact (Kd.R_reads' HO420.out).2.2 | (with_reducible refine Kd.C_alloc ?_ _) | (with_reducible refine Kd.C_drewN ?_ _) | (with_reducible refine Kd.C_drew ?_))); (case side2 => exact (Kd.R_reads' HO420.out).2.1); rintro e w' ⟨rfl, ⟨nd, rfl⟩⟩; refine ⟨_, rfl, ?_⟩))
     go_ret
     exact ⟨by first | rfl | (simp [errW_none, errW_some] <;> rfl) | (simp [*, errW_none, errW_some] <;> rfl), by repeat (first | exact HB.out | apply below_alloc | apply pw_below_drewN | apply below_drew1)⟩
   ·rw [if_neg c29] at H
    have c29b0 : (t413 == t421) = false := beq_eq_false_iff_ne.mpr c29
    have c29b1 : (t413 != t421) = true := bne_iff_ne.mpr c29
    obtain rfl := Option.some.inj H
    go_enter Tryd.func4, Tryd.ntmps4
    go_wp2_with (first | ((with_reducible refine gate_callee (f := 12) rfl ?_); refine goesL_ (some 12) rfl rfl Tryd.func12 (by kernel_rfl) rfl #[] rfl (by (try simp only [List.map_toArray, List.map_cons, List.map_nil]); first | done | rfl | (simp only [List.length_drop, List.length_take]; rfl)) ?_; (with_reducible refine (gamehalllaw2_natFact.calls k  true _ A3.out).mono ?_); rintro e w50 ⟨rfl, hb⟩; refine ⟨_, rfl, ?_⟩; have n0_ := Aside0.mk (below_step (by repeat (first | exact HB.out | apply below_alloc | apply pw_below_drewN | apply below_drew1)) hb); clear HB; have HB := n0_; clear n0_; (try clear hb); (try clear hb2); (try clear hk); (try clear hi)) | ((with_reducible refine gate_callee (f := 15) rfl ?_); refine goesL_ (some 17) rfl rfl Tryd.func15 (by kernel_rfl) rfl #[.string a0, .string a1] rfl (by (try simp only [List.map_toArray, List.map_cons, List.map_nil]); first | done | rfl | (simp only [List.length_drop, List.length_take]; rfl)) ?_; (with_reducible refine (nat_Add.calls k a0 a1 t412 t413 _ A5.out).mono ?_); rintro e w51 ⟨rfl, hb⟩; refine ⟨_, rfl, ?_⟩; have n0_ := Aside0.mk (below_step (by repeat (first | exact HB.out | apply below_alloc | apply pw_below_drewN | apply below_drew1)) hb); clear HB; have HB := n0_; clear n0_; (try clear hb); (try clear hb2); (try clear hk); (try clear hi)) | ((with_reducible refine gate_callee (f := 16) rfl ?_); refine goesL_ (some 23) rfl rfl Tryd.func16 (by kernel_rfl) rfl #[.string a0, .string a1] rfl (by (try simp only [List.map_toArray, List.map_cons, List.map_nil]); first | done | rfl | (simp only [List.length_drop, List.length_take]; rfl)) ?_; (with_reducible refine (nat_Sub.calls k a0 a1 t414 t415 _ A6.out).mono ?_); rintro e w52 ⟨rfl, hb⟩; refine ⟨_, rfl, ?_⟩; have n0_ := Aside0.mk (below_step (by repeat (first | exact HB.out | apply below_alloc | apply pw_below_drewN | apply below_drew1)) hb); clear HB; have HB := n0_; clear n0_; (try clear hb); (try clear hb2); (try clear hk); (try clear hi)) | ((with_reducible refine gate_callee (f := 14) rfl ?_); refine goesL_ (some 27) rfl rfl Tryd.func14 (by kernel_rfl) rfl #[.string a0] rfl (by (try simp only [List.map_toArray, List.map_cons, List.map_nil]); first | done | rfl | (simp only [List.length_drop, List.length_take]; rfl)) ?_; (with_reducible refine (gamehallref2_NatError.calls k a0 t416 _ A7.out).mono ?_); rintro e w' ⟨rfl, ⟨nd, rfl⟩⟩; refine ⟨_, rfl, ?_⟩) | ((with_reducible refine gate_callee (f := 14) rfl ?_); refine goesL_ (some 29) rfl rfl Tryd.func14 (by kernel_rfl) rfl #[.string a1] rfl (by (try simp only [List.map_toArray, List.map_cons, List.map_nil]); first | done | rfl | (simp only [List.length_drop, List.length_take]; rfl)) ?_; (with_reducible refine (gamehallref2_NatError.calls k a1 t417 _ A8.out).mono ?_); rintro e w' ⟨rfl, ⟨nd, rfl⟩⟩; refine ⟨_, rfl, ?_⟩) | ((with_reducible refine gate_dst (N := 30) rfl ?_); refine Kd.R_lit (Kd.int .i64) _ 23 ?hg (N := 30) ?hd (xs := ([t416, t417] : List Int)) (inner := [.int .i64 t416, .int .i64 t417]) (ok := fun _ => True) (okp := fun _ => True) ?hr ?hp (fun _ hk => hk) trivial (Below.refl _ _) (Nat.le_refl _) (by simp) ?_; (case hd => rfl); (case hg => rfl); (case hr => first | (go_simp; done) | (go_simp; rfl)); (case hp => exact (Reps.one (show Kd.M (Kd.int .i64) _ _ _ t416 [.int .i64 t416] from rfl) (Reps.one (show Kd.M (Kd.int .i64) _ _ _ t417 [.int .i64 t417] from rfl) (Reps.none _ _)))); intro v419 w53 ho54 hb hg_ hnew_; clear hg_ hnew_; (first | rw [← Ny418.out] at ho54 | (simp only [Int.reduceToNat] at ho54; rw [← Ny418.out] at ho54)); have n0_ := Aside0.mk (Kd.R_lower ho54 (below_size (by repeat (first | exact HB.out | apply below_alloc | apply pw_below_drewN | apply below_drew1)))); have n1_ := Aside0.mk (below_step (by repeat (first | exact HB.out | apply below_alloc | apply pw_below_drewN | apply below_drew1)) hb); clear HB; have HO420 := n0_; have HB := n1_; clear n0_ n1_; clear hb ho54; obtain ⟨Ao55, co55, eo55⟩ := Kd.R_slice HO420.out; subst eo55) | ((with_reducible refine gate_callee (f := 17) rfl ?_); refine goesL_ (some 31) rfl rfl Tryd.func17 (by kernel_rfl) rfl #[.slice Ao55 y418.length co55] rfl (by (try simp only [List.map_toArray, List.map_cons, List.map_nil]); first | done | rfl | (simp only [List.length_drop, List.length_take]; rfl)) ?_; (with_reducible refine (gamehalllaw2_first.calls k _ _ y418 t421 _ ?side1 ?side2 A9.out).mono ?_); (case side1 => repeat (first | exact (Kd.R_reads' HO420.out).2.2 | (with_reducible refine Kd.C_alloc ?_ _) | (with_reducible refine Kd.C_drewN ?_ _) | (with_reducible refine Kd.C_drew ?_))); (case side2 => exact (Kd.R_reads' HO420.out).2.1); rintro e w' ⟨rfl, ⟨nd, rfl⟩⟩; refine ⟨_, rfl, ?_⟩))
    go_ret
    exact ⟨by first | rfl | (simp [errW_none, errW_some] <;> rfl) | (simp [*, errW_none, errW_some] <;> rfl), by repeat (first | exact HB.out | apply below_alloc | apply pw_below_drewN | apply below_drew1)⟩
 ·replace c4 := Bool.eq_false_iff.mpr c4
  subst c4
  have H1 : (some false) = some r := by rw [if_neg (show ¬ (false = true) by decide)] at H; exact H
  clear H
  have H := H1
  clear H1
  obtain rfl := Option.some.inj H
  go_enter Tryd.func4, Tryd.ntmps4
  go_wp2_with (first | ((with_reducible refine gate_callee (f := 12) rfl ?_); refine goesL_ (some 12) rfl rfl Tryd.func12 (by kernel_rfl) rfl #[] rfl (by (try simp only [List.map_toArray, List.map_cons, List.map_nil]); first | done | rfl | (simp only [List.length_drop, List.length_take]; rfl)) ?_; (with_reducible refine (gamehalllaw2_natFact.calls k  false _ A3.out).mono ?_); rintro e w56 ⟨rfl, hb⟩; refine ⟨_, rfl, ?_⟩; have n0_ := Aside0.mk (below_step (by repeat (first | exact HB.out | apply below_alloc | apply pw_below_drewN | apply below_drew1)) hb); clear HB; have HB := n0_; clear n0_; (try clear hb); (try clear hb2); (try clear hk); (try clear hi)))
  go_ret
  exact ⟨by first | rfl | (simp [errW_none, errW_some] <;> rfl) | (simp [*, errW_none, errW_some] <;> rfl), by repeat (first | exact HB.out | apply below_alloc | apply pw_below_drewN | apply below_drew1)⟩

/-- THE ONE PURE STATEMENT of gamehalllaw2_NatSums: yours. -/
def gamehalllaw2_NatSums.Pure : Prop := ∀ (a0 : ByteArray) (a1 : ByteArray), a0.size ≤ 140737488351232 → a1.size ≤ 140737488351232 → ∃ k, gamehalllaw2_NatSums.f k a0 a1 = some true
theorem gamehalllaw2_NatSums.walk (P : gamehalllaw2_NatSums.Pure) (a0 : ByteArray) (a1 : ByteArray) (w : World) (w0 : a0.size ≤ 140737488351232) (w1 : a1.size ≤ 140737488351232) :
  Calls Tryd.prog 4 #[.string a0, .string a1] w fun e w' => e = .returned (.bool true) ∧ Below w.heap.size w w' := by
 obtain ⟨k, h⟩ := P a0 a1 w0 w1
 refine (gamehalllaw2_NatSums.calls k a0 a1 true w h).mono ?_
 rintro e w' ⟨rfl, hd⟩
 exact ⟨rfl, hd⟩

end Go.Proofs.YtolikobhjmnedaaDoor.GNS
