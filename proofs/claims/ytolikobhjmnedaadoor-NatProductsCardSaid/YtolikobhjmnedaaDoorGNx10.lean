-- A text of this session's own: written by its program gprint
import Derived.Test.YtolikobhjmnedaaDoorGNx0
import Derived.Test.YtolikobhjmnedaaDoorGNx3
import Derived.Test.YtolikobhjmnedaaDoorGNx4
import Derived.Test.YtolikobhjmnedaaDoorGNx8
import Derived.Test.YtolikobhjmnedaaDoorGNx9
-- shrunk
namespace Go.Proofs.YtolikobhjmnedaaDoor.GN
open Go.RowKit Go.Proofs.YtolikobhjmnedaaDoorW.PrintWords Go.Proofs.YtolikobhjmnedaaDoorW.PrintLast Go.Proofs.YtolikobhjmnedaaDoorW.PrintMore
attribute [local go_sem] max2_int min2_int max_two min_two max_three min_three max_four min_four   -- for this text's walks alone
set_option linter.unusedVariables false
set_option linter.unusedSimpArgs false

/-! ### gamehalllaw2_long_1_by: function 70001000004 -/
def gamehalllaw2_long_1_by.f (a0 : ByteArray) (a1 : Int) : Option (Bool) := some (decide ((a0.size : Int) > a1))
set_option maxHeartbeats 8000000 in
set_option maxRecDepth 100000 in
theorem gamehalllaw2_long_1_by.calls (a0 : ByteArray) (B1 : Nat) (a1 : Int) (r : Bool) (w : World) (hq1 : w.cell? ⟨B1, 0, none⟩ = some (.int .i64 a1)) (h : gamehalllaw2_long_1_by.f a0 a1 = some r) :
  Calls Tryd.prog 64 #[.string a0, .pointer (some ⟨B1, 0, none⟩)] w fun e w' => e = .returned (.bool r) ∧ Drawn0 w w' := by
 have H : (some (decide ((a0.size : Int) > a1))) = some r := h
 clear h
 obtain rfl := Option.some.inj H
 go_enter Tryd.func64, Tryd.ntmps64
 go_wp2
 go_ret
 exact ⟨by first | rfl | (simp; done) | (simp [*]; done), by repeat (first | exact Drawn0.refl _ | apply Drawn0.step)⟩

/-! ### slices_IndexFunc_of_gamehalllaw2_long_1: function 70001000003 -/
def slices_IndexFunc_of_gamehalllaw2_long_1.l0 : Nat → List ByteArray → Int → Int → Int → Option (Int)
 | 0, _, _, _, _ => none
 | k + 1, x0, x7, x8, x910 => if x8 < x7 then (if 0 ≤ x8 then (if x8 < (x0.length : Int) then ((gamehalllaw2_long_1_by.f (rdOf ByteArray.empty x0 x8) x910).bind fun t430 => (if t430 = true then (some x8) else (slices_IndexFunc_of_gamehalllaw2_long_1.l0 k x0 x7 (wrap64 (x8 + 1)) x910))) else (none)) else (none)) else (some (-1))
def slices_IndexFunc_of_gamehalllaw2_long_1.f (k : Nat) (l0 : List ByteArray) (a1_0 : Int) : Option (Int) := slices_IndexFunc_of_gamehalllaw2_long_1.l0 k l0 (l0.length : Int) 0 a1_0
theorem slices_IndexFunc_of_gamehalllaw2_long_1.mono_l : ∀ k, (∀ y0 y1 y2 y3, LeO (slices_IndexFunc_of_gamehalllaw2_long_1.l0 k y0 y1 y2 y3) (slices_IndexFunc_of_gamehalllaw2_long_1.l0 (k + 1) y0 y1 y2 y3))
 | 0 => fun _ _ _ _ r h => by simp [slices_IndexFunc_of_gamehalllaw2_long_1.l0] at h
 | k + 1 => by
  have ih0 := slices_IndexFunc_of_gamehalllaw2_long_1.mono_l k
  ·intro y0 y1 y2 y3
   unfold slices_IndexFunc_of_gamehalllaw2_long_1.l0
   repeat' first
   | (with_reducible exact ih0 _ _ _ _)
   | (with_reducible exact LeO.refl _)
   | (with_reducible exact LeO.none _)
   | (with_reducible refine LeO.ite ?_ ?_)
   | (with_reducible refine LeO.bind ?_ (fun _ => ?_))
   | exact ih0 _ _ _ _
   | exact LeO.none _
   | refine LeO.ite ?_ ?_
   | refine LeO.bind ?_ (fun _ => ?_)
theorem slices_IndexFunc_of_gamehalllaw2_long_1.mono : ∀ a0 a1 k, LeO (slices_IndexFunc_of_gamehalllaw2_long_1.f k a0 a1) (slices_IndexFunc_of_gamehalllaw2_long_1.f (k + 1) a0 a1) := by
 intro a0 a1 k
 have ih0 := slices_IndexFunc_of_gamehalllaw2_long_1.mono_l k
 unfold slices_IndexFunc_of_gamehalllaw2_long_1.f
 repeat' first
   | (with_reducible exact ih0 _ _ _ _)
   | (with_reducible exact LeO.refl _)
   | (with_reducible exact LeO.none _)
   | (with_reducible refine LeO.ite ?_ ?_)
   | (with_reducible refine LeO.bind ?_ (fun _ => ?_))
   | exact ih0 _ _ _ _
   | exact LeO.none _
   | refine LeO.ite ?_ ?_
   | refine LeO.bind ?_ (fun _ => ?_)
set_option maxHeartbeats 8000000 in
set_option maxRecDepth 100000 in
theorem slices_IndexFunc_of_gamehalllaw2_long_1.calls (k : Nat) (A0 : Option Addr) (c0 : Nat) (l0 : List ByteArray) (B1_0 : Nat) (a1_0 : Int) (r : Int) (w : World) (hq1_0 : w.cell? ⟨B1_0, 0, none⟩ = some (.int .i64 a1_0)) (hr0 : Kd.C Kd.string w A0 l0.length l0) (hc0 : l0.length ≤ c0) (h : slices_IndexFunc_of_gamehalllaw2_long_1.f k l0 a1_0 = some r) :
  Calls Tryd.prog 99 #[.slice A0 l0.length c0, .func (.func 64) #[] #[.pointer (some ⟨B1_0, 0, none⟩)]] w fun e w' => e = .returned (.int .i64 r) ∧ Drawn0 w w' := by
 have HR0 := Aside0.mk hr0
 have HC0 := Aside0.mk hc0
 clear hr0 hc0
 have H : (slices_IndexFunc_of_gamehalllaw2_long_1.l0 k l0 (l0.length : Int) 0 a1_0) = some r := h
 clear h
 have H' := Aside0.mk H
 clear H
 go_enter Tryd.func99, Tryd.ntmps99
 go_wp2
 go_loopg [8] k (fun kq v8 w' => ∃ (x8_1 : Int), v8 = .int .i64 x8_1 ∧ Aside0 (slices_IndexFunc_of_gamehalllaw2_long_1.l0 kq l0 (l0.length : Int) x8_1 a1_0 = some r) ∧ Aside0 (kq ≤ k) ∧ Drawn0 w w')
 case atStart => exact ⟨(0), (by first | rfl | (simp; done) | (simp [*]; done)), H', ⟨Nat.le_refl _⟩, by repeat (first | exact Drawn0.refl _ | apply Drawn0.step)⟩
 case round =>
  clear H'
  try clear p2
  obtain ⟨x8_1, rfl, HA, HK1, ⟨m1, rfl⟩⟩ := hrel
  cases gk with
  | zero => exact absurd HA.out (by simp [slices_IndexFunc_of_gamehalllaw2_long_1.l0])
  | succ k1 =>
   have H := HA.out
   clear HA
   simp only [slices_IndexFunc_of_gamehalllaw2_long_1.l0] at H
   by_cases c3 : x8_1 < (l0.length : Int)
   ·rw [if_pos c3] at H
    have c3b0 : decide (x8_1 < (l0.length : Int)) = true := decide_eq_true c3
    clear c3
    by_cases c4 : 0 ≤ x8_1
    ·rw [if_pos c4] at H
     have c4b0 : decide (0 ≤ x8_1) = true := decide_eq_true c4
     clear c4
     by_cases c5 : x8_1 < (l0.length : Int)
     ·rw [if_pos c5] at H
      have c5b0 : decide (x8_1 < (l0.length : Int)) = true := decide_eq_true c5
      clear c5
      replace H := Option.bind_eq_some_iff.mp H
      obtain ⟨t430, A60, H⟩ := H
      replace H : (if t430 = true then (some x8_1) else (slices_IndexFunc_of_gamehalllaw2_long_1.l0 k1 l0 (l0.length : Int) (wrap64 (x8_1 + 1)) a1_0)) = some r := H
      have A6 := Aside0.mk A60
      clear A60
      by_cases c7 : t430 = true
      ·subst c7
       have H1 : (some x8_1) = some r := by rw [if_pos rfl] at H; exact H
       clear H
       have H := H1
       clear H1
       obtain rfl := Option.some.inj H
       have p429 : 0 ≤ (x8_1 : Int) := of_decide_eq_true (by assumption)
       have q429 : x8_1 < (l0.length : Int) := of_decide_eq_true (by assumption)
       obtain ⟨ad429, e429, hx429_0⟩ := Kd.at_string HR0.out x8_1 p429 q429
       cases e429
       replace p429 := eq_true p429
       replace q429 := eq_true q429
       go_wp2_with (first | (go_at_call 64; (with_reducible refine (gamehalllaw2_long_1_by.calls (rdOf ByteArray.empty l0 x8_1) B1_0 a1_0 true _ ?side1 A6.out).mono ?_); (case side1 => first | exact hq1_0 | simpa using hq1_0); rintro e w' ⟨rfl, ⟨nd, rfl⟩⟩))
       go_ret
       exact ⟨by first | rfl | (simp; done) | (simp [*]; done), by repeat (first | exact Drawn0.refl _ | apply Drawn0.step)⟩
      ·replace c7 := Bool.eq_false_iff.mpr c7
       subst c7
       have H1 : (slices_IndexFunc_of_gamehalllaw2_long_1.l0 k1 l0 (l0.length : Int) (wrap64 (x8_1 + 1)) a1_0) = some r := by rw [if_neg (show ¬ (false = true) by decide)] at H; exact H
       clear H
       have H := H1
       clear H1
       have H' := Aside0.mk H
       clear H
       have p429 : 0 ≤ (x8_1 : Int) := of_decide_eq_true (by assumption)
       have q429 : x8_1 < (l0.length : Int) := of_decide_eq_true (by assumption)
       obtain ⟨ad429, e429, hx429_0⟩ := Kd.at_string HR0.out x8_1 p429 q429
       cases e429
       replace p429 := eq_true p429
       replace q429 := eq_true q429
       go_wp2_with (first | (go_at_call 64; (with_reducible refine (gamehalllaw2_long_1_by.calls (rdOf ByteArray.empty l0 x8_1) B1_0 a1_0 false _ ?side1 A6.out).mono ?_); (case side1 => first | exact hq1_0 | simpa using hq1_0); rintro e w' ⟨rfl, ⟨nd, rfl⟩⟩))
       go_roundg k1
       case measure => have := HK1.out; omega
       case rel => exact ⟨(wrap64 (x8_1 + 1)), (by first | rfl | (simp; done) | (simp [*]; done)), H', ⟨by have := HK1.out; omega⟩, by repeat (first | exact Drawn0.refl _ | apply Drawn0.step)⟩
     ·rw [if_neg c5] at H
      exact absurd H (by simp)
    ·rw [if_neg c4] at H
     exact absurd H (by simp)
   ·rw [if_neg c3] at H
    have c3b0 : decide (x8_1 < (l0.length : Int)) = false := decide_eq_false c3
    clear c3
    obtain rfl := Option.some.inj H
    go_wp2
    go_ret
    exact ⟨by first | rfl | (simp; done) | (simp [*]; done), by repeat (first | exact Drawn0.refl _ | apply Drawn0.step)⟩

/-! ### slices_ContainsFunc_of_gamehalllaw2_long_1: function 70001000002 -/
def slices_ContainsFunc_of_gamehalllaw2_long_1.f (k : Nat) (l0 : List ByteArray) (a1_0 : Int) : Option (Bool) := (slices_IndexFunc_of_gamehalllaw2_long_1.f k l0 a1_0).bind fun t431 => (some (decide (t431 ≥ 0)))
theorem slices_ContainsFunc_of_gamehalllaw2_long_1.mono : ∀ a0 a1 k, LeO (slices_ContainsFunc_of_gamehalllaw2_long_1.f k a0 a1) (slices_ContainsFunc_of_gamehalllaw2_long_1.f (k + 1) a0 a1) := by
 intro a0 a1 k
 unfold slices_ContainsFunc_of_gamehalllaw2_long_1.f
 repeat' first
   | (with_reducible exact slices_IndexFunc_of_gamehalllaw2_long_1.mono _ _ _)
   | (with_reducible exact LeO.refl _)
   | (with_reducible exact LeO.none _)
   | (with_reducible refine LeO.ite ?_ ?_)
   | (with_reducible refine LeO.bind ?_ (fun _ => ?_))
   | exact slices_IndexFunc_of_gamehalllaw2_long_1.mono _ _ _
   | exact LeO.none _
   | refine LeO.ite ?_ ?_
   | refine LeO.bind ?_ (fun _ => ?_)
set_option maxHeartbeats 8000000 in
set_option maxRecDepth 100000 in
theorem slices_ContainsFunc_of_gamehalllaw2_long_1.calls (k : Nat) (A0 : Option Addr) (c0 : Nat) (l0 : List ByteArray) (B1_0 : Nat) (a1_0 : Int) (r : Bool) (w : World) (hq1_0 : w.cell? ⟨B1_0, 0, none⟩ = some (.int .i64 a1_0)) (hr0 : Kd.C Kd.string w A0 l0.length l0) (hc0 : l0.length ≤ c0) (h : slices_ContainsFunc_of_gamehalllaw2_long_1.f k l0 a1_0 = some r) :
  Calls Tryd.prog 63 #[.slice A0 l0.length c0, .func (.func 64) #[] #[.pointer (some ⟨B1_0, 0, none⟩)]] w fun e w' => e = .returned (.bool r) ∧ Drawn0 w w' := by
 have HR0 := Aside0.mk hr0
 have HC0 := Aside0.mk hc0
 clear hr0 hc0
 have H : ((slices_IndexFunc_of_gamehalllaw2_long_1.f k l0 a1_0).bind fun t431 => (some (decide (t431 ≥ 0)))) = some r := h
 clear h
 replace H := Option.bind_eq_some_iff.mp H
 obtain ⟨t431, A30, H⟩ := H
 replace H : (some (decide (t431 ≥ 0))) = some r := H
 have A3 := Aside0.mk A30
 clear A30
 obtain rfl := Option.some.inj H
 go_enter Tryd.func63, Tryd.ntmps63
 go_wp2_with (first | ((with_reducible refine gate_callee (f := 99) rfl ?_); refine goesL_ (some 7) rfl rfl Tryd.func99 (by kernel_rfl) rfl #[.slice A0 l0.length c0, .func (.func 64) #[] #[.pointer (some ⟨B1_0, 0, none⟩)]] rfl (by (try simp only [List.map_toArray, List.map_cons, List.map_nil]); first | done | rfl | (simp only [List.length_drop, List.length_take]; rfl)) ?_; (with_reducible refine (slices_IndexFunc_of_gamehalllaw2_long_1.calls k _ _ l0 B1_0 a1_0 t431 _ ?side1 ?side2 ?side3 A3.out).mono ?_); (case side1 => first | exact hq1_0 | simpa using hq1_0); (case side2 => repeat (first | exact HR0.out | (with_reducible refine Kd.C_alloc ?_ _) | (with_reducible refine Kd.C_drewN ?_ _) | (with_reducible refine Kd.C_drew ?_))); (case side3 => exact HC0.out); rintro e w' ⟨rfl, ⟨nd, rfl⟩⟩; refine ⟨_, rfl, ?_⟩))
 go_ret
 exact ⟨by first | rfl | (simp; done) | (simp [*]; done), by repeat (first | exact Drawn0.refl _ | apply Drawn0.step)⟩

/-! ### gamehalllaw2_long: function 22 -/
def gamehalllaw2_long.f (k : Nat) (a0 : Int) (l1 : List ByteArray) : Option (Bool) := (slices_ContainsFunc_of_gamehalllaw2_long_1.f k l1 a0).bind fun t433 => (some t433)
theorem gamehalllaw2_long.mono : ∀ a0 a1 k, LeO (gamehalllaw2_long.f k a0 a1) (gamehalllaw2_long.f (k + 1) a0 a1) := by
 intro a0 a1 k
 unfold gamehalllaw2_long.f
 repeat' first
   | (with_reducible exact slices_ContainsFunc_of_gamehalllaw2_long_1.mono _ _ _)
   | (with_reducible exact LeO.refl _)
   | (with_reducible exact LeO.none _)
   | (with_reducible refine LeO.ite ?_ ?_)
   | (with_reducible refine LeO.bind ?_ (fun _ => ?_))
   | exact slices_ContainsFunc_of_gamehalllaw2_long_1.mono _ _ _
   | exact LeO.none _
   | refine LeO.ite ?_ ?_
   | refine LeO.bind ?_ (fun _ => ?_)
set_option maxHeartbeats 8000000 in
set_option maxRecDepth 100000 in
theorem gamehalllaw2_long.calls (k : Nat) (a0 : Int) (A1 : Option Addr) (c1 : Nat) (l1 : List ByteArray) (r : Bool) (w : World) (hr1 : Kd.C Kd.string w A1 l1.length l1) (hc1 : l1.length ≤ c1) (h : gamehalllaw2_long.f k a0 l1 = some r) :
  Calls Tryd.prog 22 #[.int .i64 a0, .slice A1 l1.length c1] w fun e w' => e = .returned (.bool r) ∧ Below w.heap.size w w' := by
 have HR1 := Aside0.mk hr1
 have HC1 := Aside0.mk hc1
 clear hr1 hc1
 have HB := Aside0.mk (Below.refl w.heap.size w)
 have H : ((slices_ContainsFunc_of_gamehalllaw2_long_1.f k l1 a0).bind fun t433 => (some t433)) = some r := h
 clear h
 replace H := Option.bind_eq_some_iff.mp H
 obtain ⟨t433, A30, H⟩ := H
 replace H : (some t433) = some r := H
 have A3 := Aside0.mk A30
 clear A30
 obtain rfl := Option.some.inj H
 go_enter Tryd.func22, Tryd.ntmps22
 go_wp2_with (first | ((with_reducible refine gate_dst (N := 2) rfl ?_); refine box_event ?hg (N := 2) ?hd (cs := #[.int .i64 a0]) (t := 3) ?hr ?_; (case hd => rfl); (case hg => rfl); (case hr => first | (go_simp; done) | (go_simp; rfl)); intro gb432 hg w4 hbox hb; have n0_ := Aside0.mk (below_step (by repeat (first | exact HB.out | apply below_alloc | apply pw_below_drewN | apply below_drew1)) hb); have n1_ := Aside0.mk (hbox); have n2_ := Aside0.mk ((by rw [hg]; exact (below_size (by repeat (first | exact HB.out | apply below_alloc | apply pw_below_drewN | apply below_drew1))) : w.heap.size ≤ gb432)); have n3_ := Aside0.mk ((by rw [hg]; exact (below_size (by repeat (first | exact HB.out | apply below_alloc | apply pw_below_drewN | apply below_drew1))) : w.heap.size ≤ gb432)); clear HB; have HB := n0_; have BK432 := n1_; have GW432 := n2_; have GE432 := n3_; clear n0_ n1_ n2_ n3_; clear hb hbox hg) | ((with_reducible refine gate_callee (f := 63) rfl ?_); refine goesL_ (some 7) rfl rfl Tryd.func63 (by kernel_rfl) rfl #[.slice A1 l1.length c1, .func (.func 64) #[] #[.pointer (some ⟨gb432, 0, none⟩)]] rfl (by (try simp only [List.map_toArray, List.map_cons, List.map_nil]); first | done | rfl | (simp only [List.length_drop, List.length_take]; rfl)) ?_; (with_reducible refine (slices_ContainsFunc_of_gamehalllaw2_long_1.calls k _ _ l1 gb432 a0 t433 _ ?side1 ?side2 ?side3 A3.out).mono ?_); (case side1 => refine (blk_cell (cs := #[.int .i64 a0]) (t := 3) ?_ 0).trans rfl; (with_reducible repeat (first | refine blk_drewN ?_ _ | refine blk_drew ?_ | refine blk_alloc ?_ _)); exact BK432.out); (case side2 => repeat (first | exact (Kd.C_below HR1.out HB.out) | (with_reducible refine Kd.C_alloc ?_ _) | (with_reducible refine Kd.C_drewN ?_ _) | (with_reducible refine Kd.C_drew ?_))); (case side3 => exact HC1.out); rintro e w' ⟨rfl, ⟨nd, rfl⟩⟩; refine ⟨_, rfl, ?_⟩))
 go_ret
 exact ⟨by first | rfl | (simp [errW_none, errW_some] <;> rfl) | (simp [*, errW_none, errW_some] <;> rfl), by repeat (first | (with_reducible first | exact HB.out | apply below_alloc | apply pw_below_drewN | apply below_drew1 | refine below_set ?_ GE432.out) | exact HB.out)⟩

end Go.Proofs.YtolikobhjmnedaaDoor.GN
