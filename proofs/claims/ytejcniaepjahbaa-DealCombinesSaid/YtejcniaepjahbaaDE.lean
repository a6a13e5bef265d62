/- The equations of the functions of the package deal (printed). -/
import Derived.Test.YtejcniaepjahbaaDC0
namespace Go.Proofs.Ytejcniaepjahbaa.Mach
open Go Go.Proofs.Ytejcniaepjahbaa.Deal
set_option linter.unusedVariables false
def fits_live : List (Nat × List Nat) := [(4, [0, 13, 14, 15])]
noncomputable def fits_s4_0 (n : Int) (l : List Int) (x0 : Int) (x1 : Int) : St := stOf 31
  [(0, AV.int IntKind.i64 n), (13, AV.imm (ETy.one (CTy.int IntKind.i64)) l), (14, AV.int IntKind.i64 x0),
    (15, AV.int IntKind.i64 x1)]
  []
set_option maxRecDepth 1000000 in
theorem fits_E (n : Int) (l : List Int) (n0 : Nat) (K : AV → List HObj → Prop) :
    execN tab (mixK tab con0 [] 400) (maskK fits_live (GoodL Try.prog n0 59 K)) (finK tab (fnT Try.f59).res K) 400 [.code (fnT Try.f59).body] ⟨initEnv (fnT Try.f59).n [AV.int IntKind.i64 n, AV.imm (ETy.one (CTy.int IntKind.i64)) l], []⟩ =
    (bif !decide ((↑l.length : Int) = if IntKind.i64.wrap (n - 1) > 0 then IntKind.i64.wrap (n - 1) else 0) then
  K (AV.int IntKind.i64 3) []
else GoodL Try.prog n0 59 K (headAt (fnT Try.f59) 4) (fits_s4_0 n l (↑l.length : Int) 0)) := by kernel_rfl
set_option maxRecDepth 1000000 in
theorem fits_s4_0_E (n : Int) (l : List Int) (x0 : Int) (x1 : Int) (n0 : Nat) (K : AV → List HObj → Prop) :
    execN tab (mixK tab con0 [] 400) (maskK fits_live (GoodL Try.prog n0 59 K)) (finK tab (fnT Try.f59).res K) 400 (roundAt (fnT Try.f59) 4) (fits_s4_0 n l x0 x1) =
    (bif decide (x1 < x0) then
  bif decide (0 ≤ x1) && decide (x1 < (↑l.length : Int)) then
    bif decide (l.getD x1.toNat 0 < 0) then K (AV.int IntKind.i64 4) []
    else
      bif bif false then true else decide (l.getD x1.toNat 0 > IntKind.i64.wrap (IntKind.i64.wrap (n - 1) - x1)) then
        K (AV.int IntKind.i64 4) []
      else GoodL Try.prog n0 59 K (headAt (fnT Try.f59) 4) (fits_s4_0 n l x0 (IntKind.i64.wrap (x1 + 1)))
  else False
else K (AV.int IntKind.i64 0) []) := by kernel_rfl
def inr_live : List (Nat × List Nat) := []
set_option maxRecDepth 1000000 in
theorem inr_E (a : Int) (b : Int) (c : Int) (n0 : Nat) (K : AV → List HObj → Prop) :
    execN tab (mixK tab con0 [] 400) (maskK inr_live (GoodL Try.prog n0 50 K)) (finK tab (fnT Try.f50).res K) 400 [.code (fnT Try.f50).body] ⟨initEnv (fnT Try.f50).n [AV.int IntKind.i64 a, AV.int IntKind.i64 b, AV.int IntKind.i64 c], []⟩ =
    (bif decide (a ≥ b) then K (AV.bool (bif true then decide (a ≤ c) else false)) [] else K (AV.bool false) []) := by kernel_rfl
def drawe_live : List (Nat × List Nat) := [(4, [0, 25, 26, 27])]
noncomputable def drawe_s4_0 (n : Int) (l : List Int) (x0 : Int) (x1 : Int) : St := stOf 40
  [(0, AV.int IntKind.i64 n), (25, AV.imm (ETy.one (CTy.int IntKind.i64)) l), (26, AV.int IntKind.i64 x0),
    (27, AV.int IntKind.i64 x1)]
  []
set_option maxRecDepth 1000000 in
theorem drawe_E (n : Int) (l : List Int) (n0 : Nat) (K : AV → List HObj → Prop) :
    execN tab (mixK tab con1 [] 400) (maskK drawe_live (GoodL Try.prog n0 28 K)) (finK tab (fnT Try.f28).res K) 400 [.code (fnT Try.f28).body] ⟨initEnv (fnT Try.f28).n [AV.int IntKind.i64 n, AV.imm (ETy.one (CTy.int IntKind.i64)) l], []⟩ =
    (bif decide (n > 1) then
  bif bif true then !decide ((↑l.length : Int) = IntKind.i64.wrap (n - 1)) else false then K (AV.int IntKind.i64 3) []
  else
    bif decide (n ≤ 1) then
      bif bif false then true else bif true then !decide ((↑l.length : Int) = 0) else false then
        K (AV.int IntKind.i64 3) []
      else GoodL Try.prog n0 28 K (headAt (fnT Try.f28) 4) (drawe_s4_0 n l (↑l.length : Int) 0)
    else GoodL Try.prog n0 28 K (headAt (fnT Try.f28) 4) (drawe_s4_0 n l (↑l.length : Int) 0)
else
  bif decide (n ≤ 1) then
    bif bif false then true else bif true then !decide ((↑l.length : Int) = 0) else false then
      K (AV.int IntKind.i64 3) []
    else GoodL Try.prog n0 28 K (headAt (fnT Try.f28) 4) (drawe_s4_0 n l (↑l.length : Int) 0)
  else GoodL Try.prog n0 28 K (headAt (fnT Try.f28) 4) (drawe_s4_0 n l (↑l.length : Int) 0)) := by kernel_rfl
set_option maxRecDepth 1000000 in
theorem drawe_s4_0_E (n : Int) (l : List Int) (x0 : Int) (x1 : Int) (n0 : Nat) (K : AV → List HObj → Prop) :
    execN tab (mixK tab con1 [] 400) (maskK drawe_live (GoodL Try.prog n0 28 K)) (finK tab (fnT Try.f28).res K) 400 (roundAt (fnT Try.f28) 4) (drawe_s4_0 n l x0 x1) =
    (bif decide (x1 < x0) then
  bif decide (0 ≤ x1) && decide (x1 < (↑l.length : Int)) then
    bif
        !(decide (l.getD x1.toNat 0 ≥ 0) &&
            decide (l.getD x1.toNat 0 ≤ IntKind.i64.wrap (IntKind.i64.wrap (n - x1) - 1))) then
      K (AV.int IntKind.i64 4) []
    else GoodL Try.prog n0 28 K (headAt (fnT Try.f28) 4) (drawe_s4_0 n l x0 (IntKind.i64.wrap (x1 + 1)))
  else False
else K (AV.int IntKind.i64 0) []) := by kernel_rfl
def sealof_live : List (Nat × List Nat) := [(3, [5, 15, 16, 17]), (7, [5, 8, 15, 16, 17, 23])]
noncomputable def sealof_s3_0 (l : List Int) (s : Int) (x0 : Int) (x1 : Int) (x2 : Int) (x3 : List Int) : St := stOf 40 [(5, AV.int IntKind.u64 x0), (15, AV.own 0), (16, AV.int IntKind.i64 x1), (17, AV.int IntKind.i64 x2)]
  [HObj.typed (ETy.one (CTy.int IntKind.i64)) x3 false]
noncomputable def sealof_s7_0 (l : List Int) (s : Int) (x0 : Int) (x1 : Int) (x2 : Int) (x3 : Int) (x4 : Int) (x5 : List Int) : St := stOf 40
  [(5, AV.int IntKind.u64 x0), (8, AV.int IntKind.u64 x1), (15, AV.own 0), (16, AV.int IntKind.i64 x2),
    (17, AV.int IntKind.i64 x3), (23, AV.int IntKind.i64 x4)]
  [HObj.typed (ETy.one (CTy.int IntKind.i64)) x5 false]
set_option maxRecDepth 1000000 in
theorem sealof_E (l : List Int) (s : Int) (n0 : Nat) (K : AV → List HObj → Prop) :
    execN tab (mixK tab con0 [58] 400) (maskK sealof_live (GoodL Try.prog n0 26 K)) (finK tab (fnT Try.f26).res K) 400 [.code (fnT Try.f26).body] ⟨initEnv (fnT Try.f26).n [AV.imm (ETy.one (CTy.int IntKind.i64)) l, AV.int IntKind.i64 s], []⟩ =
    (bif
    bif ([s, (↑l.length : Int)].length + l.length).ble 9223372036854775807 then
      (([s, (↑l.length : Int)].length + l.length) * 8).ble 140737488355328
    else false then
  GoodL Try.prog n0 26 K (headAt (fnT Try.f26) 3)
    (sealof_s3_0 l s 14695981039346656037 (↑([s, (↑l.length : Int)] ++ l).length : Int) 0 ([s, (↑l.length : Int)] ++ l))
else False) := by kernel_rfl
set_option maxRecDepth 1000000 in
theorem sealof_s3_0_E (l : List Int) (s : Int) (x0 : Int) (x1 : Int) (x2 : Int) (x3 : List Int) (n0 : Nat) (K : AV → List HObj → Prop) :
    execN tab (mixK tab con0 [58] 400) (maskK sealof_live (GoodL Try.prog n0 26 K)) (finK tab (fnT Try.f26).res K) 400 (roundAt (fnT Try.f26) 3) (sealof_s3_0 l s x0 x1 x2 x3) =
    (bif decide (x2 < x1) then
  bif decide (0 ≤ x2) && decide (x2 < (↑x3.length : Int)) then
    GoodL Try.prog n0 26 K (headAt (fnT Try.f26) 7)
      (sealof_s7_0 l s x0 (IntKind.u64.wrap (x3.getD x2.toNat 0)) x1 x2 0 x3)
  else False
else K (AV.int IntKind.u64 x0) [HObj.typed (ETy.one (CTy.int IntKind.i64)) x3 false]) := by kernel_rfl
set_option maxRecDepth 1000000 in
theorem sealof_s7_0_E (l : List Int) (s : Int) (x0 : Int) (x1 : Int) (x2 : Int) (x3 : Int) (x4 : Int) (x5 : List Int) (n0 : Nat) (K : AV → List HObj → Prop) :
    execN tab (mixK tab con0 [58] 400) (maskK sealof_live (GoodL Try.prog n0 26 K)) (finK tab (fnT Try.f26).res K) 400 (roundAt (fnT Try.f26) 7) (sealof_s7_0 l s x0 x1 x2 x3 x4 x5) =
    (bif decide (x4 < 8) then
  bif decide (0 ≤ IntKind.i64.wrap (8 * x4)) then
    GoodL Try.prog n0 26 K (headAt (fnT Try.f26) 7)
      (sealof_s7_0 l s
        (IntKind.u64.wrap
          (IntKind.u64.wrap
              (↑(BitVec.ofInt 64 x0 ^^^
                      BitVec.ofInt 64
                        (IntKind.u64.wrap
                          (↑(BitVec.ofInt 64 (x1.fdiv (2 ^ min (IntKind.i64.wrap (8 * x4)).toNat 64)) &&&
                                  BitVec.ofInt 64 255).toNat :
                            Int))).toNat :
                Int) *
            1099511628211))
        x1 x2 x3 (IntKind.i64.wrap (x4 + 1)) x5)
  else False
else GoodL Try.prog n0 26 K (headAt (fnT Try.f26) 3) (sealof_s3_0 l s x0 x2 (IntKind.i64.wrap (x3 + 1)) x5)) := by kernel_rfl
def comb_live : List (Nat × List Nat) := [(6, [0, 1, 23, 24, 25]), (14, [0, 1, 9, 38, 39]), (18, [0, 1, 9, 10, 11, 38, 39, 42, 43, 44])]
noncomputable def comb_s6_0 (n : Int) (l : List (List Int)) (x0 : Int) (x1 : Int) : St := stOf 65
  [(0, AV.int IntKind.i64 n), (1, AV.imm (ETy.one (CTy.slice (ETy.one (CTy.int IntKind.i64)))) l),
    (23, AV.imm (ETy.one (CTy.slice (ETy.one (CTy.int IntKind.i64)))) l), (24, AV.int IntKind.i64 x0),
    (25, AV.int IntKind.i64 x1)]
  []
noncomputable def comb_s14_0 (n : Int) (l : List (List Int)) (x0 : Int) (x1 : Int) : St := stOf 65
  [(0, AV.int IntKind.i64 n), (1, AV.imm (ETy.one (CTy.slice (ETy.one (CTy.int IntKind.i64)))) l), (9, AV.nils),
    (38, AV.int IntKind.i64 x0), (39, AV.int IntKind.i64 x1)]
  []
noncomputable def comb_s18_0 (n : Int) (l : List (List Int)) (x0 : Int) (x1 : Int) (x2 : Int) (x3 : Int) (x4 : Int) (x5 : Int) : St := stOf 65
  [(0, AV.int IntKind.i64 n), (1, AV.imm (ETy.one (CTy.slice (ETy.one (CTy.int IntKind.i64)))) l), (9, AV.nils),
    (10, AV.int IntKind.i64 x0), (11, AV.int IntKind.i64 x1), (38, AV.int IntKind.i64 x2), (39, AV.int IntKind.i64 x3),
    (42, AV.imm (ETy.one (CTy.slice (ETy.one (CTy.int IntKind.i64)))) l), (43, AV.int IntKind.i64 x4),
    (44, AV.int IntKind.i64 x5)]
  []
noncomputable def comb_s14_1 (n : Int) (l : List (List Int)) (x0 : Int) (x1 : Int) (x2 : List Int) : St := stOf 65
  [(0, AV.int IntKind.i64 n), (1, AV.imm (ETy.one (CTy.slice (ETy.one (CTy.int IntKind.i64)))) l), (9, AV.own 0),
    (38, AV.int IntKind.i64 x0), (39, AV.int IntKind.i64 x1)]
  [HObj.typed (ETy.one (CTy.int IntKind.i64)) x2 false]
noncomputable def comb_s18_1 (n : Int) (l : List (List Int)) (x0 : Int) (x1 : Int) (x2 : Int) (x3 : Int) (x4 : Int) (x5 : Int) (x6 : List Int) : St := stOf 65
  [(0, AV.int IntKind.i64 n), (1, AV.imm (ETy.one (CTy.slice (ETy.one (CTy.int IntKind.i64)))) l), (9, AV.own 0),
    (10, AV.int IntKind.i64 x0), (11, AV.int IntKind.i64 x1), (38, AV.int IntKind.i64 x2), (39, AV.int IntKind.i64 x3),
    (42, AV.imm (ETy.one (CTy.slice (ETy.one (CTy.int IntKind.i64)))) l), (43, AV.int IntKind.i64 x4),
    (44, AV.int IntKind.i64 x5)]
  [HObj.typed (ETy.one (CTy.int IntKind.i64)) x6 false]
set_option maxRecDepth 1000000 in
theorem comb_E (n : Int) (l : List (List Int)) (n0 : Nat) (K : AV → List HObj → Prop) :
    execN tab (mixK tab con1 [] 400) (maskK comb_live (GoodL Try.prog n0 27 K)) (finK tab (fnT Try.f27).res K) 400 [.code (fnT Try.f27).body] ⟨initEnv (fnT Try.f27).n [AV.int IntKind.i64 n, AV.imm (ETy.one (CTy.slice (ETy.one (CTy.int IntKind.i64)))) l], []⟩ =
    (bif decide (n < 0) then K (AV.tup [AV.nils, AV.int IntKind.i64 4]) []
else
  bif bif false then true else decide (n > 52) then K (AV.tup [AV.nils, AV.int IntKind.i64 4]) []
  else
    bif decide ((↑l.length : Int) > 6) then K (AV.tup [AV.nils, AV.int IntKind.i64 2]) []
    else GoodL Try.prog n0 27 K (headAt (fnT Try.f27) 6) (comb_s6_0 n l (↑l.length : Int) 0)) := by kernel_rfl
set_option maxRecDepth 1000000 in
theorem comb_s6_0_E (n : Int) (l : List (List Int)) (x0 : Int) (x1 : Int) (n0 : Nat) (K : AV → List HObj → Prop) :
    execN tab (mixK tab con1 [] 400) (maskK comb_live (GoodL Try.prog n0 27 K)) (finK tab (fnT Try.f27).res K) 400 (roundAt (fnT Try.f27) 6) (comb_s6_0 n l x0 x1) =
    (bif decide (x1 < x0) then
  bif decide (0 ≤ x1) && decide (x1 < (↑l.length : Int)) then
    (0 ≤ n ∧ n ≤ 52 ∧ Fit (l.getD x1.toNat [])) ∧
      bif !decide (fitsV n (l.getD x1.toNat []) = 0) then
        K (AV.tup [AV.nils, AV.int IntKind.i64 (fitsV n (l.getD x1.toNat []))]) []
      else GoodL Try.prog n0 27 K (headAt (fnT Try.f27) 6) (comb_s6_0 n l x0 (IntKind.i64.wrap (x1 + 1)))
  else False
else
  GoodL Try.prog n0 27 K (headAt (fnT Try.f27) 14)
    (comb_s14_0 n l (if IntKind.i64.wrap (n - 1) > 0 then IntKind.i64.wrap (n - 1) else 0) 0)) := by kernel_rfl
set_option maxRecDepth 1000000 in
theorem comb_s14_0_E (n : Int) (l : List (List Int)) (x0 : Int) (x1 : Int) (n0 : Nat) (K : AV → List HObj → Prop) :
    execN tab (mixK tab con1 [] 400) (maskK comb_live (GoodL Try.prog n0 27 K)) (finK tab (fnT Try.f27).res K) 400 (roundAt (fnT Try.f27) 14) (comb_s14_0 n l x0 x1) =
    (bif decide (x1 < x0) then
  GoodL Try.prog n0 27 K (headAt (fnT Try.f27) 18) (comb_s18_0 n l x1 0 x0 x1 (↑l.length : Int) 0)
else K (AV.tup [AV.nils, AV.int IntKind.i64 0]) []) := by kernel_rfl
set_option maxRecDepth 1000000 in
theorem comb_s18_0_E (n : Int) (l : List (List Int)) (x0 : Int) (x1 : Int) (x2 : Int) (x3 : Int) (x4 : Int) (x5 : Int) (n0 : Nat) (K : AV → List HObj → Prop) :
    execN tab (mixK tab con1 [] 400) (maskK comb_live (GoodL Try.prog n0 27 K)) (finK tab (fnT Try.f27).res K) 400 (roundAt (fnT Try.f27) 18) (comb_s18_0 n l x0 x1 x2 x3 x4 x5) =
    (bif decide (x5 < x4) then
  bif decide (0 ≤ x5) && decide (x5 < (↑l.length : Int)) then
    bif decide (0 ≤ x0) && decide (x0 < (↑(List.length (l.getD x5.toNat [])) : Int)) then
      GoodL Try.prog n0 27 K (headAt (fnT Try.f27) 18)
        (comb_s18_0 n l x0 (IntKind.i64.wrap (x1 + List.getD (l.getD x5.toNat []) x0.toNat 0)) x2 x3 x4
          (IntKind.i64.wrap (x5 + 1)))
    else False
  else False
else
  bif !decide (IntKind.i64.wrap (n - x0) = 0) then
    GoodL Try.prog n0 27 K (headAt (fnT Try.f27) 14)
      (comb_s14_1 n l x2 (IntKind.i64.wrap (x3 + 1)) ([] ++ [x1.tmod (IntKind.i64.wrap (n - x0))]))
  else False) := by kernel_rfl
set_option maxRecDepth 1000000 in
theorem comb_s14_1_E (n : Int) (l : List (List Int)) (x0 : Int) (x1 : Int) (x2 : List Int) (n0 : Nat) (K : AV → List HObj → Prop) :
    execN tab (mixK tab con1 [] 400) (maskK comb_live (GoodL Try.prog n0 27 K)) (finK tab (fnT Try.f27).res K) 400 (roundAt (fnT Try.f27) 14) (comb_s14_1 n l x0 x1 x2) =
    (bif decide (x1 < x0) then
  GoodL Try.prog n0 27 K (headAt (fnT Try.f27) 18) (comb_s18_1 n l x1 0 x0 x1 (↑l.length : Int) 0 x2)
else K (AV.tup [AV.own 0, AV.int IntKind.i64 0]) [HObj.typed (ETy.one (CTy.int IntKind.i64)) x2 false]) := by kernel_rfl
set_option maxRecDepth 1000000 in
theorem comb_s18_1_E (n : Int) (l : List (List Int)) (x0 : Int) (x1 : Int) (x2 : Int) (x3 : Int) (x4 : Int) (x5 : Int) (x6 : List Int) (n0 : Nat) (K : AV → List HObj → Prop) :
    execN tab (mixK tab con1 [] 400) (maskK comb_live (GoodL Try.prog n0 27 K)) (finK tab (fnT Try.f27).res K) 400 (roundAt (fnT Try.f27) 18) (comb_s18_1 n l x0 x1 x2 x3 x4 x5 x6) =
    (bif decide (x5 < x4) then
  bif decide (0 ≤ x5) && decide (x5 < (↑l.length : Int)) then
    bif decide (0 ≤ x0) && decide (x0 < (↑(List.length (l.getD x5.toNat [])) : Int)) then
      GoodL Try.prog n0 27 K (headAt (fnT Try.f27) 18)
        (comb_s18_1 n l x0 (IntKind.i64.wrap (x1 + List.getD (l.getD x5.toNat []) x0.toNat 0)) x2 x3 x4
          (IntKind.i64.wrap (x5 + 1)) x6)
    else False
  else False
else
  bif !decide (IntKind.i64.wrap (n - x0) = 0) then
    bif
        bif (x6.length + [x1.tmod (IntKind.i64.wrap (n - x0))].length).ble 9223372036854775807 then
          ((x6.length + [x1.tmod (IntKind.i64.wrap (n - x0))].length) * 8).ble 140737488355328
        else false then
      GoodL Try.prog n0 27 K (headAt (fnT Try.f27) 14)
        (comb_s14_1 n l x2 (IntKind.i64.wrap (x3 + 1)) (x6 ++ [x1.tmod (IntKind.i64.wrap (n - x0))]))
    else False
  else False) := by kernel_rfl
def law_live : List (Nat × List Nat) := [(4, [0, 1, 2, 20, 21, 22]), (16, [0, 1, 9, 10, 11, 53, 54, 55]), (26, [0, 1, 9, 85, 86, 87]), (29, [0, 1, 9, 14, 15, 85, 86, 87, 92, 93, 94])]
noncomputable def law_s4_0 (n : Int) (l : List (List Int)) (s : Int) (x0 : Int) (x1 : Int) : St := stOf 129
  [(0, AV.int IntKind.i64 n), (1, AV.imm (ETy.one (CTy.slice (ETy.one (CTy.int IntKind.i64)))) l),
    (2, AV.int IntKind.i64 s), (20, AV.imm (ETy.one (CTy.slice (ETy.one (CTy.int IntKind.i64)))) l),
    (21, AV.int IntKind.i64 x0), (22, AV.int IntKind.i64 x1)]
  []
noncomputable def law_s16_0 (n : Int) (l : List (List Int)) (s : Int) (x0 : Int) (x1 : Int) (x2 : Int) (x3 : Int) : St := stOf 129
  [(0, AV.int IntKind.i64 n), (1, AV.imm (ETy.one (CTy.slice (ETy.one (CTy.int IntKind.i64)))) l), (9, AV.nils),
    (10, AV.int IntKind.i64 x0), (11, AV.int IntKind.i64 x1),
    (53, AV.imm (ETy.one (CTy.slice (ETy.one (CTy.int IntKind.i64)))) l), (54, AV.int IntKind.i64 x2),
    (55, AV.int IntKind.i64 x3)]
  []
noncomputable def law_s16_1 (n : Int) (l : List (List Int)) (s : Int) (x0 : Int) (x1 : Int) (x2 : Int) (x3 : Int) (x4 : List Int) : St := stOf 129
  [(0, AV.int IntKind.i64 n), (1, AV.imm (ETy.one (CTy.slice (ETy.one (CTy.int IntKind.i64)))) l), (9, AV.own 0),
    (10, AV.int IntKind.i64 x0), (11, AV.int IntKind.i64 x1),
    (53, AV.imm (ETy.one (CTy.slice (ETy.one (CTy.int IntKind.i64)))) l), (54, AV.int IntKind.i64 x2),
    (55, AV.int IntKind.i64 x3)]
  [HObj.typed (ETy.one (CTy.int IntKind.i64)) x4 false]
noncomputable def law_s26_0 (n : Int) (l : List (List Int)) (s : Int) (x0 : Int) (x1 : Int) : St := stOf 129
  [(0, AV.int IntKind.i64 n), (1, AV.imm (ETy.one (CTy.slice (ETy.one (CTy.int IntKind.i64)))) l), (9, AV.nils),
    (85, AV.nils), (86, AV.int IntKind.i64 x0), (87, AV.int IntKind.i64 x1)]
  []
noncomputable def law_s26_1 (n : Int) (l : List (List Int)) (s : Int) (x0 : Int) (x1 : Int) (x2 : List Int) : St := stOf 129
  [(0, AV.int IntKind.i64 n), (1, AV.imm (ETy.one (CTy.slice (ETy.one (CTy.int IntKind.i64)))) l), (9, AV.own 0),
    (85, AV.own 0), (86, AV.int IntKind.i64 x0), (87, AV.int IntKind.i64 x1)]
  [HObj.typed (ETy.one (CTy.int IntKind.i64)) x2 false]
noncomputable def law_s29_0 (n : Int) (l : List (List Int)) (s : Int) (x0 : Int) (x1 : Int) (x2 : Int) (x3 : Int) (x4 : Int) (x5 : Int) (x6 : List Int) : St := stOf 129
  [(0, AV.int IntKind.i64 n), (1, AV.imm (ETy.one (CTy.slice (ETy.one (CTy.int IntKind.i64)))) l), (9, AV.own 0),
    (14, AV.int IntKind.i64 x0), (15, AV.int IntKind.i64 x1), (85, AV.own 0), (86, AV.int IntKind.i64 x2),
    (87, AV.int IntKind.i64 x3), (92, AV.imm (ETy.one (CTy.slice (ETy.one (CTy.int IntKind.i64)))) l),
    (93, AV.int IntKind.i64 x4), (94, AV.int IntKind.i64 x5)]
  [HObj.typed (ETy.one (CTy.int IntKind.i64)) x6 false]
set_option maxRecDepth 1000000 in
theorem law_E (n : Int) (l : List (List Int)) (s : Int) (n0 : Nat) (K : AV → List HObj → Prop) :
    execN tab (mixK tab con2 [] 400) (maskK law_live (GoodL Try.prog n0 5 K)) (finK tab (fnT Try.f5).res K) 400 [.code (fnT Try.f5).body] ⟨initEnv (fnT Try.f5).n [AV.int IntKind.i64 n, AV.imm (ETy.one (CTy.slice (ETy.one (CTy.int IntKind.i64)))) l, AV.int IntKind.i64 s], []⟩ =
    (GoodL Try.prog n0 5 K (headAt (fnT Try.f5) 4) (law_s4_0 n l s (↑l.length : Int) 0)) := by kernel_rfl
set_option maxRecDepth 1000000 in
theorem law_s4_0_E (n : Int) (l : List (List Int)) (s : Int) (x0 : Int) (x1 : Int) (n0 : Nat) (K : AV → List HObj → Prop) :
    execN tab (mixK tab con2 [] 400) (maskK law_live (GoodL Try.prog n0 5 K)) (finK tab (fnT Try.f5).res K) 400 (roundAt (fnT Try.f5) 4) (law_s4_0 n l s x0 x1) =
    (bif decide (x1 < x0) then
  bif decide (0 ≤ x1) && decide (x1 < (↑l.length : Int)) then
    Fit (l.getD x1.toNat []) ∧
      Fit (l.getD x1.toNat []) ∧
        bif !decide (sealV (l.getD x1.toNat []) s = sealV (l.getD x1.toNat []) s) then K (AV.bool false) []
        else GoodL Try.prog n0 5 K (headAt (fnT Try.f5) 4) (law_s4_0 n l s x0 (IntKind.i64.wrap (x1 + 1)))
  else False
else
  (∀ (d : List Int), d ∈ l → Fit d) ∧
    (combE n l ≠ 0 →
        bif decide (n < 0) then
          GoodL Try.prog n0 5 K (headAt (fnT Try.f5) 16) (law_s16_0 n l s (combE n l) 4 (↑l.length : Int) 0)
        else
          bif bif false then true else decide (n > 52) then
            GoodL Try.prog n0 5 K (headAt (fnT Try.f5) 16) (law_s16_0 n l s (combE n l) 4 (↑l.length : Int) 0)
          else
            bif bif true then decide ((↑l.length : Int) > 6) else false then
              GoodL Try.prog n0 5 K (headAt (fnT Try.f5) 16) (law_s16_0 n l s (combE n l) 2 (↑l.length : Int) 0)
            else GoodL Try.prog n0 5 K (headAt (fnT Try.f5) 16) (law_s16_0 n l s (combE n l) 0 (↑l.length : Int) 0)) ∧
      (combE n l = 0 →
          n ≤ 1 →
            bif decide (n < 0) then
              GoodL Try.prog n0 5 K (headAt (fnT Try.f5) 16) (law_s16_0 n l s 0 4 (↑l.length : Int) 0)
            else
              bif bif false then true else decide (n > 52) then
                GoodL Try.prog n0 5 K (headAt (fnT Try.f5) 16) (law_s16_0 n l s 0 4 (↑l.length : Int) 0)
              else
                bif bif true then decide ((↑l.length : Int) > 6) else false then
                  GoodL Try.prog n0 5 K (headAt (fnT Try.f5) 16) (law_s16_0 n l s 0 2 (↑l.length : Int) 0)
                else GoodL Try.prog n0 5 K (headAt (fnT Try.f5) 16) (law_s16_0 n l s 0 0 (↑l.length : Int) 0)) ∧
        (combE n l = 0 →
          1 < n →
            bif decide (n < 0) then
              GoodL Try.prog n0 5 K (headAt (fnT Try.f5) 16) (law_s16_1 n l s 0 4 (↑l.length : Int) 0 (combOut n l))
            else
              bif bif false then true else decide (n > 52) then
                GoodL Try.prog n0 5 K (headAt (fnT Try.f5) 16) (law_s16_1 n l s 0 4 (↑l.length : Int) 0 (combOut n l))
              else
                bif bif true then decide ((↑l.length : Int) > 6) else false then
                  GoodL Try.prog n0 5 K (headAt (fnT Try.f5) 16) (law_s16_1 n l s 0 2 (↑l.length : Int) 0 (combOut n l))
                else
                  GoodL Try.prog n0 5 K (headAt (fnT Try.f5) 16)
                    (law_s16_1 n l s 0 0 (↑l.length : Int) 0 (combOut n l)))) := by kernel_rfl
set_option maxRecDepth 1000000 in
theorem law_s16_0_E (n : Int) (l : List (List Int)) (s : Int) (x0 : Int) (x1 : Int) (x2 : Int) (x3 : Int) (n0 : Nat) (K : AV → List HObj → Prop) :
    execN tab (mixK tab con2 [] 400) (maskK law_live (GoodL Try.prog n0 5 K)) (finK tab (fnT Try.f5).res K) 400 (roundAt (fnT Try.f5) 16) (law_s16_0 n l s x0 x1 x2 x3) =
    (bif decide (x3 < x2) then
  bif decide (0 ≤ x3) && decide (x3 < (↑l.length : Int)) then
    bif decide (x1 = 0) then
      (0 ≤ n ∧ n ≤ 52 ∧ Fit (l.getD x3.toNat [])) ∧
        GoodL Try.prog n0 5 K (headAt (fnT Try.f5) 16)
          (law_s16_0 n l s x0 (fitsV n (l.getD x3.toNat [])) x2 (IntKind.i64.wrap (x3 + 1)))
    else GoodL Try.prog n0 5 K (headAt (fnT Try.f5) 16) (law_s16_0 n l s x0 x1 x2 (IntKind.i64.wrap (x3 + 1)))
  else False
else
  bif !decide (x1 = 0) then bif decide (x0 = x1) then K (AV.bool true) [] else K (AV.bool false) []
  else
    bif !decide (x0 = 0) then K (AV.bool false) []
    else
      bif
          bif false then true
          else !decide (0 = if IntKind.i64.wrap (n - 1) > 0 then IntKind.i64.wrap (n - 1) else 0) then
        K (AV.bool false) []
      else GoodL Try.prog n0 5 K (headAt (fnT Try.f5) 26) (law_s26_0 n l s 0 0)) := by kernel_rfl
set_option maxRecDepth 1000000 in
theorem law_s16_1_E (n : Int) (l : List (List Int)) (s : Int) (x0 : Int) (x1 : Int) (x2 : Int) (x3 : Int) (x4 : List Int) (n0 : Nat) (K : AV → List HObj → Prop) :
    execN tab (mixK tab con2 [] 400) (maskK law_live (GoodL Try.prog n0 5 K)) (finK tab (fnT Try.f5).res K) 400 (roundAt (fnT Try.f5) 16) (law_s16_1 n l s x0 x1 x2 x3 x4) =
    (bif decide (x3 < x2) then
  bif decide (0 ≤ x3) && decide (x3 < (↑l.length : Int)) then
    bif decide (x1 = 0) then
      (0 ≤ n ∧ n ≤ 52 ∧ Fit (l.getD x3.toNat [])) ∧
        GoodL Try.prog n0 5 K (headAt (fnT Try.f5) 16)
          (law_s16_1 n l s x0 (fitsV n (l.getD x3.toNat [])) x2 (IntKind.i64.wrap (x3 + 1)) x4)
    else GoodL Try.prog n0 5 K (headAt (fnT Try.f5) 16) (law_s16_1 n l s x0 x1 x2 (IntKind.i64.wrap (x3 + 1)) x4)
  else False
else
  bif !decide (x1 = 0) then
    bif decide (x0 = x1) then
      K (AV.bool (bif true then decide ((↑x4.length : Int) = 0) else false))
        [HObj.typed (ETy.one (CTy.int IntKind.i64)) x4 false]
    else K (AV.bool false) [HObj.typed (ETy.one (CTy.int IntKind.i64)) x4 false]
  else
    bif !decide (x0 = 0) then K (AV.bool false) [HObj.typed (ETy.one (CTy.int IntKind.i64)) x4 false]
    else
      bif
          bif false then true
          else !decide ((↑x4.length : Int) = if IntKind.i64.wrap (n - 1) > 0 then IntKind.i64.wrap (n - 1) else 0) then
        K (AV.bool false) [HObj.typed (ETy.one (CTy.int IntKind.i64)) x4 false]
      else GoodL Try.prog n0 5 K (headAt (fnT Try.f5) 26) (law_s26_1 n l s (↑x4.length : Int) 0 x4)) := by kernel_rfl
set_option maxRecDepth 1000000 in
theorem law_s26_0_E (n : Int) (l : List (List Int)) (s : Int) (x0 : Int) (x1 : Int) (n0 : Nat) (K : AV → List HObj → Prop) :
    execN tab (mixK tab con2 [] 400) (maskK law_live (GoodL Try.prog n0 5 K)) (finK tab (fnT Try.f5).res K) 400 (roundAt (fnT Try.f5) 26) (law_s26_0 n l s x0 x1) =
    (bif decide (x1 < x0) then False else K (AV.bool true) []) := by kernel_rfl
set_option maxRecDepth 1000000 in
theorem law_s26_1_E (n : Int) (l : List (List Int)) (s : Int) (x0 : Int) (x1 : Int) (x2 : List Int) (n0 : Nat) (K : AV → List HObj → Prop) :
    execN tab (mixK tab con2 [] 400) (maskK law_live (GoodL Try.prog n0 5 K)) (finK tab (fnT Try.f5).res K) 400 (roundAt (fnT Try.f5) 26) (law_s26_1 n l s x0 x1 x2) =
    (bif decide (x1 < x0) then
  bif decide (0 ≤ x1) && decide (x1 < (↑x2.length : Int)) then
    GoodL Try.prog n0 5 K (headAt (fnT Try.f5) 29)
      (law_s29_0 n l s x1 (x2.getD x1.toNat 0) x0 x1 (↑l.length : Int) 0 x2)
  else False
else K (AV.bool true) [HObj.typed (ETy.one (CTy.int IntKind.i64)) x2 false]) := by kernel_rfl
set_option maxRecDepth 1000000 in
theorem law_s29_0_E (n : Int) (l : List (List Int)) (s : Int) (x0 : Int) (x1 : Int) (x2 : Int) (x3 : Int) (x4 : Int) (x5 : Int) (x6 : List Int) (n0 : Nat) (K : AV → List HObj → Prop) :
    execN tab (mixK tab con2 [] 400) (maskK law_live (GoodL Try.prog n0 5 K)) (finK tab (fnT Try.f5).res K) 400 (roundAt (fnT Try.f5) 29) (law_s29_0 n l s x0 x1 x2 x3 x4 x5 x6) =
    (bif decide (x5 < x4) then
  bif decide (0 ≤ x5) && decide (x5 < (↑l.length : Int)) then
    bif decide (0 ≤ x0) && decide (x0 < (↑(List.length (l.getD x5.toNat [])) : Int)) then
      GoodL Try.prog n0 5 K (headAt (fnT Try.f5) 29)
        (law_s29_0 n l s x0 (IntKind.i64.wrap (x1 - List.getD (l.getD x5.toNat []) x0.toNat 0)) x2 x3 x4
          (IntKind.i64.wrap (x5 + 1)) x6)
    else False
  else False
else
  bif decide (0 ≤ x0) && decide (x0 < (↑x6.length : Int)) then
    bif decide (x6.getD x0.toNat 0 < 0) then K (AV.bool false) [HObj.typed (ETy.one (CTy.int IntKind.i64)) x6 false]
    else
      bif decide (0 ≤ x0) && decide (x0 < (↑x6.length : Int)) then
        bif bif false then true else decide (x6.getD x0.toNat 0 ≥ IntKind.i64.wrap (n - x0)) then
          K (AV.bool false) [HObj.typed (ETy.one (CTy.int IntKind.i64)) x6 false]
        else
          bif !decide (IntKind.i64.wrap (n - x0) = 0) then
            bif bif false then true else !decide (x1.tmod (IntKind.i64.wrap (n - x0)) = 0) then
              K (AV.bool false) [HObj.typed (ETy.one (CTy.int IntKind.i64)) x6 false]
            else GoodL Try.prog n0 5 K (headAt (fnT Try.f5) 26) (law_s26_1 n l s x2 (IntKind.i64.wrap (x3 + 1)) x6)
          else False
      else False
  else False) := by kernel_rfl
end Go.Proofs.Ytejcniaepjahbaa.Mach
