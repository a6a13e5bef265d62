/- Texts of this session, put together. -/
import Derived.Test.YtolikobhjmnedaaGreatDoorRL5
section
/- Equations of functions (printed). -/
namespace Go.Proofs.YtolikobhjmnedaaGreatDoor.Mach
open Go Go.Proofs.YtolikobhjmnedaaGreatDoor Go.Proofs.YtolikobhjmnedaaGreatDoor.Lib
set_option linter.unusedVariables false
def lsum_live : List (Nat × List Nat) := [(8, [5, 16, 17, 18])]
def lsum_nils : List (Nat × ETy) := [(16, ETy.one CTy.str)]
noncomputable def lsum_s8_0 (l : List ByteArray) (x0 : Int) (x1 : Int) : St := stOf 34 [(5, AV.ptr 0 0), (16, AV.imm (ETy.one CTy.str) l), (17, AV.int IntKind.i64 x0), (18, AV.int IntKind.i64 x1)] [HObj.box [AV.bool false, AV.nils, AV.nils]]
noncomputable def lsum_s8_1 (l : List ByteArray) (x0 : Int) (x1 : Int) (x2 : Bool) (x3 : List Int) (x4 : List Int) : St := stOf 34 [(5, AV.ptr 0 0), (16, AV.imm (ETy.one CTy.str) l), (17, AV.int IntKind.i64 x0), (18, AV.int IntKind.i64 x1)] [HObj.box [AV.bool x2, AV.imm (ETy.one (CTy.int IntKind.u32)) x3, AV.imm (ETy.one (CTy.int IntKind.u32)) x4]]
set_option maxRecDepth 1000000 in
theorem lsum_E (l : List ByteArray) (n0 : Nat) (K : AV → List HObj → Prop) :
    execN tab (mixE tab conL1 [] 400) (maskN lsum_live lsum_nils (GoodL Tryz.prog n0 6 K)) (finK tab (fnT Tryz.f6).res K) 400 [.code (fnT Tryz.f6).body] ⟨initEnv (fnT Tryz.f6).n [AV.imm (ETy.one CTy.str) l], []⟩ =
    (bif decide ((↑l.length : Int) > 256) then K (AV.tup [AV.str (ByteArray.mk #[]), AV.int IntKind.i64 2]) [] else TxL l ∧ bif !decide (ratErrs l = 0) then K (AV.tup [AV.str (ByteArray.mk #[]), AV.int IntKind.i64 (ratErrs l)]) [] else GoodL Tryz.prog n0 6 K (headAt (fnT Tryz.f6) 8) (lsum_s8_0 l (↑l.length : Int) 0)) := by kernel_rfl
set_option maxRecDepth 1000000 in
theorem lsum_s8_0_E (l : List ByteArray) (x0 : Int) (x1 : Int) (n0 : Nat) (K : AV → List HObj → Prop) :
    execN tab (mixE tab conL1 [] 400) (maskN lsum_live lsum_nils (GoodL Tryz.prog n0 6 K)) (finK tab (fnT Tryz.f6).res K) 400 (roundAt (fnT Tryz.f6) 8) (lsum_s8_0 l x0 x1) =
    (bif decide (x1 < x0) then bif decide (0 ≤ x1) && decide (x1 < (↑l.length : Int)) then ∃ q, l.getD x1.toNat ByteArray.empty = Sem.ratText q ∧ Sz 40000 q ∧ ∀ (z : Bool × List Int × List Int), Sem.QV z q → ∃ x y, Sem.QV (false, [], []) x ∧ Sem.QV (z.1, z.2.1, z.2.2) y ∧ Sz 40000 x ∧ Sz 40000 y ∧ ∀ (r : Bool × List Int × List Int), Sem.QV r (x + y) → ∃ q, Sem.QV (r.1, r.2.1, r.2.2) q ∧ Sz 90000 q ∧ bif !decide (fitV q = 0) then K (AV.tup [AV.str (ByteArray.mk #[]), AV.int IntKind.i64 2]) [HObj.box [AV.bool r.1, AV.imm (ETy.one (CTy.int IntKind.u32)) r.2.1, AV.imm (ETy.one (CTy.int IntKind.u32)) r.2.2]] else GoodL Tryz.prog n0 6 K (headAt (fnT Tryz.f6) 8) (lsum_s8_1 l x0 (IntKind.i64.wrap (x1 + 1)) r.1 r.2.1 r.2.2) else False else ∃ q, Sem.QV (false, [], []) q ∧ Sz 90000 q ∧ K (AV.tup [AV.str (toldV q), AV.int IntKind.i64 (fitV q)]) [HObj.box [AV.bool false, AV.nils, AV.nils]]) := by kernel_rfl
set_option maxRecDepth 1000000 in
theorem lsum_s8_1_E (l : List ByteArray) (x0 : Int) (x1 : Int) (x2 : Bool) (x3 : List Int) (x4 : List Int) (n0 : Nat) (K : AV → List HObj → Prop) :
    execN tab (mixE tab conL1 [] 400) (maskN lsum_live lsum_nils (GoodL Tryz.prog n0 6 K)) (finK tab (fnT Tryz.f6).res K) 400 (roundAt (fnT Tryz.f6) 8) (lsum_s8_1 l x0 x1 x2 x3 x4) =
    (bif decide (x1 < x0) then bif decide (0 ≤ x1) && decide (x1 < (↑l.length : Int)) then ∃ q, l.getD x1.toNat ByteArray.empty = Sem.ratText q ∧ Sz 40000 q ∧ ∀ (z : Bool × List Int × List Int), Sem.QV z q → ∃ x y, Sem.QV (x2, x3, x4) x ∧ Sem.QV (z.1, z.2.1, z.2.2) y ∧ Sz 40000 x ∧ Sz 40000 y ∧ ∀ (r : Bool × List Int × List Int), Sem.QV r (x + y) → ∃ q, Sem.QV (r.1, r.2.1, r.2.2) q ∧ Sz 90000 q ∧ bif !decide (fitV q = 0) then K (AV.tup [AV.str (ByteArray.mk #[]), AV.int IntKind.i64 2]) [HObj.box [AV.bool r.1, AV.imm (ETy.one (CTy.int IntKind.u32)) r.2.1, AV.imm (ETy.one (CTy.int IntKind.u32)) r.2.2]] else GoodL Tryz.prog n0 6 K (headAt (fnT Tryz.f6) 8) (lsum_s8_1 l x0 (IntKind.i64.wrap (x1 + 1)) r.1 r.2.1 r.2.2) else False else ∃ q, Sem.QV (x2, x3, x4) q ∧ Sz 90000 q ∧ K (AV.tup [AV.str (toldV q), AV.int IntKind.i64 (fitV q)]) [HObj.box [AV.bool x2, AV.imm (ETy.one (CTy.int IntKind.u32)) x3, AV.imm (ETy.one (CTy.int IntKind.u32)) x4]]) := by kernel_rfl
def lbest_live : List (Nat × List Nat) := [(10, [0, 5, 19, 20, 21])]
def lbest_nils : List (Nat × ETy) := [(19, ETy.one CTy.str)]
noncomputable def lbest_s10_0 (l : List ByteArray) (x0 : Int) (x1 : Int) (x2 : Int) : St := stOf 38 [(0, AV.imm (ETy.one CTy.str) l), (5, AV.int IntKind.i64 x0), (19, AV.imm (ETy.one CTy.str) l), (20, AV.int IntKind.i64 x1), (21, AV.int IntKind.i64 x2)] []
set_option maxRecDepth 1000000 in
theorem lbest_E (l : List ByteArray) (n0 : Nat) (K : AV → List HObj → Prop) :
    execN tab (mixE tab conL1 [] 400) (maskN lbest_live lbest_nils (GoodL Tryz.prog n0 7 K)) (finK tab (fnT Tryz.f7).res K) 400 [.code (fnT Tryz.f7).body] ⟨initEnv (fnT Tryz.f7).n [AV.imm (ETy.one CTy.str) l], []⟩ =
    (bif decide ((↑l.length : Int) > 256) then K (AV.tup [AV.int IntKind.i64 0, AV.int IntKind.i64 2]) [] else bif decide ((↑l.length : Int) = 0) then K (AV.tup [AV.int IntKind.i64 0, AV.int IntKind.i64 8]) [] else TxL l ∧ bif !decide (ratErrs l = 0) then K (AV.tup [AV.int IntKind.i64 0, AV.int IntKind.i64 (ratErrs l)]) [] else GoodL Tryz.prog n0 7 K (headAt (fnT Tryz.f7) 10) (lbest_s10_0 l 0 (↑l.length : Int) 0)) := by kernel_rfl
set_option maxRecDepth 1000000 in
theorem lbest_s10_0_E (l : List ByteArray) (x0 : Int) (x1 : Int) (x2 : Int) (n0 : Nat) (K : AV → List HObj → Prop) :
    execN tab (mixE tab conL1 [] 400) (maskN lbest_live lbest_nils (GoodL Tryz.prog n0 7 K)) (finK tab (fnT Tryz.f7).res K) 400 (roundAt (fnT Tryz.f7) 10) (lbest_s10_0 l x0 x1 x2) =
    (bif decide (x2 < x1) then bif decide (0 ≤ x2) && decide (x2 < (↑l.length : Int)) then bif decide (0 ≤ x0) && decide (x0 < (↑l.length : Int)) then ∃ q, l.getD x2.toNat ByteArray.empty = Sem.ratText q ∧ Sz 40000 q ∧ ∀ (z : Bool × List Int × List Int), Sem.QV z q → ∃ q, l.getD x0.toNat ByteArray.empty = Sem.ratText q ∧ Sz 40000 q ∧ ∀ (z_1 : Bool × List Int × List Int), Sem.QV z_1 q → ∃ x y, Sem.QV (z.1, z.2.1, z.2.2) x ∧ Sem.QV (z_1.1, z_1.2.1, z_1.2.2) y ∧ Sz 40000 x ∧ Sz 40000 y ∧ bif decide (Sem.sgn (x - y) > 0) then GoodL Tryz.prog n0 7 K (headAt (fnT Tryz.f7) 10) (lbest_s10_0 l x2 x1 (IntKind.i64.wrap (x2 + 1))) else GoodL Tryz.prog n0 7 K (headAt (fnT Tryz.f7) 10) (lbest_s10_0 l x0 x1 (IntKind.i64.wrap (x2 + 1))) else False else False else K (AV.tup [AV.int IntKind.i64 x0, AV.int IntKind.i64 0]) []) := by kernel_rfl
def lshares_live : List (Nat × List Nat) := [(5, [0, 4, 22, 23, 24]), (15, [8, 9, 38, 39, 40])]
def lshares_nils : List (Nat × ETy) := [(22, ETy.one CTy.str), (9, ETy.one CTy.str), (38, ETy.one CTy.str)]
noncomputable def lshares_s5_0 (l : List ByteArray) (x0 : ByteArray) (x1 : Int) (x2 : Int) : St := stOf 61 [(0, AV.imm (ETy.one CTy.str) l), (4, AV.str x0), (22, AV.imm (ETy.one CTy.str) l), (23, AV.int IntKind.i64 x1), (24, AV.int IntKind.i64 x2)] []
noncomputable def lshares_s15_0 (l : List ByteArray) (x0 : Int) (x1 : Int) (x2 : Bool) (x3 : List Int) (x4 : List Int) (x5 : List ByteArray) : St := stOf 61 [(8, AV.ptr 0 0), (9, AV.own 1), (38, AV.imm (ETy.one CTy.str) l), (39, AV.int IntKind.i64 x0), (40, AV.int IntKind.i64 x1)] [HObj.box [AV.bool x2, AV.imm (ETy.one (CTy.int IntKind.u32)) x3, AV.imm (ETy.one (CTy.int IntKind.u32)) x4], HObj.typed (ETy.one CTy.str) x5 false]
set_option maxRecDepth 1000000 in
theorem lshares_E (l : List ByteArray) (n0 : Nat) (K : AV → List HObj → Prop) :
    execN tab (mixE tab conL2 [] 400) (maskN lshares_live lshares_nils (GoodL Tryz.prog n0 8 K)) (finK tab (fnT Tryz.f8).res K) 400 [.code (fnT Tryz.f8).body] ⟨initEnv (fnT Tryz.f8).n [AV.imm (ETy.one CTy.str) l], []⟩ =
    (TxL l ∧ bif !decide (sumE l = 0) then K (AV.tup [AV.nils, AV.int IntKind.i64 (sumE l)]) [] else GoodL Tryz.prog n0 8 K (headAt (fnT Tryz.f8) 5) (lshares_s5_0 l (sumS l) (↑l.length : Int) 0)) := by kernel_rfl
set_option maxRecDepth 1000000 in
theorem lshares_s5_0_E (l : List ByteArray) (x0 : ByteArray) (x1 : Int) (x2 : Int) (n0 : Nat) (K : AV → List HObj → Prop) :
    execN tab (mixE tab conL2 [] 400) (maskN lshares_live lshares_nils (GoodL Tryz.prog n0 8 K)) (finK tab (fnT Tryz.f8).res K) 400 (roundAt (fnT Tryz.f8) 5) (lshares_s5_0 l x0 x1 x2) =
    (bif decide (x2 < x1) then bif decide (0 ≤ x2) && decide (x2 < (↑l.length : Int)) then ∃ q, l.getD x2.toNat ByteArray.empty = Sem.ratText q ∧ Sz 40000 q ∧ ∀ (z : Bool × List Int × List Int), Sem.QV z q → ∃ q, Sem.QV (z.1, z.2.1, z.2.2) q ∧ bif decide (Sem.sgn q < 0) then K (AV.tup [AV.nils, AV.int IntKind.i64 4]) [] else GoodL Tryz.prog n0 8 K (headAt (fnT Tryz.f8) 5) (lshares_s5_0 l x0 x1 (IntKind.i64.wrap (x2 + 1))) else False else ∃ q, x0 = Sem.ratText q ∧ Sz 40000 q ∧ ∀ (z : Bool × List Int × List Int), Sem.QV z q → ∃ q, Sem.QV (z.1, z.2.1, z.2.2) q ∧ bif decide (Sem.sgn q = 0) then K (AV.tup [AV.nils, AV.int IntKind.i64 18]) [HObj.box [AV.bool z.1, AV.imm (ETy.one (CTy.int IntKind.u32)) z.2.1, AV.imm (ETy.one (CTy.int IntKind.u32)) z.2.2]] else GoodL Tryz.prog n0 8 K (headAt (fnT Tryz.f8) 15) (lshares_s15_0 l (↑l.length : Int) 0 z.1 z.2.1 z.2.2 [])) := by kernel_rfl
set_option maxRecDepth 1000000 in
theorem lshares_s15_0_E (l : List ByteArray) (x0 : Int) (x1 : Int) (x2 : Bool) (x3 : List Int) (x4 : List Int) (x5 : List ByteArray) (n0 : Nat) (K : AV → List HObj → Prop) :
    execN tab (mixE tab conL2 [] 400) (maskN lshares_live lshares_nils (GoodL Tryz.prog n0 8 K)) (finK tab (fnT Tryz.f8).res K) 400 (roundAt (fnT Tryz.f8) 15) (lshares_s15_0 l x0 x1 x2 x3 x4 x5) =
    (bif decide (x1 < x0) then bif decide (0 ≤ x1) && decide (x1 < (↑l.length : Int)) then ∃ q, l.getD x1.toNat ByteArray.empty = Sem.ratText q ∧ Sz 40000 q ∧ ∀ (z : Bool × List Int × List Int), Sem.QV z q → ∃ x y, Sem.QV (z.1, z.2.1, z.2.2) x ∧ Sem.QV (x2, x3, x4) y ∧ Sz 40000 x ∧ Sz 40000 y ∧ ∀ (r : Bool × List Int × List Int), Sem.QV r (x / y) → ∃ q, Sem.QV (r.1, r.2.1, r.2.2) q ∧ Sz 90000 q ∧ bif !decide (fitV q = 0) then K (AV.tup [AV.nils, AV.int IntKind.i64 (fitV q)]) [HObj.box [AV.bool x2, AV.imm (ETy.one (CTy.int IntKind.u32)) x3, AV.imm (ETy.one (CTy.int IntKind.u32)) x4], HObj.typed (ETy.one CTy.str) x5 false] else bif bif (x5.length + [toldV q].length).ble 9223372036854775807 then ((x5.length + [toldV q].length) * 16).ble 140737488355328 else false then GoodL Tryz.prog n0 8 K (headAt (fnT Tryz.f8) 15) (lshares_s15_0 l x0 (IntKind.i64.wrap (x1 + 1)) x2 x3 x4 (x5 ++ [toldV q])) else False else False else K (AV.tup [AV.own 1, AV.int IntKind.i64 0]) [HObj.box [AV.bool x2, AV.imm (ETy.one (CTy.int IntKind.u32)) x3, AV.imm (ETy.one (CTy.int IntKind.u32)) x4], HObj.typed (ETy.one CTy.str) x5 false]) := by kernel_rfl
def lodds_live : List (Nat × List Nat) := [(5, [3, 15, 16, 17])]
def lodds_nils : List (Nat × ETy) := [(15, ETy.one CTy.str)]
noncomputable def lodds_s5_0 (l : List ByteArray) (x0 : ByteArray) (x1 : Int) (x2 : Int) : St := stOf 28 [(3, AV.str x0), (15, AV.imm (ETy.one CTy.str) l), (16, AV.int IntKind.i64 x1), (17, AV.int IntKind.i64 x2)] []
set_option maxRecDepth 1000000 in
theorem lodds_E (l : List ByteArray) (n0 : Nat) (K : AV → List HObj → Prop) :
    execN tab (mixE tab conL2 [] 400) (maskN lodds_live lodds_nils (GoodL Tryz.prog n0 9 K)) (finK tab (fnT Tryz.f9).res K) 400 [.code (fnT Tryz.f9).body] ⟨initEnv (fnT Tryz.f9).n [AV.imm (ETy.one CTy.str) l], []⟩ =
    (TxL l ∧ bif !decide (sumE l = 0) then K (AV.int IntKind.i64 (sumE l)) [] else GoodL Tryz.prog n0 9 K (headAt (fnT Tryz.f9) 5) (lodds_s5_0 l (sumS l) (↑l.length : Int) 0)) := by kernel_rfl
set_option maxRecDepth 1000000 in
theorem lodds_s5_0_E (l : List ByteArray) (x0 : ByteArray) (x1 : Int) (x2 : Int) (n0 : Nat) (K : AV → List HObj → Prop) :
    execN tab (mixE tab conL2 [] 400) (maskN lodds_live lodds_nils (GoodL Tryz.prog n0 9 K)) (finK tab (fnT Tryz.f9).res K) 400 (roundAt (fnT Tryz.f9) 5) (lodds_s5_0 l x0 x1 x2) =
    (bif decide (x2 < x1) then bif decide (0 ≤ x2) && decide (x2 < (↑l.length : Int)) then ∃ q, l.getD x2.toNat ByteArray.empty = Sem.ratText q ∧ Sz 40000 q ∧ ∀ (z : Bool × List Int × List Int), Sem.QV z q → ∃ q, Sem.QV (z.1, z.2.1, z.2.2) q ∧ bif decide (Sem.sgn q < 0) then K (AV.int IntKind.i64 4) [] else GoodL Tryz.prog n0 9 K (headAt (fnT Tryz.f9) 5) (lodds_s5_0 l x0 x1 (IntKind.i64.wrap (x2 + 1))) else False else bif !x0.toList == (ByteArray.mk #[49]).toList then K (AV.int IntKind.i64 3) [] else K (AV.int IntKind.i64 0) []) := by kernel_rfl
end Go.Proofs.YtolikobhjmnedaaGreatDoor.Mach
end
section
/- Package rat: Sum, Best, Shares and Odds: the contracts hold. -/
set_option linter.unusedVariables false
set_option linter.unusedSimpArgs false
namespace Go.Proofs.YtolikobhjmnedaaGreatDoor.Lib
open Go Go.Proofs.YtolikobhjmnedaaGreatDoor.Mach Go.Proofs.YtolikobhjmnedaaGreatDoorW.PrintWords Go.Proofs.YtolikobhjmnedaaGreatDoor.Sem Go.Proofs.YtolikobhjmnedaaGreatDoor.Pure
/-! ### a list and an error ars results -/
theorem seal_tup1 {e : ETy} {l : List e.D} {fz : Bool} {k : IntKind} {n : Int} : sealV [.typed e l fz] (.tup [.own 0, .int k n]) (.tup [.imm e l, .int k n]) :=
  ⟨_, rfl, .cons ⟨e, l, fz, rfl, rfl⟩ (.cons rfl .nil)⟩
theorem seal_nil1 {e : ETy} {k : IntKind} {n : Int} {objs : List HObj} : sealV objs (.tup [.nils, .int k n]) (.tup [.imm e [], .int k n]) :=
  ⟨_, rfl, .cons (Or.inr ⟨e, rfl⟩) (.cons rfl .nil)⟩
/-- (l, e), or (nil, e) -/
def outL (e : ETy) (l : List e.D) (n : Int) : Res := fun v o => (v = .tup [.own 0, .int .i64 n] ∧ ∃ fz, o = [.typed e l fz]) ∨ (l = [] ∧ v = .tup [.nils, .int .i64 n])
theorem outL_seal {e : ETy} {l : List e.D} {n : Int} {P : Program} {g : FuncId} {args : List AV} {Q : Res} (h : Con P g args (outL e l n)) (hQ : Q (.tup [.imm e l, .int .i64 n]) []) : Con P g args Q :=
  h.sealTo fun v o hv => by
    rcases hv with ⟨rfl, fz, rfl⟩ | ⟨rfl, rfl⟩
    · exact ⟨_, seal_tup1, hQ⟩
    · exact ⟨_, seal_nil1, hQ⟩
theorem outL_own {e : ETy} {l : List e.D} {fz : Bool} {n : Int} {id : Nat} {H : List HObj} (ho : objAt H id = .typed e l fz) : resK (outL e l n) (.tup [.own id, .int .i64 n]) H :=
  ⟨.tup [.own 0, .int .i64 n], [.typed e l fz], Or.inl ⟨rfl, fz, rfl⟩, rfl, rfl, [id], rfl, by simp, fun k i hk => by
    match k, hk with
    | 0, hk => cases hk; exact congrArg some ho.symm, rfl⟩
theorem outL_nil {e : ETy} {l : List e.D} {n : Int} {H : List HObj} (h : l = []) : resK (outL e l n) (.tup [.nils, .int .i64 n]) H := res_plain (Or.inr ⟨h, rfl⟩) rfl rfl
/-! ### lists without errors -/
theorem errs_all : ∀ {l : List ByteArray}, ratErrs l = 0 → ∀ s ∈ l, ratErr s = 0
  | [], _, s, hs => absurd hs (by simp)
  | a :: l, h, s, hs => by
    unfold ratErrs at h
    split at h
    · rename_i h0
      rcases List.mem_cons.1 hs with rfl | hs
      · exact h0
      · exact errs_all h s hs
    · rename_i h0; exact absurd h h0
theorem fit_sz {q : Rat} (h : fitV q = 0) : Sz 2000 q := by
  unfold fitV at h
  split at h
  · cases h
  · rename_i h0
    exact ⟨Nat.le_of_not_lt fun hc => h0 (.inl hc), Nat.le_of_not_lt fun hc => h0 (.inr hc)⟩
theorem fit_of {q : Rat} (h : Sz 2000 q) : fitV q = 0 := by
  unfold fitV
  rw [if_neg]
  have := h.1
  have := h.2
  rintro (h | h) <;> omega
theorem told_of {q : Rat} (h : Sz 2000 q) : toldV q = ratText q := by
  unfold toldV
  rw [if_pos (fit_of h)]
theorem drop_at {l : List ByteArray} {x : Nat} (hx : x < l.length) : l.drop x = l.getD x ByteArray.empty :: l.drop (x + 1) := by
  rw [List.drop_eq_getElem_cons hx, List.getD_eq_getElem?_getD, List.getElem?_eq_getElem hx]; rfl
theorem num_at {l : List ByteArray} {x : Nat} (h : ratErrs l = 0) (hx : x < l.length) : l.getD x ByteArray.empty = ratText (ratOf (l.getD x ByteArray.empty)) ∧ Sz 2000 (ratOf (l.getD x ByteArray.empty)) := rat_ok (errs_all h _ (getD_mem hx))
theorem conL1_ok : ∀ g xs Q, conL1 g xs Q → Con Tryz.prog g xs Q := table_ok fun p hp => by
  simp only [List.mem_cons, List.not_mem_nil, or_false] at hp
  rcases hp with rfl | rfl | rfl | rfl | rfl | rfl | rfl | rfl
  · exact c1_ok fun _ _ h => rchecks_con h
  · exact c2_ok fun _ _ _ h => add_con h
  · exact c2_ok fun _ _ _ h => quo_con h
  · exact c1_ok fun _ _ h => sign_con h
  · exact c2_ok fun _ _ _ h => cmp_con h
  · exact c1_ok fun _ _ h => in_con h
  · exact c1_ok fun _ _ h => told_con h
  · exact c1_ok fun _ _ h => fits_con h
section
variable {l : List ByteArray} {Q : Res}
theorem sum_con (h : sumT l Q) : Con Tryz.prog 6 [.imm eS l] Q := by
  obtain ⟨ht, hq⟩ := h
  refine conN (gn := fnT Tryz.f6) (by kernel_rfl) conL1_ok (inl := []) (LT := lsum_live) (NT := lsum_nils) rfl fun n0 => ?_
  rw [lsum_E]
  have hk : ∀ s e H, sumS l = s → sumE l = e → resK Q (.tup [.str s, .int .i64 e]) H := fun s e H h1 h2 => by
    rw [h1, h2] at hq
    exact res_plain hq rfl rfl
  unfold sumS sumE lisE at hk
  by_cases h1 : 256 < l.length
  · simp only [if_pos h1] at hk
    exact bif_pos (by omega) (hk _ _ _ rfl rfl)
  refine bif_neg (by omega) ⟨ht, ?_⟩
  simp only [if_neg h1] at hk
  by_cases h0 : ratErrs l = 0
  · simp only [if_pos h0] at hk
    refine bif_not (bif_pos h0 ?_)
    have step : ∀ {x : Nat} {q : Rat}, x < l.length → sumF q (l.drop x) = if fitV (q + ratOf (l.getD x ByteArray.empty)) = 0 then sumF (q + ratOf (l.getD x ByteArray.empty)) (l.drop (x + 1)) else none := fun {x q} hx => by
      rw [drop_at hx]; rfl
    have main := loopN (f := 6) (gn := fnT Tryz.f6) (n0 := n0) (K := resK Q) (r := 8) (by kernel_rfl) conL1_ok (inl := []) (LT := lsum_live) (NT := lsum_nils) (fun y : Nat × QT => lsum_s8_1 l (l.length : Int) (y.1 : Int) y.2.1 y.2.2.1 y.2.2.2) (fun y => l.length - y.1) (fun y => y.1 ≤ l.length ∧ ∃ q, QV y.2 q ∧ Sz 2000 q ∧ sumF q (l.drop y.1) = sumF 0 l) (fun y hp ih => by
      obtain ⟨x, b, n, d⟩ := y
      obtain ⟨hp, q, hz, sq, he⟩ := hp
      simp only at hp hz he
      show execN _ _ _ _ _ _ (lsum_s8_1 l (l.length : Int) (x : Int) b n d)
      rw [lsum_s8_1_E]
      by_cases hx : x < l.length
      · refine bif_pos (by omega) (bif_and (bif_pos (by omega) (bif_pos (by omega) ?_)))
        rw [Int.toNat_natCast, wrS hx (by omega)]
        obtain ⟨a1, a2⟩ := num_at h0 hx
        rw [step hx] at he
        refine ⟨_, a1, a2.mono (by decide), fun w hw => ⟨q, _, hz, hw, sq.mono (by decide), a2.mono (by decide), fun r hr => ⟨_, hr, sz_add (sq.mono (by decide)) (a2.mono (by decide)), ?_⟩⟩⟩
        by_cases hf : fitV (q + ratOf (l.getD x ByteArray.empty)) = 0
        · rw [if_pos hf] at he
          exact bif_not (bif_pos hf (ih (x + 1, r) ⟨by show x + 1 ≤ l.length; omega, _, hr, fit_sz hf, he⟩ (by show l.length - (x + 1) < l.length - x; omega)))
        · rw [if_neg hf] at he
          rw [← he] at hk
          exact bif_not (bif_neg hf (hk _ _ _ rfl rfl))
      · rw [List.drop_eq_nil_of_le (by omega)] at he
        rw [← he] at hk
        refine bif_neg (by omega) ⟨q, hz, sq.mono (by decide), ?_⟩
        rw [told_of sq, fit_of sq]
        exact hk _ _ _ rfl rfl)
    have start := roundN (f := 6) (gn := fnT Tryz.f6) (n0 := n0) (K := resK Q) (r := 8) (st := lsum_s8_0 l (l.length : Int) 0) (by kernel_rfl) conL1_ok (inl := []) (LT := lsum_live) (NT := lsum_nils) (by
      rw [lsum_s8_0_E]
      by_cases hx : 0 < l.length
      · refine bif_pos (by omega) (bif_and (bif_pos (by omega) (bif_pos (by omega) ?_)))
        obtain ⟨a1, a2⟩ := num_at h0 hx
        have he := step (q := 0) hx
        rw [List.drop_zero] at he
        refine ⟨_, a1, a2.mono (by decide), fun w hw => ⟨0, _, QV.zero, hw, sz_zero.mono (by decide), a2.mono (by decide), fun r hr => ⟨_, hr, sz_add (sz_zero.mono (by decide)) (a2.mono (by decide)), ?_⟩⟩⟩
        by_cases hf : fitV (0 + ratOf (l.getD 0 ByteArray.empty)) = 0
        · rw [if_pos hf] at he
          exact bif_not (bif_pos hf (main (1, r) ⟨by show 1 ≤ l.length; omega, _, hr, fit_sz hf, he.symm⟩))
        · rw [if_neg hf] at he
          rw [he] at hk
          exact bif_not (bif_neg hf (hk _ _ _ rfl rfl))
      · have hl : l = [] := List.length_eq_zero_iff.1 (by omega)
        have he : sumF 0 l = some 0 := by rw [hl]; rfl
        rw [he] at hk
        have s0 : Sz 2000 0 := sz_zero.mono (by decide)
        refine bif_neg (by omega) ⟨0, QV.zero, sz_zero.mono (by decide), ?_⟩
        rw [told_of s0, fit_of s0]
        exact hk _ _ _ rfl rfl)
    exact start
  · simp only [if_neg h0] at hk
    exact bif_not (bif_neg h0 (hk _ _ _ rfl rfl))
theorem bestK_lt (h : 0 < l.length) : ∀ x, x ≤ l.length → bestK l x < l.length
  | 0, _ => h
  | x + 1, hx => by
    unfold bestK
    split
    · omega
    · exact bestK_lt h x (by omega)
theorem best_con (h : bestT l Q) : Con Tryz.prog 7 [.imm eS l] Q := by
  obtain ⟨ht, hq⟩ := h
  refine conN (gn := fnT Tryz.f7) (by kernel_rfl) conL1_ok (inl := []) (LT := lbest_live) (NT := lbest_nils) rfl fun n0 => ?_
  rw [lbest_E]
  have hk : ∀ s e H, bestV l = s → bestE l = e → resK Q (.tup [.int .i64 s, .int .i64 e]) H := fun s e H h1 h2 => by
    rw [h1, h2] at hq
    exact res_plain hq rfl rfl
  unfold bestV bestE at hk
  by_cases h1 : 256 < l.length
  · simp only [if_pos h1] at hk
    exact bif_pos (by omega) (hk _ _ _ rfl rfl)
  refine bif_neg (by omega) ?_
  simp only [if_neg h1] at hk
  by_cases h2 : l.length = 0
  · simp only [if_pos h2] at hk
    exact bif_pos (by omega) (hk _ _ _ rfl rfl)
  refine bif_neg (by omega) ⟨ht, ?_⟩
  simp only [if_neg h2] at hk
  by_cases h0 : ratErrs l = 0
  · simp only [if_pos h0] at hk
    refine bif_not (bif_pos h0 ?_)
    refine loopN (f := 7) (gn := fnT Tryz.f7) (n0 := n0) (K := resK Q) (r := 10) (by kernel_rfl) conL1_ok (inl := []) (LT := lbest_live) (NT := lbest_nils) (fun x : Nat => lbest_s10_0 l ((bestK l x : Nat) : Int) (l.length : Int) (x : Int)) (fun x => l.length - x) (fun x => x ≤ l.length) (fun x hp ih => ?_) 0 (Nat.zero_le _)
    rw [lbest_s10_0_E]
    by_cases hx : x < l.length
    · have hb := bestK_lt (l := l) (by omega) x hp
      refine bif_pos (by omega) (bif_and (bif_pos (by omega) (bif_pos (by omega) (bif_and (bif_pos (by omega) (bif_pos (by omega) ?_))))))
      rw [Int.toNat_natCast, Int.toNat_natCast, wrS hx (by omega)]
      obtain ⟨a1, a2⟩ := num_at h0 hx
      obtain ⟨b1, b2⟩ := num_at h0 hb
      have go := ih (x + 1) (by omega) (by omega)
      have e : bestK l (x + 1) = if 0 < sgn (ratOf (l.getD x ByteArray.empty) - ratOf (l.getD (bestK l x) ByteArray.empty)) then x else bestK l x := rfl
      rw [e] at go
      refine ⟨_, a1, a2.mono (by decide), fun z hz => ⟨_, b1, b2.mono (by decide), fun w hw => ⟨_, _, hz, hw, a2.mono (by decide), b2.mono (by decide), ?_⟩⟩⟩
      by_cases hc : 0 < sgn (ratOf (l.getD x ByteArray.empty) - ratOf (l.getD (bestK l x) ByteArray.empty))
      · rw [if_pos hc] at go
        exact bif_pos hc go
      · rw [if_neg hc] at go
        exact bif_neg hc go
    · have hxx : x = l.length := by omega
      subst hxx
      exact bif_neg (by omega) (hk _ _ _ rfl h0)
  · simp only [if_neg h0] at hk
    exact bif_not (bif_neg h0 (hk _ _ _ rfl rfl))
theorem conL2_ok : ∀ g xs Q, conL2 g xs Q → Con Tryz.prog g xs Q := table_ok fun p hp => by
  simp only [List.mem_cons, List.not_mem_nil, or_false] at hp
  rcases hp with rfl | rfl | rfl | rfl | rfl
  · exact c2_ok fun _ _ _ h => quo_con h
  · exact c1_ok fun _ _ h => sign_con h
  · exact c1_ok fun _ _ h => in_con h
  · exact c1_ok fun _ _ h => told_con h
  · exact c1_ok fun _ _ h => sum_con h
theorem sumE_zero (h : sumE l = 0) : l.length ≤ 256 ∧ ratErrs l = 0 ∧ ∃ q, sumF 0 l = some q ∧ sumS l = ratText q := by
  unfold sumE lisE at h
  by_cases h1 : 256 < l.length
  · simp only [if_pos h1] at h; cases h
  simp only [if_neg h1] at h
  by_cases h0 : ratErrs l = 0
  · simp only [if_pos h0] at h
    refine ⟨by omega, h0, ?_⟩
    cases hs : sumF 0 l with
    | none => rw [hs] at h; cases h
    | some q =>
      refine ⟨q, rfl, ?_⟩
      unfold sumS lisE
      rw [if_neg h1, if_pos h0, hs]
  · simp only [if_neg h0] at h
    exact absurd h h0
theorem sumF_fit : ∀ {l : List ByteArray} {q p : Rat}, Sz 2000 q → sumF q l = some p → Sz 2000 p
  | [], q, p, hq, h => by cases h; exact hq
  | s :: l, q, p, hq, h => by
    unfold sumF at h
    split at h
    · rename_i hf
      exact sumF_fit (fit_sz hf) h
    · cases h
theorem neg_at {x : Nat} (hx : x < l.length) (h : sgn (ratOf (l.getD x ByteArray.empty)) < 0) : negative l = true :=
  List.any_eq_true.2 ⟨_, getD_mem hx, decide_eq_true h⟩
theorem neg_none (h : ∀ x, x < l.length → ¬ sgn (ratOf (l.getD x ByteArray.empty)) < 0) : negative l = false := by
  cases hn : negative l with
  | false => rfl
  | true =>
    obtain ⟨s, hs, hd⟩ := List.any_eq_true.1 hn
    obtain ⟨i, hi, rfl⟩ := List.getElem_of_mem hs
    refine absurd (of_decide_eq_true hd) ?_
    have := h i hi
    rw [List.getD_eq_getElem?_getD, List.getElem?_eq_getElem hi] at this
    exact this
theorem sgn_zero {q : Rat} : sgn q = 0 ↔ q = 0 := by
  unfold sgn
  constructor
  · intro h
    split at h
    · rename_i h0; exact Rat.num_eq_zero.1 h0
    · split at h <;> cases h
  · intro h
    rw [h]; rfl
theorem shares_con (h : shareT l Q) : Con Tryz.prog 8 [.imm eS l] Q := by
  obtain ⟨ht, hq⟩ := h
  refine outL_seal (e := eS) (l := shareV l) (n := shareE l) ?_ hq
  refine conN (gn := fnT Tryz.f8) (by kernel_rfl) conL2_ok (inl := []) (LT := lshares_live) (NT := lshares_nils) rfl fun n0 => ?_
  rw [lshares_E]
  refine ⟨ht, ?_⟩
  have hnil : ∀ e H, shareE l = e → e ≠ 0 → resK (outL eS (shareV l) (shareE l)) (.tup [.nils, .int .i64 e]) H := fun e H h1 h2 => by
    rw [h1]
    exact outL_nil (by unfold shareV; rw [h1, if_neg h2]; rfl)
  by_cases hs : sumE l = 0
  · refine bif_not (bif_pos hs ?_)
    obtain ⟨hl, h0, p, hp, hps⟩ := sumE_zero hs
    have sp := sumF_fit (sz_zero.mono (by decide)) hp
    have hof : ratOf (sumS l) = p := by rw [hps, ratOf_text]
    rw [hps]
    refine loopN (f := 8) (gn := fnT Tryz.f8) (n0 := n0) (r := 5) (by kernel_rfl) conL2_ok (inl := []) (LT := lshares_live) (NT := lshares_nils) (fun x : Nat => lshares_s5_0 l (ratText p) (l.length : Int) (x : Int)) (fun x => l.length - x) (fun x => x ≤ l.length ∧ ∀ y, y < x → ¬ sgn (ratOf (l.getD y ByteArray.empty)) < 0) (fun x hpre ih => ?_) 0 ⟨Nat.zero_le _, fun y hy => absurd hy (Nat.not_lt_zero _)⟩
    obtain ⟨hxl, hneg⟩ := hpre
    rw [lshares_s5_0_E]
    by_cases hx : x < l.length
    · refine bif_pos (by omega) (bif_and (bif_pos (by omega) (bif_pos (by omega) ?_)))
      rw [Int.toNat_natCast, wrS hx (by omega)]
      obtain ⟨a1, a2⟩ := num_at h0 hx
      refine ⟨_, a1, a2.mono (by decide), fun z hz => ⟨_, hz, ?_⟩⟩
      by_cases hc : sgn (ratOf (l.getD x ByteArray.empty)) < 0
      · refine bif_pos hc (hnil 4 _ ?_ (by decide))
        unfold shareE
        rw [if_neg (fun h => h hs), if_pos (neg_at hx hc)]
      · refine bif_neg hc (ih (x + 1) ⟨by omega, fun y hy => ?_⟩ (by omega))
        by_cases hyx : y = x
        · rw [hyx]; exact hc
        · exact hneg y (by omega)
    · have hxx : x = l.length := by omega
      subst hxx
      have hn := neg_none hneg
      refine bif_neg (by omega) ⟨p, rfl, sp.mono (by decide), fun z hz => ⟨p, hz, ?_⟩⟩
      by_cases hp0 : p = 0
      · refine bif_pos (sgn_zero.2 hp0) (hnil 18 _ ?_ (by decide))
        unfold shareE
        rw [if_neg (fun h => h hs), hn, if_neg (by decide), hof, if_pos hp0]
      · refine bif_neg (fun h => hp0 (sgn_zero.1 h)) ?_
        have hE : shareE l = if (quoF p l).isSome then 0 else 2 := by
          unfold shareE
          rw [if_neg (fun h => h hs), hn, if_neg (by decide), hof, if_neg hp0]
        obtain ⟨zb, zn, zd⟩ := z
        refine loopN (f := 8) (gn := fnT Tryz.f8) (n0 := n0) (r := 15) (by kernel_rfl) conL2_ok (inl := []) (LT := lshares_live) (NT := lshares_nils) (fun y : Nat × List ByteArray => lshares_s15_0 l (l.length : Int) (y.1 : Int) zb zn zd y.2) (fun y => l.length - y.1) (fun y => y.1 ≤ l.length ∧ y.2.length = y.1 ∧ quoF p l = (quoF p (l.drop y.1)).map (y.2 ++ ·)) (fun y hy ih2 => ?_) (0, []) ⟨Nat.zero_le _, rfl, by rw [List.drop_zero]; cases quoF p l <;> rfl⟩
        obtain ⟨x, acc⟩ := y
        obtain ⟨hy1, hy2, hy3⟩ := hy
        simp only at hy1 hy2 hy3
        show execN _ _ _ _ _ _ (lshares_s15_0 l (l.length : Int) (x : Int) zb zn zd acc)
        rw [lshares_s15_0_E]
        by_cases hx : x < l.length
        · refine bif_pos (by omega) (bif_and (bif_pos (by omega) (bif_pos (by omega) ?_)))
          rw [Int.toNat_natCast, wrS hx (by omega)]
          obtain ⟨a1, a2⟩ := num_at h0 hx
          have hq1 : quoF p (l.drop x) = if fitV (ratOf (l.getD x ByteArray.empty) / p) = 0 then (match quoF p (l.drop (x + 1)) with | some r => some (ratText (ratOf (l.getD x ByteArray.empty) / p) :: r) | none => none) else none := by
            rw [drop_at hx]; rfl
          refine ⟨_, a1, a2.mono (by decide), fun w hw => ⟨_, p, hw, hz, a2.mono (by decide), sp.mono (by decide), fun r hr => ⟨_, hr, sz_quo (a2.mono (by decide)) (sp.mono (by decide)), ?_⟩⟩⟩
          by_cases hf : fitV (ratOf (l.getD x ByteArray.empty) / p) = 0
          · rw [if_pos hf] at hq1
            have sf := fit_sz hf
            refine bif_not (bif_pos hf (bif_t ?_ ?_))
            · have : acc.length + [toldV (ratOf (l.getD x ByteArray.empty) / p)].length = x + 1 := by rw [hy2]; rfl
              rw [this, (ble_iff _ _).2 (show x + 1 ≤ 9223372036854775807 by omega)]
              exact (ble_iff _ _).2 (by omega)
            · refine ih2 (x + 1, acc ++ [toldV (ratOf (l.getD x ByteArray.empty) / p)]) ⟨by show x + 1 ≤ l.length; omega, ?_, ?_⟩ (by show l.length - (x + 1) < l.length - x; omega)
              · show (acc ++ [_]).length = x + 1
                rw [List.length_append, hy2]; rfl
              · rw [hy3, hq1, told_of sf]
                cases quoF p (l.drop (x + 1)) with
                | none => rfl
                | some r => simp
          · rw [if_neg hf] at hq1
            have hnone : quoF p l = none := by rw [hy3, hq1]; rfl
            have hE2 : shareE l = 2 := by rw [hE, hnone]; rfl
            have hf2 : fitV (ratOf (l.getD x ByteArray.empty) / p) = 2 := by
              unfold fitV at hf ⊢
              split at hf
              · rename_i h; rw [if_pos h]
              · exact absurd rfl hf
            rw [hf2]
            exact bif_not (bif_neg (by decide) (hnil 2 _ hE2 (by decide)))
        · rw [List.drop_eq_nil_of_le (by omega)] at hy3
          have hsome : quoF p l = some acc := by
            rw [hy3]
            show some (acc ++ []) = _
            rw [List.append_nil]
          have hE0 : shareE l = 0 := by rw [hE, hsome]; rfl
          have hV : shareV l = acc := by unfold shareV; rw [if_pos hE0, hof, hsome]; rfl
          refine bif_neg (by omega) ?_
          rw [hV, hE0]
          exact outL_own rfl
  · refine bif_not (bif_neg hs (hnil _ _ ?_ hs))
    unfold shareE
    rw [if_pos hs]
theorem odds_con (h : oddsT l Q) : Con Tryz.prog 9 [.imm eS l] Q := by
  obtain ⟨ht, hq⟩ := h
  refine conN (gn := fnT Tryz.f9) (by kernel_rfl) conL2_ok (inl := []) (LT := lodds_live) (NT := lodds_nils) rfl fun n0 => ?_
  rw [lodds_E]
  refine ⟨ht, ?_⟩
  have hk : ∀ e, oddsE l = e → resK Q (.int .i64 e) [] := fun e h1 => by
    rw [h1] at hq
    exact res_int hq
  unfold oddsE at hk
  by_cases hs : sumE l = 0
  · rw [if_neg (fun h => h hs)] at hk
    refine bif_not (bif_pos hs ?_)
    obtain ⟨hl, h0, p, hp, hps⟩ := sumE_zero hs
    refine loopN (f := 9) (gn := fnT Tryz.f9) (n0 := n0) (r := 5) (by kernel_rfl) conL2_ok (inl := []) (LT := lodds_live) (NT := lodds_nils) (fun x : Nat => lodds_s5_0 l (sumS l) (l.length : Int) (x : Int)) (fun x => l.length - x) (fun x => x ≤ l.length ∧ ∀ y, y < x → ¬ sgn (ratOf (l.getD y ByteArray.empty)) < 0) (fun x hpre ih => ?_) 0 ⟨Nat.zero_le _, fun y hy => absurd hy (Nat.not_lt_zero _)⟩
    obtain ⟨hxl, hneg⟩ := hpre
    rw [lodds_s5_0_E]
    by_cases hx : x < l.length
    · refine bif_pos (by omega) (bif_and (bif_pos (by omega) (bif_pos (by omega) ?_)))
      rw [Int.toNat_natCast, wrS hx (by omega)]
      obtain ⟨a1, a2⟩ := num_at h0 hx
      refine ⟨_, a1, a2.mono (by decide), fun z hz => ⟨_, hz, ?_⟩⟩
      by_cases hc : sgn (ratOf (l.getD x ByteArray.empty)) < 0
      · rw [if_pos (neg_at hx hc)] at hk
        exact bif_pos hc (hk _ rfl)
      · refine bif_neg hc (ih (x + 1) ⟨by omega, fun y hy => ?_⟩ (by omega))
        by_cases hyx : y = x
        · rw [hyx]; exact hc
        · exact hneg y (by omega)
    · have hxx : x = l.length := by omega
      subst hxx
      rw [neg_none hneg, if_neg (by decide)] at hk
      refine bif_neg (by omega) ?_
      by_cases h1 : sumS l = ⟨#[49]⟩
      · rw [if_pos h1] at hk
        exact bif_not (bif_t (bytes49.2 h1) (hk _ rfl))
      · rw [if_neg h1] at hk
        exact bif_not (bif_f (fun h => h1 (bytes49.1 h)) (hk _ rfl))
  · rw [if_pos hs] at hk
    exact bif_not (bif_neg hs (hk _ rfl))
end
end Go.Proofs.YtolikobhjmnedaaGreatDoor.Lib
end
section
/- The law RatLists: what it calls, by contracts. -/
set_option linter.unusedVariables false
namespace Go.Proofs.YtolikobhjmnedaaGreatDoor.Lib
open Go Go.Proofs.YtolikobhjmnedaaGreatDoor.Mach Go.Proofs.YtolikobhjmnedaaGreatDoorW.PrintWords Go.Proofs.YtolikobhjmnedaaGreatDoor.Sem Go.Proofs.YtolikobhjmnedaaGreatDoor.Pure
/-- the weight: any number -/
def weightS (l : List (List ByteArray)) (Q : Res) : Prop := (l.length ≤ 1000000000000000 ∧ ∀ r ∈ l, r.length ≤ 1000000000000000) ∧ ∀ n : Int, Q (.int .i64 n) []
def getFn (f : Nat) : AV → Option Unit
  | .fn g cs => (match cs with | [] => (if g = f then some () else none) | _ => none)
  | _ => none
def vFn (f : Nat) : View Unit := ⟨getFn f, fun _ => .fn f [], fun {x a} h {c w v} hx => by
  unfold getFn at h
  split at h
  · split at h
    · split at h
      · rename_i hg; subst hg; exact hx
      · cases h
    · cases h
  · cases h⟩
/-- the place of the first one of more than 60 bytes, or -1 -/
def idxV (l : List ByteArray) : Int := match l.findIdx? fun s => decide (60 < s.size) with | some i => (i : Int) | none => -1
def idxS (l : List ByteArray) (_ : Unit) (Q : Res) : Prop := l.length ≤ 1000000000000000 ∧ Q (.int .i64 (idxV l)) []
def shortV (l : List ByteArray) : Bool := decide (l.length ≤ 12) && !decide (0 ≤ idxV l)
def shortS (l : List ByteArray) (Q : Res) : Prop := l.length ≤ 1000000000000000 ∧ Q (.bool (shortV l)) []
noncomputable def conV1 : FuncId → List AV → Res → Prop := tableC [(70, c2 vLS (vFn 38) idxS)]
def trueF (Q : Res) : Prop := Q (.bool true) []
noncomputable def conV2 : FuncId → List AV → Res → Prop := tableC [(4, c0 trueF), (5, c1 vT weightS), (11, c1 vLS shortS), (6, c1 vLS sumT), (7, c1 vLS bestT), (8, c1 vLS shareT), (9, c1 vLS oddsT), (10, c1 vLS rchecksS), (12, c2 vS vS xadd), (15, c2 vS vS xdiv), (13, c1 vS xsign), (14, c2 vS vS xcmp)]
end Go.Proofs.YtolikobhjmnedaaGreatDoor.Lib
end
section
/- Equations of functions (printed). -/
namespace Go.Proofs.YtolikobhjmnedaaGreatDoor.Mach
open Go Go.Proofs.YtolikobhjmnedaaGreatDoor Go.Proofs.YtolikobhjmnedaaGreatDoor.Lib
set_option linter.unusedVariables false
def vweight_live : List (Nat × List Nat) := [(3, [3, 8, 9, 10]), (6, [3, 8, 9, 10, 14, 15, 16])]
def vweight_nils : List (Nat × ETy) := [(8, ETy.one (CTy.slice (ETy.one CTy.str))), (14, ETy.one CTy.str)]
noncomputable def vweight_s3_0 (l : List (List ByteArray)) (x0 : Int) (x1 : Int) (x2 : Int) : St := stOf 27 [(3, AV.int IntKind.i64 x0), (8, AV.imm (ETy.one (CTy.slice (ETy.one CTy.str))) l), (9, AV.int IntKind.i64 x1), (10, AV.int IntKind.i64 x2)] []
noncomputable def vweight_s6_0 (l : List (List ByteArray)) (x0 : Int) (x1 : Int) (x2 : Int) (x3 : List ByteArray) (x4 : Int) (x5 : Int) : St := stOf 27 [(3, AV.int IntKind.i64 x0), (8, AV.imm (ETy.one (CTy.slice (ETy.one CTy.str))) l), (9, AV.int IntKind.i64 x1), (10, AV.int IntKind.i64 x2), (14, AV.imm (ETy.one CTy.str) x3), (15, AV.int IntKind.i64 x4), (16, AV.int IntKind.i64 x5)] []
set_option maxRecDepth 1000000 in
theorem vweight_E (l : List (List ByteArray)) (n0 : Nat) (K : AV → List HObj → Prop) :
    execN tab (mixE tab con0 [] 400) (maskN vweight_live vweight_nils (GoodL Tryz.prog n0 5 K)) (finK tab (fnT Tryz.f5).res K) 400 [.code (fnT Tryz.f5).body] ⟨initEnv (fnT Tryz.f5).n [AV.imm (ETy.one (CTy.slice (ETy.one CTy.str))) l], []⟩ =
    (GoodL Tryz.prog n0 5 K (headAt (fnT Tryz.f5) 3) (vweight_s3_0 l 0 (↑l.length : Int) 0)) := by kernel_rfl
set_option maxRecDepth 1000000 in
theorem vweight_s3_0_E (l : List (List ByteArray)) (x0 : Int) (x1 : Int) (x2 : Int) (n0 : Nat) (K : AV → List HObj → Prop) :
    execN tab (mixE tab con0 [] 400) (maskN vweight_live vweight_nils (GoodL Tryz.prog n0 5 K)) (finK tab (fnT Tryz.f5).res K) 400 (roundAt (fnT Tryz.f5) 3) (vweight_s3_0 l x0 x1 x2) =
    (bif decide (x2 < x1) then bif decide (0 ≤ x2) && decide (x2 < (↑l.length : Int)) then GoodL Tryz.prog n0 5 K (headAt (fnT Tryz.f5) 6) (vweight_s6_0 l x0 x1 x2 (l.getD x2.toNat []) (↑(List.length (l.getD x2.toNat [])) : Int) 0) else False else K (AV.int IntKind.i64 x0) []) := by kernel_rfl
set_option maxRecDepth 1000000 in
theorem vweight_s6_0_E (l : List (List ByteArray)) (x0 : Int) (x1 : Int) (x2 : Int) (x3 : List ByteArray) (x4 : Int) (x5 : Int) (n0 : Nat) (K : AV → List HObj → Prop) :
    execN tab (mixE tab con0 [] 400) (maskN vweight_live vweight_nils (GoodL Tryz.prog n0 5 K)) (finK tab (fnT Tryz.f5).res K) 400 (roundAt (fnT Tryz.f5) 6) (vweight_s6_0 l x0 x1 x2 x3 x4 x5) =
    (bif decide (x5 < x4) then bif decide (0 ≤ x5) && decide (x5 < (↑x3.length : Int)) then GoodL Tryz.prog n0 5 K (headAt (fnT Tryz.f5) 6) (vweight_s6_0 l (IntKind.i64.wrap (x0 + (↑(ByteArray.size (x3.getD x5.toNat ByteArray.empty)) : Int))) x1 x2 x3 x4 (IntKind.i64.wrap (x5 + 1))) else False else GoodL Tryz.prog n0 5 K (headAt (fnT Tryz.f5) 3) (vweight_s3_0 l x0 x1 (IntKind.i64.wrap (x2 + 1)))) := by kernel_rfl
def vidx_live : List (Nat × List Nat) := [(2, [0, 1, 7, 8])]
def vidx_nils : List (Nat × ETy) := []
noncomputable def vidx_s2_0 (l : List ByteArray) (x0 : Int) (x1 : Int) : St := stOf 19 [(0, AV.imm (ETy.one CTy.str) l), (1, AV.fn 38 []), (7, AV.int IntKind.i64 x0), (8, AV.int IntKind.i64 x1)] []
set_option maxRecDepth 1000000 in
theorem vidx_E (l : List ByteArray) (n0 : Nat) (K : AV → List HObj → Prop) :
    execN tab (mixE tab con0 [38] 400) (maskN vidx_live vidx_nils (GoodL Tryz.prog n0 70 K)) (finK tab (fnT Tryz.f70).res K) 400 [.code (fnT Tryz.f70).body] ⟨initEnv (fnT Tryz.f70).n [AV.imm (ETy.one CTy.str) l, AV.fn 38 []], []⟩ =
    (GoodL Tryz.prog n0 70 K (headAt (fnT Tryz.f70) 2) (vidx_s2_0 l (↑l.length : Int) 0)) := by kernel_rfl
set_option maxRecDepth 1000000 in
theorem vidx_s2_0_E (l : List ByteArray) (x0 : Int) (x1 : Int) (n0 : Nat) (K : AV → List HObj → Prop) :
    execN tab (mixE tab con0 [38] 400) (maskN vidx_live vidx_nils (GoodL Tryz.prog n0 70 K)) (finK tab (fnT Tryz.f70).res K) 400 (roundAt (fnT Tryz.f70) 2) (vidx_s2_0 l x0 x1) =
    (bif decide (x1 < x0) then bif decide (0 ≤ x1) && decide (x1 < (↑l.length : Int)) then bif decide ((↑(ByteArray.size (l.getD x1.toNat ByteArray.empty)) : Int) > 60) then K (AV.int IntKind.i64 x1) [] else GoodL Tryz.prog n0 70 K (headAt (fnT Tryz.f70) 2) (vidx_s2_0 l x0 (IntKind.i64.wrap (x1 + 1))) else False else K (AV.int IntKind.i64 (-1)) []) := by kernel_rfl
def vshort_live : List (Nat × List Nat) := []
def vshort_nils : List (Nat × ETy) := []
set_option maxRecDepth 1000000 in
theorem vshort_E (l : List ByteArray) (n0 : Nat) (K : AV → List HObj → Prop) :
    execN tab (mixE tab conV1 [37] 400) (maskN vshort_live vshort_nils (GoodL Tryz.prog n0 11 K)) (finK tab (fnT Tryz.f11).res K) 400 [.code (fnT Tryz.f11).body] ⟨initEnv (fnT Tryz.f11).n [AV.imm (ETy.one CTy.str) l], []⟩ =
    (bif decide ((↑l.length : Int) ≤ 12) then l.length ≤ 1000000000000000 ∧ K (AV.bool (bif true then !decide (idxV l ≥ 0) else false)) [] else K (AV.bool false) []) := by kernel_rfl
def vlists_live : List (Nat × List Nat) := [(20, [0, 3, 4, 5, 6, 7, 8, 9, 11, 12, 13, 14]), (33, [0, 7, 8, 9, 11, 188, 189, 190])]
def vlists_nils : List (Nat × ETy) := [(7, ETy.one CTy.str), (188, ETy.one CTy.str)]
noncomputable def vlists_s20_0 (l : List ByteArray) (x0 : ByteArray) (x1 : Int) (x2 : Int) (x3 : Int) (x4 : List ByteArray) (x5 : Int) (x6 : Int) (x7 : ByteArray) (x8 : Int) (x9 : Int) : St := stOf 228 [(0, AV.imm (ETy.one CTy.str) l), (3, AV.str x0), (4, AV.int IntKind.i64 x1), (5, AV.int IntKind.i64 x2), (6, AV.int IntKind.i64 x3), (7, AV.imm (ETy.one CTy.str) x4), (8, AV.int IntKind.i64 x5), (9, AV.int IntKind.i64 x6), (11, AV.str x7), (12, AV.int IntKind.i64 x8), (13, AV.bool false), (14, AV.int IntKind.i64 x9)] []
noncomputable def vlists_s20_1 (l : List ByteArray) (x0 : ByteArray) (x1 : Int) (x2 : Int) (x3 : Int) (x4 : List ByteArray) (x5 : Int) (x6 : Int) (x7 : ByteArray) (x8 : Int) (x9 : Bool) (x10 : Int) : St := stOf 228 [(0, AV.imm (ETy.one CTy.str) l), (3, AV.str x0), (4, AV.int IntKind.i64 x1), (5, AV.int IntKind.i64 x2), (6, AV.int IntKind.i64 x3), (7, AV.imm (ETy.one CTy.str) x4), (8, AV.int IntKind.i64 x5), (9, AV.int IntKind.i64 x6), (11, AV.str x7), (12, AV.int IntKind.i64 x8), (13, AV.bool x9), (14, AV.int IntKind.i64 x10)] []
noncomputable def vlists_s33_0 (l : List ByteArray) (x0 : List ByteArray) (x1 : Int) (x2 : Int) (x3 : ByteArray) (x4 : Int) (x5 : Int) : St := stOf 228 [(0, AV.imm (ETy.one CTy.str) l), (7, AV.imm (ETy.one CTy.str) x0), (8, AV.int IntKind.i64 x1), (9, AV.int IntKind.i64 x2), (11, AV.str x3), (188, AV.imm (ETy.one CTy.str) l), (189, AV.int IntKind.i64 x4), (190, AV.int IntKind.i64 x5)] []
noncomputable def vlists_s20_2 (l : List ByteArray) (x0 : ByteArray) (x1 : Int) (x2 : Int) (x3 : Int) (x4 : List ByteArray) (x5 : Int) (x6 : Int) (x7 : ByteArray) (x8 : Int) (x9 : Int) : St := stOf 228 [(0, AV.imm (ETy.one CTy.str) l), (3, AV.str x0), (4, AV.int IntKind.i64 x1), (5, AV.int IntKind.i64 x2), (6, AV.int IntKind.i64 x3), (7, AV.imm (ETy.one CTy.str) x4), (8, AV.int IntKind.i64 x5), (9, AV.int IntKind.i64 x6), (11, AV.str x7), (12, AV.int IntKind.i64 x8), (13, AV.bool true), (14, AV.int IntKind.i64 x9)] []
set_option maxRecDepth 1000000 in
theorem vlists_E (l : List ByteArray) (n0 : Nat) (K : AV → List HObj → Prop) :
    execN tab (mixE tab conV2 [] 400) (maskN vlists_live vlists_nils (GoodL Tryz.prog n0 3 K)) (finK tab (fnT Tryz.f3).res K) 400 [.code (fnT Tryz.f3).body] ⟨initEnv (fnT Tryz.f3).n [AV.imm (ETy.one CTy.str) l], []⟩ =
    (([l].length ≤ 1000000000000000 ∧ ∀ (r : List ByteArray), r ∈ [l] → r.length ≤ 1000000000000000) ∧ ∀ (n : Int), bif decide (n > 6000) then K (AV.bool true) [HObj.typed (ETy.one (CTy.slice (ETy.one CTy.str))) [l] false] else TxL l ∧ TxL l ∧ TxL l ∧ TxL l ∧ TxL l ∧ bif decide ((↑l.length : Int) > 256) then bif decide (sumE l = 2) then bif bif true then decide (bestE l = 2) else false then bif bif true then decide (shareE l = 2) else false then bif bif true then decide (oddsE l = 2) else false then bif bif true then (sumS l).toList == (ByteArray.mk #[]).toList else false then bif bif true then decide (bestV l = 0) else false then K (AV.bool (bif true then decide ((↑(shareV l).length : Int) = 0) else false)) [HObj.typed (ETy.one (CTy.slice (ETy.one CTy.str))) [l] false] else K (AV.bool false) [HObj.typed (ETy.one (CTy.slice (ETy.one CTy.str))) [l] false] else K (AV.bool false) [HObj.typed (ETy.one (CTy.slice (ETy.one CTy.str))) [l] false] else K (AV.bool false) [HObj.typed (ETy.one (CTy.slice (ETy.one CTy.str))) [l] false] else K (AV.bool false) [HObj.typed (ETy.one (CTy.slice (ETy.one CTy.str))) [l] false] else K (AV.bool false) [HObj.typed (ETy.one (CTy.slice (ETy.one CTy.str))) [l] false] else K (AV.bool false) [HObj.typed (ETy.one (CTy.slice (ETy.one CTy.str))) [l] false] else bif !decide (ratErrs l = 0) then bif decide (sumE l = ratErrs l) then bif bif true then decide (bestE l = ratErrs l) else false then bif bif true then decide (shareE l = ratErrs l) else false then bif bif true then decide (oddsE l = ratErrs l) else false then bif bif true then (sumS l).toList == (ByteArray.mk #[]).toList else false then bif bif true then decide (bestV l = 0) else false then K (AV.bool (bif true then decide ((↑(shareV l).length : Int) = 0) else false)) [HObj.typed (ETy.one (CTy.slice (ETy.one CTy.str))) [l] false] else K (AV.bool false) [HObj.typed (ETy.one (CTy.slice (ETy.one CTy.str))) [l] false] else K (AV.bool false) [HObj.typed (ETy.one (CTy.slice (ETy.one CTy.str))) [l] false] else K (AV.bool false) [HObj.typed (ETy.one (CTy.slice (ETy.one CTy.str))) [l] false] else K (AV.bool false) [HObj.typed (ETy.one (CTy.slice (ETy.one CTy.str))) [l] false] else K (AV.bool false) [HObj.typed (ETy.one (CTy.slice (ETy.one CTy.str))) [l] false] else K (AV.bool false) [HObj.typed (ETy.one (CTy.slice (ETy.one CTy.str))) [l] false] else bif decide ((↑l.length : Int) = 0) then bif decide (sumE l = 0) then bif bif true then (sumS l).toList == (ByteArray.mk #[48]).toList else false then bif bif true then decide (bestE l = 8) else false then bif bif true then decide (shareE l = 18) else false then bif bif true then decide (oddsE l = 3) else false then bif bif true then decide (bestV l = 0) else false then K (AV.bool (bif true then decide ((↑(shareV l).length : Int) = 0) else false)) [HObj.typed (ETy.one (CTy.slice (ETy.one CTy.str))) [l] false] else K (AV.bool false) [HObj.typed (ETy.one (CTy.slice (ETy.one CTy.str))) [l] false] else K (AV.bool false) [HObj.typed (ETy.one (CTy.slice (ETy.one CTy.str))) [l] false] else K (AV.bool false) [HObj.typed (ETy.one (CTy.slice (ETy.one CTy.str))) [l] false] else K (AV.bool false) [HObj.typed (ETy.one (CTy.slice (ETy.one CTy.str))) [l] false] else K (AV.bool false) [HObj.typed (ETy.one (CTy.slice (ETy.one CTy.str))) [l] false] else K (AV.bool false) [HObj.typed (ETy.one (CTy.slice (ETy.one CTy.str))) [l] false] else l.length ≤ 1000000000000000 ∧ bif !shortV l then K (AV.bool true) [HObj.typed (ETy.one (CTy.slice (ETy.one CTy.str))) [l] false] else GoodL Tryz.prog n0 3 K (headAt (fnT Tryz.f3) 20) (vlists_s20_0 l (sumS l) (sumE l) (bestV l) (bestE l) (shareV l) (shareE l) (oddsE l) (ByteArray.mk #[48]) (IntKind.i64.wrap ((↑l.length : Int) - 1)) (IntKind.i64.wrap ((↑l.length : Int) - 1)))) := by kernel_rfl
set_option maxRecDepth 1000000 in
theorem vlists_s20_0_E (l : List ByteArray) (x0 : ByteArray) (x1 : Int) (x2 : Int) (x3 : Int) (x4 : List ByteArray) (x5 : Int) (x6 : Int) (x7 : ByteArray) (x8 : Int) (x9 : Int) (n0 : Nat) (K : AV → List HObj → Prop) :
    execN tab (mixE tab conV2 [] 400) (maskN vlists_live vlists_nils (GoodL Tryz.prog n0 3 K)) (finK tab (fnT Tryz.f3).res K) 400 (roundAt (fnT Tryz.f3) 20) (vlists_s20_0 l x0 x1 x2 x3 x4 x5 x6 x7 x8 x9) =
    (bif decide (x9 ≥ 0) then bif decide (0 ≤ x9) && decide (x9 < (↑l.length : Int)) then ∃ x y, l.getD x9.toNat ByteArray.empty = Sem.ratText x ∧ x7 = Sem.ratText y ∧ Sz 40000 x ∧ Sz 40000 y ∧ bif decide (0 ≤ x9) && decide (x9 < (↑l.length : Int)) then ∃ q, l.getD x9.toNat ByteArray.empty = Sem.ratText q ∧ Sz 90000 q ∧ bif decide (0 ≤ x9) && decide (x9 < (↑l.length : Int)) then bif decide (0 ≤ x8) && decide (x8 < (↑l.length : Int)) then ∃ x_1 y_1, l.getD x9.toNat ByteArray.empty = Sem.ratText x_1 ∧ l.getD x8.toNat ByteArray.empty = Sem.ratText y_1 ∧ Sz 40000 x_1 ∧ Sz 40000 y_1 ∧ bif decide (Sem.sgn (x_1 - y_1) ≥ 0) then GoodL Tryz.prog n0 3 K (headAt (fnT Tryz.f3) 20) (vlists_s20_1 l x0 x1 x2 x3 x4 x5 x6 (Sem.ratText (x + y)) x9 (bif false then true else decide (Sem.sgn q < 0)) (IntKind.i64.wrap (x9 - 1))) else GoodL Tryz.prog n0 3 K (headAt (fnT Tryz.f3) 20) (vlists_s20_1 l x0 x1 x2 x3 x4 x5 x6 (Sem.ratText (x + y)) x8 (bif false then true else decide (Sem.sgn q < 0)) (IntKind.i64.wrap (x9 - 1))) else False else False else False else False else bif !decide (x1 = 0) then K (AV.bool false) [] else bif bif false then true else !x0.toList == x7.toList then K (AV.bool false) [] else bif bif false then true else !decide (x3 = 0) then K (AV.bool false) [] else bif bif false then true else !decide (x2 = x8) then K (AV.bool false) [] else bif x7.toList == (ByteArray.mk #[48]).toList then bif decide (x5 = 18) then bif bif true then decide (x6 = 3) else false then K (AV.bool (bif true then decide ((↑x4.length : Int) = 0) else false)) [] else K (AV.bool false) [] else K (AV.bool false) [] else GoodL Tryz.prog n0 3 K (headAt (fnT Tryz.f3) 33) (vlists_s33_0 l x4 x5 x6 x7 (↑l.length : Int) 0)) := by kernel_rfl
set_option maxRecDepth 1000000 in
theorem vlists_s20_1_E (l : List ByteArray) (x0 : ByteArray) (x1 : Int) (x2 : Int) (x3 : Int) (x4 : List ByteArray) (x5 : Int) (x6 : Int) (x7 : ByteArray) (x8 : Int) (x9 : Bool) (x10 : Int) (n0 : Nat) (K : AV → List HObj → Prop) :
    execN tab (mixE tab conV2 [] 400) (maskN vlists_live vlists_nils (GoodL Tryz.prog n0 3 K)) (finK tab (fnT Tryz.f3).res K) 400 (roundAt (fnT Tryz.f3) 20) (vlists_s20_1 l x0 x1 x2 x3 x4 x5 x6 x7 x8 x9 x10) =
    (bif decide (x10 ≥ 0) then bif decide (0 ≤ x10) && decide (x10 < (↑l.length : Int)) then ∃ x y, l.getD x10.toNat ByteArray.empty = Sem.ratText x ∧ x7 = Sem.ratText y ∧ Sz 40000 x ∧ Sz 40000 y ∧ bif x9 then bif decide (0 ≤ x10) && decide (x10 < (↑l.length : Int)) then bif decide (0 ≤ x8) && decide (x8 < (↑l.length : Int)) then ∃ x_1 y_1, l.getD x10.toNat ByteArray.empty = Sem.ratText x_1 ∧ l.getD x8.toNat ByteArray.empty = Sem.ratText y_1 ∧ Sz 40000 x_1 ∧ Sz 40000 y_1 ∧ bif decide (Sem.sgn (x_1 - y_1) ≥ 0) then GoodL Tryz.prog n0 3 K (headAt (fnT Tryz.f3) 20) (vlists_s20_2 l x0 x1 x2 x3 x4 x5 x6 (Sem.ratText (x + y)) x10 (IntKind.i64.wrap (x10 - 1))) else GoodL Tryz.prog n0 3 K (headAt (fnT Tryz.f3) 20) (vlists_s20_2 l x0 x1 x2 x3 x4 x5 x6 (Sem.ratText (x + y)) x8 (IntKind.i64.wrap (x10 - 1))) else False else False else bif decide (0 ≤ x10) && decide (x10 < (↑l.length : Int)) then ∃ q, l.getD x10.toNat ByteArray.empty = Sem.ratText q ∧ Sz 90000 q ∧ bif decide (0 ≤ x10) && decide (x10 < (↑l.length : Int)) then bif decide (0 ≤ x8) && decide (x8 < (↑l.length : Int)) then ∃ x_1 y_1, l.getD x10.toNat ByteArray.empty = Sem.ratText x_1 ∧ l.getD x8.toNat ByteArray.empty = Sem.ratText y_1 ∧ Sz 40000 x_1 ∧ Sz 40000 y_1 ∧ bif decide (Sem.sgn (x_1 - y_1) ≥ 0) then GoodL Tryz.prog n0 3 K (headAt (fnT Tryz.f3) 20) (vlists_s20_1 l x0 x1 x2 x3 x4 x5 x6 (Sem.ratText (x + y)) x10 (bif false then true else decide (Sem.sgn q < 0)) (IntKind.i64.wrap (x10 - 1))) else GoodL Tryz.prog n0 3 K (headAt (fnT Tryz.f3) 20) (vlists_s20_1 l x0 x1 x2 x3 x4 x5 x6 (Sem.ratText (x + y)) x8 (bif false then true else decide (Sem.sgn q < 0)) (IntKind.i64.wrap (x10 - 1))) else False else False else False else False else bif !decide (x1 = 0) then K (AV.bool false) [] else bif bif false then true else !x0.toList == x7.toList then K (AV.bool false) [] else bif bif false then true else !decide (x3 = 0) then K (AV.bool false) [] else bif bif false then true else !decide (x2 = x8) then K (AV.bool false) [] else bif x9 then bif decide (x5 = 4) then bif bif true then decide (x6 = 4) else false then K (AV.bool (bif true then decide ((↑x4.length : Int) = 0) else false)) [] else K (AV.bool false) [] else K (AV.bool false) [] else bif x7.toList == (ByteArray.mk #[48]).toList then bif decide (x5 = 18) then bif bif true then decide (x6 = 3) else false then K (AV.bool (bif true then decide ((↑x4.length : Int) = 0) else false)) [] else K (AV.bool false) [] else K (AV.bool false) [] else GoodL Tryz.prog n0 3 K (headAt (fnT Tryz.f3) 33) (vlists_s33_0 l x4 x5 x6 x7 (↑l.length : Int) 0)) := by kernel_rfl
set_option maxRecDepth 1000000 in
theorem vlists_s33_0_E (l : List ByteArray) (x0 : List ByteArray) (x1 : Int) (x2 : Int) (x3 : ByteArray) (x4 : Int) (x5 : Int) (n0 : Nat) (K : AV → List HObj → Prop) :
    execN tab (mixE tab conV2 [] 400) (maskN vlists_live vlists_nils (GoodL Tryz.prog n0 3 K)) (finK tab (fnT Tryz.f3).res K) 400 (roundAt (fnT Tryz.f3) 33) (vlists_s33_0 l x0 x1 x2 x3 x4 x5) =
    (bif decide (x5 < x4) then bif decide (0 ≤ x5) && decide (x5 < (↑l.length : Int)) then bif !decide (x1 = 0) then K (AV.bool false) [] else bif bif false then true else !decide ((↑x0.length : Int) = (↑l.length : Int)) then K (AV.bool false) [] else bif decide (0 ≤ x5) && decide (x5 < (↑x0.length : Int)) then ∃ x y, l.getD x5.toNat ByteArray.empty = Sem.ratText x ∧ x3 = Sem.ratText y ∧ Sz 40000 x ∧ Sz 40000 y ∧ y ≠ 0 ∧ bif bif false then true else !ByteArray.toList (x0.getD x5.toNat ByteArray.empty) == (Sem.ratText (x / y)).toList then K (AV.bool false) [] else GoodL Tryz.prog n0 3 K (headAt (fnT Tryz.f3) 33) (vlists_s33_0 l x0 x1 x2 x3 x4 (IntKind.i64.wrap (x5 + 1))) else False else False else bif decide (x2 = 0) == (x3.toList == (ByteArray.mk #[49]).toList) then bif decide (x2 = 0) then K (AV.bool true) [] else K (AV.bool (bif true then bif false then true else decide (x2 = 3) else false)) [] else K (AV.bool false) []) := by kernel_rfl
set_option maxRecDepth 1000000 in
theorem vlists_s20_2_E (l : List ByteArray) (x0 : ByteArray) (x1 : Int) (x2 : Int) (x3 : Int) (x4 : List ByteArray) (x5 : Int) (x6 : Int) (x7 : ByteArray) (x8 : Int) (x9 : Int) (n0 : Nat) (K : AV → List HObj → Prop) :
    execN tab (mixE tab conV2 [] 400) (maskN vlists_live vlists_nils (GoodL Tryz.prog n0 3 K)) (finK tab (fnT Tryz.f3).res K) 400 (roundAt (fnT Tryz.f3) 20) (vlists_s20_2 l x0 x1 x2 x3 x4 x5 x6 x7 x8 x9) =
    (bif decide (x9 ≥ 0) then bif decide (0 ≤ x9) && decide (x9 < (↑l.length : Int)) then ∃ x y, l.getD x9.toNat ByteArray.empty = Sem.ratText x ∧ x7 = Sem.ratText y ∧ Sz 40000 x ∧ Sz 40000 y ∧ bif decide (0 ≤ x9) && decide (x9 < (↑l.length : Int)) then bif decide (0 ≤ x8) && decide (x8 < (↑l.length : Int)) then ∃ x_1 y_1, l.getD x9.toNat ByteArray.empty = Sem.ratText x_1 ∧ l.getD x8.toNat ByteArray.empty = Sem.ratText y_1 ∧ Sz 40000 x_1 ∧ Sz 40000 y_1 ∧ bif decide (Sem.sgn (x_1 - y_1) ≥ 0) then GoodL Tryz.prog n0 3 K (headAt (fnT Tryz.f3) 20) (vlists_s20_2 l x0 x1 x2 x3 x4 x5 x6 (Sem.ratText (x + y)) x9 (IntKind.i64.wrap (x9 - 1))) else GoodL Tryz.prog n0 3 K (headAt (fnT Tryz.f3) 20) (vlists_s20_2 l x0 x1 x2 x3 x4 x5 x6 (Sem.ratText (x + y)) x8 (IntKind.i64.wrap (x9 - 1))) else False else False else False else bif !decide (x1 = 0) then K (AV.bool false) [] else bif bif false then true else !x0.toList == x7.toList then K (AV.bool false) [] else bif bif false then true else !decide (x3 = 0) then K (AV.bool false) [] else bif bif false then true else !decide (x2 = x8) then K (AV.bool false) [] else bif decide (x5 = 4) then bif bif true then decide (x6 = 4) else false then K (AV.bool (bif true then decide ((↑x4.length : Int) = 0) else false)) [] else K (AV.bool false) [] else K (AV.bool false) []) := by kernel_rfl
end Go.Proofs.YtolikobhjmnedaaGreatDoor.Mach
end
section
/- The law RatLists: weight, short; sums, greatest numbers and quotients of lists. -/
set_option linter.unusedVariables false
set_option linter.unusedSimpArgs false
namespace Go.Proofs.YtolikobhjmnedaaGreatDoor.Lib
open Go Go.Proofs.YtolikobhjmnedaaGreatDoor.Mach Go.Proofs.YtolikobhjmnedaaGreatDoorW.PrintWords Go.Proofs.YtolikobhjmnedaaGreatDoor.Sem Go.Proofs.YtolikobhjmnedaaGreatDoor.Pure
theorem weight_con {l : List (List ByteArray)} {Q : Res} (h : weightS l Q) : Con Tryz.prog 5 [.imm (eL eS) l] Q := by
  obtain ⟨⟨hl, hr⟩, hq⟩ := h
  refine conN (gn := fnT Tryz.f5) (by kernel_rfl) con0_ok (inl := []) (LT := vweight_live) (NT := vweight_nils) rfl fun n0 => ?_
  rw [vweight_E]
  refine loopN (f := 5) (gn := fnT Tryz.f5) (n0 := n0) (K := resK Q) (r := 3) (by kernel_rfl) con0_ok (inl := []) (LT := vweight_live) (NT := vweight_nils) (fun y : Int × Nat => vweight_s3_0 l y.1 (l.length : Int) (y.2 : Int)) (fun y => l.length - y.2) (fun y => y.2 ≤ l.length) (fun y hp ih => ?_) (0, 0) (Nat.zero_le _)
  obtain ⟨n, x⟩ := y
  simp only at hp
  show execN _ _ _ _ _ _ (vweight_s3_0 l n (l.length : Int) (x : Int))
  rw [vweight_s3_0_E]
  by_cases hx : x < l.length
  · refine bif_pos (by omega) (bif_and (bif_pos (by omega) (bif_pos (by omega) ?_)))
    rw [Int.toNat_natCast]
    have hrr := hr _ (getD_mem (d := []) hx)
    generalize l.getD x [] = r at hrr
    refine loopN (f := 5) (gn := fnT Tryz.f5) (n0 := n0) (K := resK Q) (r := 6) (by kernel_rfl) con0_ok (inl := []) (LT := vweight_live) (NT := vweight_nils) (fun y : Int × Nat => vweight_s6_0 l y.1 (l.length : Int) (x : Int) r (r.length : Int) (y.2 : Int)) (fun y => r.length - y.2) (fun y => y.2 ≤ r.length) (fun y hp ih2 => ?_) (n, 0) (Nat.zero_le _)
    obtain ⟨m, k⟩ := y
    simp only at hp
    show execN _ _ _ _ _ _ (vweight_s6_0 l m (l.length : Int) (x : Int) r (r.length : Int) (k : Int))
    rw [vweight_s6_0_E]
    by_cases hk : k < r.length
    · refine bif_pos (by omega) (bif_and (bif_pos (by omega) (bif_pos (by omega) ?_)))
      rw [wrS hk (by omega)]
      exact ih2 (_, k + 1) (by show k + 1 ≤ r.length; omega) (by show r.length - (k + 1) < r.length - k; omega)
    · refine bif_neg (by omega) ?_
      rw [wrS hx (by omega)]
      exact ih (_, x + 1) (by show x + 1 ≤ l.length; omega) (by show l.length - (x + 1) < l.length - x; omega)
  · exact bif_neg (by omega) (res_int (hq _))
theorem find_drop {l : List ByteArray} {x : Nat} (hx : x < l.length) : (l.drop x).findIdx? (fun s => decide (60 < s.size)) = if decide (60 < (l.getD x ByteArray.empty).size) = true then some 0 else ((l.drop (x + 1)).findIdx? fun s => decide (60 < s.size)).map (· + 1) := by
  rw [drop_at hx, List.findIdx?_cons]
theorem idx_con {l : List ByteArray} {Q : Res} (h : idxS l () Q) : Con Tryz.prog 70 [.imm eS l, .fn 38 []] Q := by
  obtain ⟨hl, hq⟩ := h
  refine conN (gn := fnT Tryz.f70) (by kernel_rfl) con0_ok (inl := [38]) (LT := vidx_live) (NT := vidx_nils) rfl fun n0 => ?_
  rw [vidx_E]
  refine loopN (f := 70) (gn := fnT Tryz.f70) (n0 := n0) (K := resK Q) (r := 2) (by kernel_rfl) con0_ok (inl := [38]) (LT := vidx_live) (NT := vidx_nils) (fun x : Nat => vidx_s2_0 l (l.length : Int) (x : Int)) (fun x => l.length - x) (fun x => x ≤ l.length ∧ l.findIdx? (fun s => decide (60 < s.size)) = ((l.drop x).findIdx? fun s => decide (60 < s.size)).map (· + x)) (fun x hp ih => ?_) 0 ⟨Nat.zero_le _, by rw [List.drop_zero]; cases l.findIdx? (fun s => decide (60 < s.size)) <;> rfl⟩
  obtain ⟨hp, he⟩ := hp
  rw [vidx_s2_0_E]
  unfold idxV at hq
  by_cases hx : x < l.length
  · refine bif_pos (by omega) (bif_and (bif_pos (by omega) (bif_pos (by omega) ?_)))
    rw [Int.toNat_natCast, wrS hx (by omega)]
    rw [find_drop hx] at he
    by_cases hc : 60 < (l.getD x ByteArray.empty).size
    · rw [if_pos (decide_eq_true hc)] at he
      rw [he] at hq
      refine bif_pos (by omega) (res_int ?_)
      simpa using hq
    · rw [if_neg (by simpa using hc)] at he
      refine bif_neg (by omega) (ih (x + 1) ⟨by omega, ?_⟩ (by omega))
      rw [he]
      cases (l.drop (x + 1)).findIdx? (fun s => decide (60 < s.size)) with
      | none => rfl
      | some i => simp; omega
  · rw [List.drop_eq_nil_of_le (by omega)] at he
    rw [he] at hq
    exact bif_neg (by omega) (res_int hq)
theorem conV1_ok : ∀ g xs Q, conV1 g xs Q → Con Tryz.prog g xs Q := table_ok fun p hp => by
  simp only [List.mem_cons, List.not_mem_nil, or_false] at hp
  rcases hp with rfl
  exact c2_ok fun _ _ _ h => idx_con h
theorem short_con {l : List ByteArray} {Q : Res} (h : shortS l Q) : Con Tryz.prog 11 [.imm eS l] Q := by
  obtain ⟨hl, hq⟩ := h
  refine conN (gn := fnT Tryz.f11) (by kernel_rfl) conV1_ok (inl := [37]) (LT := vshort_live) (NT := vshort_nils) rfl fun n0 => ?_
  rw [vshort_E]
  unfold shortV at hq
  by_cases h : l.length ≤ 12
  · rw [decide_eq_true h, Bool.true_and] at hq
    refine bif_pos (by omega) ⟨hl, ?_⟩
    rw [cond_true]
    exact res_bool hq
  · rw [decide_eq_false h, Bool.false_and] at hq
    exact bif_neg (by omega) (res_bool hq)
theorem short_all {l : List ByteArray} (h : shortV l = true) : l.length ≤ 12 ∧ ∀ s ∈ l, s.size ≤ 60 := by
  unfold shortV at h
  rw [Bool.and_eq_true] at h
  refine ⟨of_decide_eq_true h.1, fun s hs => Nat.le_of_not_lt fun hc => ?_⟩
  have h2 := h.2
  unfold idxV at h2
  cases hf : l.findIdx? fun s => decide (60 < s.size) with
  | none =>
    have := List.findIdx?_eq_none_iff.1 hf s hs
    simp at this
    omega
  | some i =>
    rw [hf] at h2
    simp at h2
/-! ### order -/
theorem rat_lt {x y z : Rat} (h1 : x ≤ y) (h2 : y < z) : x < z := Rat.not_le.1 fun h => absurd h2 (Rat.not_lt.2 (Rat.le_trans h h1))
theorem sgn_nn {q : Rat} : 0 ≤ sgn q ↔ 0 ≤ q := by
  rw [← Rat.num_nonneg]
  unfold sgn
  split
  · omega
  · split <;> omega
theorem sgn_ge {x y : Rat} : sgn (x - y) ≥ 0 ↔ y ≤ x := by
  rw [Rat.le_iff_sub_nonneg]
  exact sgn_nn
theorem sgn_gt {x y : Rat} : 0 < sgn (x - y) ↔ y < x := by
  rw [← Rat.not_le, Rat.le_iff_sub_nonneg, ← Rat.num_nonneg]
  have : (y - x).num = -(x - y).num := by rw [← Rat.neg_sub, Rat.neg_num]
  rw [this]
  unfold sgn
  split
  · omega
  · split <;> omega
section
variable {l : List ByteArray}
/-- number i of the list -/
noncomputable def at_ (l : List ByteArray) (i : Nat) : Rat := ratOf (l.getD i ByteArray.empty)
structure First (f : Nat → Rat) (n b : Nat) : Prop where
  lt : ∀ j, j < b → f j < f b
  le : ∀ j, j < n → f j ≤ f b
theorem first_uniq {f : Nat → Rat} {n a b : Nat} (ha : First f n a) (hb : First f n b) (han : a < n) (hbn : b < n) : a = b := by
  rcases Nat.lt_trichotomy a b with h | h | h
  · exact absurd (hb.lt a h) (Rat.not_lt.2 (ha.le b hbn))
  · exact h
  · exact absurd (ha.lt b h) (Rat.not_lt.2 (hb.le a han))
theorem best_first : ∀ k, 0 < k → First (at_ l) k (bestK l k) ∧ bestK l k < k
  | 1, _ => by
    have : bestK l 1 = 0 := by
      unfold bestK
      split
      · rfl
      · rfl
    rw [this]
    exact ⟨⟨fun j hj => absurd hj (Nat.not_lt_zero _), fun j hj => by rw [show j = 0 by omega]; exact Rat.le_refl⟩, by omega⟩
  | k + 2, _ => by
    obtain ⟨h, hb⟩ := best_first (k + 1) (by omega)
    have e : bestK l (k + 2) = if 0 < sgn (ratOf (l.getD (k + 1) ByteArray.empty) - ratOf (l.getD (bestK l (k + 1)) ByteArray.empty)) then k + 1 else bestK l (k + 1) := rfl
    rw [e]
    by_cases hc : 0 < sgn (ratOf (l.getD (k + 1) ByteArray.empty) - ratOf (l.getD (bestK l (k + 1)) ByteArray.empty))
    · rw [if_pos hc]
      have hlt : at_ l (bestK l (k + 1)) < at_ l (k + 1) := sgn_gt.1 hc
      refine ⟨⟨fun j hj => rat_lt (h.le j hj) hlt, fun j hj => ?_⟩, by omega⟩
      by_cases hj1 : j = k + 1
      · rw [hj1]; exact Rat.le_refl
      · exact Rat.le_trans (h.le j (by omega)) (Rat.le_of_lt hlt)
    · rw [if_neg hc]
      refine ⟨⟨h.lt, fun j hj => ?_⟩, by omega⟩
      by_cases hj1 : j = k + 1
      · rw [hj1]; exact Rat.not_lt.1 fun hl => hc (sgn_gt.2 hl)
      · exact h.le j (by omega)
/-- the reference's place: from the end on, d places are still to come -/
noncomputable def bR (l : List ByteArray) : Nat → Nat
  | 0 => l.length - 1
  | d + 1 => if 0 ≤ sgn (at_ l (l.length - 1 - d) - at_ l (bR l d)) then l.length - 1 - d else bR l d
theorem bR_spec (hn : 0 < l.length) : ∀ d, d ≤ l.length → (bR l d < l.length ∧ (0 < d → l.length - d ≤ bR l d) ∧ (∀ j, l.length - d ≤ j → j < bR l d → at_ l j < at_ l (bR l d)) ∧ ∀ j, l.length - d ≤ j → j < l.length → at_ l j ≤ at_ l (bR l d))
  | 0, _ => ⟨by unfold bR; omega, fun h => absurd h (Nat.lt_irrefl _), fun j h1 h2 => by unfold bR at h2; omega, fun j h1 h2 => by omega⟩
  | d + 1, hd => by
    obtain ⟨h1, h2, h3, h4⟩ := bR_spec hn d (by omega)
    have e : bR l (d + 1) = if 0 ≤ sgn (at_ l (l.length - 1 - d) - at_ l (bR l d)) then l.length - 1 - d else bR l d := rfl
    rw [e]
    by_cases hc : 0 ≤ sgn (at_ l (l.length - 1 - d) - at_ l (bR l d))
    · rw [if_pos hc]
      have hle := sgn_ge.1 hc
      refine ⟨by omega, fun _ => by omega, fun j h5 h6 => by omega, fun j h5 h6 => ?_⟩
      by_cases hj : j = l.length - 1 - d
      · rw [hj]; exact Rat.le_refl
      · exact Rat.le_trans (h4 j (by omega) h6) hle
    · rw [if_neg hc]
      have hlt : at_ l (l.length - 1 - d) < at_ l (bR l d) := Rat.not_le.1 fun h => hc (sgn_ge.2 h)
      have hd0 : 0 < d := Nat.pos_of_ne_zero fun h0 => by
        subst h0
        have : bR l 0 = l.length - 1 - 0 := by unfold bR; rfl
        rw [this] at hlt
        exact Rat.lt_irrefl hlt
      have := h2 hd0
      refine ⟨h1, fun _ => by omega, fun j h5 h6 => ?_, fun j h5 h6 => ?_⟩
      · by_cases hj : j = l.length - 1 - d
        · rw [hj]; exact hlt
        · exact h3 j (by omega) h6
      · by_cases hj : j = l.length - 1 - d
        · rw [hj]; exact Rat.le_of_lt hlt
        · exact h4 j (by omega) h6
theorem best_eq (hn : 0 < l.length) : bestK l l.length = bR l l.length := by
  obtain ⟨h, hb⟩ := best_first (l := l) l.length hn
  obtain ⟨h1, h2, h3, h4⟩ := bR_spec hn l.length (Nat.le_refl _)
  exact first_uniq h ⟨fun j hj => h3 j (by omega) hj, fun j hj => h4 j (by omega) hj⟩ hb h1
/-! ### sums -/
noncomputable def rsum : List ByteArray → Rat
  | [] => 0
  | s :: l => ratOf s + rsum l
theorem szab_add {a b : Nat} {x y : Rat} (sx : Sz a x) (sy : Sz b y) : Sz (a + b + 1) (x + y) := by
  have e1 := sz_n sx; have e2 := sz_d sx; have e3 := sz_n sy; have e4 := sz_d sy
  have m1 : dg (x.num.natAbs * y.den) ≤ a + b := Nat.le_trans (dg_mul _ _) (by omega)
  have m2 : dg (y.num.natAbs * x.den) ≤ a + b := Nat.le_trans (dg_mul _ _) (by omega)
  have m3 : dg (x.den * y.den) ≤ a + b := Nat.le_trans (dg_mul _ _) (by omega)
  have px := den_pos x
  have py := den_pos y
  have hsum : x + y = mkq (decide (x.num < 0)) x.num.natAbs x.den + mkq (decide (y.num < 0)) y.num.natAbs y.den := by rw [mkq_self, mkq_self]
  rw [mkq_add _ _ _ _ _ _ px py] at hsum
  have hD : ∀ c u, szD (mkq c u (x.den * y.den)) ≤ a + b + 1 := fun c u => Nat.le_trans (szD_mkq (Nat.mul_pos px py)) (by omega)
  have hN : ∀ c u, dg u ≤ a + b + 1 → szN (mkq c u (x.den * y.den)) ≤ a + b + 1 := fun c u h => Nat.le_trans (szN_mkq (Nat.mul_pos px py)) h
  have a1 := dg_add m1 m2
  have a2 := dg_mono (Nat.sub_le (x.num.natAbs * y.den) (y.num.natAbs * x.den))
  have a3 := dg_mono (Nat.sub_le (y.num.natAbs * x.den) (x.num.natAbs * y.den))
  rw [hsum]
  split
  · exact ⟨hN _ _ (by omega), hD _ _⟩
  · split
    · exact ⟨hN _ _ (by omega), hD _ _⟩
    · exact ⟨hN _ _ (by omega), hD _ _⟩
theorem szab_quo {a b : Nat} {x y : Rat} (sx : Sz a x) (sy : Sz b y) (h1 : y ≠ 0) : Sz (a + b) (x / y) := by
  have e1 := sz_n sx; have e2 := sz_d sx; have e3 := sz_n sy; have e4 := sz_d sy
  have hy : 0 < y.num.natAbs := by
    have : y.num ≠ 0 := fun h => h1 (Rat.num_eq_zero.1 h)
    omega
  have hquo : x / y = mkq (decide (x.num < 0)) x.num.natAbs x.den / mkq (decide (y.num < 0)) y.num.natAbs y.den := by rw [mkq_self, mkq_self]
  rw [mkq_quo _ _ _ _ _ _ (den_pos x) hy (den_pos y)] at hquo
  rw [hquo]
  have hp := Nat.mul_pos (den_pos x) hy
  exact ⟨Nat.le_trans (szN_mkq hp) (Nat.le_trans (dg_mul _ _) (by omega)), Nat.le_trans (szD_mkq hp) (Nat.le_trans (dg_mul _ _) (by omega))⟩
theorem rsum_sz : ∀ {l : List ByteArray}, (∀ s ∈ l, Sz 61 (ratOf s)) → Sz (62 * l.length + 1) (rsum l)
  | [], _ => sz_zero.mono (by simp)
  | s :: l, h => by
    have h1 := h s (by simp)
    have h2 := rsum_sz (l := l) fun t ht => h t (by simp [ht])
    have := szab_add h1 h2
    exact this.mono (by simp only [List.length_cons]; omega)
theorem sumF_all : ∀ {l : List ByteArray} {q : Rat} {m : Nat}, (∀ s ∈ l, Sz 61 (ratOf s)) → Sz m q → m + 62 * l.length ≤ 2000 → sumF q l = some (q + rsum l)
  | [], q, m, _, _, _ => by
    show some q = some (q + 0)
    rw [Rat.add_zero]
  | s :: l, q, m, h, hq, hm => by
    have h1 := szab_add hq (h s (by simp))
    simp only [List.length_cons] at hm
    unfold sumF
    rw [if_pos (fit_of (h1.mono (by omega))), sumF_all (fun t ht => h t (by simp [ht])) h1 (by omega)]
    show some (q + ratOf s + rsum l) = some (q + (ratOf s + rsum l))
    rw [Rat.add_assoc]
theorem quoF_all {p : Rat} {m : Nat} (hp : p ≠ 0) (sp : Sz m p) (hm : m + 61 ≤ 2000) : ∀ {l : List ByteArray}, (∀ s ∈ l, Sz 61 (ratOf s)) → quoF p l = some (l.map fun s => ratText (ratOf s / p))
  | [], _ => rfl
  | s :: l, h => by
    have h1 := szab_quo (h s (by simp)) sp hp
    unfold quoF
    rw [if_pos (fit_of (h1.mono (by omega))), quoF_all hp sp hm (fun t ht => h t (by simp [ht]))]
    rfl
end
end Go.Proofs.YtolikobhjmnedaaGreatDoor.Lib
end
section
/- The law RatLists. -/
set_option linter.unusedVariables false
set_option linter.unusedSimpArgs false
namespace Go.Proofs.YtolikobhjmnedaaGreatDoor.Lib
open Go Go.Proofs.YtolikobhjmnedaaGreatDoor.Mach Go.Proofs.YtolikobhjmnedaaGreatDoorW.PrintWords Go.Proofs.YtolikobhjmnedaaGreatDoor.Sem Go.Proofs.YtolikobhjmnedaaGreatDoor.Pure
def isTrueV : Res := fun v _ => v = .bool true
theorem yesV (H : List HObj) : resK isTrueV (.bool true) H := res_bool rfl
theorem sameV (s : ByteArray) : (s.toList == s.toList) = true := beq_self_eq_true _
theorem ratFactV_con {Q : Res} (h : trueF Q) : Con Tryz.prog 4 [] Q := Con.mono rfact0_ok fun v objs h' => by
  obtain ⟨h1, h2⟩ := h'
  rw [h1, h2]
  exact h
theorem conV2_ok : ∀ g xs Q, conV2 g xs Q → Con Tryz.prog g xs Q := table_ok fun p hp => by
  simp only [List.mem_cons, List.not_mem_nil, or_false] at hp
  rcases hp with rfl | rfl | rfl | rfl | rfl | rfl | rfl | rfl | rfl | rfl | rfl | rfl
  · exact c0_ok fun _ h => ratFactV_con h
  · exact c1_ok fun _ _ h => weight_con h
  · exact c1_ok fun _ _ h => short_con h
  · exact c1_ok fun _ _ h => sum_con h
  · exact c1_ok fun _ _ h => best_con h
  · exact c1_ok fun _ _ h => shares_con h
  · exact c1_ok fun _ _ h => odds_con h
  · exact c1_ok fun _ _ h => xerrs_con h
  · exact c2_ok fun _ _ _ h => xadd_con h
  · exact c2_ok fun _ _ _ h => xdiv_con h
  · exact c1_ok fun _ _ h => xsign_con h
  · exact c2_ok fun _ _ _ h => xcmp_con h
section
variable {l : List ByteArray}
theorem lists_err {e : Int} (h : lisE l = e) (he : e ≠ 0) : sumE l = e ∧ shareE l = e ∧ oddsE l = e ∧ sumS l = ⟨#[]⟩ ∧ shareV l = [] := by
  have h1 : sumE l = e := by unfold sumE; rw [h, if_neg he]
  have h2 : shareE l = e := by unfold shareE; rw [h1, if_pos he]
  refine ⟨h1, h2, ?_, ?_, ?_⟩
  · unfold oddsE; rw [h1, if_pos he]
  · unfold sumS; rw [h, if_neg he]
  · unfold shareV; rw [h2, if_neg he]
structure Fine (l : List ByteArray) : Prop where
  len : l.length ≤ 12
  pos : 0 < l.length
  errs : ratErrs l = 0
  sz : ∀ s ∈ l, Sz 61 (ratOf s)
theorem Fine.lis (h : Fine l) : lisE l = 0 := by
  unfold lisE
  have := h.len
  rw [if_neg (by omega)]; exact h.errs
theorem Fine.sum (h : Fine l) : sumE l = 0 ∧ sumS l = ratText (rsum l) := by
  have hl := h.len
  have hs := sumF_all (q := 0) (m := 1) h.sz sz_zero (by omega)
  rw [Rat.zero_add] at hs
  refine ⟨?_, ?_⟩
  · unfold sumE; rw [h.lis, if_pos rfl, hs]; rfl
  · unfold sumS; rw [h.lis, if_pos rfl, hs]
theorem Fine.best (h : Fine l) : bestE l = 0 ∧ bestV l = ((bR l l.length : Nat) : Int) := by
  have hl := h.len
  have hp := h.pos
  have h1 : bestE l = 0 := by
    unfold bestE
    rw [if_neg (by omega), if_neg (by omega)]; exact h.errs
  refine ⟨h1, ?_⟩
  unfold bestV
  rw [h1, if_pos rfl, best_eq hp]
theorem Fine.neg (h : Fine l) (hn : negative l = true) : shareE l = 4 ∧ oddsE l = 4 ∧ shareV l = [] := by
  have h1 : shareE l = 4 := by unfold shareE; rw [h.sum.1, if_neg (fun h => h rfl), if_pos hn]
  refine ⟨h1, ?_, ?_⟩
  · unfold oddsE; rw [h.sum.1, if_neg (fun h => h rfl), if_pos hn]
  · unfold shareV; rw [h1, if_neg (by decide)]
theorem Fine.zero (h : Fine l) (hn : negative l = false) (h0 : rsum l = 0) : shareE l = 18 ∧ oddsE l = 3 ∧ shareV l = [] := by
  have hs := h.sum
  have h1 : shareE l = 18 := by
    unfold shareE
    rw [hs.1, if_neg (fun h => h rfl), hn, if_neg (by decide), hs.2, ratOf_text, if_pos h0]
  refine ⟨h1, ?_, ?_⟩
  · unfold oddsE
    rw [hs.1, if_neg (fun h => h rfl), hn, if_neg (by decide), hs.2, h0, if_neg]
    rw [ratText_zero]; decide
  · unfold shareV; rw [h1, if_neg (by decide)]
theorem Fine.some (h : Fine l) (hn : negative l = false) (h0 : rsum l ≠ 0) : shareE l = 0 ∧ shareV l = (l.map fun s => ratText (ratOf s / rsum l)) ∧ oddsE l = if rsum l = 1 then 0 else 3 := by
  have hs := h.sum
  have hl := h.len
  have hq := quoF_all h0 (rsum_sz h.sz) (by omega) h.sz
  have h1 : shareE l = 0 := by
    unfold shareE
    rw [hs.1, if_neg (fun h => h rfl), hn, if_neg (by decide), hs.2, ratOf_text, if_neg h0, hq]; rfl
  refine ⟨h1, ?_, ?_⟩
  · unfold shareV
    rw [h1, if_pos rfl, hs.2, ratOf_text, hq]; rfl
  · unfold oddsE
    rw [hs.1, if_neg (fun h => h rfl), hn, if_neg (by decide), hs.2]
    by_cases h2 : rsum l = 1
    · rw [if_pos (text_one.2 h2), if_pos h2]
    · rw [if_neg (fun h => h2 (text_one.1 h)), if_neg h2]
theorem Fine.num (h : Fine l) {x : Nat} (hx : x < l.length) : l.getD x ByteArray.empty = ratText (at_ l x) ∧ Sz 61 (at_ l x) := ⟨(num_at h.errs hx).1, h.sz _ (getD_mem hx)⟩
theorem rsum_at {x : Nat} (hx : x < l.length) : rsum (l.drop x) = at_ l x + rsum (l.drop (x + 1)) := by
  rw [drop_at hx]; rfl
theorem neg_drop {x : Nat} (hx : x < l.length) : negative (l.drop x) = (decide (sgn (at_ l x) < 0) || negative (l.drop (x + 1))) := by
  rw [drop_at hx]; rfl
theorem Fine.szr (h : Fine l) (x : Nat) : Sz 40000 (rsum (l.drop x)) := by
  have := rsum_sz (l := l.drop x) fun s hs => h.sz s (List.mem_of_mem_drop hs)
  refine this.mono ?_
  have := h.len
  rw [List.length_drop]; omega
theorem vlists_con (ht : TxL l) : Con Tryz.prog 3 [.imm eS l] isTrueV := by
  refine conN (gn := fnT Tryz.f3) (by kernel_rfl) conV2_ok (inl := []) (LT := vlists_live) (NT := vlists_nils) rfl fun n0 => ?_
  rw [vlists_E]
  refine ⟨⟨show 1 ≤ 1000000000000000 by decide, fun r hr => ?_⟩, fun n => ?_⟩
  · rw [List.mem_singleton] at hr
    rw [hr]; exact ht.1
  by_cases hn : n > 6000
  · exact bif_pos hn (yesV _)
  refine bif_neg hn ⟨ht, ht, ht, ht, ht, ?_⟩
  by_cases h1 : 256 < l.length
  · obtain ⟨e1, e2, e3, e4, e5⟩ := lists_err (l := l) (e := 2) (by unfold lisE; rw [if_pos h1]) (by decide)
    have e6 : bestE l = 2 := by unfold bestE; rw [if_pos h1]
    have e7 : bestV l = 0 := by unfold bestV; rw [e6, if_neg (by decide)]
    refine bif_pos (by omega) (bif_pos e1 (bif_t (by rw [cond_true]; exact decide_eq_true e6) (bif_t (by rw [cond_true]; exact decide_eq_true e2) (bif_t (by rw [cond_true]; exact decide_eq_true e3) (bif_t (by rw [cond_true, e4]; exact sameV _) (bif_t (by rw [cond_true]; exact decide_eq_true e7) ?_))))))
    rw [e5]
    exact yesV _
  refine bif_neg (by omega) ?_
  by_cases h0 : ratErrs l = 0
  · refine bif_not (bif_pos h0 ?_)
    by_cases h2 : l.length = 0
    · have hl : l = [] := List.length_eq_zero_iff.1 h2
      have hlis : lisE l = 0 := by unfold lisE; rw [if_neg h1]; exact h0
      have hs : sumF 0 l = some 0 := by rw [hl]; rfl
      have e1 : sumE l = 0 := by unfold sumE; rw [hlis, if_pos rfl, hs]; rfl
      have e2 : sumS l = ratText 0 := by unfold sumS; rw [hlis, if_pos rfl, hs]
      have hneg : negative l = false := by rw [hl]; rfl
      have e3 : bestE l = 8 := by unfold bestE; rw [if_neg h1, if_pos h2]
      have e4 : shareE l = 18 := by
        unfold shareE
        rw [e1, if_neg (fun h => h rfl), hneg, if_neg (by decide), e2, ratOf_text, if_pos rfl]
      have e5 : oddsE l = 3 := by
        unfold oddsE
        rw [e1, if_neg (fun h => h rfl), hneg, if_neg (by decide), e2, if_neg]
        rw [ratText_zero]; decide
      have e6 : bestV l = 0 := by unfold bestV; rw [e3, if_neg (by decide)]
      have e7 : shareV l = [] := by unfold shareV; rw [e4, if_neg (by decide)]
      refine bif_pos (by omega) (bif_pos e1 (bif_t (by rw [cond_true, e2, ratText_zero]; exact sameV _) (bif_t (by rw [cond_true]; exact decide_eq_true e3) (bif_t (by rw [cond_true]; exact decide_eq_true e4) (bif_t (by rw [cond_true]; exact decide_eq_true e5) (bif_t (by rw [cond_true]; exact decide_eq_true e6) ?_))))))
      rw [e7]
      exact yesV _
    refine bif_neg (by omega) ⟨ht.1, ?_⟩
    by_cases hsh : shortV l = true
    · refine bif_not (bif_t hsh ?_)
      obtain ⟨s1, s2⟩ := short_all hsh
      have F : Fine l := ⟨s1, by omega, h0, fun s hs => by
        have hok := (rat_ok (errs_all h0 s hs)).1
        have := s2 s hs
        have ts := text_size (ratOf s)
        rw [← hok] at ts
        exact ⟨by omega, by omega⟩⟩
      have hpos := F.pos
      obtain ⟨f1, f2⟩ := F.sum
      obtain ⟨f3, f4⟩ := F.best
      -- what stands behind the loop
      have fin2 : negative l = true → ∀ H, bif !decide (sumE l = 0) then resK isTrueV (AV.bool false) H else bif bif false then true else !(sumS l).toList == (ratText (rsum l)).toList then resK isTrueV (AV.bool false) H else bif bif false then true else !decide (bestE l = 0) then resK isTrueV (AV.bool false) H else bif bif false then true else !decide (bestV l = ((bR l l.length : Nat) : Int)) then resK isTrueV (AV.bool false) H else bif decide (shareE l = 4) then bif bif true then decide (oddsE l = 4) else false then resK isTrueV (AV.bool (bif true then decide ((↑(shareV l).length : Int) = 0) else false)) H else resK isTrueV (AV.bool false) H else resK isTrueV (AV.bool false) H := fun hneg H => by
        obtain ⟨g1, g2, g3⟩ := F.neg hneg
        refine bif_not (bif_pos f1 (bif_f (by rw [cond_false, f2, sameV]; decide) (bif_f (by rw [cond_false, decide_eq_true f3]; decide) (bif_f (by rw [cond_false, decide_eq_true f4]; decide) (bif_pos g1 (bif_t (by rw [cond_true]; exact decide_eq_true g2) ?_))))))
        rw [g3]
        exact yesV _
      have fin1 : negative l = false → bif !decide (sumE l = 0) then resK isTrueV (AV.bool false) [] else bif bif false then true else !(sumS l).toList == (ratText (rsum l)).toList then resK isTrueV (AV.bool false) [] else bif bif false then true else !decide (bestE l = 0) then resK isTrueV (AV.bool false) [] else bif bif false then true else !decide (bestV l = ((bR l l.length : Nat) : Int)) then resK isTrueV (AV.bool false) [] else bif (ratText (rsum l)).toList == (ByteArray.mk #[48]).toList then bif decide (shareE l = 18) then bif bif true then decide (oddsE l = 3) else false then resK isTrueV (AV.bool (bif true then decide ((↑(shareV l).length : Int) = 0) else false)) [] else resK isTrueV (AV.bool false) [] else resK isTrueV (AV.bool false) [] else GoodL Tryz.prog n0 3 (resK isTrueV) (headAt (fnT Tryz.f3) 33) (vlists_s33_0 l (shareV l) (shareE l) (oddsE l) (ratText (rsum l)) (l.length : Int) 0) := fun hneg => by
        refine bif_not (bif_pos f1 (bif_f (by rw [cond_false, f2, sameV]; decide) (bif_f (by rw [cond_false, decide_eq_true f3]; decide) (bif_f (by rw [cond_false, decide_eq_true f4]; decide) ?_))))
        by_cases hz : rsum l = 0
        · obtain ⟨g1, g2, g3⟩ := F.zero hneg hz
          refine bif_t (bytes48.2 (by rw [hz]; exact ratText_zero)) (bif_pos g1 (bif_t (by rw [cond_true]; exact decide_eq_true g2) ?_))
          rw [g3]
          exact yesV _
        · obtain ⟨g1, g2, g3⟩ := F.some hneg hz
          refine bif_f (fun h => hz (text_zero.1 (bytes48.1 h))) ?_
          refine loopN (f := 3) (gn := fnT Tryz.f3) (n0 := n0) (K := resK isTrueV) (r := 33) (by kernel_rfl) conV2_ok (inl := []) (LT := vlists_live) (NT := vlists_nils) (fun x : Nat => vlists_s33_0 l (shareV l) (shareE l) (oddsE l) (ratText (rsum l)) (l.length : Int) (x : Int)) (fun x => l.length - x) (fun x => x ≤ l.length) (fun x hp ih => ?_) 0 (Nat.zero_le _)
          rw [vlists_s33_0_E]
          by_cases hx : x < l.length
          · refine bif_pos (by omega) (bif_and (bif_pos (by omega) (bif_pos (by omega) ?_)))
            rw [Int.toNat_natCast, wrS hx (by omega)]
            have hlen : (shareV l).length = l.length := by rw [g2, List.length_map]
            obtain ⟨a1, a2⟩ := F.num hx
            have hget : (shareV l).getD x ByteArray.empty = ratText (at_ l x / rsum l) := by
              rw [g2, List.getD_eq_getElem?_getD, List.getElem?_map, List.getElem?_eq_getElem hx]
              unfold at_
              rw [List.getD_eq_getElem?_getD, List.getElem?_eq_getElem hx]
              rfl
            refine bif_not (bif_pos g1 (bif_f (by rw [cond_false, hlen, decide_eq_true rfl]; decide) (bif_and (bif_pos (by omega) (bif_pos (by omega) ⟨_, _, a1, rfl, a2.mono (by decide), by have := F.szr 0; rwa [List.drop_zero] at this, hz, ?_⟩)))))
            exact bif_f (by rw [cond_false, hget, sameV]; decide) (ih (x + 1) (by omega) (by omega))
          · refine bif_neg (by omega) ?_
            by_cases h5 : rsum l = 1
            · rw [if_pos h5] at g3
              exact bif_t (by rw [decide_eq_true g3, bytes49.2 (text_one.2 h5)]; rfl) (bif_pos g3 (yesV _))
            · rw [if_neg h5] at g3
              have h6 : ¬ oddsE l = 0 := by rw [g3]; decide
              have h7 : ((ratText (rsum l)).toList == (ByteArray.mk #[49]).toList) = false := by
                cases hc : ((ratText (rsum l)).toList == (ByteArray.mk #[49]).toList) with
                | false => rfl
                | true => exact absurd (text_one.1 (bytes49.1 hc)) h5
              refine bif_t (by rw [decide_eq_false h6, h7]; rfl) (bif_neg h6 ?_)
              rw [g3]
              exact yesV _
      -- the loop: d places are done
      have nxt : ∀ {d : Nat}, d < l.length → rsum (l.drop (l.length - (d + 1))) = at_ l (l.length - 1 - d) + rsum (l.drop (l.length - d)) ∧ negative (l.drop (l.length - (d + 1))) = (decide (sgn (at_ l (l.length - 1 - d)) < 0) || negative (l.drop (l.length - d))) := fun {d} hd => by
        have e : l.length - (d + 1) = l.length - 1 - d := by omega
        have e' : l.length - 1 - d + 1 = l.length - d := by omega
        have h1 := rsum_at (l := l) (x := l.length - 1 - d) (by omega)
        have h2 := neg_drop (l := l) (x := l.length - 1 - d) (by omega)
        rw [e'] at h1 h2
        rw [e]
        exact ⟨h1, h2⟩
      have bnx : ∀ d, bR l (d + 1) = if 0 ≤ sgn (at_ l (l.length - 1 - d) - at_ l (bR l d)) then l.length - 1 - d else bR l d := fun d => rfl
      have wdn : ∀ {d : Nat}, d < l.length → IntKind.i64.wrap ((l.length : Int) - 1 - d - 1) = (l.length : Int) - 1 - ((d + 1 : Nat) : Int) := fun {d} hd => by rw [wr (by omega) (by omega)]; omega
      have knat : ∀ {d : Nat}, d < l.length → ((l.length : Int) - 1 - d).toNat = l.length - 1 - d := fun {d} hd => by omega
      have kcast : ∀ {d : Nat}, d < l.length → (l.length : Int) - 1 - d = ((l.length - 1 - d : Nat) : Int) := fun {d} hd => by omega
      have main2 := loopN (f := 3) (gn := fnT Tryz.f3) (n0 := n0) (K := resK isTrueV) (r := 20) (by kernel_rfl) conV2_ok (inl := []) (LT := vlists_live) (NT := vlists_nils) (fun d : Nat => vlists_s20_2 l (sumS l) (sumE l) (bestV l) (bestE l) (shareV l) (shareE l) (oddsE l) (ratText (rsum (l.drop (l.length - d)))) ((bR l d : Nat) : Int) ((l.length : Int) - 1 - d)) (fun d => l.length - d) (fun d => d ≤ l.length ∧ negative (l.drop (l.length - d)) = true) (fun d hp ih => by
        obtain ⟨hp, hng⟩ := hp
        rw [vlists_s20_2_E]
        obtain ⟨hb, _, _, _⟩ := bR_spec hpos d hp
        by_cases hd : d < l.length
        · obtain ⟨n1, n2⟩ := nxt hd
          rw [hng, Bool.or_true] at n2
          have ih' := ih (d + 1) ⟨by omega, n2⟩ (by omega)
          simp only [n1, bnx, ← wdn hd] at ih'
          obtain ⟨a1, a2⟩ := F.num (x := l.length - 1 - d) (by omega)
          obtain ⟨b1, b2⟩ := F.num hb
          refine bif_pos (by omega) (bif_and (bif_pos (by omega) (bif_pos (by omega) ?_)))
          rw [knat hd, Int.toNat_natCast]
          refine ⟨_, _, a1, rfl, a2.mono (by decide), F.szr _, bif_and (bif_pos (by omega) (bif_pos (by omega) (bif_and (bif_pos (by omega) (bif_pos (by omega) ⟨_, _, a1, b1, a2.mono (by decide), b2.mono (by decide), ?_⟩)))))⟩
          by_cases hc : 0 ≤ sgn (at_ l (l.length - 1 - d) - at_ l (bR l d))
          · rw [if_pos hc] at ih'
            refine bif_pos hc ?_
            rw [kcast hd] at ih' ⊢
            exact ih'
          · rw [if_neg hc] at ih'
            exact bif_neg hc ih'
        · have hdd : d = l.length := by omega
          subst hdd
          rw [Nat.sub_self, List.drop_zero] at hng ⊢
          exact bif_neg (by omega) (fin2 hng []))
      have main1 := loopN (f := 3) (gn := fnT Tryz.f3) (n0 := n0) (K := resK isTrueV) (r := 20) (by kernel_rfl) conV2_ok (inl := []) (LT := vlists_live) (NT := vlists_nils) (fun d : Nat => vlists_s20_1 l (sumS l) (sumE l) (bestV l) (bestE l) (shareV l) (shareE l) (oddsE l) (ratText (rsum (l.drop (l.length - d)))) ((bR l d : Nat) : Int) (negative (l.drop (l.length - d))) ((l.length : Int) - 1 - d)) (fun d => l.length - d) (fun d => d ≤ l.length) (fun d hp ih => by
        rw [vlists_s20_1_E]
        obtain ⟨hb, _, _, _⟩ := bR_spec hpos d hp
        by_cases hd : d < l.length
        · obtain ⟨n1, n2⟩ := nxt hd
          obtain ⟨a1, a2⟩ := F.num (x := l.length - 1 - d) (by omega)
          obtain ⟨b1, b2⟩ := F.num hb
          refine bif_pos (by omega) (bif_and (bif_pos (by omega) (bif_pos (by omega) ?_)))
          rw [knat hd, Int.toNat_natCast]
          refine ⟨_, _, a1, rfl, a2.mono (by decide), F.szr _, ?_⟩
          cases hng : negative (l.drop (l.length - d)) with
          | true =>
            rw [hng, Bool.or_true] at n2
            have ih' := main2 (d + 1) ⟨by omega, n2⟩
            simp only [n1, bnx, ← wdn hd] at ih'
            refine bif_tt (bif_and (bif_pos (by omega) (bif_pos (by omega) (bif_and (bif_pos (by omega) (bif_pos (by omega) ⟨_, _, a1, b1, a2.mono (by decide), b2.mono (by decide), ?_⟩))))))
            by_cases hc : 0 ≤ sgn (at_ l (l.length - 1 - d) - at_ l (bR l d))
            · rw [if_pos hc] at ih'
              refine bif_pos hc ?_
              rw [kcast hd] at ih' ⊢
              exact ih'
            · rw [if_neg hc] at ih'
              exact bif_neg hc ih'
          | false =>
            rw [hng, Bool.or_false] at n2
            have ih' := ih (d + 1) (by omega) (by omega)
            simp only [n1, n2, bnx, ← wdn hd] at ih'
            refine bif_ff (bif_and (bif_pos (by omega) (bif_pos (by omega) ⟨_, a1, a2.mono (by decide), bif_and (bif_pos (by omega) (bif_pos (by omega) (bif_and (bif_pos (by omega) (bif_pos (by omega) ⟨_, _, a1, b1, a2.mono (by decide), b2.mono (by decide), ?_⟩)))))⟩)))
            by_cases hc : 0 ≤ sgn (at_ l (l.length - 1 - d) - at_ l (bR l d))
            · rw [if_pos hc] at ih'
              refine bif_pos hc ?_
              rw [kcast hd] at ih' ⊢
              exact ih'
            · rw [if_neg hc] at ih'
              exact bif_neg hc ih'
        · have hdd : d = l.length := by omega
          subst hdd
          rw [Nat.sub_self, List.drop_zero]
          refine bif_neg (by omega) ?_
          cases hng : negative l with
          | true =>
            have := fin2 hng []
            exact this
          | false => exact fin1 hng)
      have w0 : IntKind.i64.wrap ((l.length : Int) - 1) = ((l.length - 1 : Nat) : Int) := by rw [wr (by omega) (by omega)]; omega
      rw [w0]
      refine roundN (f := 3) (gn := fnT Tryz.f3) (n0 := n0) (K := resK isTrueV) (r := 20) (by kernel_rfl) conV2_ok (inl := []) (LT := vlists_live) (NT := vlists_nils) ?_
      rw [vlists_s20_0_E]
      obtain ⟨n1, n2⟩ := nxt hpos
      obtain ⟨a1, a2⟩ := F.num (x := l.length - 1) (by omega)
      have hnil : l.drop (l.length - 0) = [] := List.drop_eq_nil_of_le (by omega)
      rw [hnil] at n1 n2
      have ih' := main1 1 (by omega)
      have e0 : l.length - 1 - 0 = l.length - 1 := rfl
      have b0 : bR l 1 = l.length - 1 := by
        have : bR l 1 = if 0 ≤ sgn (at_ l (l.length - 1 - 0) - at_ l (bR l 0)) then l.length - 1 - 0 else bR l 0 := rfl
        rw [this]
        have h2 : bR l 0 = l.length - 1 := rfl
        rw [h2, e0]
        split <;> rfl
      have wd : IntKind.i64.wrap (((l.length - 1 : Nat) : Int) - 1) = (l.length : Int) - 1 - ((1 : Nat) : Int) := by rw [wr (by omega) (by omega)]; omega
      rw [e0] at n1 n2
      have n1' : rsum (l.drop (l.length - 1)) = at_ l (l.length - 1) + 0 := n1
      have n2' : negative (l.drop (l.length - 1)) = decide (sgn (at_ l (l.length - 1)) < 0) := by
        have : negative (l.drop (l.length - 1)) = (decide (sgn (at_ l (l.length - 1)) < 0) || false) := n2
        rw [this, Bool.or_false]
      simp only [n1', n2', b0, ← wd] at ih'
      refine bif_pos (by omega) (bif_and (bif_pos (by omega) (bif_pos (by omega) ?_)))
      rw [Int.toNat_natCast]
      refine ⟨_, 0, a1, ratText_zero.symm, a2.mono (by decide), sz_zero.mono (by decide), bif_and (bif_pos (by omega) (bif_pos (by omega) ⟨_, a1, a2.mono (by decide), bif_and (bif_pos (by omega) (bif_pos (by omega) (bif_and (bif_pos (by omega) (bif_pos (by omega) ⟨_, _, a1, a1, a2.mono (by decide), a2.mono (by decide), ?_⟩)))))⟩))⟩
      by_cases hc : sgn (at_ l (l.length - 1) - at_ l (l.length - 1)) ≥ 0
      · exact bif_pos hc ih'
      · exact bif_neg hc ih'
    · exact bif_not (bif_f hsh (yesV _))
  · obtain ⟨e1, e2, e3, e4, e5⟩ := lists_err (l := l) (e := ratErrs l) (by unfold lisE; rw [if_neg h1]) h0
    have hne : l.length ≠ 0 := fun h => h0 (by rw [List.length_eq_zero_iff.1 h]; rfl)
    have e6 : bestE l = ratErrs l := by unfold bestE; rw [if_neg h1, if_neg hne]
    have e7 : bestV l = 0 := by unfold bestV; rw [e6, if_neg h0]
    refine bif_not (bif_neg h0 (bif_pos e1 (bif_t (by rw [cond_true]; exact decide_eq_true e6) (bif_t (by rw [cond_true]; exact decide_eq_true e2) (bif_t (by rw [cond_true]; exact decide_eq_true e3) (bif_t (by rw [cond_true, e4]; exact sameV _) (bif_t (by rw [cond_true]; exact decide_eq_true e7) ?_)))))))
    rw [e5]
    exact yesV _
end
end Go.Proofs.YtolikobhjmnedaaGreatDoor.Lib
end
