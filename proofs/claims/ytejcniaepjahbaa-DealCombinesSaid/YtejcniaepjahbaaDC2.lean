/- Seal and SealOf come to the same number. -/
import Derived.Test.YtejcniaepjahbaaDC1
set_option linter.unusedVariables false
set_option linter.unusedSimpArgs false
namespace Go.Proofs.Ytejcniaepjahbaa.Deal
open Go Go.Proofs.Ytejcniaepjahbaa.Mach
def seal_live : List (Nat × List Nat) := [(6, [5, 6, 19, 20, 21])]
noncomputable def seal_s6_0 (l : List Int) (s : Int) (x0 : Int) (x1 : Int) (x2 : Int) : St := stOf 31
  [(5, AV.ptr 0 0), (6, AV.fn 57 [AV.ptr 0 0]), (19, AV.imm (ETy.one (CTy.int IntKind.i64)) l),
    (20, AV.int IntKind.i64 x0), (21, AV.int IntKind.i64 x1)]
  [HObj.box [AV.int IntKind.u64 x2]]
set_option maxRecDepth 1000000 in
theorem seal_E (l : List Int) (s : Int) (n0 : Nat) (K : AV → List HObj → Prop) :
    execN tab (mixK tab con0 [57] 400) (maskK seal_live (GoodL Try.prog n0 25 K)) (finK tab (fnT Try.f25).res K) 400 [.code (fnT Try.f25).body] ⟨initEnv (fnT Try.f25).n [AV.imm (ETy.one (CTy.int IntKind.i64)) l, AV.int IntKind.i64 s], []⟩ =
    GoodL Try.prog n0 25 K (headAt (fnT Try.f25) 6) (seal_s6_0 l s (l.length : Int) 0 (addS (addS 14695981039346656037 s) (l.length : Int))) := by kernel_rfl
set_option maxRecDepth 1000000 in
theorem seal_s6_0_E (l : List Int) (s : Int) (x0 : Int) (x1 : Int) (x2 : Int) (n0 : Nat) (K : AV → List HObj → Prop) :
    execN tab (mixK tab con0 [57] 400) (maskK seal_live (GoodL Try.prog n0 25 K)) (finK tab (fnT Try.f25).res K) 400 (roundAt (fnT Try.f25) 6) (seal_s6_0 l s x0 x1 x2) =
    (bif decide (x1 < x0) then
      bif decide (0 ≤ x1) && decide (x1 < (l.length : Int)) then
        GoodL Try.prog n0 25 K (headAt (fnT Try.f25) 6) (seal_s6_0 l s x0 (IntKind.i64.wrap (x1 + 1)) (addS x2 (l.getD x1.toNat 0)))
      else False
    else K (AV.int IntKind.u64 x2) [HObj.box [AV.int IntKind.u64 x2]]) := by kernel_rfl
/-- the seal behind the first draws -/
def upto (l : List Int) (s : Int) (x : Nat) : Int := (l.take x).foldl addS (addS (addS 14695981039346656037 s) (l.length : Int))
theorem upto_succ {l : List Int} {s : Int} {x : Nat} (h : x < l.length) : upto l s (x + 1) = addS (upto l s x) (l.getD x 0) := by
  unfold upto
  rw [List.take_succ_eq_append_getElem h, List.foldl_append, List.getD_eq_getElem?_getD, List.getElem?_eq_getElem h]
  rfl
theorem upto_all {l : List Int} {s : Int} {x : Nat} (h : l.length ≤ x) : upto l s x = sealV l s := by
  unfold upto sealV
  rw [List.take_of_length_le h]
theorem seal_con {l : List Int} {s : Int} {Q : AV → List HObj → Prop} (hF : Fit l) (hQ : Q (.int .u64 (sealV l s)) []) : Con Try.prog 25 [.imm eI l, .int .i64 s] Q := by
  have hF' : l.length * 8 ≤ 140737488351232 := hF
  refine con_of fn25 rfl fun n0 => ?_
  show GoodL _ n0 25 (resK Q) _ _
  refine good0 fn25 (LT := seal_live) (inl := [57]) ?_
  rw [seal_E]
  have loop := loop_rule (P := Try.prog) (n0 := n0) (f := 25) (K := resK Q) (todo := headAt (fnT Try.f25) 6) (S := fun x : Nat => seal_s6_0 l s (l.length : Int) (x : Int) (upto l s x)) (fun x : Nat => l.length - x)
    (fun x => x ≤ l.length) (fun x hx0 ih => by
      refine round_ok (good0 fn25 (LT := seal_live) (inl := [57]) ?_)
      rw [seal_s6_0_E]
      by_cases hx : x < l.length
      · rw [cpos (decide_eq_true (by omega)), cpos (by rw [decide_eq_true (show (0 : Int) ≤ x by omega), decide_eq_true (show (x : Int) < l.length by omega)]; rfl), Int.toNat_natCast, wr (n := (x : Int) + 1) (by omega) (by omega), ← upto_succ hx]
        exact ih (x + 1) (by omega) (by omega)
      · rw [cneg (decide_eq_false (by omega)), upto_all (by omega)]
        exact res_plain hQ rfl rfl)
  exact loop 0 (by omega)
/-! ### SealOf -/
def addK (h x : Int) : Nat → Int
  | 0 => h
  | k + 1 => mix (addK h x k) (x.fdiv (2 ^ (8 * k)))
theorem shr_pow {x : Int} (h : 0 ≤ x) (k : Nat) : shr8 (x.fdiv (2 ^ (8 * k))) = x.fdiv (2 ^ (8 * (k + 1))) := by
  have e : (2 : Int) ^ min (Int.toNat 8) 64 = 256 := by decide
  unfold shr8
  rw [e, Int.fdiv_eq_ediv_of_nonneg _ (by decide), Int.fdiv_eq_ediv_of_nonneg _ (Int.pow_nonneg (by decide)), Int.fdiv_eq_ediv_of_nonneg _ (Int.pow_nonneg (by decide)), Int.ediv_ediv_of_nonneg (Int.pow_nonneg (by decide))]
  congr 1
  rw [show 8 * (k + 1) = 8 * k + 8 by omega, Int.pow_add]
  rfl
theorem u64_nonneg (n : Int) : 0 ≤ IntKind.u64.wrap n := by
  have : IntKind.u64.wrap n = n % 18446744073709551616 := by
    unfold IntKind.wrap
    rfl
  rw [this]
  exact Int.emod_nonneg _ (by decide)
theorem addS_eq (h n : Int) : addS h n = addK h (IntKind.u64.wrap n) 8 := by
  have h0 := u64_nonneg n
  generalize hx : IntKind.u64.wrap n = x at h0
  have e0 : x = x.fdiv (2 ^ (8 * 0)) := by simp [Int.fdiv_one]
  have s := fun k => shr_pow h0 k
  unfold addS
  rw [hx]
  simp only [addK]
  rw [← s 6, ← s 5, ← s 4, ← s 3, ← s 2, ← s 1, ← s 0, ← e0]
theorem fits_of {n b : Nat} (h1 : n ≤ 9223372036854775807) (h2 : n * b ≤ 140737488355328) : (bif Nat.ble n 9223372036854775807 then Nat.ble (n * b) 140737488355328 else false) = true := by
  rw [(ble_iff _ _).2 h1, (ble_iff _ _).2 h2]; rfl
def hAt (ys : List Int) (x : Nat) : Int := (ys.take x).foldl addS 14695981039346656037
theorem hAt_succ {ys : List Int} {x : Nat} (h : x < ys.length) : hAt ys (x + 1) = addS (hAt ys x) (ys.getD x 0) := by
  unfold hAt
  rw [List.take_succ_eq_append_getElem h, List.foldl_append, List.getD_eq_getElem?_getD, List.getElem?_eq_getElem h]
  rfl
theorem sealof_con {l : List Int} {s : Int} {Q : AV → List HObj → Prop} (hF : Fit l) (hQ : Q (.int .u64 (sealV l s)) []) : Con Try.prog 26 [.imm eI l, .int .i64 s] Q := by
  have hF' : l.length * 8 ≤ 140737488351232 := hF
  refine con_of fn26 rfl fun n0 => ?_
  show GoodL _ n0 26 (resK Q) _ _
  refine good0 fn26 (LT := sealof_live) (inl := [58]) ?_
  rw [sealof_E]
  rw [cpos (fits_of (by simp; omega) (by simp; omega))]
  generalize hys : [s, (l.length : Int)] ++ l = ys
  have hyl : ys.length = l.length + 2 := by rw [← hys]; simp
  have hall : hAt ys ys.length = sealV l s := by
    unfold hAt
    unfold sealV
    rw [List.take_length, ← hys, List.foldl_append]
    simp only [List.foldl_cons, List.foldl_nil]
  have loop := loop_rule (P := Try.prog) (n0 := n0) (f := 26) (K := resK Q) (todo := headAt (fnT Try.f26) 3) (S := fun x : Nat => sealof_s3_0 l s (hAt ys x) (ys.length : Int) (x : Int) ys) (fun x : Nat => ys.length - x)
    (fun x => x ≤ ys.length) (fun x hx0 ih => by
      refine round_ok (good0 fn26 (LT := sealof_live) (inl := [58]) ?_)
      rw [sealof_s3_0_E]
      by_cases hx : x < ys.length
      · rw [cpos (decide_eq_true (by omega)), cpos (by rw [decide_eq_true (show (0 : Int) ≤ x by omega), decide_eq_true (show (x : Int) < ys.length by omega)]; rfl), Int.toNat_natCast]
        -- eight rounds
        have inner := loop_rule (P := Try.prog) (n0 := n0) (f := 26) (K := resK Q) (todo := headAt (fnT Try.f26) 7) (S := fun k : Nat => sealof_s7_0 l s (addK (hAt ys x) (IntKind.u64.wrap (ys.getD x 0)) k) (IntKind.u64.wrap (ys.getD x 0)) (ys.length : Int) (x : Int) (k : Int) ys) (fun k : Nat => 8 - k)
          (fun k => k ≤ 8) (fun k hk0 ihk => by
            refine round_ok (good0 fn26 (LT := sealof_live) (inl := [58]) ?_)
            rw [sealof_s7_0_E]
            by_cases hk : k < 8
            · rw [wr (n := 8 * (k : Int)) (by omega) (by omega), wr (n := (k : Int) + 1) (by omega) (by omega), cpos (decide_eq_true (by omega)), cpos (decide_eq_true (by omega))]
              have e1 : (8 * (k : Int)).toNat = 8 * k := by omega
              have e2 : min (8 * k) 64 = 8 * k := by omega
              rw [e1, e2]
              exact ihk (k + 1) (by omega) (by omega)
            · have : k = 8 := by omega
              subst this
              rw [cneg (by decide), wr (n := (x : Int) + 1) (by omega) (by omega), ← addS_eq, ← hAt_succ hx]
              exact ih (x + 1) (by omega) (by omega))
        exact inner 0 (by omega)
      · rw [cneg (decide_eq_false (by omega)), show x = ys.length by omega, hall]
        exact res_plain hQ rfl rfl)
  exact loop 0 (by omega)
end Go.Proofs.Ytejcniaepjahbaa.Deal
