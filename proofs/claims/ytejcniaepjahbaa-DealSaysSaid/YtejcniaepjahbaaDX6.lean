/- Texts of this session, put together. -/
import Derived.Test.YtejcniaepjahbaaDX5
section
/- Deals: the law's look holds; the tables; the round of the law. -/
set_option linter.unusedVariables false
set_option linter.unusedSimpArgs false
namespace Go.Proofs.Ytejcniaepjahbaa.Lib
open Go Go.Proofs.Ytejcniaepjahbaa.Mach
theorem c6_ok {P : Program} {α β γ δ ε ζ : Type} {u : View α} {v : View β} {t : View γ} {xv : View δ} {yv : View ε} {zv : View ζ} {g : FuncId} {f : α → β → γ → δ → ε → ζ → Res → Prop} (h : ∀ a b c d e k Q, f a b c d e k Q → Con P g [u.av a, v.av b, t.av c, xv.av d, yv.av e, zv.av k] Q) : CtrOk P g (c6 u v t xv yv zv f) := by
  intro xs Q hq
  unfold c6 at hq
  split at hq
  · rename_i x0 x1 x2 x3 x4 x5
    split at hq
    · rename_i a ha
      split at hq
      · rename_i b hb
        split at hq
        · rename_i c hc
          split at hq
          · rename_i d hd
            split at hq
            · rename_i e he
              split at hq
              · rename_i k hk
                refine con_args (h a b c d e k Q hq) rfl fun j y' hy => ?_
                match j, hy with
                | 0, hy => cases hy; exact ⟨x0, rfl, fun h => u.ok ha h⟩
                | 1, hy => cases hy; exact ⟨x1, rfl, fun h => v.ok hb h⟩
                | 2, hy => cases hy; exact ⟨x2, rfl, fun h => t.ok hc h⟩
                | 3, hy => cases hy; exact ⟨x3, rfl, fun h => xv.ok hd h⟩
                | 4, hy => cases hy; exact ⟨x4, rfl, fun h => yv.ok he h⟩
                | 5, hy => cases hy; exact ⟨x5, rfl, fun h => zv.ok hk h⟩
              · exact hq.elim
            · exact hq.elim
          · exact hq.elim
        · exact hq.elim
      · exact hq.elim
    · exact hq.elim
  · exact hq.elim
theorem falses_all (l : List Bool) : falsesK l l.length = falses l := rfl
theorem dealt_con {t : Tb} {n : Int} {sealed opened : List Bool} {op : List (List Int)} {ch : Int} {Q : Res} (h : dealtC t n sealed opened op ch Q) : Con Try.prog 33 [tbAV t, .int .i64 n, .imm eB sealed, .imm eB opened, .imm (eL eI) op, .int .i64 ch] Q := by
  obtain ⟨D, hq⟩ := h
  obtain ⟨tn, ts, ta, tb, tc, td, te⟩ := t
  have e1 := D.cards; have e2 := D.s; have e3 := D.o; have e4 := D.d; have e5 := D.c; have e6 := D.st
  simp only at e1 e2 e3 e4 e5 e6
  subst e1 e2 e3 e4 e5 e6
  have hls := D.ls
  have hlo := D.lo
  have hls1 := hls.1
  have hls2 := hls.2
  have hS1 : Sm ta := by unfold Sm; omega
  have hS2 : Sm tb := by unfold Sm; omega
  refine conN (gn := fnT Try.f33) (by kernel_rfl) conD2_ok (inl := [54, 56, 55]) (LT := dealt_live) (NT := dealt_nils) rfl fun n0 => ?_
  refine (dealt_E tn (stageOf ta tb te) ta tb tc td te tn ta tb td te n0 _).symm ▸ ?_
  refine ⟨hS1, ?_⟩
  by_cases hs : false ∈ ta
  · -- not all sealed: the cards not sealed are missing
    have hno : ∀ i, tb.getD i false ≠ true := fun i hi => D.os i hi hs
    have hfo : false ∈ tb := by
      have h0 := hno 0
      rw [List.getD_eq_getElem?_getD, List.getElem?_eq_getElem (show 0 < tb.length by omega)] at h0
      simp only [Option.getD_some] at h0
      cases hc : tb[0]'(by omega) with
      | true => exact absurd hc h0
      | false => exact hc ▸ List.getElem_mem (by omega)
    have hmiss : missV ⟨tn, stageOf ta tb te, ta, tb, tc, td, te⟩ = if te < 0 then falses ta else [] := by
      unfold missV stageOf
      by_cases hc : 0 ≤ te
      · rw [if_pos hc, if_neg (by simp), if_neg (by omega)]
      · rw [if_neg hc, if_pos hs]
        show (if (0 : Int) ≤ 1 then falses (if (0 : Int) = 1 then tb else ta) else []) = _
        rw [if_pos (by decide), if_neg (by decide), if_pos (by omega)]
    have loop := loopN (f := 33) (gn := fnT Try.f33) (n0 := n0) (r := 10) (by kernel_rfl) conD2_ok (inl := [54, 56, 55]) (LT := dealt_live) (NT := dealt_nils) (K := resK Q) (fun x : Nat => dealt_s10_1 tn (stageOf ta tb te) ta tb tc td te tn ta tb td te (stageOf ta tb te) (ta.length : Int) (x : Int) (if te < 0 then falsesK ta x else [])) (fun x => ta.length - x) (fun x => x ≤ ta.length) (fun x hx ih => by
      rw [dealt_s10_1_E]
      by_cases hxl : x < ta.length
      · have ih' := ih (x + 1) (by omega) (by omega)
        have hlen := falsesK_len ta x
        rw [falsesK_succ] at ih'
        refine bif_pos (by omega) (bif_and (bif_pos (by omega) (bif_pos (by omega) ?_)))
        rw [Int.toNat_natCast]
        by_cases hb : (!ta.getD x false) = true
        · rw [if_pos hb] at ih'
          refine bif_t hb ?_
          unfold dealt_j17
          rw [wrD hxl (by omega)]
          by_cases hc : te < 0
          · rw [if_pos hc] at ih' ⊢
            exact bif_t (by rw [cond_true]; exact decide_eq_true hc) (bif_t (room (k := (falsesK ta x).length) rfl (by omega)) ih')
          · rw [if_neg hc] at ih' ⊢
            exact bif_f (by rw [cond_true, decide_eq_false hc]; decide) ih'
        · rw [if_neg hb] at ih'
          refine bif_f hb ?_
          unfold dealt_j17
          rw [wrD hxl (by omega)]
          exact bif_f (by decide) ih'
      · have hxx : x = ta.length := by omega
        subst hxx
        refine bif_neg (by omega) ?_
        rw [falses_all, ← hmiss]
        exact dealt_end D hq)
    refine bif_not (bif_pos hs ⟨hS2, bif_not (bif_pos hfo ?_)⟩)
    have l0 := loop 0 (Nat.zero_le _)
    rw [show (if te < 0 then falsesK ta 0 else []) = [] by split <;> rfl] at l0
    by_cases hc : te ≥ 0
    · refine bif_pos hc ?_
      have : stageOf ta tb te = 3 := by unfold stageOf; rw [if_pos hc]
      rw [this] at l0 ⊢
      exact l0
    · refine bif_neg hc ?_
      have : stageOf ta tb te = 0 := by unfold stageOf; rw [if_neg hc, if_pos hs]
      rw [this] at l0 ⊢
      exact l0
  · have hmiss : missV ⟨tn, stageOf ta tb te, ta, tb, tc, td, te⟩ = if te < 0 then falses tb else [] := by
      unfold missV stageOf
      by_cases hc : 0 ≤ te
      · rw [if_pos hc, if_neg (by simp), if_neg (by omega)]
      · rw [if_neg hc, if_neg hs, if_pos (show te < 0 by omega)]
        by_cases ho : false ∈ tb
        · rw [if_pos ho, if_pos (by simp), if_pos (by simp)]
        · rw [if_neg ho, if_neg (by simp), falses_none ho]
    have loop := loopN (f := 33) (gn := fnT Try.f33) (n0 := n0) (r := 10) (by kernel_rfl) conD2_ok (inl := [54, 56, 55]) (LT := dealt_live) (NT := dealt_nils) (K := resK Q) (fun x : Nat => dealt_s10_0 tn (stageOf ta tb te) ta tb tc td te tn ta tb td te (stageOf ta tb te) (tb.length : Int) (x : Int) (if te < 0 then falsesK tb x else [])) (fun x => tb.length - x) (fun x => x ≤ tb.length) (fun x hx ih => by
      rw [dealt_s10_0_E]
      by_cases hxl : x < tb.length
      · have ih' := ih (x + 1) (by omega) (by omega)
        have hlen := falsesK_len tb x
        rw [falsesK_succ] at ih'
        refine bif_pos (by omega) (bif_and (bif_pos (by omega) (bif_pos (by omega) ?_)))
        rw [Int.toNat_natCast]
        by_cases hb : (!tb.getD x false) = true
        · rw [if_pos hb] at ih'
          refine bif_t hb ?_
          unfold dealt_j6
          rw [wrD hxl (by omega)]
          by_cases hc : te < 0
          · rw [if_pos hc] at ih' ⊢
            exact bif_t (by rw [cond_true]; exact decide_eq_true hc) (bif_t (room (k := (falsesK tb x).length) rfl (by omega)) ih')
          · rw [if_neg hc] at ih' ⊢
            exact bif_f (by rw [cond_true, decide_eq_false hc]; decide) ih'
        · rw [if_neg hb] at ih'
          refine bif_f hb ?_
          unfold dealt_j6
          rw [wrD hxl (by omega)]
          exact bif_f (by decide) ih'
      · have hxx : x = tb.length := by omega
        subst hxx
        refine bif_neg (by omega) ?_
        rw [falses_all, ← hmiss]
        exact dealt_end D hq)
    have l0 := loop 0 (Nat.zero_le _)
    rw [show (if te < 0 then falsesK tb 0 else []) = [] by split <;> rfl] at l0
    refine bif_not (bif_neg hs ⟨hS2, ?_⟩)
    by_cases ho : false ∈ tb
    · refine bif_not (bif_pos ho ?_)
      by_cases hc : te ≥ 0
      · refine bif_pos hc ?_
        have : stageOf ta tb te = 3 := by unfold stageOf; rw [if_pos hc]
        rw [this] at l0 ⊢
        exact l0
      · refine bif_neg hc ?_
        have : stageOf ta tb te = 1 := by unfold stageOf; rw [if_neg hc, if_neg hs, if_pos ho]
        rw [this] at l0 ⊢
        exact l0
    · refine bif_not (bif_neg ho ?_)
      by_cases hc : te ≥ 0
      · refine bif_pos hc ?_
        have : stageOf ta tb te = 3 := by unfold stageOf; rw [if_pos hc]
        rw [this] at l0 ⊢
        exact l0
      · refine bif_neg hc ?_
        have : stageOf ta tb te = 2 := by unfold stageOf; rw [if_neg hc, if_neg hs, if_neg ho]
        rw [this] at l0 ⊢
        exact l0
theorem conD3_ok : ∀ g xs Q, conD3 g xs Q → Con Try.prog g xs Q := table_ok fun p hp => by
  simp only [List.mem_cons, List.not_mem_nil, or_false] at hp
  rcases hp with rfl | rfl | rfl | rfl | rfl | rfl | rfl | rfl
  · exact c0_ok fun _ h => Deal.df_con h
  · exact c2_ok fun _ _ _ h => Deal.seal_con h.1 h.2
  · exact c2_ok fun _ _ _ h => Deal.sealof_con h.1 h.2
  · exact c2_ok fun _ _ _ h => fits_con h
  · exact c2_ok fun _ _ _ h => drawe_con h
  · exact c2_ok fun _ _ _ h => hasB_con h
  · exact c1_ok fun _ _ h => copy_con h
  · exact c6_ok fun _ _ _ _ _ _ _ h => dealt_con h
end Go.Proofs.Ytejcniaepjahbaa.Lib
end
section
/- DealSays: the rounds. -/
set_option linter.unusedVariables false
set_option linter.unusedSimpArgs false
namespace Go.Proofs.Ytejcniaepjahbaa.Lib
open Go Go.Proofs.Ytejcniaepjahbaa.Mach
abbrev CT : Type := Bool × Bool × Int × Int × List Int
/-- the law's and the deal's state agree -/
structure Inv (p n ch : Int) (seals : List Int) (op : List (List Int)) (sealed opened : List Bool) : Prop where
  D : Deals ⟨n, stageOf sealed opened ch, sealed, opened, seals, op, ch⟩ n sealed opened op ch
  lp : (sealed.length : Int) = p
  lk : seals.length = sealed.length
  cs : 0 ≤ ch → ¬ false ∈ sealed
theorem set_mem_false {l : List Bool} {i : Nat} (h : false ∈ l.set i true) : false ∈ l := by
  rcases List.mem_or_eq_of_mem_set h with h | h
  · exact h
  · cases h
theorem getD_set2 {α : Type} {l : List α} {i j : Nat} {a d : α} (hi : i < l.length) : (l.set i a).getD j d = if i = j then a else l.getD j d := by
  rw [List.getD_eq_getElem?_getD, List.getElem?_set]
  by_cases h : i = j
  · subst h; simp [hi]
  · simp [h, List.getD_eq_getElem?_getD]
theorem bif_in2 {x : Int} {n : Nat} {A : Prop} (h0 : 0 ≤ x) (h : x < (n : Int)) (a : A) : bif decide (0 ≤ x) && decide (x < (n : Int)) then A else False := bif_and (bif_pos h0 (bif_pos h a))
theorem bif_o1 {p : Prop} {i : Decidable p} {A B : Prop} (h : p) (a : A) : bif (bif false then true else decide p) then A else B := by rw [cond_false]; exact bif_pos h a
theorem bif_o0 {p : Prop} {i : Decidable p} {A B : Prop} (h : ¬ p) (b : B) : bif (bif false then true else decide p) then A else B := by rw [cond_false]; exact bif_neg h b
theorem bif_a1 {p : Prop} {i : Decidable p} {A B : Prop} (h : p) (a : A) : bif (bif true then decide p else false) then A else B := by rw [cond_true]; exact bif_pos h a
theorem bif_a0 {p : Prop} {i : Decidable p} {A B : Prop} (h : ¬ p) (b : B) : bif (bif true then decide p else false) then A else B := by rw [cond_true]; exact bif_neg h b
section
variable {p n ch : Int} {l cs : List CT} {len i : Int} {seals : List Int} {op : List (List Int)} {sealed opened : List Bool} {n0 : Nat} {K : AV → List HObj → Prop}
theorem inv_seal (I : Inv p n ch seals op sealed opened) (hs : false ∈ sealed) (v : Int) (k : Nat) :
    Inv p n ch (seals.set k v) op (sealed.set k true) opened := by
  have D := I.D
  have hc : ¬ 0 ≤ ch := fun h => I.cs h hs
  exact ⟨⟨rfl, D.n0, D.n52, rfl, rfl, rfl, rfl, rfl, by simpa using D.ls, by simpa using D.lo, by simpa using D.ld, D.ch0, D.fits, D.fit, fun i hi => absurd hs (D.os i hi)⟩, by simpa using I.lp, by simpa using I.lk, fun h => absurd h hc⟩
theorem inv_cheat (I : Inv p n ch seals op sealed opened) (hs : ¬ false ∈ sealed) {x : Int} (hx : 0 ≤ x) : Inv p n x seals op sealed opened := by
  have D := I.D
  exact ⟨⟨rfl, D.n0, D.n52, rfl, rfl, rfl, rfl, rfl, D.ls, D.lo, D.ld, by show -1 ≤ x; omega, D.fits, D.fit, D.os⟩, I.lp, I.lk, fun _ => hs⟩
theorem inv_open (I : Inv p n ch seals op sealed opened) (hs : ¬ false ∈ sealed) {k : Nat} {d : List Int} (hk : k < sealed.length) (hF : Fit d) (hd : drawV n d = 0) :
    Inv p n ch seals (op.set k d) sealed (opened.set k true) := by
  have D := I.D
  have hlo := D.lo
  have hld := D.ld
  refine ⟨⟨rfl, D.n0, D.n52, rfl, rfl, rfl, rfl, rfl, D.ls, by simpa using D.lo, by simpa using D.ld, D.ch0, fun i hi => ?_, fun x hx => ?_, fun i _ => hs⟩, I.lp, I.lk, fun _ => hs⟩
  · rw [getD_set2 (by omega)] at hi ⊢
    split
    · exact hd
    · rename_i h; rw [if_neg h] at hi; exact D.fits i hi
  · rcases List.mem_or_eq_of_mem_set hx with h | h
    · exact D.fit x h
    · exact h ▸ hF
/-- what follows a call -/
def Next (p n : Int) (l cs : List CT) (len i : Int) (n0 : Nat) (K : AV → List HObj → Prop) : Prop := ∀ ch seals op sealed opened, Inv p n ch seals op sealed opened →
  GoodL Try.prog n0 6 K (headAt (fnT Try.f6) 11) (dsays_s11_0 p n l ch cs len (IntKind.i64.wrap (i + 1)) (stageOf sealed opened ch) ch seals op sealed opened sealed opened seals op)
theorem Next.go (N : Next p n l cs len i n0 K) (I : Inv p n ch seals op sealed opened) {st : Int} (h : stageOf sealed opened ch = st) :
    GoodL Try.prog n0 6 K (headAt (fnT Try.f6) 11) (dsays_s11_0 p n l ch cs len (IntKind.i64.wrap (i + 1)) st ch seals op sealed opened sealed opened seals op) := by
  subst h; exact N _ _ _ _ _ I
theorem commit_ok (I : Inv p n ch seals op sealed opened) (N : Next p n l cs len i n0 K) (o w : Bool) (x k : Int) (d : List Int) (hF : Fit d) (y : Int)
    (hy : (¬ (0 ≤ x ∧ x < p) ∧ y = 4) ∨ ((0 ≤ x ∧ x < p) ∧ ¬ false ∈ sealed ∧ y = 10) ∨ ((0 ≤ x ∧ x < p) ∧ false ∈ sealed ∧ sealed.getD x.toNat false = true ∧ y = 7) ∨ ((0 ≤ x ∧ x < p) ∧ false ∈ sealed ∧ ¬ sealed.getD x.toNat false = true ∧ y = 0)) :
    dsays_j26 p n l ch y cs len i (stageOf sealed opened ch) ch seals op sealed opened sealed opened seals op o w x k d n0 K := by
  have D := I.D
  have hlp := I.lp
  have hlk := I.lk
  have hls := D.ls
  have hls1 := hls.1
  have hls2 := hls.2
  have hlo := D.lo
  have hst0 : false ∈ sealed → stageOf sealed opened ch = 0 := fun hs => by unfold stageOf; rw [if_neg (fun h => I.cs h hs), if_pos hs]
  have hst1 : ¬ false ∈ sealed → stageOf sealed opened ch ≠ 0 := fun hs => by
    unfold stageOf
    split
    · decide
    · split <;> decide
  unfold dsays_j26
  refine ⟨hF, ?_⟩
  rcases hy with ⟨hx, rfl⟩ | ⟨hx, hs, rfl⟩ | ⟨hx, hs, hb, rfl⟩ | ⟨hx, hs, hb, rfl⟩
  · by_cases h0 : x < 0
    · cases w
      all_goals first | refine bif_tt ?_ | refine bif_ff ?_
      all_goals exact bif_pos h0 (bif_not (bif_pos rfl (bif_neg (by decide) (N.go I rfl))))
    · cases w
      all_goals first | refine bif_tt ?_ | refine bif_ff ?_
      all_goals exact bif_neg h0 (bif_o1 (by omega) (bif_not (bif_pos rfl (bif_neg (by decide) (N.go I rfl)))))
  · cases w
    all_goals first | refine bif_tt ?_ | refine bif_ff ?_
    all_goals exact bif_neg (by omega) (bif_o0 (by omega) (bif_not (bif_neg (hst1 hs) (bif_not (bif_pos rfl (bif_neg (by decide) (N.go I rfl)))))))
  · cases w
    all_goals first | refine bif_tt ?_ | refine bif_ff ?_
    all_goals exact bif_neg (by omega) (bif_o0 (by omega) (bif_not (bif_pos (hst0 hs) (bif_in2 hx.1 (by omega) (bif_t hb (bif_not (bif_pos rfl (bif_neg (by decide) (N.go I rfl)))))))))
  · have hsm : ∀ k, Sm (sealed.set k true) := fun k => by unfold Sm; rw [List.length_set]; omega
    have hfo : false ∈ opened := by
      cases hc : opened[0]'(by omega) with
      | false => exact hc ▸ List.getElem_mem (by omega)
      | true =>
        refine absurd hs (D.os 0 ?_)
        rw [List.getD_eq_getElem?_getD, List.getElem?_eq_getElem (by omega), hc]; rfl
    have hch : ¬ 0 ≤ ch := fun h => I.cs h hs
    cases w
    all_goals first | refine bif_tt ?_ | refine bif_ff ?_
    all_goals refine bif_neg (by omega) (bif_o0 (by omega) (bif_not (bif_pos (hst0 hs) (bif_in2 hx.1 (by omega) (bif_f hb (bif_in2 hx.1 (by omega) (bif_in2 hx.1 (by omega) ⟨hsm _, ?_⟩)))))))
    all_goals by_cases hf : false ∈ sealed.set x.toNat true
    all_goals first
      | exact bif_not (bif_pos hf (bif_not (bif_pos rfl (bif_pos rfl (bif_in2 hx.1 (by omega) (bif_in2 hx.1 (by omega) (N.go (inv_seal I hs _ _) (by unfold stageOf; rw [if_neg hch, if_neg hch, if_pos hf, if_pos hs]))))))))
      | exact bif_not (bif_neg hf (bif_not (bif_pos rfl (bif_pos rfl (bif_in2 hx.1 (by omega) (bif_in2 hx.1 (by omega) (N.go (inv_seal I hs _ _) (by unfold stageOf; rw [if_neg hch, if_neg hf, if_pos hfo]))))))))
theorem open_ok (I : Inv p n ch seals op sealed opened) (N : Next p n l cs len i n0 K) (o w : Bool) (x k : Int) (d : List Int) (hF : Fit d) (y : Int)
    (hy : (¬ (0 ≤ x ∧ x < p) ∧ y = 4) ∨ ((0 ≤ x ∧ x < p) ∧ (false ∈ sealed ∨ 0 ≤ ch ∨ ¬ false ∈ opened) ∧ y = 10) ∨ ((0 ≤ x ∧ x < p) ∧ ¬ (false ∈ sealed ∨ 0 ≤ ch ∨ ¬ false ∈ opened) ∧ opened.getD x.toNat false = true ∧ y = 7) ∨ ((0 ≤ x ∧ x < p) ∧ ¬ (false ∈ sealed ∨ 0 ≤ ch ∨ ¬ false ∈ opened) ∧ ¬ opened.getD x.toNat false = true ∧ y = 0)) :
    dsays_j28 p n l ch y cs len i (stageOf sealed opened ch) ch seals op sealed opened sealed opened seals op o w x k d n0 K := by
  have D := I.D
  have hlp := I.lp
  have hlk := I.lk
  have hls := D.ls
  have hls1 := hls.1
  have hls2 := hls.2
  have hlo := D.lo
  have hld := D.ld
  have hn0 : -140737488355328 ≤ n := Int.le_trans (by decide) D.n0
  have hn52 : n ≤ 140737488355328 := Int.le_trans D.n52 (by decide)
  have hsd : Sm d := by unfold Sm; unfold Fit at hF; omega
  have hst0 : (false ∈ sealed ∨ 0 ≤ ch ∨ ¬ false ∈ opened) → stageOf sealed opened ch ≠ 1 := fun h => by
    unfold stageOf
    by_cases hc : 0 ≤ ch
    · rw [if_pos hc]; decide
    · rw [if_neg hc]
      by_cases hs : false ∈ sealed
      · rw [if_pos hs]; decide
      · rw [if_neg hs]
        rcases h with h | h | h
        · exact absurd h hs
        · exact absurd h hc
        · rw [if_neg h]; decide
  have hst1 : ¬ (false ∈ sealed ∨ 0 ≤ ch ∨ ¬ false ∈ opened) → stageOf sealed opened ch = 1 := fun h => by
    unfold stageOf
    rw [if_neg (fun hc => h (.inr (.inl hc))), if_neg (fun hs => h (.inl hs)), if_pos (Classical.byContradiction fun ho => h (.inr (.inr ho)))]
  unfold dsays_j28
  rcases hy with ⟨hx, rfl⟩ | ⟨hx, hs, rfl⟩ | ⟨hx, hs, hb, rfl⟩ | ⟨hx, hs, hb, rfl⟩
  · by_cases h0 : x < 0
    · exact bif_pos h0 (bif_neg (by decide) (bif_not (bif_pos rfl (bif_neg (by decide) (N.go I rfl)))))
    · exact bif_neg h0 (bif_o1 (by omega) (bif_neg (by decide) (bif_not (bif_pos rfl (bif_neg (by decide) (N.go I rfl))))))
  · exact bif_neg (by omega) (bif_o0 (by omega) (bif_not (bif_neg (hst0 hs) (bif_neg (by decide) (bif_not (bif_pos rfl (bif_neg (by decide) (N.go I rfl))))))))
  · exact bif_neg (by omega) (bif_o0 (by omega) (bif_not (bif_pos (hst1 hs) (bif_in2 hx.1 (by omega) (bif_t hb (bif_neg (by decide) (bif_not (bif_pos rfl (bif_neg (by decide) (N.go I rfl))))))))))
  · have hns : ¬ false ∈ sealed := fun h => hs (.inl h)
    have hch : ¬ 0 ≤ ch := fun h => hs (.inr (.inl h))
    have hcheat : stageOf sealed opened x = 3 := by unfold stageOf; rw [if_pos hx.1]
    refine bif_neg (by omega) (bif_o0 (by omega) (bif_not (bif_pos (hst1 hs) (bif_in2 hx.1 (by omega) (bif_f hb ⟨⟨hn0, hn52, hsd⟩, ?_⟩)))))
    by_cases hd : drawV n d = 0
    · refine bif_not (bif_pos hd (bif_in2 hx.1 (by omega) ⟨hF, ?_⟩))
      by_cases hk : Deal.sealV d k = seals.getD x.toNat 0
      · refine bif_f (by rw [cond_false, decide_eq_true hk]; decide) ⟨hF, bif_in2 hx.1 (by omega) (bif_in2 hx.1 (by omega) ⟨by unfold Sm; rw [List.length_set]; omega, ?_⟩)⟩
        by_cases ho : false ∈ opened.set x.toNat true
        · exact bif_not (bif_pos ho (bif_pos rfl ⟨⟨hn0, hn52, hsd⟩, bif_a1 hd (bif_in2 hx.1 (by omega) ⟨hF, bif_not (bif_pos rfl (bif_f (by rw [cond_false, cond_true, decide_eq_true hk]; decide) (bif_a1 hk (bif_in2 hx.1 (by omega) (bif_in2 hx.1 (by omega) (N.go (inv_open I hns (by omega) hF hd) (by rw [hst1 hs]; unfold stageOf; rw [if_neg hch, if_neg hns, if_pos ho])))))))⟩)⟩))
        · exact bif_not (bif_neg ho (bif_pos rfl ⟨⟨hn0, hn52, hsd⟩, bif_a1 hd (bif_in2 hx.1 (by omega) ⟨hF, bif_not (bif_pos rfl (bif_f (by rw [cond_false, cond_true, decide_eq_true hk]; decide) (bif_a1 hk (bif_in2 hx.1 (by omega) (bif_in2 hx.1 (by omega) (N.go (inv_open I hns (by omega) hF hd) (by unfold stageOf; rw [if_neg hch, if_neg hns, if_neg ho])))))))⟩)⟩))
      · exact bif_t (by rw [cond_false, decide_eq_false hk]; decide) (bif_pos rfl ⟨⟨hn0, hn52, hsd⟩, bif_a1 hd (bif_in2 hx.1 (by omega) ⟨hF, bif_not (bif_pos rfl (bif_f (by rw [cond_false, cond_true, decide_eq_false hk]; decide) (bif_a0 hk (bif_pos rfl (N.go (inv_cheat I hns hx.1) hcheat)))))⟩)⟩)
    · exact bif_not (bif_neg hd (bif_pos rfl ⟨⟨hn0, hn52, hsd⟩, bif_a0 hd (bif_not (bif_pos rfl (bif_pos rfl (N.go (inv_cheat I hns hx.1) hcheat))))⟩))
theorem call_ok (I : Inv p n ch seals op sealed opened) (N : Next p n l cs len i n0 K) (o w : Bool) (x k : Int) (d : List Int) (hF : Fit d) (b : Bool) (hb : b = true ↔ 0 ≤ x ∧ x < p) :
    dsays_j31 p n l ch b cs len i (stageOf sealed opened ch) ch seals op sealed opened sealed opened seals op o w x k d n0 K := by
  have D := I.D
  have hlp := I.lp
  have hls := D.ls
  have hls1 := hls.1
  have hls2 := hls.2
  have hlo := D.lo
  unfold dsays_j31
  refine ⟨by unfold Sm; omega, by unfold Sm; omega, ?_⟩
  cases o
  · refine bif_not (bif_ff ?_)
    by_cases hx : 0 ≤ x ∧ x < p
    · refine bif_not (bif_t (hb.2 hx) ?_)
      by_cases hs : false ∈ sealed
      · refine bif_not (bif_pos hs (bif_in2 hx.1 (by omega) ?_))
        by_cases hg : sealed.getD x.toNat false = true
        · exact bif_t hg (commit_ok I N _ _ _ _ _ hF _ (.inr (.inr (.inl ⟨hx, hs, hg, rfl⟩))))
        · exact bif_f hg (commit_ok I N _ _ _ _ _ hF _ (.inr (.inr (.inr ⟨hx, hs, hg, rfl⟩))))
      · exact bif_not (bif_neg hs (commit_ok I N _ _ _ _ _ hF _ (.inr (.inl ⟨hx, hs, rfl⟩))))
    · exact bif_not (bif_f (fun h => hx (hb.1 h)) (commit_ok I N _ _ _ _ _ hF _ (.inl ⟨hx, rfl⟩)))
  · refine bif_not (bif_tt ?_)
    by_cases hx : 0 ≤ x ∧ x < p
    · refine bif_not (bif_t (hb.2 hx) ?_)
      by_cases hs : false ∈ sealed
      · exact bif_not (bif_not (bif_pos hs (open_ok I N _ _ _ _ _ hF _ (.inr (.inl ⟨hx, .inl hs, rfl⟩)))))
      · refine bif_not (bif_not (bif_neg hs ?_))
        by_cases hc : ch ≥ 0
        · exact bif_o1 hc (open_ok I N _ _ _ _ _ hF _ (.inr (.inl ⟨hx, .inr (.inl hc), rfl⟩)))
        · refine bif_o0 hc ?_
          by_cases ho : false ∈ opened
          · refine bif_f (by rw [cond_false, decide_eq_true ho]; decide) (bif_in2 hx.1 (by omega) ?_)
            have hno : ¬ (false ∈ sealed ∨ 0 ≤ ch ∨ ¬ false ∈ opened) := fun h => h.elim hs fun h => h.elim hc fun h => h ho
            by_cases hg : opened.getD x.toNat false = true
            · exact bif_t hg (open_ok I N _ _ _ _ _ hF _ (.inr (.inr (.inl ⟨hx, hno, hg, rfl⟩))))
            · exact bif_f hg (open_ok I N _ _ _ _ _ hF _ (.inr (.inr (.inr ⟨hx, hno, hg, rfl⟩))))
          · exact bif_t (by rw [cond_false, decide_eq_false ho]; rfl) (open_ok I N _ _ _ _ _ hF _ (.inr (.inl ⟨hx, .inr (.inr ho), rfl⟩)))
    · exact bif_not (bif_f (fun h => hx (hb.1 h)) (open_ok I N _ _ _ _ _ hF _ (.inl ⟨hx, rfl⟩)))
end
end Go.Proofs.Ytejcniaepjahbaa.Lib
end
section
/- DealSays: the law. -/
set_option linter.unusedVariables false
set_option linter.unusedSimpArgs false
namespace Go.Proofs.Ytejcniaepjahbaa.Lib
open Go Go.Proofs.Ytejcniaepjahbaa.Mach
abbrev eCall : ETy := .more .bool (.more .bool (.more (.int .i64) (.more (.int .i64) (.one (.slice eI)))))
/-- the state of the loop -/
structure DS where
  ch : Int
  seals : List Int
  op : List (List Int)
  sealed : List Bool
  opened : List Bool
  i : Nat
theorem inv_new {p n : Int} (hp1 : 1 ≤ p) (hp6 : p ≤ 6) (hn0 : 0 ≤ n) (hn52 : n ≤ 52) : Inv p n (-1) (List.replicate p.toNat 0) (List.replicate p.toNat []) (List.replicate p.toNat false) (List.replicate p.toNat false) := by
  have hr : ∀ i, (List.replicate p.toNat false).getD i false ≠ true := fun i h => by
    rw [List.getD_eq_getElem?_getD, List.getElem?_replicate] at h
    split at h <;> cases h
  refine ⟨⟨rfl, hn0, hn52, rfl, rfl, rfl, rfl, rfl, by rw [List.length_replicate]; omega, by simp, by simp, by decide, fun i h => absurd h (hr i), fun d hd => ?_, fun i h => absurd h (hr i)⟩, by rw [List.length_replicate]; omega, by simp, fun h => absurd h (by decide)⟩
  rw [(List.mem_replicate.1 hd).2]; unfold Fit; decide
set_option maxRecDepth 100000 in
set_option maxHeartbeats 4000000 in
theorem dsays_con {p n : Int} {l : List CT} {Q : Res} (hl : l.length ≤ 140737488355328) (hF : ∀ c ∈ l, Fit c.2.2.2.2) (hq : Q (.bool true) []) : Con Try.prog 6 [.int .i64 p, .int .i64 n, .imm eCall l] Q := by
  refine conN (gn := fnT Try.f6) (by kernel_rfl) conD3_ok (inl := [29, 31, 32]) (LT := dsays_live) (NT := dsays_nils) rfl fun n0 => ?_
  refine (dsays_E p n l n0 _).symm ▸ ?_
  have yes : ∀ H, resK Q (.bool true) H := fun H => res_bool' hq
  by_cases hp1 : p < 1
  · exact bif_pos hp1 (bif_pos hp1 (yes _))
  refine bif_neg hp1 ?_
  by_cases hp6 : p > 6
  · exact bif_o1 hp6 (bif_neg hp1 (bif_o1 hp6 (yes _)))
  refine bif_o0 hp6 ?_
  by_cases hn0 : n < 0
  · exact bif_o1 hn0 (bif_neg hp1 (bif_o0 hp6 (bif_o1 hn0 (yes _))))
  refine bif_o0 hn0 ?_
  by_cases hn52 : n > 52
  · exact bif_o1 hn52 (bif_neg hp1 (bif_o0 hp6 (bif_o0 hn0 (bif_o1 hn52 (yes _)))))
  refine bif_o0 hn52 ?_
  have f : ∀ k, k ≤ 24 → (decide (0 ≤ p) && decide (p ≤ p) && bif p.toNat.ble 9223372036854775807 then (p.toNat * k).ble 281474976710656 else false) = true := fun k hk => by
    rw [decide_eq_true (show 0 ≤ p by omega), decide_eq_true (show p ≤ p by omega), (ble_iff _ _).2 (show p.toNat ≤ 9223372036854775807 by omega)]
    exact (ble_iff _ _).2 (Nat.le_trans (Nat.mul_le_mul (show p.toNat ≤ 6 by omega) hk) (by decide))
  have f1 := f 1 (by decide)
  have f8 := f 8 (by decide)
  have f24 := f 24 (by decide)
  have hM : (decide (0 ≤ if 20 < (l.length : Int) then 20 else (l.length : Int)) && decide ((if 20 < (l.length : Int) then 20 else (l.length : Int)) ≤ (l.length : Int))) = true := by
    rw [decide_eq_true (show 0 ≤ if 20 < (l.length : Int) then 20 else (l.length : Int) by split <;> omega), decide_eq_true (show (if 20 < (l.length : Int) then 20 else (l.length : Int)) ≤ (l.length : Int) by split <;> omega)]; rfl
  have e1 : decide (p < 1) = false := decide_eq_false hp1
  have e2 : decide (p > 6) = false := decide_eq_false hp6
  have e3 : decide (n < 0) = false := decide_eq_false hn0
  have e4 : decide (n > 52) = false := decide_eq_false hn52
  have e5 : decide ((0 : Int) = 0) = true := rfl
  have key : ∀ cs : List CT, (∀ c ∈ cs, Fit c.2.2.2.2) → cs.length ≤ l.length → GoodL Try.prog n0 6 (resK Q) (headAt (fnT Try.f6) 11) (dsays_s11_0 p n l (-1) cs (cs.length : Int) 0 0 (-1) (List.replicate p.toNat 0) (List.replicate p.toNat []) (List.replicate p.toNat false) (List.replicate p.toNat false) (List.replicate p.toNat false) (List.replicate p.toNat false) (List.replicate p.toNat 0) (List.replicate p.toNat [])) := by
    intro cs hcs hcl
    have I0 := inv_new (p := p) (n := n) (by omega) (by omega) (by omega) (by omega)
    have loop := loopN (f := 6) (gn := fnT Try.f6) (n0 := n0) (r := 11) (by kernel_rfl) conD3_ok (inl := [29, 31, 32]) (LT := dsays_live) (NT := dsays_nils) (K := resK Q) (fun s : DS => dsays_s11_0 p n l s.ch cs (cs.length : Int) (s.i : Int) (stageOf s.sealed s.opened s.ch) s.ch s.seals s.op s.sealed s.opened s.sealed s.opened s.seals s.op) (fun s => cs.length - s.i) (fun s => s.i ≤ cs.length ∧ Inv p n s.ch s.seals s.op s.sealed s.opened) (fun s hs ih => by
      obtain ⟨ch, seals, op, sealed, opened, i⟩ := s
      obtain ⟨hi, I⟩ := hs
      simp only at hi I ih ⊢
      rw [dsays_s11_0_E]
      by_cases hx : i < cs.length
      · have N : Next p n l cs (cs.length : Int) (i : Int) n0 (resK Q) := fun ch seals op sealed opened I' => by
          rw [wrD hx (by omega)]
          exact ih ⟨ch, seals, op, sealed, opened, i + 1⟩ ⟨by show i + 1 ≤ cs.length; omega, I'⟩ (by show cs.length - (i + 1) < cs.length - i; omega)
        have hc : Fit (cs.getD i (false, false, 0, 0, [])).2.2.2.2 := hcs _ (by
          rw [List.getD_eq_getElem?_getD, List.getElem?_eq_getElem hx]; exact List.getElem_mem hx)
        refine bif_pos (by omega) (bif_and (bif_pos (by omega) (bif_pos (by omega) ?_)))
        rw [Int.toNat_natCast]
        generalize cs.getD i (false, false, 0, 0, []) = c at *
        by_cases h0 : c.2.2.1 ≥ 0
        · exact bif_pos h0 (call_ok I N _ _ _ _ _ hc _ (by rw [cond_true, decide_eq_true_iff]; exact ⟨fun h => ⟨h0, h⟩, fun h => h.2⟩))
        · exact bif_neg h0 (call_ok I N _ _ _ _ _ hc _ ⟨fun h => (by cases h), fun h => absurd h.1 h0⟩)
      · exact bif_neg (by omega) ⟨I.D, yes _⟩)
    have st : stageOf (List.replicate p.toNat false) (List.replicate p.toNat false) (-1) = 0 := by
      unfold stageOf
      rw [if_neg (by decide), if_pos (List.mem_replicate.2 ⟨by omega, rfl⟩)]
    have := loop ⟨-1, List.replicate p.toNat 0, List.replicate p.toNat [], List.replicate p.toNat false, List.replicate p.toNat false, 0⟩ ⟨Nat.zero_le _, I0⟩
    simp only [st] at this
    exact this
  have H := key (List.drop 0 (List.take (if 20 < (l.length : Int) then 20 else (l.length : Int)).toNat l)) (fun c hc => hF c (List.mem_of_mem_take (by rw [List.drop_zero] at hc; exact hc))) (by rw [List.drop_zero, List.length_take]; omega)
  clear key
  simp only [f1, f8, f24, e1, e2, e3, e4, cond_true, cond_false, dsays_j2, dsays_j3, dsays_j4, dsays_j5, dsays_j6, dsays_j7, dsays_j8, dsays_j9, dsays_j10, dsays_j11, dsays_j12, dsays_j13, dsays_j14, dsays_j15, dsays_j16, dsays_j17, dsays_j18, dsays_j19, dsays_j20, dsays_j21, dsays_j22, dsays_j23, dsays_j24, dsays_j25, eq_self, decide_true, Bool.not_true, hM, and_self]
  exact H
end Go.Proofs.Ytejcniaepjahbaa.Lib
end
