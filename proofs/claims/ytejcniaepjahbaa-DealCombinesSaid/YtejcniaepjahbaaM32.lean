/- Calls entered, loops gone round, closed runs: sound. -/
import Derived.Test.YtejcniaepjahbaaM31
set_option linter.unusedSimpArgs false
set_option linter.unusedVariables false
namespace Go.Proofs.Ytejcniaepjahbaa.Mach
open Go
theorem getT_empty (d : Nat) : ∀ n, getT (emptyT d) n = .undef := by
  induction d with
  | zero => intro n; rfl
  | succ d ih =>
    intro n
    cases n with
    | zero => rfl
    | succ n =>
      rw [show emptyT (d + 1) = .node .undef (emptyT d) (emptyT d) from rfl, getT_succ, ih]
      split <;> rfl
theorem EnvR.lay {c : Ctx} {w : World} {env : Env} {tmps : Array Value} (h : EnvR c w env tmps) (d : Nat) {x : AV} (hx : AVR c w x (tmps.getD d Go.undef)) : EnvR c w (setE env d x) tmps := by
  have h4 := h.set d hx
  have h5 : tmps.setIfInBounds d (tmps.getD d Go.undef) = tmps := by
    apply Array.ext (by simp)
    intro i h1 h2
    rw [Array.getElem_setIfInBounds h2]
    split
    · rename_i he
      subst he
      simp [Array.getD, h2]
    · rfl
  rw [h5] at h4
  exact h4
theorem initArgs_rel {c : Ctx} {w : World} {tmps : Array Value} : ∀ (l : List AV) (env : Env) (k : Nat), EnvR c w env tmps → (∀ (j : Nat) (x : AV), l[j]? = some x → AVR c w x (tmps.getD (k + j) Go.undef)) → EnvR c w (initArgs l env k) tmps
  | [], _, _, h, _ => h
  | x :: l, env, k, h, hl => by
    show EnvR c w (initArgs l (setE env k x) (k + 1)) tmps
    refine initArgs_rel l _ _ (h.lay k (hl 0 x rfl)) fun j y hy => ?_
    have := hl (j + 1) y hy
    rwa [show k + (j + 1) = k + 1 + j by omega] at this
theorem initEnv_rel {c : Ctx} {w : World} {n : Nat} {args : List AV} {vals : Array Value} (h : ArgsR c w args vals) (hn : args.length ≤ n) : EnvR c w (initEnv n args) (vals ++ Array.replicate (n - vals.size) undef) := by
  have hs := h.1
  refine initArgs_rel args _ 0 ⟨?_, fun i => ?_⟩ fun j x hx => ?_
  · simp; omega
  · show AVR c w (getE ⟨n, emptyT _⟩ i) _
    unfold getE
    cases Nat.blt i (Env.lim ⟨n, emptyT (bif Nat.blt n 62 then 6 else bif Nat.blt n 126 then 7 else bif Nat.blt n 254 then 8 else 11)⟩) with
    | false => exact .undef _
    | true =>
      simp only [cond_true]
      rw [getT_empty]
      exact .undef _
  · have hj : j < vals.size := by
      rw [hs]
      by_cases hj : j < args.length
      · exact hj
      · rw [List.getElem?_eq_none (by omega)] at hx; simp at hx
    have := h.2 j x hx
    rw [Nat.zero_add]
    simpa [Array.getD_eq_getD_getElem?, Array.getElem?_append_left hj] using this
section
variable {P : Program} {T : Tab} {n0 : Nat}
theorem fnOf_spec {g : FuncId} {gn : FnT} (h : fnOf P g = some gn) : ∃ fn, P.funcs[g]? = some fn ∧ fn.body = some gn.body ∧ gn.n = fn.ntmps ∧ gn.res = fn.results.toList := by
  unfold fnOf at h
  split at h
  · rename_i fn hf
    split at h
    · rename_i cd hb
      cases hn : (fn.name == "runtime.NumGoroutine") with
      | true => rw [hn] at h; simp at h
      | false =>
        rw [hn] at h
        simp only [cond_false, Option.some.injEq] at h
        subst h
        exact ⟨fn, hf, hb, rfl, rfl⟩
    · simp at h
  · simp at h
/-- a call is entered -/
theorem enter_ok {g : FuncId} {gn : FnT} (hg : fnOf P g = some gn) {args : List AV} {H : List HObj} {K : AV → List HObj → Prop} (hn : args.length ≤ gn.n) (h : GoodAt P n0 g K [.code gn.body] ⟨initEnv gn.n args, H⟩) : CallOk P n0 g args H K := by
  refine ⟨by rw [hg]; rfl, fun c w vals ha hm cs => ?_⟩
  obtain ⟨fn, hf, hb, h1, h2⟩ := fnOf_spec hg
  have henter : Frame.enter P g vals .normal = ({ (default : Frame) with fn := g, kind := .normal } : Frame).at { tmps := vals ++ Array.replicate (gn.n - vals.size) undef, defers := [] } [.code gn.body] := by
    simp [Frame.enter, Frame.at, hf, hb, h1]
  obtain ⟨v, w', fr, hE, hs, hfn, hl⟩ := h c w { tmps := vals ++ Array.replicate (gn.n - vals.size) undef, defers := [] } cs ⟨initEnv_rel ha hn, hm, rfl⟩
  refine ⟨.returned v, w', fr, ⟨v, rfl, hE⟩, ?_, hfn, hl⟩
  rw [henter]
  exact hs
theorem CallOk.mono {g : FuncId} {args : List AV} {H : List HObj} {K K' : AV → List HObj → Prop} (h : CallOk P n0 g args H K) (hk : ∀ v H', K v H' → K' v H') : CallOk P n0 g args H K' :=
  ⟨h.1, fun c w vals ha hm => (h.2 c w vals ha hm).mono fun e w' ⟨v, he, hE⟩ => ⟨v, he, hE.mono hk⟩⟩
theorem eqL_spec {α : Type} {f : α → α → Bool} (hf : ∀ x y, f x y = true → x = y) : ∀ {l r : List α}, eqL f l r = true → l = r
  | [], [], _ => rfl
  | [], _ :: _, h => by simp [eqL] at h
  | _ :: _, [], h => by simp [eqL] at h
  | x :: l, y :: r, h => by
    simp only [eqL] at h
    cases hb : f x y with
    | false => rw [hb] at h; simp at h
    | true =>
      rw [hb] at h
      rw [hf x y hb, eqL_spec hf (l := l) (r := r) h]
theorem eqInt_spec {a b : Int} (h : eqInt a b = true) : a = b := of_decide_eq_true h
theorem eqBool_spec {a b : Bool} (h : eqBool a b = true) : a = b := eq_of_beq h
theorem eqStr_spec {a b : ByteArray} (h : eqStr a b = true) : a = b := by
  simp only [eqStr, decide_eq_true_eq] at h
  apply ByteArray.ext
  exact Array.ext' h
mutual
theorem eqC_spec : ∀ {t : CTy} {a b : t.D}, eqC t a b = true → a = b
  | .int _, a, b, h => by
    have h' : eqInt a b = true := by simpa only [eqC] using h
    exact eqInt_spec h'
  | .bool, a, b, h => by
    have h' : eqBool a b = true := by simpa only [eqC] using h
    exact eqBool_spec h'
  | .str, a, b, h => eqStr_spec (by simpa only [eqC] using h)
  | .slice e, a, b, h => eqL_spec (fun x y hxy => eqE_spec (e := e) hxy) (by simpa only [eqC] using h)
theorem eqE_spec : ∀ {e : ETy} {a b : e.D}, eqE e a b = true → a = b
  | .one t, a, b, h => eqC_spec (t := t) (by simpa only [eqE] using h)
  | .more t e, a, b, h => by
    simp only [eqE] at h
    cases hb : eqC t a.1 b.1 with
    | false => rw [hb] at h; simp at h
    | true =>
      rw [hb] at h
      exact Prod.ext (eqC_spec hb) (eqE_spec (e := e) h)
end
theorem eqRow_spec {e e' : ETy} {l : List e.D} {r : List e'.D} (h : eqRow e l (castRow e e' r) = true) : ∃ he : e' = e, l = he ▸ r := by
  unfold eqRow at h
  split at h
  · rename_i q hq
    obtain ⟨he, hr⟩ := castRow_eq hq
    exact ⟨he, (eqL_spec (fun x y hxy => eqE_spec hxy) h).trans hr⟩
  · simp at h
theorem eqAV_spec {x y : AV} (h : eqAV x y = true) : x = y := by
  cases x <;> cases y <;> simp only [eqAV, Bool.false_eq_true] at h
  · rfl
  · rename_i k n k' n'
    cases hb : decide (k = k') with
    | false => rw [hb] at h; simp at h
    | true =>
      rw [hb] at h
      have h1 := of_decide_eq_true hb
      have h2 : n = n' := of_decide_eq_true h
      rw [h1, h2]
  · have := eq_of_beq h
    rw [this]
  · rw [eqStr_spec h]
  · obtain ⟨he, hl⟩ := eqRow_spec h
    subst he
    subst hl
    rfl
  · rw [Nat.eq_of_beq_eq_true h]
  · rename_i i o n j p m
    cases hb : Nat.beq i j with
    | false => rw [hb] at h; simp at h
    | true =>
      rw [hb] at h
      cases hc : Nat.beq o p with
      | false => rw [hc] at h; simp at h
      | true =>
        rw [hc] at h
        rw [Nat.eq_of_beq_eq_true hb, Nat.eq_of_beq_eq_true hc, Nat.eq_of_beq_eq_true h]
  · rfl
  · rename_i i o j p
    cases hb : Nat.beq i j with
    | false => rw [hb] at h; simp at h
    | true =>
      rw [hb] at h
      rw [Nat.eq_of_beq_eq_true hb, Nat.eq_of_beq_eq_true h]
  · rw [Nat.eq_of_beq_eq_true h]
  · rfl
theorem eqObj_spec {x y : HObj} (h : eqObj x y = true) : x ≠ .dead → y = x := by
  intro hx
  cases x with
  | dead => exact absurd rfl hx
  | typed e l f =>
    cases y <;> simp only [eqObj, Bool.false_eq_true] at h
    rename_i e' l' f'
    cases hb : eqBool f f' with
    | false => rw [hb] at h; simp at h
    | true =>
      rw [hb] at h
      have h1 : f = f' := eq_of_beq hb
      obtain ⟨he, hl⟩ := eqRow_spec h
      subst he
      subst hl
      rw [h1]
  | box cs =>
    cases y <;> simp only [eqObj, Bool.false_eq_true] at h
    rw [eqL_spec (fun x y hxy => eqAV_spec hxy) h]
theorem agreeB_spec : ∀ {H H' : List HObj}, agreeB H H' = true → agree H H'
  | [], H', _, id, hid => absurd rfl hid
  | x :: H, [], h, id, hid => by simp [agreeB] at h
  | x :: H, y :: H', h, id, hid => by
    have h' : (bif eqObj x y then agreeB H H' else false) = true := h
    cases hb : eqObj x y with
    | false => rw [hb] at h'; simp at h'
    | true =>
      rw [hb] at h'
      cases id with
      | zero => exact eqObj_spec hb hid
      | succ n => exact agreeB_spec (H := H) (H' := H') h' n hid
theorem keepK_spec {H : List HObj} {keep : Bool} {K : AV → List HObj → Prop} {v : AV} {H' : List HObj} (h : keepK H keep K v H') : kept H keep K v H' := by
  cases keep with
  | false => exact ⟨fun h => by simp at h, h⟩
  | true =>
    have h' : (bif agreeB H H' then K v H' else False) := h
    cases hb : agreeB H H' with
    | false => rw [hb] at h'; exact h'.elim
    | true => rw [hb] at h'; exact ⟨fun _ => agreeB_spec hb, h'⟩
/-- what draws are asked to be -/
def DrawOk (P : Program) (T : Tab) (n0 : Nat) (callK : CallK) : Prop :=
  ∀ ops : List Oper, calm ops = true → ∀ (c0 : Ctx) (w0 : World) (st : St) (a : Act) (X : St → Prop) (id : Nat), StR n0 c0 w0 st a → runI T callK ops X st.env st.H → (Code.region id ops.toArray true).wp P (RegQ n0 c0 w0 X) a w0
theorem callRun_ok (hT : TabOk P T) {go : FnT → List Item → St → (AV → List HObj → Prop) → Prop} (hgo : ∀ g gn, fnOf P g = some gn → ∀ todo st K, go gn todo st K → GoodAt P n0 g K todo st) :
    CallsOk P n0 (callRun T go) := by
  intro g args H keep K h
  unfold callRun at h
  split at h
  · rename_i gn hg
    have hg' := hT.fn _ _ hg
    cases hb : Nat.ble args.length gn.n with
    | false => rw [hb] at h; exact h.elim
    | true =>
      rw [hb] at h
      exact (enter_ok hg' ((ble_iff _ _).1 hb) (hgo g gn hg' _ _ _ h)).mono fun v H' hk => keepK_spec hk
  · exact h.elim
theorem run_sound (hT : TabOk P T) (hO : OpSound P T n0) (hD : ∀ callK, CallsOk P n0 callK → DrawOk P T n0 callK) :
    ∀ (k : Nat) (g : FuncId) (gn : FnT), fnOf P g = some gn → ∀ todo st K, run T k gn todo st K → GoodAt P n0 g K todo st
  | 0, _, _, _, _, _, _, h => h.elim
  | k + 1, g, gn, hg, todo, st, K, h => by
    obtain ⟨fn, hf, hb, h1, h2⟩ := fnOf_spec hg
    have ih := run_sound hT hO hD k
    have hC := callRun_ok (n0 := n0) hT (go := run T k) ih
    have h' : execN T (callRun T (run T k)) (loopRun fun todo st => run T k gn todo st K) (finK T gn.res K) 400 todo st := h
    rw [h2] at h'
    refine exec_sound hT hO hC (hD _ hC) hf (goodAt_isGood hf) (loopK := loopRun fun todo st => run T k gn todo st K) (fun todo st hl => ?_) 400 todo st h'
    unfold loopRun at hl
    split at hl
    · exact (ih g gn hg _ _ _ hl).same fun w a cs => step_inLoop
    · exact hl.elim
end
end Go.Proofs.Ytejcniaepjahbaa.Mach
