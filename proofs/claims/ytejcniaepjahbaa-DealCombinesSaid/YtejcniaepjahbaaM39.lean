/- Calls by what is known of them; closed runs that use a table of results. -/
import Derived.Test.YtejcniaepjahbaaM38
set_option linter.unusedSimpArgs false
set_option linter.unusedVariables false
namespace Go.Proofs.Ytejcniaepjahbaa.Mach
open Go
noncomputable section
/-- must the objects stay, and do they? -/
def keepC (keep : Bool) (args : List AV) (v : AV) (objs : List HObj) (p : Prop) : Prop := match keep with
  | false => p
  | true => bif (bif flatR v objs then true else (argIds args).isEmpty) then p else False
def withR (args : List AV) (H : List HObj) (keep : Bool) (K : AV → List HObj → Prop) (v : AV) (objs : List HObj) : Prop := keepC keep args v objs (K (reId (fun k => H.length + k) v) (behind H args v objs))
/-- calls by contracts -/
def conK (C : FuncId → List AV → (AV → List HObj → Prop) → Prop) : CallK := fun g args H keep K => match plains H args with
  | some as => C g as (withR args H keep K)
  | none => False
/-- a known result -/
structure Known where
  g : FuncId
  args : List AV
  v : AV
  objs : List HObj
def lookup (L : List Known) (g : FuncId) (args : List AV) : Option Known := List.rec none (fun x _ ih => bif Nat.beq x.g g then (bif eqL eqAV x.args args then some x else ih) else ih) L
/-- known calls by their results, others by a run -/
def tabK (L : List Known) (other : CallK) : CallK := fun g args H keep K => match plains H args with
  | some as => (match lookup L g as with | some x => withR args H keep K x.v x.objs | none => other g args H keep K)
  | none => other g args H keep K
def runT (T : Tab) (L : List Known) (k : Nat) : FnT → List Item → St → (AV → List HObj → Prop) → Prop :=
  Nat.rec (fun _ _ _ _ => False) (fun _ ih f todo st K => execN T (tabK L (callRun T ih)) (loopRun fun todo st => ih f todo st K) (finK T f.res K) 400 todo st) k
/-- a closed run comes to this -/
def comes (T : Tab) (L : List Known) (k : Nat) (g : FuncId) (args : List AV) (ids : List Nat) (v : AV) (objs : List HObj) : Prop := match find T.fn g with
  | some gn => runT T L k gn [.code gn.body] ⟨initEnv gn.n args, []⟩ (fun v' H' => (v', ids.map (objAt H')) = (v, objs))
  | none => False
end
section
variable {P : Program} {T : Tab} {n0 : Nat}
theorem agree_behind {H : List HObj} {args : List AV} {v : AV} {objs : List HObj} (h : (bif flatR v objs then true else (argIds args).isEmpty) = true) : agree H (behind H args v objs) := by
  unfold behind
  cases hf : flatR v objs with
  | true => exact agree_append _ _
  | false =>
    rw [hf] at h
    have : argIds args = [] := by simpa using h
    rw [this]
    exact agree_append _ _
theorem withR_kept {args : List AV} {H : List HObj} {keep : Bool} {K : AV → List HObj → Prop} {v : AV} {objs : List HObj} (h : withR args H keep K v objs) : kept H keep K (reId (fun k => H.length + k) v) (behind H args v objs) := by
  unfold withR keepC at h
  cases keep with
  | false => exact ⟨fun h => by simp at h, h⟩
  | true =>
    simp only at h
    cases hb : (bif flatR v objs then true else (argIds args).isEmpty) with
    | false => rw [hb] at h; exact h.elim
    | true => rw [hb] at h; exact ⟨fun _ => agree_behind hb, h⟩
theorem conK_ok {C : FuncId → List AV → (AV → List HObj → Prop) → Prop} (hC : ∀ g args Q, C g args Q → Con P g args Q) : CallsOk P n0 (conK C) := by
  intro g args H keep K h
  unfold conK at h
  split at h
  · rename_i as has
    exact frame_ok (hC _ _ _ h) has fun v objs hq => withR_kept hq
  · exact h.elim
theorem Con.mono {g : FuncId} {args : List AV} {Q Q' : AV → List HObj → Prop} (h : Con P g args Q) (hQ : ∀ v objs, Q v objs → Q' v objs) : Con P g args Q' := fun n0 =>
  (h n0).mono fun v' H' ⟨v, objs, hq, hr⟩ => ⟨v, objs, hQ v objs hq, hr⟩
def KnownOk (P : Program) (x : Known) : Prop := Con P x.g x.args fun v objs => v = x.v ∧ objs = x.objs
theorem lookup_spec {L : List Known} {g : FuncId} {args : List AV} {x : Known} (h : lookup L g args = some x) : x ∈ L ∧ x.g = g ∧ x.args = args := by
  induction L with
  | nil => simp [lookup] at h
  | cons y L ih =>
    have h' : (bif Nat.beq y.g g then (bif eqL eqAV y.args args then some y else lookup L g args) else lookup L g args) = some x := h
    cases h1 : Nat.beq y.g g with
    | false =>
      rw [h1] at h'
      obtain ⟨i1, i2⟩ := ih h'
      exact ⟨List.mem_cons_of_mem _ i1, i2⟩
    | true =>
      rw [h1] at h'
      cases h2 : eqL eqAV y.args args with
      | false =>
        rw [h2] at h'
        obtain ⟨i1, i2⟩ := ih h'
        exact ⟨List.mem_cons_of_mem _ i1, i2⟩
      | true =>
        rw [h2] at h'
        have := Option.some.inj h'
        subst this
        exact ⟨List.mem_cons_self, Nat.eq_of_beq_eq_true h1, eqL_spec (fun a b hab => eqAV_spec hab) h2⟩
theorem tabK_ok {L : List Known} (hL : ∀ x ∈ L, KnownOk P x) {other : CallK} (ho : CallsOk P n0 other) : CallsOk P n0 (tabK L other) := by
  intro g args H keep K h
  unfold tabK at h
  split at h
  · rename_i as has
    split at h
    · rename_i x hx
      obtain ⟨h1, h2, h3⟩ := lookup_spec hx
      have hk := hL x h1
      unfold KnownOk at hk
      rw [h2, h3] at hk
      exact frame_ok hk has fun v objs hq => by
        obtain ⟨rfl, rfl⟩ := hq
        exact withR_kept h
    · exact ho _ _ _ _ _ h
  · exact ho _ _ _ _ _ h
theorem runT_sound (hT : TabOk P T) (hm : P.follows .mixedOrders = true) {L : List Known} (hL : ∀ x ∈ L, KnownOk P x) :
    ∀ (k : Nat) (g : FuncId) (gn : FnT), fnOf P g = some gn → ∀ todo st K, runT T L k gn todo st K → GoodAt P n0 g K todo st
  | 0, _, _, _, _, _, _, h => h.elim
  | k + 1, g, gn, hg, todo, st, K, h => by
    obtain ⟨fn, hf, hb, h1, h2⟩ := fnOf_spec hg
    have ih := runT_sound hT hm hL k
    have hO := opSound hT n0
    have hC := tabK_ok (n0 := n0) hL (callRun_ok (n0 := n0) hT (go := runT T L k) ih)
    have h' : execN T (tabK L (callRun T (runT T L k))) (loopRun fun todo st => runT T L k gn todo st K) (finK T gn.res K) 400 todo st := h
    rw [h2] at h'
    refine exec_sound hT hO hC (drawOk hm hO hC) hf (goodAt_isGood hf) (loopK := loopRun fun todo st => runT T L k gn todo st K) (fun todo st hl => ?_) 400 todo st h'
    unfold loopRun at hl
    split at hl
    · exact (ih g gn hg _ _ _ hl).same fun w a cs => step_inLoop
    · exact hl.elim
theorem known_of (hT : TabOk P T) (hm : P.follows .mixedOrders = true) {L : List Known} (hL : ∀ x ∈ L, KnownOk P x) {k : Nat} {g : FuncId} {args : List AV} {ids : List Nat} {v v0 : AV} {objs : List HObj}
    (hc : comes T L k g args ids v0 objs) (hn : (match find T.fn g with | some gn => Nat.ble args.length gn.n | none => false) = true) (hv : v0 = reId (fun k => ids.getD k 0) v) (hnd : decide ids.Nodup = true) (hout : outOk ids.length v = true) (hty : typedL objs = true) : KnownOk P ⟨g, args, v, objs⟩ := by
  intro n0
  unfold comes at hc
  split at hc
  · rename_i gn hgn
    rw [hgn] at hn
    have hg := hT.fn _ _ hgn
    refine (enter_ok hg ((ble_iff _ _).1 hn) (runT_sound hT hm hL k g gn hg _ _ _ hc)).mono fun v' H' he => ?_
    simp only [Prod.mk.injEq] at he
    obtain ⟨rfl, h2⟩ := he
    have hl : ids.length = objs.length := by rw [← h2]; simp
    refine ⟨v, objs, ⟨rfl, rfl⟩, by rw [← hl]; exact hout, hty, ids, hl, of_decide_eq_true hnd, fun j id hj => ?_, hv⟩
    rw [← h2, List.getElem?_map, hj]; rfl
  · exact hc.elim
end
end Go.Proofs.Ytejcniaepjahbaa.Mach
