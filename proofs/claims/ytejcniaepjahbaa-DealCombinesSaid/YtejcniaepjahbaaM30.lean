/- The executor's regions, code and calls: sound, if its operations are. -/
import Derived.Test.YtejcniaepjahbaaM19
set_option linter.unusedSimpArgs false
namespace Go.Proofs.Ytejcniaepjahbaa.Mach
open Go

/-! ### from one state to a later one -/
structure Step1 (n0 : Nat) (c c' : Ctx) (w w' : World) : Prop where
  le : Ctx.le c c'
  below : RowKit.Below n0 w w'
  stab : ∀ g, c.S g → w'.heap[g]? = w.heap[g]?
theorem Step1.refl (n0 : Nat) (c : Ctx) (w : World) : Step1 n0 c c w w := ⟨Ctx.le_refl c, RowKit.Below.refl n0 w, fun _ _ => rfl⟩
theorem Step1.trans {n0 : Nat} {c c' c'' : Ctx} {w w' w'' : World} (h : Step1 n0 c c' w w') (k : Step1 n0 c' c'' w' w'') : Step1 n0 c c'' w w'' :=
  ⟨h.le.trans k.le, h.below.trans k.below, fun g hg => (k.stab g (h.le.S g hg)).trans (h.stab g hg)⟩
def ArgsR (c : Ctx) (w : World) (args : List AV) (vals : Array Value) : Prop := vals.size = args.length ∧ ∀ (j : Nat) (x : AV), args[j]? = some x → AVR c w x (vals.getD j undef)
/-- a call has come to its end, and what follows holds -/
def Ends (n0 : Nat) (c : Ctx) (w : World) (K : AV → List HObj → Prop) (v : Value) (w' : World) : Prop := ∃ c' x H', Step1 n0 c c' w w' ∧ AVR c' w' x v ∧ Mem n0 c' H' w' ∧ K x H'
theorem Ends.mono {n0 : Nat} {c : Ctx} {w : World} {K K' : AV → List HObj → Prop} {v : Value} {w' : World} (hK : ∀ x H, K x H → K' x H) (h : Ends n0 c w K v w') : Ends n0 c w K' v w' := by
  obtain ⟨c', x, H', h1, h2, h3, h4⟩ := h
  exact ⟨c', x, H', h1, h2, h3, hK _ _ h4⟩
/-- a call in every state that fits -/
def CallOk (P : Program) (n0 : Nat) (g : FuncId) (args : List AV) (H : List HObj) (K : AV → List HObj → Prop) : Prop :=
  (fnOf P g).isSome = true ∧ ∀ (c : Ctx) (w : World) (vals : Array Value), ArgsR c w args vals → Mem n0 c H w → Calls P g vals w fun e w' => ∃ v, e = .returned v ∧ Ends n0 c w K v w'
/-- the objects that were there are as they were -/
def agree (H H' : List HObj) : Prop := ∀ id, objAt H id ≠ .dead → objAt H' id = objAt H id
def kept (H : List HObj) (keep : Bool) (K : AV → List HObj → Prop) (v : AV) (H' : List HObj) : Prop := (keep = true → agree H H') ∧ K v H'
def CallsOk (P : Program) (n0 : Nat) (callK : CallK) : Prop := ∀ g args H keep K, callK g args H keep K → CallOk P n0 g args H (kept H keep K)
structure OpSound (P : Program) (T : Tab) (n0 : Nat) : Prop where
  ok : ∀ {c : Ctx} {w : World} {H : List HObj} {env : Env} {a : Act} {o : Oper} {x : AV} {H' : List HObj}, EnvR c w env a.tmps → Mem n0 c H w → opR T H env o.op = .ok true x H' → MemSpecN P n0 c w o a x H'
  call : ∀ {c : Ctx} {w : World} {H : List HObj} {env : Env} {a : Act} {o : Oper} {f : FuncId} {args : List AV}, EnvR c w env a.tmps → Mem n0 c H w → opR T H env o.op = .call f args → (fnOf P f).isSome = true →
    ∃ vals, (execOp a.eval o).run P w = .ok (.enter f vals) w ∧ ArgsR c w args vals
/-- a state of the executor against the frame and the world -/
structure StR (n0 : Nat) (c : Ctx) (w : World) (st : St) (a : Act) : Prop where
  env : EnvR c w st.env a.tmps
  mem : Mem n0 c st.H w
  nod : a.defers = []
/-- what a region's end must be -/
def RegQ (n0 : Nat) (c0 : Ctx) (w0 : World) (K : St → Prop) (e : Exit) (a : Act) (w : World) : Prop := e = .normal ∧ ∃ c st, Step1 n0 c0 c w0 w ∧ StR n0 c w st a ∧ K st
theorem put_defers (a : Act) (d : Option Tmp) (v : Value) : (a.put d v).defers = a.defers := by cases d <;> rfl
theorem getE_bool {c : Ctx} {w : World} {env : Env} {a : Act} (h : EnvR c w env a.tmps) {d : Nat} {b : Bool} (hx : getE env d = .bool b) : a.tmps[d]? = some (.bool b) ∧ EnvR c w (setE env d (.bool b)) a.tmps := by
  have hd : d < env.lim := by
    by_cases hd : d < env.lim
    · exact hd
    · rw [getE_ge _ _ hd] at hx; simp at hx
  have hd' : d < a.tmps.size := by rw [← h.lim]; exact hd
  have h1 := h.at_ d
  rw [hx] at h1
  have h2 := bool_inv h1
  have h3 : a.tmps[d]? = some (.bool b) := by
    rw [Array.getElem?_eq_getElem hd']
    simp [Array.getD, hd'] at h2
    rw [h2]
  refine ⟨h3, ?_⟩
  have h4 := h.set d (AVR.bool (c := c) (w := w) b)
  have h5 : a.tmps.setIfInBounds d (.bool b) = a.tmps := by
    apply Array.ext (by simp)
    intro i h1 h2
    rw [Array.getElem_setIfInBounds h2]
    split
    · rename_i he
      subst he
      have := Array.getElem?_eq_getElem h2
      rw [h3] at this
      exact Option.some.inj this
    · rfl
  rw [h5] at h4
  exact h4
theorem getE_tup {c : Ctx} {w : World} {env : Env} {a : Act} (h : EnvR c w env a.tmps) {d : Nat} {l : List AV} (hx : getE env d = .tup l) : ∃ vs, a.tmps[d]? = some (.tuple vs) := by
  have hd : d < env.lim := by
    by_cases hd : d < env.lim
    · exact hd
    · rw [getE_ge _ _ hd] at hx; simp at hx
  have hd' : d < a.tmps.size := by rw [← h.lim]; exact hd
  have h1 := h.at_ d
  rw [hx] at h1
  generalize hv : a.tmps.getD d Go.undef = v at h1
  cases h1 with
  | tup =>
    rename_i vs _ _ _ _
    refine ⟨vs, ?_⟩
    rw [Array.getElem?_eq_getElem hd']
    simp [Array.getD, hd'] at hv
    rw [hv]
section
variable {P : Program} {T : Tab} {n0 : Nat} {callK : CallK}
/-- what a guard tells: the operation is carried out or passed over -/
theorem guarded_sound {all : List Oper} {c : Ctx} {w : World} {env : Env} {a : Act} (h : EnvR c w env a.tmps) {o : Oper} {go skip : Env → Prop} (hg : guarded all env o.guard go skip) :
    ∃ env', EnvR c w env' a.tmps ∧ ((Region.wanted o (yielded all.toArray a.tmps) = true ∧ go env') ∨ (Region.wanted o (yielded all.toArray a.tmps) = false ∧ skip env')) := by
  unfold guarded at hg
  split at hg
  · rename_i hn
    exact ⟨env, h, .inl ⟨by simp [Region.wanted, hn], hg⟩⟩
  · rename_i p hp
    unfold guarded2 at hg
    split at hg
    · rename_i q hq
      split at hg
      · rename_i d hd
        rw [nth_get] at hq
        have hb : ((all.toArray[p.1]?).bind (·.dst)) = some d := by simp [hq, hd]
        unfold way at hg
        split at hg
        · rename_i b hx
          obtain ⟨h1, h2⟩ := getE_bool h hx
          have hy : yielded all.toArray a.tmps p.1 = some b := by
            unfold yielded
            rw [hb]
            simp [h1]
          have hw : Region.wanted o (yielded all.toArray a.tmps) = (some b == some p.2) := by
            unfold Region.wanted
            rw [hp]
            obtain ⟨p1, p2⟩ := p
            simp only at hy ⊢
            rw [hy]
          rw [hw]
          split at hg <;> rename_i hp2 <;> rw [hp2] <;> cases b <;> simp only [cond_true, cond_false] at hg
          · exact ⟨_, h2, .inr ⟨rfl, hg⟩⟩
          · exact ⟨_, h2, .inl ⟨rfl, hg⟩⟩
          · exact ⟨_, h2, .inl ⟨rfl, hg⟩⟩
          · exact ⟨_, h2, .inr ⟨rfl, hg⟩⟩
        · rename_i vs hx
          obtain ⟨us, h1⟩ := getE_tup h hx
          have hy : yielded all.toArray a.tmps p.1 = none := by
            unfold yielded
            rw [hb]
            simp [h1]
          refine ⟨env, h, .inr ⟨?_, hg⟩⟩
          unfold Region.wanted
          rw [hp]
          obtain ⟨p1, p2⟩ := p
          simp only at hy ⊢
          rw [hy]; rfl
        · exact hg.elim
      · exact hg.elim
    · exact hg.elim
theorem ops_sound (hO : OpSound P T n0) (hC : CallsOk P n0 callK) {c0 : Ctx} {w0 : World} {K : St → Prop} {all : List Oper} :
    ∀ (l : List Oper) (i : Nat), all.drop i = l → ∀ {c : Ctx} {w : World} {env : Env} {H : List HObj} {a : Act}, Step1 n0 c0 c w0 w → StR n0 c w ⟨env, H⟩ a → runOps T callK all K l env H →
      wpOps P all.toArray (RegQ n0 c0 w0 K) (List.range' i l.length) a w
  | [], i, hl, c, w, env, H, a, hs, hr, h => ⟨rfl, c, ⟨env, H⟩, hs, hr, h⟩
  | o :: l, i, hl, c, w, env, H, a, hs, hr, h => by
    have hio : all.toArray[i]? = some o := by
      have : (all.drop i)[0]? = some o := by rw [hl]; rfl
      simpa using this
    have hl' : all.drop (i + 1) = l := by
      rw [← List.drop_drop, hl]; rfl
    simp only [List.length_cons, List.range'_succ, wpOps, hio]
    have h' : guarded all env o.guard
      (fun env => opK callK false H (fun v H => runOps T callK all K l (putD env o.dst v) H) (opR T H env o.op))
      (fun env => runOps T callK all K l (putD env o.dst (.tup [])) H) := h
    obtain ⟨env', he, hw | hw⟩ := guarded_sound hr.env h'
    · obtain ⟨hw, hg⟩ := hw
      rw [if_pos hw]
      refine .inl ?_
      unfold Oper.wp
      unfold opK at hg
      split at hg
      · exact hg.elim
      · rename_i g x H' hop
        cases g with
        | false => exact hg.elim
        | true =>
          obtain ⟨v, w', c', nx, hrun, hnx, hle, hx, hm, hb, hst⟩ := hO.ok (o := o) he hr.mem hop
          rw [hrun]
          suffices hgoal : wpOps P all.toArray (RegQ n0 c0 w0 K) (List.range' (i + 1) l.length) (a.put o.dst v) w' by
            rcases hnx with rfl | ⟨rfl, rfl⟩
            · exact hgoal
            · exact hgoal
          exact ops_sound hO hC l (i + 1) hl' (hs.trans ⟨hle, hb, hst⟩) ⟨(he.mono hle hst).put o.dst hx, hm, by rw [put_defers]; exact hr.nod⟩ hg
      · rename_i f args hop
        have hcok := hC _ _ _ _ _ hg
        obtain ⟨vals, hrun, ha⟩ := hO.call (o := o) he hr.mem hop hcok.1
        rw [hrun]
        refine (hcok.2 c w vals ha hr.mem).mono fun e w' hE => ?_
        obtain ⟨v, rfl, c', x, H', hst, hx, hm, _, hk⟩ := hE
        show wpOps P all.toArray _ _ (a.put o.dst v) w'
        exact ops_sound hO hC l (i + 1) hl' (hs.trans hst) ⟨(he.mono hst.le hst.stab).put o.dst hx, hm, by rw [put_defers]; exact hr.nod⟩ hk
    · obtain ⟨hw, hg⟩ := hw
      rw [if_neg (by rw [hw]; exact Bool.false_ne_true)]
      exact ops_sound hO hC l (i + 1) hl' hs ⟨he.put o.dst (.tup rfl (fun _ => default) (fun j x hx => by simp at hx) (fun j x hx => by simp at hx)), hr.mem, by rw [put_defers]; exact hr.nod⟩ hg
end
end Go.Proofs.Ytejcniaepjahbaa.Mach
