/- The executor's code and calls: sound, if its operations are. -/
import Derived.Test.YtejcniaepjahbaaM30
set_option linter.unusedSimpArgs false
namespace Go.Proofs.Ytejcniaepjahbaa.Mach
open Go
theorem Mem.heap {n0 : Nat} {c : Ctx} {H : List HObj} {w w' : World} (h : Mem n0 c H w) (hh : w'.heap = w.heap) : Mem n0 c H w' := by
  refine ⟨⟨h.obj.len, fun id hid => ?_, h.obj.dist⟩, by rw [hh]; exact h.base, fun g hg => by rw [hh]; exact h.stab g hg, h.old⟩
  have hlen := h.obj.len
  exact (h.obj.obj id hid).mono (Ctx.le_refl c) (by omega) (fun _ _ hg => hg) (fun g _ => by rw [hh]) (fun g _ => by rw [hh])
theorem dropTo_eq (id : Nat) : ∀ l : List Item, dropTo id l = exitTo id l
  | [] => rfl
  | x :: l => by
    have ih := dropTo_eq id l
    cases x with
    | inBlock j =>
      show (bif Nat.beq j id then some l else dropTo id l) = if j == id then some l else exitTo id l
      rw [ih]
      by_cases h : j = id
      · subst h; simp
      · have h1 : Nat.beq j id = false := by cases hb : Nat.beq j id with | false => rfl | true => exact absurd (Nat.eq_of_beq_eq_true hb) h
        rw [h1]; simp [h]
    | _ => exact ih
/-- from a frame that is at 'todo' the call comes to its end -/
def GoodAt (P : Program) (n0 : Nat) (f : FuncId) (K : AV → List HObj → Prop) (todo : List Item) (st : St) : Prop :=
  ∀ (c : Ctx) (w : World) (a : Act) (cs : List Frame), StR n0 c w st a → ∃ v w' fr, Ends n0 c w K v w' ∧
    Steps P (lone (({ (default : Frame) with fn := f, kind := .normal } : Frame).at a todo) cs w) (lone fr cs w') ∧ fr.fn = f ∧ fr.leaving P w' (.returned v)
section
variable {P : Program} {T : Tab} {n0 : Nat} {callK : CallK} {f : FuncId} {K : AV → List HObj → Prop}
/-- what an execution from 'todo' on may be asked, in every state that fits -/
structure IsGood (P : Program) (n0 : Nat) (f : FuncId) (fn : Func) (K : AV → List HObj → Prop) (G : List Item → St → Prop) : Prop where
  to : ∀ {todo : List Item} {st : St}, (∀ (c : Ctx) (w : World) (a : Act) (cs : List Frame), StR n0 c w st a → ∃ todo' st' c' w' a', G todo' st' ∧ Step1 n0 c c' w w' ∧ StR n0 c' w' st' a' ∧
      Steps P (lone (({ (default : Frame) with fn := f, kind := .normal } : Frame).at a todo) cs w) (lone (({ (default : Frame) with fn := f, kind := .normal } : Frame).at a' todo') cs w')) → G todo st
  fin : ∀ {todo : List Item} {st : St}, (∀ (c : Ctx) (w : World) (a : Act) (cs : List Frame), StR n0 c w st a → ∃ v x todo',
      Steps P (lone (({ (default : Frame) with fn := f, kind := .normal } : Frame).at a todo) cs w) (lone { ({ (default : Frame) with fn := f, kind := .normal } : Frame).at a todo' with mode := .returning } cs w) ∧
      (results fn a.tmps).run P w = .ok v w ∧ AVR c w x v ∧ K x st.H) → G todo st
  un : ∀ {b : Code} {k : List Item} {st : St}, G (.inLoop b :: k) st → G (.code b :: .inLoop b :: k) st
/-- a run that has not come to its end has a next step -/
theorem unstep {b : Frame} {a : Act} {c : Code} {k : List Item} {cs : List Frame} {w w' : World} {fr : Frame} {v : Value} (h : Steps P (lone (b.at a (.inLoop c :: k)) cs w) (lone fr cs w')) (hl : fr.leaving P w' (.returned v)) :
    Steps P (lone (b.at a (.code c :: .inLoop c :: k)) cs w) (lone fr cs w') := by
  obtain ⟨n, hn⟩ := h
  cases n with
  | zero =>
    exfalso
    simp only [runN, Stepped.next.injEq] at hn
    have h1 : b.at a (.inLoop c :: k) = fr := by
      have := congrArg (fun m : Machine => (m.gs[0]?).map (·.frame)) hn
      simpa [lone] using this
    have h2 := hl.1
    rw [← h1] at h2
    simp [Frame.at] at h2
  | succ n =>
    simp only [runN, step_inLoop] at hn
    exact ⟨n, hn⟩
theorem IsGood.same {fn : Func} {G : List Item → St → Prop} (hG : IsGood P n0 f fn K G) {todo todo' : List Item} {st : St} (h : G todo' st)
    (hs : ∀ (w : World) (a : Act) (cs : List Frame), Go.step P (lone (({ (default : Frame) with fn := f, kind := .normal } : Frame).at a todo) cs w) = .next (lone (({ (default : Frame) with fn := f, kind := .normal } : Frame).at a todo') cs w)) : G todo st :=
  hG.to fun c w a cs hr => ⟨todo', st, c, w, a, h, Step1.refl n0 c w, hr, .one (hs w a cs)⟩
theorem goodAt_isGood {fn : Func} (hf : P.funcs[f]? = some fn) : IsGood P n0 f fn K (GoodAt P n0 f K) where
  to h c w a cs hr := by
    obtain ⟨todo', st', c', w', a', hg, h1, h2, h3⟩ := h c w a cs hr
    obtain ⟨v, w'', fr, ⟨c'', x, H', he1, he2, he3, he4⟩, hst, hfn, hl⟩ := hg c' w' a' cs h2
    exact ⟨v, w'', fr, ⟨c'', x, H', h1.trans he1, he2, he3, he4⟩, h3.trans hst, hfn, hl⟩
  fin h c w a cs hr := by
    obtain ⟨v, x, todo', h1, h2, h3, h4⟩ := h c w a cs hr
    exact ⟨v, w, _, ⟨c, x, _, Step1.refl n0 c w, h3, hr.mem, h4⟩, h1, rfl, rfl, hr.nod, rfl, fn, hf, h2⟩
  un h c w a cs hr := by
    obtain ⟨v, w'', fr, hE, hst, hfn, hl⟩ := h c w a cs hr
    exact ⟨v, w'', fr, hE, unstep hst hl, hfn, hl⟩
theorem GoodAt.same {todo todo' : List Item} {st : St} (h : GoodAt P n0 f K todo' st)
    (hs : ∀ (w : World) (a : Act) (cs : List Frame), Go.step P (lone (({ (default : Frame) with fn := f, kind := .normal } : Frame).at a todo) cs w) = .next (lone (({ (default : Frame) with fn := f, kind := .normal } : Frame).at a todo') cs w)) : GoodAt P n0 f K todo st := by
  intro c w a cs hr
  obtain ⟨v, w'', fr, hE, hst, hfn, hl⟩ := h c w a cs hr
  exact ⟨v, w'', fr, hE, .head (hs w a cs) hst, hfn, hl⟩
theorem load_as {t : TypeId} {p v : Value} {w : World} (h : (Instr.loadAt t p).run P w = .ok v w) : (do loadVar t (← asAddr p) : Sem Value).run P w = .ok v w := by
  cases p with
  | pointer q =>
    cases q with
    | none => simp [Instr.loadAt, Instr.sureAddr, stuck, throw, Sem.run_bind, Sem.run] at h
    | some ad => exact h
  | _ => simp [Instr.loadAt, Instr.sureAddr, stuck, throw, Sem.run_bind, Sem.run] at h
/-- one result's value -/
def resRun (a : Act) (r : ResultVar) : Sem Value := match r with
  | .tmp t => pure (a.tmps.getD t undef)
  | .cell b t => do loadVar t (← asAddr (a.tmps.getD b undef))
theorem resOf_run (hT : TabOk P T) {c : Ctx} {w : World} {st : St} {a : Act} (hr : StR n0 c w st a) (r : ResultVar) (x : AV) (hx : resOf T st r = some x) : ∃ v, (resRun a r).run P w = .ok v w ∧ AVR c w x v := by
  cases r with
  | tmp t =>
    simp only [resOf, Option.some.injEq] at hx
    subst hx
    exact ⟨_, by simp [resRun, Sem.run_pure], hr.env.at_ t⟩
  | cell b t =>
    simp only [resOf] at hx
    split at hx
    · rename_i v H' hl
      simp only [Option.some.injEq] at hx
      subst hx
      have hld := s_load (P := P) (T := T) (o := { dst := none, op := .load t (.tmp b), type := 0, pos := "", after := #[], guard := none }) hr.mem.obj hr.env hT rfl
      rw [show evalO st.env (.tmp b) = getE st.env b from rfl, hl] at hld
      obtain ⟨_, u, hrun, hu⟩ := hld rfl
      refine ⟨u, ?_, hu⟩
      simp only [execOp, Act.eval, Sem.run_bind] at hrun
      refine load_as ?_
      revert hrun
      generalize Sem.run P (Instr.loadAt t (a.tmps.getD b undef)) w = res
      intro hrun
      cases res with
      | ok y w2 => simp [Result.andThen, Sem.run_pure] at hrun; rw [hrun.1, hrun.2]
      | halt y w2 => simp [Result.andThen] at hrun
    · simp at hx
theorem resList_run (hT : TabOk P T) {c : Ctx} {w : World} {st : St} {a : Act} (hr : StR n0 c w st a) : ∀ (rs : List ResultVar) (xs : List AV), resList T st rs = some xs →
    ∃ vs, (rs.mapM (resRun a)).run P w = .ok vs w ∧ vs.length = xs.length ∧ ∀ (j : Nat) (x : AV), xs[j]? = some x → vs[j]? = some (vs.getD j default) ∧ AVR c w x (vs.getD j default)
  | [], xs, h => by
    simp only [resList, Option.some.injEq] at h
    subst h
    exact ⟨[], by simp [Sem.run_pure], rfl, fun j x hx => by simp at hx⟩
  | r :: rs, xs, h => by
    simp only [resList] at h
    split at h
    · rename_i x ys hx hys
      simp only [Option.some.injEq] at h
      subst h
      obtain ⟨v, h1, h2⟩ := resOf_run hT hr r x hx
      obtain ⟨vs, h3, h4, h5⟩ := resList_run hT hr rs ys hys
      refine ⟨v :: vs, by simp [List.mapM_cons, Sem.run_bind, h1, h3, Sem.run_pure], by simp [h4], fun j y hy => ?_⟩
      cases j with
      | zero => simp only [List.getElem?_cons_zero, Option.some.injEq] at hy; subst hy; exact ⟨rfl, h2⟩
      | succ j =>
        simp only [List.getElem?_cons_succ] at hy
        obtain ⟨h6, h7⟩ := h5 j y hy
        exact ⟨by simpa using h6, by simpa using h7⟩
    · simp at h
/-- a frame's results -/
theorem results_run (hT : TabOk P T) {c : Ctx} {w : World} {st : St} {a : Act} (hr : StR n0 c w st a) {fn : Func} (h : finK T fn.results.toList K st) :
    ∃ v x, (results fn a.tmps).run P w = .ok v w ∧ AVR c w x v ∧ K x st.H := by
  unfold finK at h
  split at h
  · exact h.elim
  · rename_i xs hxs
    obtain ⟨vs, h1, h2, h3⟩ := resList_run hT hr _ _ hxs
    have hm : (fn.results.mapM (resRun a)).run P w = .ok vs.toArray w := by
      rw [Array.mapM_eq_mapM_toList, map_eq_pure_bind]
      simp [Sem.run_bind, h1, Sem.run_pure]
    have hre : results fn a.tmps = (do let vs ← fn.results.mapM (resRun a); pure (if h : vs.size = 1 then vs[0] else .tuple vs)) := rfl
    rw [hre]
    split at h
    · rename_i x
      have hl : vs.length = 1 := by simpa using h2
      obtain ⟨h4, h5⟩ := h3 0 x rfl
      refine ⟨vs.getD 0 default, x, ?_, h5, h⟩
      obtain ⟨v, rfl⟩ : ∃ v, vs = [v] := List.length_eq_one_iff.1 hl
      simp [Sem.run_bind, hm, Sem.run_pure]
    · rename_i hne
      have hl : vs.length ≠ 1 := by
        intro hl
        rw [h2] at hl
        obtain ⟨x, rfl⟩ := List.length_eq_one_iff.1 hl
        exact hne x rfl
      refine ⟨.tuple vs.toArray, .tup xs, ?_, .tup (u := fun j => vs.getD j default) (by simp [h2]) (fun j x hx => by simpa using (h3 j x hx).1) (fun j x hx => (h3 j x hx).2), h⟩
      simp [Sem.run_bind, hm, Sem.run_pure, hl]
theorem known_rel {c : Ctx} {w : World} {st : St} {a : Act} (hr : StR n0 c w st a) {x : Operand} {b : Bool} (hx : evalO st.env x = .bool b) : StR n0 c w (known st x b) a ∧ a.eval x = .bool b := by
  have hv := bool_inv (hx ▸ evalO_rel hr.env x)
  refine ⟨?_, hv⟩
  cases x with
  | tmp t => exact ⟨(getE_bool hr.env hx).2, hr.mem, hr.nod⟩
  | const v => exact hr
  | global g => exact hr
  | func g => exact hr
theorem exec_sound (hT : TabOk P T) (hO : OpSound P T n0) (hC : CallsOk P n0 callK)
    (hD : ∀ ops : List Oper, calm ops = true → ∀ (c0 : Ctx) (w0 : World) (st : St) (a : Act) (X : St → Prop) (id : Nat), StR n0 c0 w0 st a → runI T callK ops X st.env st.H → (Code.region id ops.toArray true).wp P (RegQ n0 c0 w0 X) a w0)
    {fn : Func} (hf : P.funcs[f]? = some fn) {G : List Item → St → Prop} (hG : IsGood P n0 f fn K G) {loopK : List Item → St → Prop} (hL : ∀ todo st, loopK todo st → G todo st) :
    ∀ (n : Nat) (todo : List Item) (st : St), execN T callK loopK (finK T fn.results.toList K) n todo st → G todo st
  | 0, _, _, h => h.elim
  | n + 1, todo, st, h => by
    have ih := exec_sound hT hO hC hD hf hG hL n
    have h' : stepK T callK loopK (finK T fn.results.toList K) (execN T callK loopK (finK T fn.results.toList K) n) todo st := h
    generalize hgo : execN T callK loopK (finK T fn.results.toList K) n = go at *
    have reg : ∀ {id : Nat} {ops : Array Oper} {dr : Bool} {k : List Item}, (∀ (c : Ctx) (w : World) (a : Act), StR n0 c w st a → (Code.region id ops dr).wp P (RegQ n0 c w (go k)) a w) → G (.code (.region id ops dr) :: k) st := by
      intro id ops dr k hw
      refine hG.to fun c w a cs hr => ?_
      obtain ⟨e, a', w', ⟨rfl, c', st', h1, h2, h3⟩, harr⟩ := hw c w a hr { (default : Frame) with fn := f, kind := .normal } k cs
      exact ⟨k, st', c', w', a', ih k st' h3, h1, h2, harr⟩
    cases todo with
    | nil =>
      refine hG.fin fun c w a cs hr => ?_
      obtain ⟨v, x, h1, h2, h3⟩ := results_run hT hr h'
      exact ⟨v, x, _, .one step_end, h1, h2, h3⟩
    | cons i k =>
      cases i with
      | inBlock j => exact hG.same (ih k st h') fun w a cs => step_inBlock
      | inLoop b => exact hL _ _ h'
      | code cd =>
        cases cd with
        | skip => exact hG.same (ih k st h') fun w a cs => step_skip
        | seq x y => exact hG.same (ih _ st h') fun w a cs => step_seq
        | block j x => exact hG.same (ih _ st h') fun w a cs => step_block
        | loop x => exact hG.same (hG.un (ih _ st h')) fun w a cs => step_loop
        | exit j =>
          have h2 : exitK go st (dropTo j k) := h'
          rw [dropTo_eq] at h2
          unfold exitK at h2
          split at h2
          · rename_i k' hk
            exact hG.same (ih _ st h2) fun w a cs => step_exit hk
          · exact h2.elim
        | ret =>
          refine hG.fin fun c w a cs hr => ?_
          obtain ⟨v, x, h1, h2, h3⟩ := results_run hT hr h'
          exact ⟨v, x, _, .one step_ret, h1, h2, h3⟩
        | cond x y z =>
          have h2 : condK st x (go (.code y :: k)) (go (.code z :: k)) (evalO st.env x) := h'
          unfold condK at h2
          split at h2
          · rename_i b hb
            cases b with
            | true =>
              refine hG.to fun c w a cs hr => ?_
              obtain ⟨h3, h4⟩ := known_rel hr hb
              exact ⟨_, _, c, w, a, ih _ _ h2, Step1.refl n0 c w, h3, .one (step_cond h4)⟩
            | false =>
              refine hG.to fun c w a cs hr => ?_
              obtain ⟨h3, h4⟩ := known_rel hr hb
              exact ⟨_, _, c, w, a, ih _ _ h2, Step1.refl n0 c w, h3, .one (step_cond h4)⟩
          · exact h2.elim
        | region id ops dr =>
          have h2 : regionK T callK (go k) st ops.toList dr := h'
          refine reg fun c w a hr => ?_
          cases dr with
          | false =>
            have h3 := ops_sound hO hC (all := ops.toList) ops.toList 0 rfl (Step1.refl n0 c w) hr h2
            rw [Array.toArray_toList, ← List.range_eq_range', Array.length_toList] at h3
            exact wp_region h3
          | true =>
            have h3 : (bif calm ops.toList then runI T callK ops.toList (go k) st.env st.H else False) := h2
            cases hcm : calm ops.toList with
            | false => rw [hcm] at h3; exact h3.elim
            | true =>
              rw [hcm] at h3
              have := hD ops.toList hcm c w st a (go k) id hr h3
              rw [Array.toArray_toList] at this
              exact this
        | _ => exact h'.elim
      | _ => exact h'.elim
end
end Go.Proofs.Ytejcniaepjahbaa.Mach
