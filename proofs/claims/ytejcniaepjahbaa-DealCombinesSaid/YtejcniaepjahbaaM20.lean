/- Every operation that the executor tells: sound. -/
import Derived.Test.YtejcniaepjahbaaM19
import Derived.Test.YtejcniaepjahbaaM31
set_option linter.unusedSimpArgs false
set_option linter.unusedVariables false
namespace Go.Proofs.Ytejcniaepjahbaa.Mach
open Go
section
variable {P : Program} {T : Tab} {n0 : Nat} {c : Ctx} {H : List HObj} {w : World} {env : Env} {a : Act} {o : Oper}
theorem s_greater (hM : Mem n0 c H w) (h : EnvR c w env a.tmps) {ts : Array TypeId} {x y : Operand} (ho : o.op = .call { callee := .builtin .max, args := #[x, y], argTypes := ts }) : Spec P n0 c w o a (greater H (evalO env x) (evalO env y)) := by
  have hx := evalO_rel h x
  have hy := evalO_rel h y
  generalize hvx : a.eval x = vx at *
  generalize hvy : a.eval y = vy at *
  unfold greater
  split
  · rename_i k m k' n hX hY
    rw [hX] at hx
    rw [hY] at hy
    intro _
    refine Pure1.mem hM ⟨.int k (if n > m then n else m), ?_, .int _ _⟩
    simp [execOp, ho, resolve, invoke, builtin, Builtin.max_, Builtin.max2, hvx, hvy, int_inv hx, int_inv hy, Sem.run_bind, Sem.run_pure]
  · trivial
theorem s_lesser (hM : Mem n0 c H w) (h : EnvR c w env a.tmps) {ts : Array TypeId} {x y : Operand} (ho : o.op = .call { callee := .builtin .min, args := #[x, y], argTypes := ts }) : Spec P n0 c w o a (lesser H (evalO env x) (evalO env y)) := by
  have hx := evalO_rel h x
  have hy := evalO_rel h y
  generalize hvx : a.eval x = vx at *
  generalize hvy : a.eval y = vy at *
  unfold lesser
  split
  · rename_i k m k' n hX hY
    rw [hX] at hx
    rw [hY] at hy
    intro _
    refine Pure1.mem hM ⟨.int k (if n < m then n else m), ?_, .int _ _⟩
    simp [execOp, ho, resolve, invoke, builtin, Builtin.min_, Builtin.min2, hvx, hvy, int_inv hx, int_inv hy, Sem.run_bind, Sem.run_pure]
  · trivial
theorem two_spec {f : AV → AV → OpR} {env : Env} {args : Array Operand} {Q : OpR → Prop} (hf : Q .fail) (h : ∀ x y, args = #[x, y] → Q (f (evalO env x) (evalO env y))) : Q (two f (args.toList.map (evalO env))) := by
  unfold two
  split
  · rename_i x r hr
    split
    · rename_i y q
      split
      · cases ha : args.toList with
        | nil => rw [ha] at hr; simp at hr
        | cons p l =>
          rw [ha] at hr
          cases l with
          | nil => simp at hr
          | cons p' l' =>
            cases l' with
            | nil =>
              simp only [List.map_cons, List.map_nil, List.cons.injEq, and_true] at hr
              obtain ⟨rfl, rfl⟩ := hr
              exact h p p' (by rw [← Array.toArray_toList (xs := args), ha])
            | cons p'' l'' => simp at hr
      · exact hf
    · exact hf
  · exact hf
theorem one_spec {f : AV → OpR} {env : Env} {args : Array Operand} {Q : OpR → Prop} (hf : Q .fail) (h : ∀ x, args = #[x] → Q (f (evalO env x))) : Q (one1 f (args.toList.map (evalO env))) := by
  unfold one1
  split
  · rename_i x r hr
    split
    · cases ha : args.toList with
      | nil => rw [ha] at hr; simp at hr
      | cons p l =>
        rw [ha] at hr
        cases l with
        | nil =>
          simp only [List.map_cons, List.map_nil, List.cons.injEq, and_true] at hr
          subst hr
          exact h p (by rw [← Array.toArray_toList (xs := args), ha])
        | cons p' l' => simp at hr
    · exact hf
  · exact hf
theorem s_builtin (hM : Mem n0 c H w) (h : EnvR c w env a.tmps) (hT : TabOk P T) {b : Builtin} {args : Array Operand} {ts : Array TypeId} (ho : o.op = .call { callee := .builtin b, args := args, argTypes := ts }) :
    Spec P n0 c w o a (builtinR T H b ts.toList (args.toList.map (evalO env))) := by
  have two' := fun (f : AV → AV → OpR) (hf : ∀ x y, args = #[x, y] → Spec P n0 c w o a (f (evalO env x) (evalO env y))) => two_spec (f := f) (env := env) (args := args) (Q := Spec P n0 c w o a) trivial hf
  unfold builtinR
  split
  · split
    · rename_i t r hts
      refine one_spec (Q := Spec P n0 c w o a) trivial fun x hx => ?_
      subst hx
      have ht : ts[0]? = some t := by
        have : ts.toList[0]? = some t := by rw [hts]; rfl
        simpa using this
      exact (s_len hM.obj h hT ho ht).spec hM
    · trivial
  · split
    · rename_i t r hts
      split
      · rename_i u q
        split
        · cases hb : Nat.beq t u with
          | false => trivial
          | true =>
            have := Nat.eq_of_beq_eq_true hb
            subst this
            refine two' _ fun x y hxy => ?_
            subst hxy
            have hts' : ts = #[t, t] := by rw [← Array.toArray_toList (xs := ts), hts]
            subst hts'
            exact s_append hM h hT ho
        · trivial
      · trivial
    · trivial
  · refine two' _ fun x y hxy => ?_
    subst hxy
    exact s_greater hM h ho
  · refine two' _ fun x y hxy => ?_
    subst hxy
    exact s_lesser hM h ho
  · trivial
theorem s_sliceAll (hM : Mem n0 c H w) (h : EnvR c w env a.tmps) (hT : TabOk P T) {t : TypeId} {x : Operand} {lo hi mx : Option Operand} (ho : o.op = .slice t x lo hi mx) : PureSpec P c w H o a (oSlice T t H env x lo hi mx) := by
  unfold oSlice
  split
  · unfold sliceR
    split
    · trivial
    · rename_i n hn
      split
      · rename_i l r hl hr
        unfold sliceN
        split
        · rename_i hk
          exact s_cutStr h hT ho hk hl hn hr
        · rename_i hk
          cases hs : szOk H (T.esize t) (evalO env x) with
          | false => trivial
          | true => exact s_cutRow hM.obj h hT ho (.inl hk) hs hl hn hr
        · rename_i hk
          cases hs : szOk H (T.esize t) (evalO env x) with
          | false => trivial
          | true => exact s_cutRow hM.obj h hT ho (.inr hk) hs hl hn hr
        · rename_i hk
          cases hs : (szOk H (T.esize t) (evalO env x) && (Nat.beq (T.alen t) n && Nat.blt 0 n)) with
          | false => trivial
          | true =>
            simp only [Bool.and_eq_true] at hs
            exact s_cutArr hM.obj h hT ho hk hs.1 hl hn (Nat.eq_of_beq_eq_true hs.2.1) ((blt_iff _ _).1 hs.2.2) hr
        · trivial
      · trivial
  · trivial
theorem s_indexAll (hM : Mem n0 c H w) (h : EnvR c w env a.tmps) (hT : TabOk P T) {t : TypeId} {x y : Operand} (ho : o.op = .indexAddr t x y) : PureSpec P c w H o a (indexR (T.kind t) (T.esize t) (T.alen t) H (evalO env x) (evalO env y)) := by
  unfold indexR
  split
  · rename_i k j hj
    have hy := int_inv (hj ▸ evalO_rel h y)
    split
    · rename_i hk
      cases hs : szOk H (T.esize t) (evalO env x) with
      | false => trivial
      | true => exact s_indexN hM.obj h hT ho (.inl hk) hs hy
    · rename_i hk
      cases hs : szOk H (T.esize t) (evalO env x) with
      | false => trivial
      | true => exact s_indexN hM.obj h hT ho (.inr hk) hs hy
    · rename_i hk
      cases hs : szOk H (T.esize t) (evalO env x) with
      | false => trivial
      | true => exact s_indexA hM.obj h hT ho hk hs hy
    · trivial
  · trivial
theorem s_indexByte (hM : Mem n0 c H w) (h : EnvR c w env a.tmps) (hT : TabOk P T) {f : FuncId} (hf : find T.ext f = some 1) {vals : Array Value} {args : List AV} (hrun : (execOp a.eval o).run P w = (callFunc f vals).run P w) (hv : ArgsR c w args vals) : Spec P n0 c w o a (two (indexByteR H) args) := by
  cases args with
  | nil => trivial
  | cons x r =>
    cases r with
    | nil => trivial
    | cons y q =>
      cases q with
      | cons z q => trivial
      | nil =>
        show Spec P n0 c w o a (indexByteR H x y)
        obtain ⟨h1, h2⟩ := hv
        have hx := h2 0 x rfl
        have hy := h2 1 y rfl
        unfold indexByteR
        split
        · rename_i s
          split
          · rename_i k n
            split
            · rename_i hk
              have hk' : k = .u8 := by simpa using hk
              subst hk'
              intro _
              obtain ⟨fn, g1, g2, g3, g4, g5⟩ := hT.ext f hf
              have e0 := str_inv hx
              have e1 := int_inv hy
              have hvals : vals = #[.string s, .int .u8 n] := by
                apply Array.ext
                · simpa using h1
                · intro i i1 i2
                  simp at i2
                  have : i = 0 ∨ i = 1 := by omega
                  rcases this with rfl | rfl
                  · simpa [Array.getD, i1] using e0
                  · simpa [Array.getD, i1] using e1
              refine Pure1.mem hM ⟨_, ?_, .int _ _⟩
              rw [hrun, run_callFunc_extern g1 g2 g3 g4 g5, hvals, run_indexByte_string]
              rfl
            · trivial
          · trivial
        · trivial
theorem s_callV (h : EnvR c w env a.tmps) {f : Operand} {args : Array Operand} {ts : Array TypeId} (ho : o.op = .call { callee := .value f, args := args, argTypes := ts }) {g : FuncId} {caps : List AV} (hf : evalO env f = .fn g caps) :
    ∃ vals, (execOp a.eval o).run P w = (callFunc g vals).run P w ∧ ArgsR c w (args.toList.map (evalO env) ++ caps) vals := by
  have hfr := hf ▸ evalO_rel h f
  generalize hv : a.eval f = vf at *
  cases hfr with
  | fn hl u h1 h2 =>
    rename_i vs
    refine ⟨args.map a.eval ++ vs, ?_, ?_⟩
    · simp [execOp, ho, resolve, hv, Deferred.ofValue, invoke, Sem.run_bind, Sem.run_pure]
    · have ha := args_rel h args
      refine ⟨by simp [hl], fun j x hx => ?_⟩
      by_cases hj : j < args.size
      · rw [List.getElem?_append_left (by simpa using hj)] at hx
        have := ha.2 j x hx
        rw [List.getD_eq_getElem?_getD] at this
        simpa [Array.getD_eq_getD_getElem?, Array.getElem?_append_left, hj] using this
      · rw [List.getElem?_append_right (by simpa using hj)] at hx
        simp only [List.length_map, Array.length_toList] at hx
        have := h1 _ x hx
        rw [Array.getD_eq_getD_getElem?, Array.getElem?_append_right (by simpa using hj)]
        simp only [Array.size_map, this, Option.getD_some]
        exact h2 _ x hx
theorem op_ok (hT : TabOk P T) (h : EnvR c w env a.tmps) (hM : Mem n0 c H w) {x : AV} {H' : List HObj} (hr : opR T H env o.op = .ok true x H') : MemSpecN P n0 c w o a x H' := by
  have pure' : ∀ r, PureSpec P c w H o a r → r = .ok true x H' → MemSpecN P n0 c w o a x H' := fun r hp he => by
    subst he
    exact (PureSpec.spec hM hp rfl).n
  have spec' : ∀ r, Spec P n0 c w o a r → r = .ok true x H' → MemSpecN P n0 c w o a x H' := fun r hp he => by
    subst he
    exact (hp rfl).n
  cases hop : o.op with
  | move y =>
    rw [hop] at hr
    refine pure' (.ok true (evalO env y) H) (fun _ => ⟨rfl, s_move h y (.inl hop)⟩) hr
  | assign y =>
    rw [hop] at hr
    refine pure' (.ok true (evalO env y) H) (fun _ => ⟨rfl, s_move h y (.inr hop)⟩) hr
  | binOp b t y z u => rw [hop] at hr; exact pure' _ (s_bin hT h H hM.obj hop) hr
  | unOp b t y => rw [hop] at hr; exact pure' _ (s_un h hop) hr
  | convert s d y => rw [hop] at hr; exact spec' _ (s_convert hM h hT hop) hr
  | indexAddr t y i => rw [hop] at hr; exact pure' _ (s_indexAll hM h hT hop) hr
  | index t y i => rw [hop] at hr; exact pure' _ (s_index h hT hop) hr
  | load t y => rw [hop] at hr; exact pure' _ (s_load hM.obj h hT hop) hr
  | store t y z => rw [hop] at hr; exact s_store hM h hT hop hr
  | slice t y lo hi mx => rw [hop] at hr; exact pure' _ (s_sliceAll hM h hT hop) hr
  | field t y f => rw [hop] at hr; exact pure' _ (s_field h hT hop) hr
  | fieldAddr t y f => rw [hop] at hr; exact pure' _ (s_fieldAddr hM.obj h hT hop) hr
  | alloc t => rw [hop] at hr; exact spec' _ (s_alloc hM h hT hop) hr
  | box t y =>
    rw [hop] at hr
    have hr' : oBox H (evalO env y) = .ok true x H' := hr
    unfold oBox at hr'
    simp only [OpR.ok.injEq] at hr'
    obtain ⟨hv, rfl, rfl⟩ := hr'
    exact (s_box hM h hop hv).n
  | build t ps => rw [hop] at hr; exact pure' _ (s_build h hT hop) hr
  | buildSlice t n ps => rw [hop] at hr; exact spec' _ (s_buildSlice hM h hT hop) hr
  | makeSlice t y z => rw [hop] at hr; exact spec' _ (s_makeSlice hM h hT hop) hr
  | makeFunc f fs cs => rw [hop] at hr; exact pure' _ (s_makeFunc h hop) hr
  | extract y i => rw [hop] at hr; exact pure' _ (s_extract h hop) hr
  | pick y z u => rw [hop] at hr; exact pure' _ (s_pick h hop) hr
  | nilCheck y => rw [hop] at hr; exact pure' _ (s_nilCheck h hop) hr
  | call cl =>
    rw [hop] at hr
    obtain ⟨cal, args, ts⟩ := cl
    have hr' : oCall T H env cal (args.toList.map (evalO env)) ts.toList = .ok true x H' := hr
    unfold oCall at hr'
    split at hr'
    · exact spec' _ (s_builtin hM h hT hop) hr'
    · rename_i f
      unfold oCallV at hr'
      split at hr'
      · rename_i g caps hf
        split at hr'
        · simp at hr'
        · rename_i k hk
          cases hb : Nat.beq k 1 with
          | false => rw [hb] at hr'; simp at hr'
          | true =>
            rw [hb] at hr'
            have := Nat.eq_of_beq_eq_true hb
            subst this
            obtain ⟨vals, h1, h2⟩ := s_callV (P := P) (w := w) h hop hf
            exact spec' _ (s_indexByte hM h hT hk h1 h2) hr'
      · simp at hr'
    · simp at hr'
  | _ => rw [hop] at hr; simp [opR] at hr
theorem op_call (hT : TabOk P T) (h : EnvR c w env a.tmps) (hM : Mem n0 c H w) {f : FuncId} {args : List AV} (hr : opR T H env o.op = .call f args) (hf : (fnOf P f).isSome = true) : ∃ vals, (execOp a.eval o).run P w = .ok (.enter f vals) w ∧ ArgsR c w args vals := by
  have pure' : ∀ r, PureSpec P c w H o a r → r ≠ .call f args := fun r hp he => by subst he; exact hp
  have spec' : ∀ r, Spec P n0 c w o a r → r ≠ .call f args := fun r hp he => by subst he; exact hp
  cases hop : o.op with
  | call cl =>
    rw [hop] at hr
    obtain ⟨cal, as, ts⟩ := cl
    have hr' : oCall T H env cal (as.toList.map (evalO env)) ts.toList = .call f args := hr
    unfold oCall at hr'
    split at hr'
    · exact (spec' _ (s_builtin hM h hT hop) hr').elim
    · rename_i fo
      unfold oCallV at hr'
      split at hr'
      · rename_i g caps hfo
        split at hr'
        · simp only [OpR.call.injEq] at hr'
          obtain ⟨rfl, rfl⟩ := hr'
          obtain ⟨vals, h1, h2⟩ := s_callV (P := P) (w := w) h hop hfo
          refine ⟨vals, ?_, h2⟩
          rw [h1]
          unfold fnOf at hf
          split at hf
          · rename_i fn hfn
            split at hf
            · rename_i cd hb
              cases hnm : (fn.name == "runtime.NumGoroutine") with
              | true => rw [hnm] at hf; simp at hf
              | false =>
                have hnm' : fn.name ≠ "runtime.NumGoroutine" := by simpa using hnm
                simp [callFunc, hfn, hnm', hb, Sem.run_bind, Sem.run_pure]
            · simp at hf
          · simp at hf
        · rename_i k hk
          cases hb : Nat.beq k 1 with
          | false => rw [hb] at hr'; simp at hr'
          | true =>
            rw [hb] at hr'
            have := Nat.eq_of_beq_eq_true hb
            subst this
            obtain ⟨vals, h1, h2⟩ := s_callV (P := P) (w := w) h hop hfo
            exact (spec' _ (s_indexByte hM h hT hk h1 h2) hr').elim
      · simp at hr'
    · simp at hr'
  | move y => rw [hop] at hr; simp [opR, oMove] at hr
  | assign y => rw [hop] at hr; simp [opR, oMove] at hr
  | binOp b t y z u => rw [hop] at hr; exact (pure' _ (s_bin hT h H hM.obj hop) hr).elim
  | unOp b t y => rw [hop] at hr; exact (pure' _ (s_un h hop) hr).elim
  | convert s d y => rw [hop] at hr; exact (spec' _ (s_convert hM h hT hop) hr).elim
  | indexAddr t y i => rw [hop] at hr; exact (pure' _ (s_indexAll hM h hT hop) hr).elim
  | index t y i => rw [hop] at hr; exact (pure' _ (s_index h hT hop) hr).elim
  | load t y => rw [hop] at hr; exact (pure' _ (s_load hM.obj h hT hop) hr).elim
  | store t y z =>
    rw [hop] at hr
    have hr' : storeR T H t (evalO env z) (evalO env y) = .call f args := hr
    unfold storeR storeBox storeElt at hr'
    exfalso
    revert hr'
    repeat' split
    all_goals first
      | (intro hh; simp at hh; done)
      | (cases hcon : (showL (cellsOf (evalO env z))).contains _ <;> intro hh <;> simp at hh)
  | slice t y lo hi mx => rw [hop] at hr; exact (pure' _ (s_sliceAll hM h hT hop) hr).elim
  | field t y f => rw [hop] at hr; exact (pure' _ (s_field h hT hop) hr).elim
  | fieldAddr t y f => rw [hop] at hr; exact (pure' _ (s_fieldAddr hM.obj h hT hop) hr).elim
  | alloc t => rw [hop] at hr; exact (spec' _ (s_alloc hM h hT hop) hr).elim
  | box t y => rw [hop] at hr; simp [opR, oBox] at hr
  | build t ps => rw [hop] at hr; exact (pure' _ (s_build h hT hop) hr).elim
  | buildSlice t n ps => rw [hop] at hr; exact (spec' _ (s_buildSlice hM h hT hop) hr).elim
  | makeSlice t y z => rw [hop] at hr; exact (spec' _ (s_makeSlice hM h hT hop) hr).elim
  | makeFunc f fs cs => rw [hop] at hr; exact (pure' _ (s_makeFunc h hop) hr).elim
  | extract y i => rw [hop] at hr; exact (pure' _ (s_extract h hop) hr).elim
  | pick y z u => rw [hop] at hr; exact (pure' _ (s_pick h hop) hr).elim
  | nilCheck y => rw [hop] at hr; exact (pure' _ (s_nilCheck h hop) hr).elim
  | _ => rw [hop] at hr; simp [opR] at hr
theorem opSound (hT : TabOk P T) (n0 : Nat) : OpSound P T n0 := ⟨fun h hM hr => op_ok hT h hM hr, fun h hM hr hf => op_call hT h hM hr hf⟩
end
end Go.Proofs.Ytejcniaepjahbaa.Mach
