/- Loops: the state at a loop's head, told by what lives on. -/
import Derived.Test.YtejcniaepjahbaaM39
set_option linter.unusedSimpArgs false
set_option linter.unusedVariables false
namespace Go.Proofs.Ytejcniaepjahbaa.Mach
open Go
/-- the end of a call, as its caller sees it -/
def Fin (n0 : Nat) (S0 : Nat → Prop) (w : World) (K : AV → List HObj → Prop) (v : Value) (w' : World) : Prop := ∃ c x H', c.S0 = S0 ∧ (∀ g, S0 g → c.S g) ∧ RowKit.Below n0 w w' ∧ (∀ g, S0 g → w'.heap[g]? = w.heap[g]?) ∧ AVR c w' x v ∧ Mem n0 c H' w' ∧ K x H'
def GoodL (P : Program) (n0 : Nat) (f : FuncId) (K : AV → List HObj → Prop) (todo : List Item) (st : St) : Prop :=
  ∀ (c : Ctx) (w : World) (a : Act) (cs : List Frame), StR n0 c w st a → (∀ g, c.S0 g → c.S g) → ∃ v w' fr, Fin n0 c.S0 w K v w' ∧
    Steps P (lone (({ (default : Frame) with fn := f, kind := .normal } : Frame).at a todo) cs w) (lone fr cs w') ∧ fr.fn = f ∧ fr.leaving P w' (.returned v)
/-! ### a context by another reckoning -/
theorem AVR.re {c c' : Ctx} {w : World} (hn : c'.n = c.n) (hm : c'.m = c.m) (hz : c'.z = c.z) (hS : c'.S = c.S) {x : AV} {v : Value} (h : AVR c w x v) : AVR c' w x v := by
  induction h with
  | undef v => exact .undef v
  | int k n => exact .int k n
  | bool b => exact .bool b
  | str s => exact .str s
  | imm h => exact .imm (by rw [hS]; exact h)
  | own hb h => exact .own (by omega) (by rw [hm]; exact h)
  | win hb h h1 h2 h3 => exact .win (by omega) (by rw [hm]; exact h) h1 h2 (by rw [hz]; exact h3)
  | nils => exact .nils
  | ptr hb h => exact .ptr (by omega) (by rw [hm]; exact h)
  | elt hb h h0 h1 h2 => rw [← hz]; exact .elt (by omega) (by rw [hm]; exact h) h0 h1 (by rw [hz]; exact h2)
  | parr hb h => exact .parr (by omega) (by rw [hm]; exact h)
  | adr hg u h1 h ih => exact .adr (by rw [hS]; exact hg) u h1 ih
  | nilp => exact .nilp
  | agg hl u h1 h ih => exact .agg hl u h1 ih
  | tup hl u h1 h ih => exact .tup hl u h1 ih
  | fn hl u h1 h ih => exact .fn hl u h1 ih
  | raw v => exact .raw v
theorem ObjR.re {n0 : Nat} {c c' : Ctx} {w : World} (hn : c'.n = c.n) (hm : c'.m = c.m) (hz : c'.z = c.z) (hS : c'.S = c.S) {id : Nat} {ob : HObj} (h : ObjR n0 c w id ob) : ObjR n0 c' w id ob := by
  cases ob with
  | dead => trivial
  | typed e xs fz =>
    obtain ⟨h1, ⟨Ty, cells, h2, h3⟩, h4⟩ := h
    refine ⟨by rw [hz]; exact h1, ⟨Ty, cells, by rw [hm]; exact h2, by rw [hS]; exact h3⟩, fun g hg => ?_⟩
    rw [hm] at hg
    rw [hS]
    exact h4 g hg
  | box cs =>
    obtain ⟨g, Ty, arr, h1, h2, h3, h4, h5, h6⟩ := h
    exact ⟨g, Ty, arr, by rw [hm]; exact h1, h2, h3, h4, fun j x hx => (h5 j x hx).re hn hm hz hS, by rw [hS]; exact h6⟩
theorem HR.re {n0 : Nat} {c c' : Ctx} {H : List HObj} {w : World} (hn : c'.n = c.n) (hm : c'.m = c.m) (hz : c'.z = c.z) (hS : c'.S = c.S) (h : HR n0 c H w) : HR n0 c' H w :=
  ⟨hn.trans h.len, fun id hid => (h.obj id hid).re hn hm hz hS, fun i j g hi hj hne ai aj bi => by
    rw [hm] at bi ⊢
    exact h.dist i j g hi hj hne ai aj bi⟩
section
variable {P : Program} {T : Tab} {n0 : Nat} {f : FuncId} {K : AV → List HObj → Prop}
theorem goodL_isGood {fn : Func} (hf : P.funcs[f]? = some fn) : IsGood P n0 f fn K (GoodL P n0 f K) where
  to h c w a cs hr hS := by
    obtain ⟨todo', st', c', w', a', hg, h1, h2, h3⟩ := h c w a cs hr
    have hS0 := h1.le.S0
    obtain ⟨v, w'', fr, ⟨c2, x, H', q1, q2, q3, q4, q5, q6, q7⟩, hst, hfn, hl⟩ := hg c' w' a' cs h2 (fun g hg => h1.le.S g (hS g (by rw [← hS0]; exact hg)))
    rw [hS0] at q1 q2 q4
    exact ⟨v, w'', fr, ⟨c2, x, H', q1, q2, h1.below.trans q3, fun g hg => (q4 g hg).trans (h1.stab g (hS g hg)), q5, q6, q7⟩, h3.trans hst, hfn, hl⟩
  fin h c w a cs hr hS := by
    obtain ⟨v, x, todo', h1, h2, h3, h4⟩ := h c w a cs hr
    exact ⟨v, w, _, ⟨c, x, _, rfl, hS, RowKit.Below.refl n0 w, fun _ _ => rfl, h3, hr.mem, h4⟩, h1, rfl, rfl, hr.nod, rfl, fn, hf, h2⟩
  un h c w a cs hr hS := by
    obtain ⟨v, w'', fr, hE, hst, hfn, hl⟩ := h c w a cs hr hS
    exact ⟨v, w'', fr, hE, unstep hst hl, hfn, hl⟩
/-- a call, out of its frame's beginning -/
theorem con_of {g : FuncId} {gn : FnT} (hg : fnOf P g = some gn) {args : List AV} {Q : AV → List HObj → Prop} (hn : Nat.ble args.length gn.n = true)
    (h : ∀ n0, GoodL P n0 g (fun v' H' => ∃ v objs, Q v objs ∧ outOk objs.length v = true ∧ typedL objs = true ∧ Ren H' v' v objs) [.code gn.body] ⟨initEnv gn.n args, []⟩) : Con P g args Q := by
  intro n0
  refine ⟨by rw [hg]; rfl, fun c w vals ha hm cs => ?_⟩
  obtain ⟨fn, hf, hb, h1, h2⟩ := fnOf_spec hg
  have henter : Frame.enter P g vals .normal = ({ (default : Frame) with fn := g, kind := .normal } : Frame).at { tmps := vals ++ Array.replicate (gn.n - vals.size) undef, defers := [] } [.code gn.body] := by
    simp [Frame.enter, Frame.at, hf, hb, h1]
  let c0 : Ctx := ⟨c.n, c.m, c.z, c.S, c.S⟩
  have ha0 : ArgsR c0 w args vals := ⟨ha.1, fun j x hx => AVR.re (c := c) (c' := c0) rfl rfl rfl rfl (ha.2 j x hx)⟩
  have hm0 : Mem n0 c0 [] w := ⟨HR.re (c := c) (c' := c0) rfl rfl rfl rfl hm.obj, hm.base, hm.stab, fun g hg _ => hg⟩
  obtain ⟨v, w', fr, ⟨c2, x, H', q1, q2, q3, q4, q5, q6, q7⟩, hs, hfn, hl⟩ := h n0 c0 w { tmps := vals ++ Array.replicate (gn.n - vals.size) undef, defers := [] } cs ⟨initEnv_rel ha0 ((ble_iff _ _).1 hn), hm0, rfl⟩ (fun g hg => hg)
  have hcn : c.n = 0 := hm.obj.len
  refine ⟨.returned v, w', fr, ⟨v, rfl, ⟨c2.n, c2.m, c2.z, c2.S, c.S0⟩, x, H', ⟨⟨by omega, fun id hid => by omega, fun id hid => by omega, fun g hg => q2 g hg, rfl⟩, q3, fun g hg => q4 g hg⟩, AVR.re (c := c2) (c' := ⟨c2.n, c2.m, c2.z, c2.S, c.S0⟩) rfl rfl rfl rfl q5,
    ⟨HR.re (c := c2) (c' := ⟨c2.n, c2.m, c2.z, c2.S, c.S0⟩) rfl rfl rfl rfl q6.obj, q6.base, q6.stab, fun g hg hlt => ?_⟩, q7⟩, ?_, hfn, hl⟩
  · have := q6.old g hg hlt
    rw [q1] at this
    exact hm.old g this hlt
  · rw [henter]; exact hs
end
/-! ### what lives on -/
noncomputable section
def idxOf (ρ : List Nat) (id : Nat) : Option Nat := List.rec none (fun x _ ih => bif Nat.beq x id then some 0 else (match ih with | some k => some (k + 1) | none => none)) ρ
def inv0 (ρ : List Nat) : AV → AV
  | .own id => (match idxOf ρ id with | some k => .own k | none => .undef)
  | .win id o n => (match idxOf ρ id with | some k => .win k o n | none => .undef)
  | .ptr id o => (match idxOf ρ id with | some k => .ptr k o | none => .undef)
  | .elt id i o => (match idxOf ρ id with | some k => .elt k i o | none => .undef)
  | .parr id => (match idxOf ρ id with | some k => .parr k | none => .undef)
  | .int k n => .int k n
  | .bool b => .bool b
  | .str s => .str s
  | .imm e l => .imm e l
  | .nils => .nils
  | .nilp => .nilp
  | .raw v => .raw v
  | _ => .undef
def inv1 (ρ : List Nat) : AV → AV
  | .agg cs => .agg (cs.map (inv0 ρ))
  | .tup cs => .tup (cs.map (inv0 ρ))
  | .fn f cs => .fn f (cs.map (inv0 ρ))
  | x => inv0 ρ x
def invObj (ρ : List Nat) : HObj → HObj
  | .typed e xs fz => .typed e xs fz
  | .box cs => .box (cs.map (inv1 ρ))
  | .dead => .dead
def refs0 : AV → List Nat
  | .own id => [id]
  | .win id _ _ => [id]
  | .ptr id _ => [id]
  | .elt id _ _ => [id]
  | .parr id => [id]
  | _ => []
def refsL (l : List AV) : List Nat := List.rec [] (fun x _ ih => refs0 x ++ ih) l
def refs1 : AV → List Nat
  | .agg cs => refsL cs
  | .tup cs => refsL cs
  | .fn _ cs => refsL cs
  | x => refs0 x
def hasN (l : List Nat) (n : Nat) : Bool := List.rec false (fun x _ ih => bif Nat.beq x n then true else ih) l
def addL (new : List Nat) : List Nat → List Nat := List.rec (fun l => l) (fun x _ ih l => ih (bif hasN l x then l else l ++ [x])) new
def objRefs : HObj → List Nat
  | .box cs => List.rec [] (fun x _ ih => refs1 x ++ ih) cs
  | _ => []
def slotRefs (env : Env) (L : List Nat) : List Nat := List.rec [] (fun i _ ih => refs1 (getE env i) ++ ih) L
def objsRefs (H : List HObj) (l : List Nat) : List Nat := List.rec [] (fun i _ ih => objRefs (objAt H i) ++ ih) l
/-- the objects that the slots L reach (by way of at most two variables) -/
def idsOf (L : List Nat) (st : St) : List Nat := (fun l0 => (fun l1 => addL (objsRefs st.H l1) l1) (addL (objsRefs st.H l0) l0)) (addL (slotRefs st.env L) [])
def noDup (l : List Nat) : Bool := List.rec true (fun x r ih => bif hasN r x then false else ih) l
def setAll (n : Nat) (slots : List (Nat × AV)) : Env := List.rec ⟨n, emptyT (bif Nat.blt n 62 then 6 else bif Nat.blt n 126 then 7 else bif Nat.blt n 254 then 8 else 11)⟩ (fun p _ ih => setE ih p.1 p.2) slots
/-- a state by its slots and objects -/
def stOf (n : Nat) (slots : List (Nat × AV)) (H : List HObj) : St := ⟨setAll n slots, H⟩
def maskWith (L : List Nat) (st : St) (ρ : List Nat) : St := stOf st.env.lim (L.map fun i => (i, inv1 ρ (getE st.env i))) (ρ.map fun id => invObj ρ (objAt st.H id))
/-- the first region of a piece of code -/
def firstReg : Code → Nat
  | .region id _ _ => id
  | .seq a _ => firstReg a
  | .block _ a => firstReg a
  | .loop a => firstReg a
  | _ => 0
/-- the loop that begins with region r: what is to be done from its head on -/
def headBy (r : Nat) : Code → List Item → Option (List Item)
  | .seq a b, k => (match headBy r a (.code b :: k) with | some x => some x | none => headBy r b k)
  | .cond _ a b, k => (match headBy r a k with | some x => some x | none => headBy r b k)
  | .block id a, k => headBy r a (.inBlock id :: k)
  | .loop b, k => bif Nat.beq (firstReg b) r then some (.inLoop b :: k) else headBy r b (.inLoop b :: k)
  | _, _ => none
def headAt (gn : FnT) (r : Nat) : List Item := (headBy r gn.body []).getD []
/-- the round of the loop -/
def roundAt (gn : FnT) (r : Nat) : List Item := match headAt gn r with
  | .inLoop c :: k => .code c :: .inLoop c :: k
  | l => l
/-- calls: some walked into, the others by contracts -/
def mixK (T : Tab) (C : FuncId → List AV → (AV → List HObj → Prop) → Prop) (inl : List Nat) (k : Nat) : CallK := fun g args H keep K => bif hasN inl g then callRun T (run T k) g args H keep K else conK C g args H keep K
/-- at a loop's head: only what lives on (LT tells it, by the loop's first region) -/
def maskK (LT : List (Nat × List Nat)) (G : List Item → St → Prop) (todo : List Item) (st : St) : Prop := match todo with
  | .inLoop c :: r => (match find LT (firstReg c) with
    | some L => (fun ρ => bif noDup ρ then G (.inLoop c :: r) (maskWith L st ρ) else False) (idsOf L st)
    | none => False)
  | _ => False
end
theorem idxOf_spec {ρ : List Nat} {id k : Nat} (h : idxOf ρ id = some k) : ρ[k]? = some id := by
  induction ρ generalizing k with
  | nil => simp [idxOf] at h
  | cons x ρ ih =>
    have h' : (bif Nat.beq x id then some 0 else (match idxOf ρ id with | some k => some (k + 1) | none => none)) = some k := h
    cases hb : Nat.beq x id with
    | true =>
      rw [hb] at h'
      have := Option.some.inj h'
      subst this
      rw [Nat.eq_of_beq_eq_true hb]; rfl
    | false =>
      rw [hb] at h'
      simp only [cond_false] at h'
      split at h'
      · rename_i j hj
        have := Option.some.inj h'
        subst this
        simpa using ih hj
      · simp at h'
theorem hasN_spec {l : List Nat} {n : Nat} (h : hasN l n = false) : n ∉ l := by
  induction l with
  | nil => simp
  | cons x l ih =>
    have h' : (bif Nat.beq x n then true else hasN l n) = false := h
    cases hb : Nat.beq x n with
    | true => rw [hb] at h'; simp at h'
    | false =>
      rw [hb] at h'
      intro hm
      rcases List.mem_cons.1 hm with rfl | hm
      · rw [Nat.beq_refl] at hb; simp at hb
      · exact ih h' hm
theorem noDup_spec : ∀ {l : List Nat}, noDup l = true → l.Nodup
  | [], _ => List.nodup_nil
  | x :: l, h => by
    have h' : (bif hasN l x then false else noDup l) = true := h
    cases hb : hasN l x with
    | true => rw [hb] at h'; simp at h'
    | false => rw [hb] at h'; exact List.nodup_cons.2 ⟨hasN_spec hb, noDup_spec (l := l) h'⟩
section
variable {P : Program} {T : Tab} {n0 : Nat} {f : FuncId} {K : AV → List HObj → Prop}
/-- the context of what lives on -/
def Ctx.pick (c : Ctx) (ρ : List Nat) : Ctx := ⟨ρ.length, fun k => c.m (ρ.getD k 0), fun k => c.z (ρ.getD k 0), c.S, c.S0⟩
theorem inv0_rel {c : Ctx} {w : World} {ρ : List Nat} {x : AV} {v : Value} (h : AVR c w x v) : AVR (c.pick ρ) w (inv0 ρ x) v := by
  have key : ∀ {id k : Nat}, idxOf ρ id = some k → k < ρ.length ∧ ρ.getD k 0 = id := fun hk => by
    have := idxOf_spec hk
    exact ⟨(List.getElem?_eq_some_iff.1 this).1, by rw [List.getD_eq_getElem?_getD, this]; rfl⟩
  cases h <;> simp only [inv0]
  case undef => exact .undef _
  case int => exact .int _ _
  case bool => exact .bool _
  case str => exact .str _
  case imm h => exact .imm h
  case own hb hm =>
    split
    · rename_i k hk
      obtain ⟨h1, h2⟩ := key hk
      exact .own h1 (by simp only [Ctx.pick]; rw [h2]; exact hm)
    · exact .undef _
  case win hb hm p1 p2 p3 =>
    split
    · rename_i k hk
      obtain ⟨h1, h2⟩ := key hk
      exact .win h1 (by simp only [Ctx.pick]; rw [h2]; exact hm) p1 p2 (by simp only [Ctx.pick]; rw [h2]; exact p3)
    · exact .undef _
  case nils => exact .nils
  case ptr hb hm =>
    split
    · rename_i k hk
      obtain ⟨h1, h2⟩ := key hk
      exact .ptr h1 (by simp only [Ctx.pick]; rw [h2]; exact hm)
    · exact .undef _
  case elt id off g n k' i hb hm p0 p1 p2 =>
    split
    · rename_i k hk
      obtain ⟨h1, h2⟩ := key hk
      have e1 : c.z id = (c.pick ρ).z k := by simp only [Ctx.pick]; rw [h2]
      rw [e1]
      exact .elt h1 (by simp only [Ctx.pick]; rw [h2]; exact hm) p0 p1 (by rw [← e1]; exact p2)
    · exact .undef _
  case parr hb hm =>
    split
    · rename_i k hk
      obtain ⟨h1, h2⟩ := key hk
      exact .parr h1 (by simp only [Ctx.pick]; rw [h2]; exact hm)
    · exact .undef _
  case adr => exact .undef _
  case nilp => exact .nilp
  case agg => exact .undef _
  case tup => exact .undef _
  case fn => exact .undef _
  case raw => exact .raw _
theorem inv1_rel {c : Ctx} {w : World} {ρ : List Nat} {x : AV} {v : Value} (h : AVR c w x v) : AVR (c.pick ρ) w (inv1 ρ x) v := by
  have lst : ∀ {cs : List AV} {u : Nat → Value}, (∀ (j : Nat) (x : AV), cs[j]? = some x → AVR c w x (u j)) → ∀ (j : Nat) (y : AV), (cs.map (inv0 ρ))[j]? = some y → ∃ x, cs[j]? = some x ∧ AVR (c.pick ρ) w y (u j) := fun hh j y hy => by
    rw [List.getElem?_map, Option.map_eq_some_iff] at hy
    obtain ⟨x, hx, rfl⟩ := hy
    exact ⟨x, hx, inv0_rel (hh j x hx)⟩
  cases x with
  | agg cs =>
    cases h with
    | agg hl u h1 h2 => exact .agg (by simpa using hl) u (fun j y hy => by obtain ⟨x, hx, _⟩ := lst h2 j y hy; exact h1 j x hx) (fun j y hy => by obtain ⟨x, _, hr⟩ := lst h2 j y hy; exact hr)
  | tup cs =>
    cases h with
    | tup hl u h1 h2 => exact .tup (by simpa using hl) u (fun j y hy => by obtain ⟨x, hx, _⟩ := lst h2 j y hy; exact h1 j x hx) (fun j y hy => by obtain ⟨x, _, hr⟩ := lst h2 j y hy; exact hr)
  | fn f cs =>
    cases h with
    | fn hl u h1 h2 => exact .fn (by simpa using hl) u (fun j y hy => by obtain ⟨x, hx, _⟩ := lst h2 j y hy; exact h1 j x hx) (fun j y hy => by obtain ⟨x, _, hr⟩ := lst h2 j y hy; exact hr)
  | _ => exact inv0_rel h
theorem setAll_rel {c : Ctx} {w : World} {n : Nat} {tmps : Array Value} (hn : n = tmps.size) : ∀ (slots : List (Nat × AV)), (∀ p ∈ slots, AVR c w p.2 (tmps.getD p.1 Go.undef)) → EnvR c w (setAll n slots) tmps
  | [], _ => by
    refine ⟨hn, fun i => ?_⟩
    show AVR c w (getE ⟨n, emptyT _⟩ i) _
    unfold getE
    cases Nat.blt i (Env.lim ⟨n, emptyT (bif Nat.blt n 62 then 6 else bif Nat.blt n 126 then 7 else bif Nat.blt n 254 then 8 else 11)⟩) with
    | false => exact .undef _
    | true => simp only [cond_true]; rw [getT_empty]; exact .undef _
  | p :: slots, h => by
    show EnvR c w (setE (setAll n slots) p.1 p.2) tmps
    exact (setAll_rel hn slots fun q hq => h q (by simp [hq])).lay p.1 (h p (by simp))
theorem pick_mem {c : Ctx} {H : List HObj} {w : World} (hM : Mem n0 c H w) {ρ : List Nat} (hnd : ρ.Nodup) : Mem n0 (c.pick ρ) (ρ.map fun id => invObj ρ (objAt H id)) w := by
  have hget : ∀ k, k < ρ.length → objAt (ρ.map fun id => invObj ρ (objAt H id)) k = invObj ρ (objAt H (ρ.getD k 0)) := fun k hk => by
    rw [objAt_get, List.getElem?_map, List.getD_eq_getElem?_getD, List.getElem?_eq_getElem hk]; rfl
  have hal : ∀ o : HObj, alive (invObj ρ o) = alive o := fun o => by cases o <;> rfl
  have hlt : ∀ id, alive (objAt H id) = true → id < H.length := fun id h => objAt_lt (fun he => by rw [he] at h; simp [alive] at h)
  refine ⟨⟨by simp [Ctx.pick], fun k hk => ?_, fun i j g hi hj hne ai aj bi => ?_⟩, hM.base, hM.stab, hM.old⟩
  · rw [List.length_map] at hk
    rw [hget k hk]
    by_cases ha : alive (objAt H (ρ.getD k 0)) = true
    · have hob := hM.obj.obj _ (hlt _ ha)
      generalize hid : ρ.getD k 0 = id at *
      have hmk : (c.pick ρ).m k = c.m id := by simp only [Ctx.pick]; rw [hid]
      have hzk : (c.pick ρ).z k = c.z id := by simp only [Ctx.pick]; rw [hid]
      cases ho : objAt H id with
      | dead => trivial
      | typed e xs fz =>
        rw [ho] at hob
        obtain ⟨h1, ⟨Ty, cells, h2, h3⟩, h4⟩ := hob
        exact ⟨hzk.trans h1, ⟨Ty, cells, by rw [hmk]; exact h2, h3⟩, fun g hg => by rw [hmk] at hg; exact h4 g hg⟩
      | box cs =>
        rw [ho] at hob
        obtain ⟨g, Ty, arr, h1, h2, h3, h4, h5, h6⟩ := hob
        refine ⟨g, Ty, arr, hmk.trans h1, h2, h3, by simpa using h4, fun j y hy => ?_, h6⟩
        rw [List.getElem?_map, Option.map_eq_some_iff] at hy
        obtain ⟨x, hx, rfl⟩ := hy
        exact inv1_rel (h5 j x hx)
    · cases ho : objAt H (ρ.getD k 0) with
      | dead => trivial
      | typed e xs fz => rw [ho] at ha; simp [alive] at ha
      | box cs => rw [ho] at ha; simp [alive] at ha
  · rw [List.length_map] at hi hj
    rw [hget i hi, hal] at ai
    rw [hget j hj, hal] at aj
    refine hM.obj.dist _ _ g (hlt _ ai) (hlt _ aj) (fun he => hne ?_) ai aj bi
    rw [List.getD_eq_getElem?_getD, List.getD_eq_getElem?_getD, List.getElem?_eq_getElem hi, List.getElem?_eq_getElem hj] at he
    exact (List.getElem_inj hnd).1 he
/-- it is enough to run on from what lives on -/
theorem mask_ok {todo : List Item} {L : List Nat} {st : St} {ρ : List Nat} (hnd : ρ.Nodup) (h : GoodL P n0 f K todo (maskWith L st ρ)) : GoodL P n0 f K todo st := by
  intro c w a cs hr hS
  refine h (c.pick ρ) w a cs ⟨?_, pick_mem hr.mem hnd, hr.nod⟩ hS
  refine setAll_rel hr.env.lim _ fun p hp => ?_
  obtain ⟨i, _, rfl⟩ := List.mem_map.1 hp
  exact inv1_rel (hr.env.at_ i)
theorem maskK_ok {LT : List (Nat × List Nat)} {todo : List Item} {st : St} (h : maskK LT (GoodL P n0 f K) todo st) : GoodL P n0 f K todo st := by
  unfold maskK at h
  split at h
  · split at h
    · rename_i L hL
      cases hb : noDup (idsOf L st) with
      | false => rw [hb] at h; exact h.elim
      | true => rw [hb] at h; exact mask_ok (noDup_spec hb) h
    · exact h.elim
  · exact h.elim
/-- a loop, by what gets less in each round -/
theorem loop_rule {α : Type} (μ : α → Nat) (pre : α → Prop) {todo : List Item} {S : α → St} (h : ∀ x, pre x → (∀ y, pre y → μ y < μ x → GoodL P n0 f K todo (S y)) → GoodL P n0 f K todo (S x)) : ∀ x, pre x → GoodL P n0 f K todo (S x) := by
  intro x
  generalize hm : μ x = n
  induction n using Nat.strongRecOn generalizing x with
  | _ n ih => exact fun hp => h x hp fun y hy hlt => ih (μ y) (by omega) y rfl hy
theorem good_step {c : Code} {k : List Item} {st : St} (h : GoodL P n0 f K (.code c :: .inLoop c :: k) st) : GoodL P n0 f K (.inLoop c :: k) st := by
  intro c' w a cs hr hS
  obtain ⟨v, w', fr, h1, h2, h3, h4⟩ := h c' w a cs hr hS
  exact ⟨v, w', fr, h1, .head step_inLoop h2, h3, h4⟩
theorem round_ok {gn : FnT} {r : Nat} {st : St} (h : GoodL P n0 f K (roundAt gn r) st) : GoodL P n0 f K (headAt gn r) st := by
  unfold roundAt at h
  split at h
  · rename_i c k hc
    rw [hc]
    exact good_step h
  · exact h
theorem mixK_ok (hT : TabOk P T) (hm : P.follows .mixedOrders = true) {C : FuncId → List AV → (AV → List HObj → Prop) → Prop} (hC : ∀ g args Q, C g args Q → Con P g args Q) (inl : List Nat) (k : Nat) : CallsOk P n0 (mixK T C inl k) := by
  intro g args H keep K h
  unfold mixK at h
  cases hb : hasN inl g with
  | true =>
    rw [hb] at h
    exact callRun_ok hT (run_sound hT (opSound hT n0) (fun callK hc => drawOk hm (opSound hT n0) hc) k) _ _ _ _ _ h
  | false =>
    rw [hb] at h
    exact conK_ok hC _ _ _ _ _ h
/-- out of the executor's word -/
theorem good_of (hT : TabOk P T) (hm : P.follows .mixedOrders = true) {callK : CallK} (hC : CallsOk P n0 callK) {gn : FnT} (hg : fnOf P f = some gn) {LT : List (Nat × List Nat)} {n : Nat} {todo : List Item} {st : St}
    (h : execN T callK (maskK LT (GoodL P n0 f K)) (finK T gn.res K) n todo st) : GoodL P n0 f K todo st := by
  obtain ⟨fn, hf, hb, h1, h2⟩ := fnOf_spec hg
  rw [h2] at h
  exact exec_sound hT (opSound hT n0) hC (drawOk hm (opSound hT n0) hC) hf (goodL_isGood hf) (fun _ _ => maskK_ok) n todo st h
end
end Go.Proofs.Ytejcniaepjahbaa.Mach
