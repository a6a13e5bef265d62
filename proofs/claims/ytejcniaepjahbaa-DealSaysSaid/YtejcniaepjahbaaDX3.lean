/- Texts of this session, put together. -/
import Derived.Test.YtejcniaepjahbaaDX2
section
/- Calls with arrays that are handed to the callee (it writes into them); a part of an array that is given back is an array of its own. -/
set_option linter.unusedSimpArgs false
set_option linter.unusedVariables false
namespace Go.Proofs.Ytejcniaepjahbaa.Mach
open Go
noncomputable section
/-- arguments: 'true' for those that are handed -/
def handL (H : List HObj) : List Bool → List AV → Nat → Option (List AV × List Nat) := fun bs => List.rec (fun xs _ => match xs with | [] => some ([], []) | _ :: _ => none)
  (fun b _ ih xs k => match xs with
    | x :: r => (match b with
      | true => (match x with | .own id => (match ih r (k + 1) with | some p => some (.own k :: p.1, id :: p.2) | none => none) | _ => none)
      | false => (match plain H x with | some y => (match ih r k with | some p => some (y :: p.1, p.2) | none => none) | none => none))
    | [] => none) bs
/-- the objects that the other arguments show -/
def restIds : List Bool → List AV → List Nat := fun bs => List.rec (fun _ => []) (fun b _ ih xs => match xs with
    | x :: r => (match b with | true => ih r | false => showL (cellsOf x) ++ ih r)
    | [] => []) bs
def handable : HObj → Bool
  | .typed e _ fz => bif fz then false else flatE e
  | _ => false
def apartL (l m : List Nat) : Bool := List.rec true (fun x _ ih => bif hasN m x then false else ih) l
def allN (p : Nat → Bool) (l : List Nat) : Bool := List.rec true (fun x _ ih => bif p x then ih else false) l
def handOk (H : List HObj) (ids rest : List Nat) : Bool := bif noDup ids then (bif apartL ids rest then allN (fun i => handable (objAt H i)) ids else false) else false
/-- what a handed array, or a new one, may have become -/
def handed1 : HObj → Bool
  | .typed e _ fz => bif fz then false else flatE e
  | .dead => true
  | .box _ => false
def goodObjs (m : Nat) (objs : List HObj) : Bool := bif (List.rec true (fun x _ ih => bif handed1 x then ih else false) (objs.take m) : Bool) then (List.rec true (fun x _ ih => bif handable x then ih else false) (objs.drop m) : Bool) else false
/-- a call, shown alone, with the arrays 'os' of its caller -/
def ConH (P : Program) (g : FuncId) (args : List AV) (os : List HObj) (Q : AV → List HObj → Prop) : Prop := ∀ n0, CallOk P n0 g args os fun v' H' => ∃ v objs, Q v objs ∧ os.length ≤ objs.length ∧ outOk objs.length v = true ∧ noImm v = true ∧ goodObjs os.length objs = true ∧
  ∃ ids : List Nat, ids.length = objs.length ∧ ids.Nodup ∧ (∀ k, k < os.length → ids[k]? = some k) ∧ (∀ (k id : Nat), ids[k]? = some id → objs[k]? = some (objAt H' id)) ∧ v' = reId (fun k => ids.getD k 0) v
def setAll0 : List Nat → List HObj → List HObj → List HObj := fun ids => List.rec (fun _ H => H) (fun i _ ih os H => match os with | o :: r => ih r (setAt H i o) | [] => H) ids
/-- behind the call: the caller's objects -/
def behindH (H : List HObj) (ids : List Nat) (objs : List HObj) : List HObj := setAll0 ids (objs.take ids.length) H ++ objs.drop ids.length
def idH (n : Nat) (ids : List Nat) (k : Nat) : Nat := bif Nat.blt k ids.length then ids.getD k 0 else n + (k - ids.length)
abbrev HCtr : Type := List AV → List HObj → (AV → List HObj → Prop) → Prop
def handCall (H : List HObj) (args : List AV) (K : AV → List HObj → Prop) (bs : List Bool) (f : HCtr) : Prop := match handL H bs args 0 with
  | some p => bif handOk H p.2 (restIds bs args) then f p.1 (p.2.map (objAt H)) (fun v objs => K (reId (idH H.length p.2) v) (behindH H p.2 objs)) else False
  | none => False
/-- calls with handed arrays by contracts, the others ars ever -/
def handK (CH : List (Nat × List Bool × HCtr)) (other : CallK) : CallK := fun g args H keep K => match find CH g with
  | some p => (match keep with | true => False | false => handCall H args K p.1 p.2)
  | none => other g args H keep K
def mixH (T : Tab) (CH : List (Nat × List Bool × HCtr)) (C : FuncId → List AV → (AV → List HObj → Prop) → Prop) (inl : List Nat) (k : Nat) : CallK := handK CH (mixE T C inl k)
end
section
variable {P : Program} {T : Tab} {n0 : Nat} {c : Ctx} {H : List HObj} {w : World}
theorem handL_get : ∀ {bs : List Bool} {xs : List AV} {k : Nat} {p : List AV × List Nat}, handL H bs xs k = some p →
    xs.length = p.1.length ∧ ∀ (j : Nat) (y : AV), p.1[j]? = some y → ∃ x, xs[j]? = some x ∧ ((∃ i id, x = .own id ∧ y = .own (k + i) ∧ p.2[i]? = some id) ∨ (plain H x = some y ∧ ∀ id ∈ showL (cellsOf x), id ∈ restIds bs xs))
  | [], [], k, p, h => by
    have : p = ([], []) := (Option.some.inj h).symm
    subst this
    exact ⟨rfl, fun j y hy => by simp at hy⟩
  | [], _ :: _, k, p, h => by cases h
  | b :: bs, [], k, p, h => by cases h
  | true :: bs, x :: xs, k, p, h => by
    have h' : (match (generalizing := false) x with | .own id => (match handL H bs xs (k + 1) with | some p => some (AV.own k :: p.1, id :: p.2) | none => none) | _ => none) = some p := h
    split at h'
    · rename_i id
      split at h'
      · rename_i q hq
        cases h'
        obtain ⟨h1, h2⟩ := handL_get hq
        refine ⟨by simp [h1], fun j y hy => ?_⟩
        cases j with
        | zero => simp only [List.getElem?_cons_zero, Option.some.injEq] at hy; subst hy; exact ⟨_, rfl, .inl ⟨0, id, rfl, rfl, rfl⟩⟩
        | succ j =>
          obtain ⟨x', hx', hr⟩ := h2 j y (by simpa using hy)
          refine ⟨x', by simpa using hx', ?_⟩
          rcases hr with ⟨i, id', e1, e2, e3⟩ | ⟨e1, e2⟩
          · exact .inl ⟨i + 1, id', e1, by rw [e2]; congr 1; omega, by simpa using e3⟩
          · exact .inr ⟨e1, fun id' hid => e2 id' hid⟩
      · cases h'
    · cases h'
  | false :: bs, x :: xs, k, p, h => by
    have h' : (match plain H x with | some y => (match handL H bs xs k with | some p => some (y :: p.1, p.2) | none => none) | none => none) = some p := h
    split at h'
    · rename_i y0 hy0
      split at h'
      · rename_i q hq
        cases h'
        obtain ⟨h1, h2⟩ := handL_get hq
        refine ⟨by simp [h1], fun j y hy => ?_⟩
        have hrest : restIds (false :: bs) (x :: xs) = showL (cellsOf x) ++ restIds bs xs := rfl
        cases j with
        | zero =>
          simp only [List.getElem?_cons_zero, Option.some.injEq] at hy
          subst hy
          exact ⟨_, rfl, .inr ⟨hy0, fun id hid => by rw [hrest]; exact List.mem_append_left _ hid⟩⟩
        | succ j =>
          obtain ⟨x', hx', hr⟩ := h2 j y (by simpa using hy)
          refine ⟨x', by simpa using hx', ?_⟩
          rcases hr with ⟨i, id', e1, e2, e3⟩ | ⟨e1, e2⟩
          · exact .inl ⟨i, id', e1, e2, e3⟩
          · exact .inr ⟨e1, fun id' hid => by rw [hrest]; exact List.mem_append_right _ (e2 id' hid)⟩
      · cases h'
    · cases h'
theorem apartL_spec {l m : List Nat} (h : apartL l m = true) : ∀ i ∈ l, i ∉ m := by
  induction l with
  | nil => intro i hi; cases hi
  | cons x l ih =>
    have h' : (bif hasN m x then false else apartL l m) = true := h
    cases hb : hasN m x with
    | true => rw [hb] at h'; cases h'
    | false =>
      rw [hb] at h'
      intro i hi
      rcases List.mem_cons.1 hi with rfl | hi
      · exact hasN_spec hb
      · exact ih h' i hi
theorem handOk_spec {ids rest : List Nat} (h : handOk H ids rest = true) : ids.Nodup ∧ (∀ i ∈ ids, i ∉ rest) ∧ ∀ i ∈ ids, handable (objAt H i) = true := by
  unfold handOk at h
  cases h1 : noDup ids with
  | false => rw [h1] at h; cases h
  | true =>
    rw [h1] at h
    cases h2 : apartL ids rest with
    | false => rw [h2] at h; cases h
    | true =>
      rw [h2] at h
      exact ⟨noDup_spec h1, apartL_spec h2, boolL_mem _ h⟩
theorem handable_spec {o : HObj} (h : handable o = true) : ∃ e xs, o = .typed e xs false ∧ flatE e = true := by
  cases o with
  | typed e xs fz =>
    cases fz with
    | false => exact ⟨e, xs, rfl, h⟩
    | true => cases h
  | box cs => cases h
  | dead => cases h
theorem setAll0_len : ∀ (ids : List Nat) (os H : List HObj), (setAll0 ids os H).length = H.length
  | [], _, _ => rfl
  | _ :: _, [], _ => rfl
  | i :: ids, o :: os, H => by
    show (setAll0 ids os (setAt H i o)).length = _
    rw [setAll0_len ids os, setAt_length]
theorem setAll0_at : ∀ (ids : List Nat) (os H : List HObj) (id : Nat), id ∉ ids → objAt (setAll0 ids os H) id = objAt H id
  | [], _, _, _, _ => rfl
  | _ :: _, [], _, _, _ => rfl
  | i :: ids, o :: os, H, id, h => by
    show objAt (setAll0 ids os (setAt H i o)) id = _
    rw [setAll0_at ids os _ id (fun hh => h (List.mem_cons_of_mem _ hh)), objAt_setAt, if_neg (fun hh => h (by rw [hh.1]; exact List.mem_cons_self ..))]
theorem setAll0_in : ∀ (ids : List Nat) (os H : List HObj) (k id : Nat), ids.Nodup → ids[k]? = some id → id < H.length → ids.length ≤ os.length → objAt (setAll0 ids os H) id = objAt os k
  | [], _, _, k, id, _, hk, _, _ => by simp at hk
  | i :: ids, [], _, _, _, _, _, _, hl => by simp at hl
  | i :: ids, o :: os, H, k, id, hnd, hk, hid, hl => by
    show objAt (setAll0 ids os (setAt H i o)) id = _
    obtain ⟨h1, h2⟩ := List.nodup_cons.1 hnd
    cases k with
    | zero =>
      simp only [List.getElem?_cons_zero, Option.some.injEq] at hk
      subst hk
      rw [setAll0_at ids os _ i h1, objAt_setAt, if_pos ⟨rfl, hid⟩]
      rfl
    | succ k =>
      simp only [List.getElem?_cons_succ] at hk
      exact setAll0_in ids os _ k id h2 hk (by rw [setAt_length]; exact hid) (by simpa using hl)
theorem take_all {α : Type} {p : α → Bool} {m : Nat} {l : List α} (h : (List.rec (motive := fun _ => Bool) true (fun x _ ih => bif p x then ih else false) (l.take m)) = true) {k : Nat} {x : α} (hk : k < m) (hx : l[k]? = some x) : p x = true :=
  boolL_mem p h x (List.mem_iff_getElem?.2 ⟨k, by rw [List.getElem?_take, if_pos hk]; exact hx⟩)
theorem drop_all {α : Type} {p : α → Bool} {m : Nat} {l : List α} (h : (List.rec (motive := fun _ => Bool) true (fun x _ ih => bif p x then ih else false) (l.drop m)) = true) {k : Nat} {x : α} (hk : m ≤ k) (hx : l[k]? = some x) : p x = true :=
  boolL_mem p h x (List.mem_iff_getElem?.2 ⟨k - m, by rw [List.getElem?_drop, show m + (k - m) = k by omega]; exact hx⟩)
theorem goodObjs_spec {m : Nat} {objs : List HObj} (h : goodObjs m objs = true) {k : Nat} {o : HObj} (hk : objs[k]? = some o) : (k < m → o = .dead ∨ handable o = true) ∧ (m ≤ k → handable o = true) := by
  unfold goodObjs at h
  cases h1 : (List.rec (motive := fun _ => Bool) true (fun x _ ih => bif handed1 x then ih else false) (objs.take m)) with
  | false => rw [h1] at h; cases h
  | true =>
    rw [h1] at h
    refine ⟨fun hl => ?_, fun hl => drop_all h hl hk⟩
    have := take_all h1 hl hk
    cases o with
    | dead => exact .inl rfl
    | box cs => cases this
    | typed e xs fz => exact .inr this
/-- a call that is shown alone with its arrays may be made anywhere -/
theorem hand_ok {g : FuncId} {args args' : List AV} {ids : List Nat} {bs : List Bool} {Q : AV → List HObj → Prop} {K : AV → List HObj → Prop} (hcon : ConH P g args' (ids.map (objAt H)) Q) (hp : handL H bs args 0 = some (args', ids)) (hok : handOk H ids (restIds bs args) = true)
    (hQ : ∀ v objs, Q v objs → K (reId (idH H.length ids) v) (behindH H ids objs)) : CallOk P n0 g args H K := by
  obtain ⟨hnd, hap, hha⟩ := handOk_spec hok
  obtain ⟨hpl, hpg⟩ := handL_get hp
  refine ⟨(hcon 0).1, fun c w vals ha hm => ?_⟩
  have hcl := hm.obj.len
  have hML : (ids.map (objAt H)).length = ids.length := by simp
  have hobj : ∀ k id, ids[k]? = some id → id < H.length ∧ ∃ e xs, objAt H id = .typed e xs false ∧ flatE e = true := fun k id hk => by
    have hmem : id ∈ ids := List.mem_iff_getElem?.2 ⟨k, hk⟩
    obtain ⟨e, xs, he, hf⟩ := handable_spec (hha id hmem)
    exact ⟨objAt_lt (by rw [he]; simp), e, xs, he, hf⟩
  have hgetD : ∀ k id, ids[k]? = some id → ids.getD k 0 = id := fun k id hk => by rw [List.getD_eq_getElem?_getD, hk]; rfl
  have hkex : ∀ k, k < ids.length → ∃ id, ids[k]? = some id := fun k hk => ⟨_, List.getElem?_eq_getElem hk⟩
  let S' : Nat → Prop := fun g => g < w.heap.size ∧ ∀ id ∈ ids, blk (c.m id) ≠ some g
  let c' : Ctx := ⟨ids.length, fun k => c.m (ids.getD k 0), fun k => c.z (ids.getD k 0), S', S'⟩
  have hcS : ∀ g, c.S g → S' g := fun g hg => ⟨hm.stab g hg, fun id hid hb => by
    obtain ⟨k, hk⟩ := List.mem_iff_getElem?.1 hid
    obtain ⟨h1, e, xs, h2, _⟩ := hobj k id hk
    have hob := hm.obj.obj id h1
    rw [h2] at hob
    obtain ⟨_, _, hst⟩ := hob
    exact (hst g hb).2 rfl hg⟩
  have hoth : ∀ id, id ∉ ids → id < H.length → alive (objAt H id) = true → ∀ g, blk (c.m id) = some g → S' g := fun id hid hl hal g hb => ⟨hm.obj.lt id g hl hal hb, fun id2 hid2 hb2 => by
    obtain ⟨k, hk⟩ := List.mem_iff_getElem?.1 hid2
    obtain ⟨h1, e, xs, h2, _⟩ := hobj k id2 hk
    exact hm.obj.dist id id2 g hl h1 (fun h => hid (h ▸ hid2)) hal (by rw [h2]; rfl) hb hb2⟩
  have hm1 : Mem n0 c' (ids.map (objAt H)) w := by
    refine ⟨⟨hML.symm, fun k hk => ?_, fun i j g hi hj hne ai aj bi bj => ?_⟩, hm.base, fun g hg => hg.1, fun g hg _ => hg⟩
    · rw [hML] at hk
      obtain ⟨id, hid⟩ := hkex k hk
      obtain ⟨h1, e, xs, h2, hf⟩ := hobj k id hid
      have ho : objAt (ids.map (objAt H)) k = .typed e xs false := by rw [objAt_get, List.getElem?_map, hid]; exact h2
      rw [ho]
      have hob := hm.obj.obj id h1
      rw [h2] at hob
      obtain ⟨hz, ⟨Ty, cells, hown, hrow⟩, hst⟩ := hob
      have e1 : c'.m k = c.m id := by show c.m (ids.getD k 0) = _; rw [hgetD k id hid]
      have e2 : c'.z k = c.z id := by show c.z (ids.getD k 0) = _; rw [hgetD k id hid]
      refine ⟨e2.trans hz, ⟨Ty, cells, by rw [e1]; exact hown, fun i x hx => ?_⟩, fun g hg => ⟨fun hf => (by cases hf), fun _ hS => ?_⟩⟩
      · obtain ⟨vs, q1, q2⟩ := hrow i x hx
        exact ⟨vs, flat_elem hf q1, q2⟩
      · rw [e1] at hg
        exact hS.2 id (List.mem_iff_getElem?.2 ⟨k, hid⟩) hg
    · rw [hML] at hi hj
      obtain ⟨id, hid⟩ := hkex i hi
      obtain ⟨jd, hjd⟩ := hkex j hj
      have e1 : c'.m i = c.m id := by show c.m (ids.getD i 0) = _; rw [hgetD i id hid]
      have e2 : c'.m j = c.m jd := by show c.m (ids.getD j 0) = _; rw [hgetD j jd hjd]
      rw [e1] at bi
      rw [e2] at bj
      obtain ⟨h1, e, xs, h2, hf⟩ := hobj i id hid
      obtain ⟨h1', e', xs', h2', hf'⟩ := hobj j jd hjd
      refine hm.obj.dist id jd g h1 h1' (fun h => ?_) (by rw [h2]; rfl) (by rw [h2']; rfl) bi bj
      subst h
      have h3 := List.getElem?_eq_some_iff.1 hid
      have h4 := List.getElem?_eq_some_iff.1 hjd
      exact hne ((List.getElem_inj hnd (h₀ := h3.1) (h₁ := h4.1)).1 (h3.2.trans h4.2.symm))
  have ha1 : ArgsR c' w args' vals := by
    refine ⟨by rw [ha.1, hpl], fun j y hy => ?_⟩
    obtain ⟨x, hx, hxy⟩ := hpg j y hy
    rcases hxy with ⟨i, id, rfl, rfl, hi⟩ | ⟨hxy, hsh⟩
    · have h1 := ha.2 j _ hx
      generalize vals.getD j undef = u at h1
      have hi' : ids[i]? = some id := hi
      cases h1 with
      | own hb h2 =>
        refine .own (by show 0 + i < ids.length; have := (List.getElem?_eq_some_iff.1 hi').1; omega) ?_
        show c.m (ids.getD (0 + i) 0) = _
        rw [Nat.zero_add, hgetD i id hi']
        exact h2
    · have hle1 : Ctx.le (alone S') c' := ⟨Nat.zero_le _, fun id h => absurd h (Nat.not_lt_zero id), fun id h => absurd h (Nat.not_lt_zero id), fun g hg => hg, rfl⟩
      refine AVR.mono hle1 (fun _ _ => rfl) (plain_rel (S := S') hm.obj hcS (ha.2 j x hx) hxy fun id hid har g hb => ?_)
      have hal : alive (objAt H id) = true := alive_arr har
      exact hoth id (fun h => hap id h (hsh id hid)) (objAt_lt fun he => by rw [he] at hal; simp [alive] at hal) hal g hb
  refine ((hcon n0).2 c' w vals ha1 hm1).mono fun e w' hE => ?_
  obtain ⟨v0, rfl, c1, x', H1, hst, hx, hM1, v, objs, hq, hlen0, hout, hni, hgo, ids1, hlen, hnd1, hfix, hob1, rfl⟩ := hE
  rw [hML] at hlen0 hgo hfix
  refine ⟨v0, rfl, ?_⟩
  have hk := hQ v objs hq
  have hcm1 : ∀ k id, ids[k]? = some id → c1.m k = c.m id ∧ c1.z k = c.z id := fun k id hk => by
    have hl := (List.getElem?_eq_some_iff.1 hk).1
    exact ⟨(hst.le.m k hl).trans (by show c.m (ids.getD k 0) = _; rw [hgetD k id hk]), (hst.le.z k hl).trans (by show c.z (ids.getD k 0) = _; rw [hgetD k id hk])⟩
  -- the new context
  let cj : Ctx := ⟨c.n + (objs.length - ids.length), fun id => if id < c.n then c.m id else c1.m (ids1.getD (id - c.n + ids.length) 0), fun id => if id < c.n then c.z id else c1.z (ids1.getD (id - c.n + ids.length) 0), c.S, c.S0⟩
  have hle : Ctx.le c cj := ⟨Nat.le_add_right _ _, fun id hi => by simp [cj, hi], fun id hi => by simp [cj, hi], fun g hg => hg, rfl⟩
  have hSw : ∀ g, c.S g → w'.heap[g]? = w.heap[g]? := fun g hg => hst.stab g (hcS g hg)
  have hS1 : ∀ g, c.S g → c1.S g := fun g hg => hst.le.S g (hcS g hg)
  have hcjm : ∀ id, id < c.n → cj.m id = c.m id := fun id h => by simp [cj, h]
  have hcjz : ∀ id, id < c.n → cj.z id = c.z id := fun id h => by simp [cj, h]
  have hnew : ∀ k, ids.length ≤ k → k < objs.length → ∃ id1, ids1[k]? = some id1 ∧ cj.m (c.n + (k - ids.length)) = c1.m id1 ∧ cj.z (c.n + (k - ids.length)) = c1.z id1 ∧ objs[k]? = some (objAt H1 id1) ∧ id1 < H1.length ∧ ∃ e xs, objAt H1 id1 = .typed e xs false ∧ flatE e = true := by
    intro k hk1 hk2
    have h1 : ids1[k]? = some ids1[k] := List.getElem?_eq_getElem (by omega)
    have h2 := hob1 k _ h1
    obtain ⟨e, xs, h3, h4⟩ := handable_spec ((goodObjs_spec hgo h2).2 hk1)
    have hg : ids1.getD k 0 = ids1[k] := by rw [List.getD_eq_getElem?_getD, h1]; rfl
    refine ⟨ids1[k], h1, ?_, ?_, h2, objAt_lt (by rw [h3]; simp), e, xs, h3, h4⟩
    · show (if c.n + (k - ids.length) < c.n then _ else c1.m (ids1.getD (c.n + (k - ids.length) - c.n + ids.length) 0)) = _
      rw [if_neg (by omega), show c.n + (k - ids.length) - c.n + ids.length = k by omega, hg]
    · show (if c.n + (k - ids.length) < c.n then _ else c1.z (ids1.getD (c.n + (k - ids.length) - c.n + ids.length) 0)) = _
      rw [if_neg (by omega), show c.n + (k - ids.length) - c.n + ids.length = k by omega, hg]
  -- results
  have hidH : ∀ k, k < objs.length → idH H.length ids k < cj.n ∧ cj.m (idH H.length ids k) = c1.m (ids1.getD k 0) := fun k hk => by
    unfold idH
    by_cases h : k < ids.length
    · rw [(blt_iff _ _).2 h]
      obtain ⟨id, hid⟩ := hkex k h
      have h1 := hfix k h
      obtain ⟨hl, _⟩ := hobj k id hid
      simp only [cond_true]
      rw [hgetD k id hid, hcjm id (by omega), show ids1.getD k 0 = k by rw [List.getD_eq_getElem?_getD, h1]; rfl]
      exact ⟨by show id < c.n + _; omega, (hcm1 k id hid).1.symm⟩
    · have hb : Nat.blt k ids.length = false := by
        cases hb : Nat.blt k ids.length with
        | false => rfl
        | true => exact absurd ((blt_iff _ _).1 hb) h
      rw [hb]
      simp only [cond_false]
      obtain ⟨id1, q1, q2, _⟩ := hnew k (by omega) hk
      rw [← hcl, q2, show ids1.getD k 0 = id1 by rw [List.getD_eq_getElem?_getD, q1]; rfl]
      exact ⟨by show c.n + (k - ids.length) < c.n + (objs.length - ids.length); omega, rfl⟩
  have one0 : ∀ (y : AV) (u : Value), out0 objs.length y = true → noImm0 y = true → AVR c1 w' (re0 (fun k => ids1.getD k 0) y) u → AVR cj w' (re0 (idH H.length ids) y) u := by
    intro y u ho hn h
    cases y <;> simp only [out0, Bool.false_eq_true] at ho <;> simp only [re0] at h ⊢
    · cases h; exact .int _ _
    · cases h; exact .bool _
    · cases h; exact .str _
    · cases hn
    · rename_i k
      have hk := (blt_iff _ _).1 ho
      obtain ⟨p1, p2⟩ := hidH k hk
      cases h with
      | own hb hm => exact .own p1 (p2.trans hm)
    · cases h; exact .nils
    · cases h; exact .nilp
  have one : ∀ (y : AV) (u : Value), out1 objs.length y = true → noImm1 y = true → AVR c1 w' (re1 (fun k => ids1.getD k 0) y) u → AVR cj w' (re1 (idH H.length ids) y) u := by
    intro y u ho hn h
    have rest : (∀ cs, y ≠ .agg cs) → AVR cj w' (re1 (idH H.length ids) y) u := fun hne => by
      have e1 : out1 objs.length y = out0 objs.length y := by cases y <;> first | rfl | exact absurd rfl (hne _)
      have e2 : ∀ f, re1 f y = re0 f y := by intro f; cases y <;> first | rfl | exact absurd rfl (hne _)
      have e3 : noImm1 y = noImm0 y := by cases y <;> first | rfl | exact absurd rfl (hne _)
      rw [e2] at h ⊢
      exact one0 y u (e1 ▸ ho) (e3 ▸ hn) h
    cases y with
    | agg cs =>
      simp only [re1] at h ⊢
      cases h with
      | agg hl u h1 h2 =>
        refine .agg (by simpa using hl) u (fun j y hy => ?_) (fun j y hy => ?_)
        · rw [List.getElem?_map, Option.map_eq_some_iff] at hy
          obtain ⟨z, hz, rfl⟩ := hy
          exact h1 j (re0 (fun k => ids1.getD k 0) z) (by rw [List.getElem?_map, hz]; rfl)
        · rw [List.getElem?_map, Option.map_eq_some_iff] at hy
          obtain ⟨z, hz, rfl⟩ := hy
          have hzm : z ∈ cs := List.mem_iff_getElem?.2 ⟨j, hz⟩
          exact one0 z _ (boolL_mem (out0 objs.length) ho z hzm) (boolL_mem noImm0 hn z hzm) (h2 j (re0 (fun k => ids1.getD k 0) z) (by rw [List.getElem?_map, hz]; rfl))
    | _ => exact rest (by intro cs h; cases h)
  have hres : AVR cj w' (reId (idH H.length ids) v) v0 := by
    have rest : (∀ vs, v ≠ .tup vs) → AVR cj w' (reId (idH H.length ids) v) v0 := by
      intro hne
      have e1 : outOk objs.length v = out1 objs.length v := by cases v <;> first | rfl | exact absurd rfl (hne _)
      have e2 : ∀ f, reId f v = re1 f v := by intro f; cases v <;> first | rfl | exact absurd rfl (hne _)
      have e3 : noImm v = noImm1 v := by cases v <;> first | rfl | exact absurd rfl (hne _)
      rw [e2] at hx ⊢
      exact one v v0 (e1 ▸ hout) (e3 ▸ hni) hx
    cases v with
    | tup vs =>
      simp only [reId] at hx ⊢
      cases hx with
      | tup hl u h1 h2 =>
        refine .tup (by simpa using hl) u (fun j y hy => ?_) (fun j y hy => ?_)
        · rw [List.getElem?_map, Option.map_eq_some_iff] at hy
          obtain ⟨z, hz, rfl⟩ := hy
          exact h1 j (re1 (fun k => ids1.getD k 0) z) (by rw [List.getElem?_map, hz]; rfl)
        · rw [List.getElem?_map, Option.map_eq_some_iff] at hy
          obtain ⟨z, hz, rfl⟩ := hy
          have hzm : z ∈ vs := List.mem_iff_getElem?.2 ⟨j, hz⟩
          exact one z _ (boolL_mem (out1 objs.length) hout z hzm) (boolL_mem noImm1 hni z hzm) (h2 j (re1 (fun k => ids1.getD k 0) z) (by rw [List.getElem?_map, hz]; rfl))
    | _ => exact rest (by intro vs h; cases h)
  -- the objects
  have hlenB : (behindH H ids objs).length = H.length + (objs.length - ids.length) := by
    unfold behindH
    rw [List.length_append, setAll0_len, List.length_drop]
  have hat : ∀ id, objAt (behindH H ids objs) id = if id < H.length then objAt (setAll0 ids (objs.take ids.length) H) id else objAt (objs.drop ids.length) (id - H.length) := fun id => by
    unfold behindH
    rw [objAt_app, setAll0_len]
  have hatH : ∀ k id, ids[k]? = some id → objAt (behindH H ids objs) id = objAt H1 k := fun k id hk => by
    obtain ⟨hl, _⟩ := hobj k id hk
    have hkl := (List.getElem?_eq_some_iff.1 hk).1
    rw [hat, if_pos hl, setAll0_in ids _ H k id hnd hk hl (by rw [List.length_take]; omega)]
    have h1 := hob1 k k (hfix k hkl)
    rw [objAt_get, List.getElem?_take, if_pos hkl, h1]; rfl
  have hatO : ∀ id, id ∉ ids → id < H.length → objAt (behindH H ids objs) id = objAt H id := fun id h hl => by
    rw [hat, if_pos hl, setAll0_at _ _ _ _ h]
  have hatN : ∀ k, ids.length ≤ k → k < objs.length → ∀ id1, ids1[k]? = some id1 → objAt (behindH H ids objs) (H.length + (k - ids.length)) = objAt H1 id1 := fun k h1 h2 id1 h3 => by
    rw [hat, if_neg (by omega), objAt_get, List.getElem?_drop, show ids.length + (H.length + (k - ids.length) - H.length) = k by omega, hob1 k id1 h3]; rfl
  -- each object by its kind: handed, old, new
  have cases3 : ∀ id, id < H.length + (objs.length - ids.length) → (∃ k, ids[k]? = some id ∧ k < H1.length ∧ objAt (behindH H ids objs) id = objAt H1 k ∧ cj.m id = c1.m k ∧ cj.z id = c1.z k ∧ ids1[k]? = some k) ∨ (id ∉ ids ∧ id < H.length ∧ objAt (behindH H ids objs) id = objAt H id) ∨
      (∃ k id1, H.length ≤ id ∧ k = id - H.length + ids.length ∧ k < objs.length ∧ ids1[k]? = some id1 ∧ id1 < H1.length ∧ objAt (behindH H ids objs) id = objAt H1 id1 ∧ cj.m id = c1.m id1 ∧ cj.z id = c1.z id1 ∧ ∃ e xs, objAt H1 id1 = .typed e xs false ∧ flatE e = true) := by
    intro id hid
    by_cases h1 : id ∈ ids
    · obtain ⟨k, hk⟩ := List.mem_iff_getElem?.1 h1
      have hkl := (List.getElem?_eq_some_iff.1 hk).1
      obtain ⟨hl, _⟩ := hobj k id hk
      refine .inl ⟨k, hk, ?_, hatH k id hk, ?_, ?_, hfix k hkl⟩
      · have := hM1.obj.len; have := hst.le.n; show k < H1.length; have : ids.length ≤ c1.n := hst.le.n; omega
      · rw [hcjm id (by omega)]; exact (hcm1 k id hk).1.symm
      · rw [hcjz id (by omega)]; exact (hcm1 k id hk).2.symm
    · by_cases h2 : id < H.length
      · exact .inr (.inl ⟨h1, h2, hatO id h1 h2⟩)
      · obtain ⟨id1, q1, q2, q3, q4, q5, q6⟩ := hnew (id - H.length + ids.length) (by omega) (by omega)
        have e1 : c.n + (id - H.length + ids.length - ids.length) = id := by omega
        rw [e1] at q2 q3
        have h3 := hatN (id - H.length + ids.length) (by omega) (by omega) id1 q1
        rw [show H.length + (id - H.length + ids.length - ids.length) = id by omega] at h3
        exact .inr (.inr ⟨_, id1, by omega, rfl, by omega, q1, q5, h3, q2, q3, q6⟩)
  have hb0 : RowKit.Below n0 w w' := hst.below
  -- an unfrozen object of the callee, in the new context
  have give : ∀ (id id1 : Nat) (e : ETy) (xs : List e.D), objAt H1 id1 = .typed e xs false → flatE e = true → id1 < H1.length → cj.m id = c1.m id1 → cj.z id = c1.z id1 → ObjR n0 cj w' id (.typed e xs false) := fun id id1 e xs ho hf hl e1 e2 => by
    have hob := hM1.obj.obj id1 hl
    rw [ho] at hob
    obtain ⟨hz, ⟨Ty, cells, hown, hrow⟩, hs⟩ := hob
    refine ⟨e2.trans hz, ⟨Ty, cells, by rw [e1]; exact hown, fun i x hx => ?_⟩, fun g hg => ⟨fun hf => (by cases hf), fun _ hS => ?_⟩⟩
    · obtain ⟨vs, q1, q2⟩ := hrow i x hx
      exact ⟨vs, flat_elem hf q1, q2⟩
    · rw [e1] at hg
      exact (hs g hg).2 rfl (hS1 g hS)
  have handO : ∀ k id, ids[k]? = some id → objAt H1 k = .dead ∨ ∃ e xs, objAt H1 k = .typed e xs false ∧ flatE e = true := fun k id hk => by
    have hkl := (List.getElem?_eq_some_iff.1 hk).1
    have h1 := hob1 k k (hfix k hkl)
    rcases (goodObjs_spec hgo h1).1 hkl with h | h
    · exact .inl h
    · exact .inr (handable_spec h)
  -- where an alive object's block lies
  have where1 : ∀ id, id < H.length + (objs.length - ids.length) → alive (objAt (behindH H ids objs) id) = true → ∀ g, blk (cj.m id) = some g → (id ∉ ids ∧ id < H.length ∧ c1.S g ∧ alive (objAt H id) = true ∧ blk (c.m id) = some g) ∨ (∃ id1, id1 < H1.length ∧ alive (objAt H1 id1) = true ∧ blk (c1.m id1) = some g ∧ ¬ c1.S g ∧ ∃ k, ids1[k]? = some id1 ∧ id = idH H.length ids k ∧ k < objs.length) := by
    intro id hid hal g hg
    rcases cases3 id hid with ⟨k, hk, hkl, ho, e1, e2, e3⟩ | ⟨h1, h2, ho⟩ | ⟨k, id1, h0, hk, hko, q1, q2, ho, e1, e2, e, xs, q3, q4⟩
    · rw [ho] at hal
      rw [e1] at hg
      rcases handO k id hk with h | ⟨e, xs, h, _⟩
      · rw [h] at hal; simp [alive] at hal
      · have hob := hM1.obj.obj k hkl
        rw [h] at hob
        have hki := (List.getElem?_eq_some_iff.1 hk).1
        exact .inr ⟨k, hkl, hal, hg, (hob.2.2 g hg).2 rfl, k, e3, by unfold idH; rw [(blt_iff _ _).2 hki]; exact (hgetD k id hk).symm, by omega⟩
    · rw [ho] at hal
      rw [hcjm id (by omega)] at hg
      exact .inl ⟨h1, h2, hst.le.S g (hoth id h1 h2 hal g hg), hal, hg⟩
    · rw [ho] at hal
      rw [e1] at hg
      have hob := hM1.obj.obj id1 q2
      rw [q3] at hob
      refine .inr ⟨id1, q2, hal, hg, (hob.2.2 g hg).2 rfl, k, q1, ?_, hko⟩
      unfold idH
      have hb : Nat.blt k ids.length = false := by
        cases hb : Nat.blt k ids.length with
        | false => rfl
        | true => have := (blt_iff _ _).1 hb; omega
      rw [hb]
      show id = H.length + (k - ids.length)
      omega
  refine ⟨cj, _, _, ⟨hle, hb0, hSw⟩, hres, ⟨⟨by rw [hlenB]; show c.n + _ = _; omega, fun id hid => ?_, fun i j g hi hj hne ai aj bi bj => ?_⟩, hM1.base, fun g hg => ?_, fun g hg hgl => hm.old g hg hgl⟩, hk⟩
  · rw [hlenB] at hid
    rcases cases3 id hid with ⟨k, hk, hkl, ho, e1, e2, _⟩ | ⟨h1, h2, ho⟩ | ⟨k, id1, h0, hk, hko, q1, q2, ho, e1, e2, e, xs, q3, q4⟩
    · rw [ho]
      rcases handO k id hk with h | ⟨e, xs, h, hf⟩
      · rw [h]; trivial
      · rw [h]; exact give id k e xs h hf hkl e1 e2
    · rw [ho]
      by_cases hal : alive (objAt H id) = true
      · exact (hm.obj.obj id h2).mono hle (by omega) (fun g _ hg => hg) hSw fun g hg => hst.stab g (hoth id h1 h2 hal g hg)
      · cases ho2 : objAt H id with
        | dead => trivial
        | typed e xs fz => rw [ho2] at hal; simp [alive] at hal
        | box cs => rw [ho2] at hal; simp [alive] at hal
    · rw [ho, q3]
      exact give id id1 e xs q3 q4 q2 e1 e2
  · rw [hlenB] at hi hj
    rcases where1 i hi ai g bi with ⟨p1, p2, p3, p4, p5⟩ | ⟨i1, p1, p2, p3, p4, k, p5, p6, p7⟩
    · rcases where1 j hj aj g bj with ⟨r1, r2, r3, r4, r5⟩ | ⟨j1, r1, r2, r3, r4, _⟩
      · exact hm.obj.dist i j g p2 r2 hne p4 r4 p5 r5
      · exact r4 p3
    · rcases where1 j hj aj g bj with ⟨r1, r2, r3, r4, r5⟩ | ⟨j1, r1, r2, r3, r4, l, r5, r6, r7⟩
      · exact p4 r3
      · by_cases hij : i1 = j1
        · subst hij
          have h3 := List.getElem?_eq_some_iff.1 p5
          have h4 := List.getElem?_eq_some_iff.1 r5
          have hkl := (List.getElem_inj hnd1 (h₀ := h3.1) (h₁ := h4.1)).1 (h3.2.trans h4.2.symm)
          exact hne (by rw [p6, r6, hkl])
        · exact hM1.obj.dist i1 j1 g p1 r1 hij p2 r2 p3 r3
  · have := hm.stab g hg; have := hb0.size; omega
theorem handCall_ok {g : FuncId} {args : List AV} {K : AV → List HObj → Prop} {bs : List Bool} {f : HCtr} (hC : ∀ xs os Q, f xs os Q → ConH P g xs os Q) (h : handCall H args K bs f) : CallOk P n0 g args H K := by
  unfold handCall at h
  split at h
  · rename_i p hp
    cases hb : handOk H p.2 (restIds bs args) with
    | false => rw [hb] at h; exact h.elim
    | true =>
      rw [hb] at h
      exact hand_ok (hC _ _ _ h) hp hb fun _ _ hq => hq
  · exact h.elim
theorem handK_ok {CH : List (Nat × List Bool × HCtr)} {other : CallK} (hC : ∀ g p, find CH g = some p → ∀ xs os Q, p.2 xs os Q → ConH P g xs os Q) (ho : CallsOk P n0 other) : CallsOk P n0 (handK CH other) := by
  intro g args H keep K h
  unfold handK at h
  split at h
  · rename_i p hp
    cases keep with
    | true => exact h.elim
    | false => exact (handCall_ok (hC g p hp) h).mono fun v H' hk => ⟨fun hf => (by cases hf), hk⟩
  · exact ho _ _ _ _ _ h
theorem mixH_ok (hT : TabOk P T) (hm : P.follows .mixedOrders = true) {CH : List (Nat × List Bool × HCtr)} (hH : ∀ g p, find CH g = some p → ∀ xs os Q, p.2 xs os Q → ConH P g xs os Q) {C : FuncId → List AV → (AV → List HObj → Prop) → Prop} (hC : ∀ g args Q, C g args Q → Con P g args Q) (inl : List Nat) (k : Nat) : CallsOk P n0 (mixH T CH C inl k) :=
  handK_ok hH (mixE_ok hT hm hC inl k)
end
end Go.Proofs.Ytejcniaepjahbaa.Mach
end
section
/- Functions that write into arrays handed to them: loops, results. -/
set_option linter.unusedSimpArgs false
set_option linter.unusedVariables false
namespace Go.Proofs.Ytejcniaepjahbaa.Mach
open Go
/-- the handed arrays' headers are known, and stay -/
def TagR (m : Nat) (hv : Nat → Value × Nat) (c : Ctx) : Prop := m ≤ c.n ∧ ∀ k, k < m → c.m k = (hv k).1 ∧ c.z k = (hv k).2
theorem TagR.le {m : Nat} {hv : Nat → Value × Nat} {c c' : Ctx} (h : TagR m hv c) (hl : Ctx.le c c') : TagR m hv c' :=
  ⟨Nat.le_trans h.1 hl.n, fun k hk => ⟨(hl.m k (Nat.lt_of_lt_of_le hk h.1)).trans (h.2 k hk).1, (hl.z k (Nat.lt_of_lt_of_le hk h.1)).trans (h.2 k hk).2⟩⟩
def FinH (n0 m : Nat) (hv : Nat → Value × Nat) (S0 : Nat → Prop) (w : World) (K : AV → List HObj → Prop) (v : Value) (w' : World) : Prop := ∃ c x H', c.S0 = S0 ∧ (∀ g, S0 g → c.S g) ∧ RowKit.Below n0 w w' ∧ (∀ g, S0 g → w'.heap[g]? = w.heap[g]?) ∧ AVR c w' x v ∧ Mem n0 c H' w' ∧ K x H' ∧ TagR m hv c
def GoodH (P : Program) (n0 : Nat) (f : FuncId) (m : Nat) (hv : Nat → Value × Nat) (K : AV → List HObj → Prop) (todo : List Item) (st : St) : Prop :=
  ∀ (c : Ctx) (w : World) (a : Act) (cs : List Frame), StR n0 c w st a → (∀ g, c.S0 g → c.S g) → TagR m hv c → ∃ v w' fr, FinH n0 m hv c.S0 w K v w' ∧
    Steps P (lone (({ (default : Frame) with fn := f, kind := .normal } : Frame).at a todo) cs w) (lone fr cs w') ∧ fr.fn = f ∧ fr.leaving P w' (.returned v)
noncomputable section
def upTo : Nat → Nat → List Nat → Bool := fun m => Nat.rec (fun _ _ => true) (fun _ ih k l => match l with | x :: r => bif Nat.beq x k then ih (k + 1) r else false | [] => false) m
/-- at a loop's head: what lives on; the handed arrays keep their places -/
def maskH (m : Nat) (LT : List (Nat × List Nat)) (NT : List (Nat × ETy)) (G : List Item → St → Prop) (todo : List Item) (st : St) : Prop := match todo with
  | .inLoop c :: r => (match find LT (firstReg c) with
    | some L => (fun st => (fun ρ => bif noDup ρ then (bif upTo m 0 ρ then G (.inLoop c :: r) (maskWith L st ρ) else False) else False) (idsOf L st)) (liftS NT L st)
    | none => False)
  | _ => False
/-- what is given back: a part from the beginning on counts ars an array of its own -/
def shrinkK (K : AV → List HObj → Prop) (x : AV) (H : List HObj) : Prop := K x H ∨ (∃ id n e xs, x = .win id 0 n ∧ objAt H id = .typed e xs false ∧ n ≤ xs.length ∧ K (.own H.length) (setAt H id .dead ++ [.typed e (xs.take n) false])) ∨ ∃ id e xs, x = .own id ∧ objAt H id = .typed e xs false ∧ K (.own H.length) (setAt H id .dead ++ [.typed e xs false])
/-- the end of a call with m handed arrays -/
def resH (m : Nat) (Q : AV → List HObj → Prop) : AV → List HObj → Prop := shrinkK fun v' H' => ∃ v objs, Q v objs ∧ m ≤ objs.length ∧ outOk objs.length v = true ∧ noImm v = true ∧ goodObjs m objs = true ∧
  ∃ ids : List Nat, ids.length = objs.length ∧ ids.Nodup ∧ (∀ k, k < m → ids[k]? = some k) ∧ (∀ (k id : Nat), ids[k]? = some id → objs[k]? = some (objAt H' id)) ∧ v' = reId (fun k => ids.getD k 0) v
end
section
variable {P : Program} {T : Tab} {n0 : Nat} {f : FuncId} {K : AV → List HObj → Prop} {m : Nat} {hv : Nat → Value × Nat}
theorem upTo_spec : ∀ {m k : Nat} {l : List Nat}, upTo m k l = true → ∀ j, j < m → l[j]? = some (k + j)
  | 0, _, _, _, j, h => absurd h (Nat.not_lt_zero _)
  | m + 1, k, [], h, _, _ => by cases h
  | m + 1, k, x :: r, h, j, hj => by
    have h' : (bif Nat.beq x k then upTo m (k + 1) r else false) = true := h
    cases hb : Nat.beq x k with
    | false => rw [hb] at h'; cases h'
    | true =>
      rw [hb] at h'
      have he := Nat.eq_of_beq_eq_true hb
      cases j with
      | zero => simp [he]
      | succ j =>
        have := upTo_spec h' j (by omega)
        simp only [List.getElem?_cons_succ, this]
        congr 1
        omega
theorem goodH_isGood {fn : Func} (hf : P.funcs[f]? = some fn) : IsGood P n0 f fn K (GoodH P n0 f m hv K) where
  to h c w a cs hr hS hT := by
    obtain ⟨todo', st', c', w', a', hg, h1, h2, h3⟩ := h c w a cs hr
    have hS0 := h1.le.S0
    obtain ⟨v, w'', fr, ⟨c2, x, H', q1, q2, q3, q4, q5, q6, q7, q8⟩, hst, hfn, hl⟩ := hg c' w' a' cs h2 (fun g hg => h1.le.S g (hS g (by rw [← hS0]; exact hg))) (hT.le h1.le)
    rw [hS0] at q1 q2 q4
    exact ⟨v, w'', fr, ⟨c2, x, H', q1, q2, h1.below.trans q3, fun g hg => (q4 g hg).trans (h1.stab g (hS g hg)), q5, q6, q7, q8⟩, h3.trans hst, hfn, hl⟩
  fin h c w a cs hr hS hT := by
    obtain ⟨v, x, todo', h1, h2, h3, h4⟩ := h c w a cs hr
    exact ⟨v, w, _, ⟨c, x, _, rfl, hS, RowKit.Below.refl n0 w, fun _ _ => rfl, h3, hr.mem, h4, hT⟩, h1, rfl, rfl, hr.nod, rfl, fn, hf, h2⟩
  un h c w a cs hr hS hT := by
    obtain ⟨v, w'', fr, hE, hst, hfn, hl⟩ := h c w a cs hr hS hT
    exact ⟨v, w'', fr, hE, unstep hst hl, hfn, hl⟩
theorem lift1_okH {NT : List (Nat × ETy)} {i : Nat} {todo : List Item} {st : St} (h : GoodH P n0 f m hv K todo (lift1 NT i st)) : GoodH P n0 f m hv K todo st := by
  unfold lift1 at h
  split at h
  · rename_i hn
    split at h
    · rename_i e he
      intro c w a cs hr hS hT
      have hle := Ctx.more_le c (.slice none 0 0) e.size (S := c.S) (fun _ hg => hg)
      have hm := hr.mem.obj.len
      refine h (c.more (.slice none 0 0) e.size c.S) w a cs ⟨?_, ⟨hr.mem.obj.push (fun _ _ => rfl) hr.mem.stab (fun id g hid hal hb => hr.mem.obj.lt id g hid hal hb) (fun g hg => by simp [blk] at hg) ?_, hr.mem.base, hr.mem.stab, hr.mem.old⟩, hr.nod⟩ hS (hT.le hle)
      · refine (hr.env.mono hle (fun _ _ => rfl)).lay i ?_
        have h1 := hr.env.at_ i
        rw [hn] at h1
        generalize a.tmps.getD i undef = u at h1
        cases h1
        exact .own (by simp only [Ctx.more]; omega) (by simp [Ctx.more, hm])
      · refine ⟨by simp [Ctx.more], ⟨0, [], ?_, fun i x hx => by simp at hx⟩, fun g hg => ?_⟩
        · simp only [Ctx.more, if_true]
          exact World.ownsRow_nil w n0 0 e.size
        · simp [Ctx.more, blk] at hg
    · exact h
  · exact h
theorem liftS_okH {NT : List (Nat × ETy)} {todo : List Item} {st : St} : ∀ {L : List Nat}, GoodH P n0 f m hv K todo (liftS NT L st) → GoodH P n0 f m hv K todo st
  | [], h => h
  | i :: L, h => liftS_okH (L := L) (lift1_okH (NT := NT) (i := i) h)
theorem TagR.pick {c : Ctx} {ρ : List Nat} (h : TagR m hv c) (hu : upTo m 0 ρ = true) : TagR m hv (c.pick ρ) := by
  have hs := upTo_spec hu
  have hl : m ≤ ρ.length := by
    cases m with
    | zero => exact Nat.zero_le _
    | succ m => have := (List.getElem?_eq_some_iff.1 (hs m (by omega))).1; omega
  refine ⟨hl, fun k hk => ?_⟩
  have hg : ρ.getD k 0 = k := by rw [List.getD_eq_getElem?_getD, hs k hk]; simp
  obtain ⟨h1, h2⟩ := h.2 k hk
  exact ⟨by show c.m (ρ.getD k 0) = _; rw [hg]; exact h1, by show c.z (ρ.getD k 0) = _; rw [hg]; exact h2⟩
theorem mask_okH {L ρ : List Nat} {todo : List Item} {st : St} (hnd : ρ.Nodup) (hu : upTo m 0 ρ = true) (h : GoodH P n0 f m hv K todo (maskWith L st ρ)) : GoodH P n0 f m hv K todo st := by
  intro c w a cs hr hS hT
  refine h (c.pick ρ) w a cs ⟨?_, pick_mem hr.mem hnd, hr.nod⟩ hS (hT.pick hu)
  refine setAll_rel hr.env.lim _ fun p hp => ?_
  obtain ⟨i, _, rfl⟩ := List.mem_map.1 hp
  exact inv1_rel (hr.env.at_ i)
theorem maskH_ok {LT : List (Nat × List Nat)} {NT : List (Nat × ETy)} {todo : List Item} {st : St} (h : maskH m LT NT (GoodH P n0 f m hv K) todo st) : GoodH P n0 f m hv K todo st := by
  unfold maskH at h
  split at h
  · split at h
    · rename_i L hL
      refine liftS_okH (NT := NT) (L := L) ?_
      simp only at h
      cases hb : noDup (idsOf L (liftS NT L st)) with
      | false => rw [hb] at h; exact h.elim
      | true =>
        rw [hb] at h
        cases hu : upTo m 0 (idsOf L (liftS NT L st)) with
        | false => rw [hu] at h; exact h.elim
        | true => rw [hu] at h; exact mask_okH (noDup_spec hb) hu h
    · exact h.elim
  · exact h.elim
theorem loop_ruleH {α : Type} (μ : α → Nat) (pre : α → Prop) {todo : List Item} {S : α → St} (h : ∀ x, pre x → (∀ y, pre y → μ y < μ x → GoodH P n0 f m hv K todo (S y)) → GoodH P n0 f m hv K todo (S x)) : ∀ x, pre x → GoodH P n0 f m hv K todo (S x) := by
  intro x
  generalize hm : μ x = n
  induction n using Nat.strongRecOn generalizing x with
  | _ n ih => exact fun hp => h x hp fun y hy hlt => ih (μ y) (by omega) y rfl hy
theorem round_okH {gn : FnT} {r : Nat} {st : St} (h : GoodH P n0 f m hv K (roundAt gn r) st) : GoodH P n0 f m hv K (headAt gn r) st := by
  unfold roundAt at h
  split at h
  · rename_i c k hc
    rw [hc]
    intro c' w a cs hr hS hT
    obtain ⟨v, w', fr, h1, h2, h3, h4⟩ := h c' w a cs hr hS hT
    exact ⟨v, w', fr, h1, .head step_inLoop h2, h3, h4⟩
  · exact h
theorem good_ofH (hT : TabOk P T) (hm : P.follows .mixedOrders = true) {callK : CallK} (hC : CallsOk P n0 callK) {gn : FnT} (hg : fnOf P f = some gn) {LT : List (Nat × List Nat)} {NT : List (Nat × ETy)} {n : Nat} {todo : List Item} {st : St}
    (h : execN T callK (maskH m LT NT (GoodH P n0 f m hv K)) (finK T gn.res K) n todo st) : GoodH P n0 f m hv K todo st := by
  obtain ⟨fn, hf, hb, h1, h2⟩ := fnOf_spec hg
  rw [h2] at h
  exact exec_sound hT (opSound hT n0) hC (drawOk hm (opSound hT n0) hC) hf (goodH_isGood hf) (fun _ _ => maskH_ok) n todo st h
theorem FinH.shrink {S0 : Nat → Prop} {w w' : World} {v : Value} (h : FinH n0 m hv S0 w (shrinkK K) v w') : FinH n0 m hv S0 w K v w' := by
  obtain ⟨c, x, H, q1, q2, q3, q4, q5, q6, q7, q8⟩ := h
  rcases q7 with q7 | ⟨id, n, e, xs, rfl, ho, hn, hK⟩ | ⟨id, e, xs, rfl, ho, hK⟩
  · exact ⟨c, x, H, q1, q2, q3, q4, q5, q6, q7, q8⟩
  · have hlt := objAt_lt (H := H) (id := id) (by rw [ho]; simp)
    have hob := q6.obj.obj id hlt
    rw [ho] at hob
    obtain ⟨hz, ⟨Ty, cells, hown, hrow⟩, hst⟩ := hob
    cases q5 with
    | win hb hm' p1 p2 p3 p4 =>
      rename_i nn k k' A B
      obtain ⟨rfl, rfl⟩ := p4 rfl
      rw [hm'] at hown hst
      have ho2 := own_prefix (w := w') hown hn
      have hbe : (Value.slice B n k').ownBlock = (Value.slice B nn k').ownBlock := by cases B <;> rfl
      have hv0 : ∀ g, (Value.slice B nn k').ownBlock = some g → n0 ≤ g ∧ ¬ c.S g := fun g hg => ⟨(hown.lt g hg).1, (hst g (blk_ownBlock _ g hg)).2 rfl⟩
      obtain ⟨m1, m2, m3⟩ := swap_row q6 (w' := w') (e := e) (xs := xs.take n) (Ty := Ty) (v := .slice B n k') (v0 := .slice B nn k') (cells := cells.take (n * e.size)) (setAt H id .dead) (setAt_length H id _) (fun k hk => by
          rw [objAt_setAt] at hk
          by_cases hki : k = id ∧ k < H.length
          · rw [if_pos hki] at hk; simp [alive] at hk
          · rw [if_neg hki] at hk
            have hkl : k < H.length := objAt_lt (fun h => by rw [h] at hk; simp [alive] at hk)
            have hne : k ≠ id := fun h => hki ⟨h, hkl⟩
            refine ⟨by rw [objAt_setAt, if_neg hki], fun g hg h => ?_⟩
            exact q6.obj.dist k id g hkl hlt hne hk (by rw [ho]; rfl) hg (by rw [hm']; exact blk_ownBlock _ g h.symm))
        ⟨rfl, rfl, rfl, Nat.le_refl _, fun _ _ _ => rfl⟩ hv0 (.inl hbe) ⟨B, n, k', rfl⟩ (by rw [List.length_take, Nat.min_eq_left hn]; exact ho2) (fun i x hx => by
          have hi : i < n := by have := (List.getElem?_eq_some_iff.1 hx).1; rw [List.length_take] at this; omega
          rw [List.getElem?_take, if_pos hi] at hx
          obtain ⟨vs', w1, w2⟩ := hrow i x hx
          refine ⟨vs', w1, fun j u hu => ?_⟩
          have hj : j < e.size := by rw [← w1.length]; exact (List.getElem?_eq_some_iff.1 hu).1
          have : (i + 1) * e.size ≤ n * e.size := Nat.mul_le_mul_right _ (by omega)
          rw [Nat.add_mul] at this
          rw [List.getElem?_take, if_pos (by omega)]
          exact w2 j u hu)
      have hle := Ctx.more_le c (.slice B n k') e.size (S := c.S) (fun _ h => h)
      exact ⟨c.more (.slice B n k') e.size c.S, _, _, q1, q2, q3, q4, own_new q6 rfl, m1, hK, q8.le hle⟩
  · have hlt := objAt_lt (H := H) (id := id) (by rw [ho]; simp)
    have hob := q6.obj.obj id hlt
    rw [ho] at hob
    obtain ⟨hz, ⟨Ty, cells, hown, hrow⟩, hst⟩ := hob
    cases q5 with
    | own hb hm' =>
      rename_i nn k' B
      rw [hm'] at hown hst
      have hv0 : ∀ g, (Value.slice B nn k').ownBlock = some g → n0 ≤ g ∧ ¬ c.S g := fun g hg => ⟨(hown.lt g hg).1, (hst g (blk_ownBlock _ g hg)).2 rfl⟩
      obtain ⟨m1, m2, m3⟩ := swap_row q6 (w' := w') (e := e) (xs := xs) (Ty := Ty) (v := .slice B nn k') (v0 := .slice B nn k') (cells := cells) (setAt H id .dead) (setAt_length H id _) (fun k hk => by
          rw [objAt_setAt] at hk
          by_cases hki : k = id ∧ k < H.length
          · rw [if_pos hki] at hk; simp [alive] at hk
          · rw [if_neg hki] at hk
            have hkl : k < H.length := objAt_lt (fun h => by rw [h] at hk; simp [alive] at hk)
            have hne : k ≠ id := fun h => hki ⟨h, hkl⟩
            refine ⟨by rw [objAt_setAt, if_neg hki], fun g hg h => ?_⟩
            exact q6.obj.dist k id g hkl hlt hne hk (by rw [ho]; rfl) hg (by rw [hm']; exact blk_ownBlock _ g h.symm))
        ⟨rfl, rfl, rfl, Nat.le_refl _, fun _ _ _ => rfl⟩ hv0 (.inl rfl) ⟨B, nn, k', rfl⟩ hown hrow
      have hle := Ctx.more_le c (.slice B nn k') e.size (S := c.S) (fun _ h => h)
      exact ⟨c.more (.slice B nn k') e.size c.S, _, _, q1, q2, q3, q4, own_new q6 rfl, m1, hK, q8.le hle⟩
theorem GoodH.shrink {todo : List Item} {st : St} (h : GoodH P n0 f m hv (shrinkK K) todo st) : GoodH P n0 f m hv K todo st := fun c w a cs hr hS hT => by
  obtain ⟨v, w', fr, h1, h2⟩ := h c w a cs hr hS hT
  exact ⟨v, w', fr, h1.shrink, h2⟩
/-- a call with handed arrays, out of its frame's beginning -/
theorem conH_of {g : FuncId} {gn : FnT} (hg : fnOf P g = some gn) {args : List AV} {os : List HObj} {Q : AV → List HObj → Prop} (hn : Nat.ble args.length gn.n = true)
    (h : ∀ n0 hv, GoodH P n0 g os.length hv (resH os.length Q) [.code gn.body] ⟨initEnv gn.n args, os⟩) : ConH P g args os Q := by
  intro n0
  refine ⟨by rw [hg]; rfl, fun c w vals ha hm cs => ?_⟩
  obtain ⟨fn, hf, hb, h1, h2⟩ := fnOf_spec hg
  have henter : Frame.enter P g vals .normal = ({ (default : Frame) with fn := g, kind := .normal } : Frame).at { tmps := vals ++ Array.replicate (gn.n - vals.size) undef, defers := [] } [.code gn.body] := by
    simp [Frame.enter, Frame.at, hf, hb, h1]
  let c0 : Ctx := ⟨c.n, c.m, c.z, c.S, c.S⟩
  have ha0 : ArgsR c0 w args vals := ⟨ha.1, fun j x hx => AVR.re (c := c) (c' := c0) rfl rfl rfl rfl (ha.2 j x hx)⟩
  have hm0 : Mem n0 c0 os w := ⟨HR.re (c := c) (c' := c0) rfl rfl rfl rfl hm.obj, hm.base, hm.stab, fun g hg _ => hg⟩
  have hcn : c.n = os.length := hm.obj.len
  obtain ⟨v, w', fr, ⟨c2, x, H', q1, q2, q3, q4, q5, q6, q7, q8⟩, hs, hfn, hl⟩ := (h n0 fun k => (c.m k, c.z k)).shrink c0 w { tmps := vals ++ Array.replicate (gn.n - vals.size) undef, defers := [] } cs ⟨initEnv_rel ha0 ((ble_iff _ _).1 hn), hm0, rfl⟩ (fun g hg => hg) ⟨by show os.length ≤ c.n; omega, fun k _ => ⟨rfl, rfl⟩⟩
  refine ⟨.returned v, w', fr, ⟨v, rfl, ⟨c2.n, c2.m, c2.z, c2.S, c.S0⟩, x, H', ⟨⟨by rw [hcn]; exact q8.1, fun id hid => (q8.2 id (by omega)).1, fun id hid => (q8.2 id (by omega)).2, fun g hg => q2 g hg, rfl⟩, q3, fun g hg => q4 g hg⟩, AVR.re (c := c2) (c' := ⟨c2.n, c2.m, c2.z, c2.S, c.S0⟩) rfl rfl rfl rfl q5,
    ⟨HR.re (c := c2) (c' := ⟨c2.n, c2.m, c2.z, c2.S, c.S0⟩) rfl rfl rfl rfl q6.obj, q6.base, q6.stab, fun g hg hlt => ?_⟩, q7⟩, ?_, hfn, hl⟩
  · have := q6.old g hg hlt
    rw [q1] at this
    exact hm.old g this hlt
  · rw [henter]; exact hs
end
end Go.Proofs.Ytejcniaepjahbaa.Mach
end
section
/- The fact of the package deal, by a run (in each order in which its four arrays may be made). -/
namespace Go.Proofs.Ytejcniaepjahbaa.Deal
open Go Go.Proofs.Ytejcniaepjahbaa.Mach
def dfA : Prop := (AV.bool true, ([] : List HObj)) = (AV.bool true, [])
set_option maxRecDepth 1000000 in
theorem df_run : comes tab [] 1500 24 [] [] (.bool true) [] = (((dfA ∧ dfA) ∧ ((dfA ∧ dfA) ∧ (dfA ∧ dfA))) ∧ (((dfA ∧ dfA) ∧ ((dfA ∧ dfA) ∧ (dfA ∧ dfA))) ∧ (((dfA ∧ dfA) ∧ ((dfA ∧ dfA) ∧ (dfA ∧ dfA))) ∧ ((dfA ∧ dfA) ∧ ((dfA ∧ dfA) ∧ (dfA ∧ dfA)))))) := by kernel_rfl
theorem df_mo : Try.prog.follows .mixedOrders = true := by kernel_rfl
theorem dfA_true : dfA := rfl
theorem df_known : KnownOk Try.prog ⟨24, [], .bool true, []⟩ := by
  refine known_of (T := tab) (L := []) (k := 1500) (ids := []) tabOk df_mo (fun x hx => by cases hx) (v0 := .bool true) ?_ (by kernel_rfl) rfl rfl rfl rfl
  rw [df_run]
  have a := dfA_true
  exact ⟨⟨⟨a, a⟩, ⟨a, a⟩, a, a⟩, ⟨⟨a, a⟩, ⟨a, a⟩, a, a⟩, ⟨⟨a, a⟩, ⟨a, a⟩, a, a⟩, ⟨a, a⟩, ⟨a, a⟩, a, a⟩
theorem df_con {Q : AV → List HObj → Prop} (hQ : Q (.bool true) []) : Con Try.prog 24 [] Q := Con.mono df_known fun v objs h => by
  obtain ⟨h1, h2⟩ := h
  rw [h1, h2]
  exact hQ
end Go.Proofs.Ytejcniaepjahbaa.Deal
end
