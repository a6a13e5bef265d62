/- Operations whose order is not told: all orders come to the same. -/
import Derived.Test.YtejcniaepjahbaaM20
import Derived.Test.YtejcniaepjahbaaM32
set_option linter.unusedSimpArgs false
set_option linter.unusedVariables false
set_option linter.unusedSectionVars false
namespace Go.Proofs.Ytejcniaepjahbaa.Mach
open Go
/-! ### what an operation tells does not hang on later objects -/
/-- the same of two memories, or nothing -/
def Sim (H H' : List HObj) (r r' : OpR) : Prop := r = .fail ∨ ∃ g x, r = .ok g x H ∧ r' = .ok g x H'
theorem sim_ok {H H' : List HObj} (g : Bool) (x : AV) : Sim H H' (.ok g x H) (.ok g x H') := .inr ⟨g, x, rfl, rfl⟩
theorem sim_fail {H H' : List HObj} {r : OpR} : Sim H H' .fail r := .inl rfl
/-- of two memories: the arrays have their lengths, and what is not written at 'tgt' is the same -/
def WAg (tgt : AV) (H H' : List HObj) : Prop := ∀ id, (∀ e (xs : List (ETy.D e)) fz, objAt H id = .typed e xs fz → ∃ xs' fz', objAt H' id = .typed e xs' fz' ∧ xs'.length = xs.length ∧ ((∀ j i o, tgt ≠ .elt j i o) → xs' = xs)) ∧
  ∀ cs, objAt H id = .box cs → (∀ o, tgt ≠ .ptr id o) → objAt H' id = .box cs
section
variable {tgt : AV} {H H' : List HObj} (ha : WAg tgt H H')
include ha
theorem agree_typed {id : Nat} {e : ETy} {xs : List e.D} {fz : Bool} (h : objAt H id = .typed e xs fz) : ∃ xs' fz', objAt H' id = .typed e xs' fz' ∧ xs'.length = xs.length ∧ ((∀ j i o, tgt ≠ .elt j i o) → xs' = xs) := (ha id).1 e xs fz h
theorem agree_lenOf {x : AV} {n : Nat} (h : lenOf H x = some n) : lenOf H' x = some n := by
  cases x <;> simp only [lenOf] at h ⊢ <;> try exact h
  all_goals
    split at h
    · rename_i ho
      obtain ⟨xs', fz', h1, h2, _⟩ := agree_typed ha ho
      rw [h1]
      simp only
      rw [h2]; exact h
    · simp at h
theorem agree_szOk {z : Nat} {x : AV} (h : szOk H z x = true) : szOk H' z x = true := by
  cases x <;> simp only [szOk] at h ⊢ <;> try exact h
  all_goals
    split at h
    · rename_i ho
      obtain ⟨xs', fz', h1, _⟩ := agree_typed ha ho
      rw [h1]; exact h
    · simp at h
omit ha in
theorem sim_okV {x : Option AV} : Sim H H' (okV H x) (okV H' x) := by
  cases x with
  | none => exact sim_fail
  | some y => exact sim_ok _ _
theorem sim_bin (kd : Kind') (op : BinOp) (x y : AV) : Sim H H' (binR kd H op x y) (binR kd H' op x y) := by
  have nil : Sim H H' (nilCmp kd H op x y) (nilCmp kd H' op x y) := by
    unfold nilCmp
    split
    · cases isRowV x with
      | false => exact sim_fail
      | true =>
        simp only [cond_true]
        cases hn : lenOf H x with
        | none => exact sim_fail
        | some n =>
          rw [agree_lenOf ha hn]
          simp only
          repeat' split
          all_goals first | exact sim_fail | exact sim_ok _ _
    · exact sim_fail
  unfold binR
  repeat' split
  all_goals first | exact sim_fail | exact sim_ok _ _ | exact nil
omit ha in
theorem sim_un (op : UnOp) (x : AV) : Sim H H' (unR H op x) (unR H' op x) := by
  unfold unR
  split <;> first | exact sim_fail | exact sim_ok _ _
omit ha in
theorem sim_conv (T : Tab) (s d : TypeId) (x : AV) (hx : noRow x = true) : Sim H H' (convR T H s d x) (convR T H' s d x) := by
  unfold convR
  split
  · rename_i y hy
    cases y.okay with
    | false => exact sim_fail
    | true =>
      simp only [cond_true]
      unfold conv1
      cases x <;> simp only [noRow, Bool.false_eq_true] at hx
      · split <;> first | exact sim_fail | exact sim_ok _ _ | (split <;> first | exact sim_fail | exact sim_ok _ _)
      · split <;> first | exact sim_fail | exact sim_ok _ _ | (split <;> first | exact sim_fail | exact sim_ok _ _)
  · exact sim_fail
theorem sim_indexN (x : AV) (i : Int) : Sim H H' (indexN H x i) (indexN H' x i) := by
  unfold indexN
  split
  · exact sim_ok _ _
  · split
    · rename_i ho
      obtain ⟨xs', fz', h1, h2, _⟩ := agree_typed ha ho
      rw [h1]
      simp only
      rw [h2]; exact sim_ok _ _
    · exact sim_fail
  · exact sim_ok _ _
  · exact sim_fail
theorem sim_indexA (al : Nat) (x : AV) (i : Int) : Sim H H' (indexA al H x i) (indexA al H' x i) := by
  unfold indexA
  split
  · split
    · rename_i ho
      obtain ⟨xs', fz', h1, h2, _⟩ := agree_typed ha ho
      rw [h1]
      simp only
      rw [h2]; exact sim_ok _ _
    · exact sim_fail
  · exact sim_fail
omit ha in
theorem sim_cond {b b' : Bool} {r r' : OpR} (hb : b = true → b' = true) (h : Sim H H' r r') : Sim H H' (bif b then r else .fail) (bif b' then r' else .fail) := by
  cases b with
  | false => exact sim_fail
  | true => rw [hb rfl]; exact h
theorem sim_index (kd : Kind') (z al : Nat) (x i : AV) : Sim H H' (indexR kd z al H x i) (indexR kd z al H' x i) := by
  unfold indexR
  split
  · split
    · exact sim_cond (agree_szOk ha) (sim_indexN ha _ _)
    · exact sim_cond (agree_szOk ha) (sim_indexN ha _ _)
    · exact sim_cond (agree_szOk ha) (sim_indexA ha _ _ _)
    · exact sim_fail
  · exact sim_fail
theorem sim_load (T : Tab) (t : TypeId) (x : AV) (hx : meets tgt x = false) : Sim H H' (loadR T H t x) (loadR T H' t x) := by
  unfold loadR
  split
  · rename_i id off
    split
    · rename_i cs ho
      have : objAt H' id = .box cs := (ha id).2 cs ho fun o he => by
        rw [he] at hx
        simp [meets, Nat.beq_refl] at hx
      rw [this]; exact sim_okV
    · exact sim_fail
  · rename_i id i off
    split
    · rename_i ho
      obtain ⟨xs', fz', h1, _, h3⟩ := agree_typed ha ho
      have := h3 fun j i' o' he => by rw [he] at hx; simp [meets] at hx
      subst this
      rw [h1]; exact sim_okV
    · exact sim_fail
  · exact sim_okV
  · exact sim_fail
theorem sim_slice (T : Tab) (t : TypeId) (env : Env) (x : Operand) (lo hi mx : Option Operand) : Sim H H' (oSlice T t H env x lo hi mx) (oSlice T t H' env x lo hi mx) := by
  unfold oSlice
  split
  · unfold sliceR
    split
    · exact sim_fail
    · rename_i n hn
      rw [agree_lenOf ha hn]
      simp only
      split
      · unfold sliceN
        have hcut : ∀ l h : Int, Sim H H' (cutRow H n l h (evalO env x)) (cutRow H' n l h (evalO env x)) := by
          intro l h
          unfold cutRow
          split <;> first | exact sim_fail | exact sim_ok _ _
        split
        · unfold cutStr
          split <;> first | exact sim_fail | exact sim_ok _ _
        · exact sim_cond (agree_szOk ha) (hcut _ _)
        · exact sim_cond (agree_szOk ha) (hcut _ _)
        · refine sim_cond (fun h => ?_) ?_
          · simp only [Bool.and_eq_true] at h ⊢
            exact ⟨agree_szOk ha h.1, h.2⟩
          · unfold cutArr
            split <;> first | exact sim_fail | exact sim_ok _ _
        · exact sim_fail
      · exact sim_fail
  · exact sim_fail
theorem sim_fieldAddr (T : Tab) (t : TypeId) (x : AV) (f : Nat) : Sim H H' (oFieldAddr T H t x f) (oFieldAddr T H' t x f) := by
  unfold oFieldAddr
  split
  · exact sim_ok _ _
  · split
    · rename_i ho
      obtain ⟨xs', fz', h1, _⟩ := agree_typed ha ho
      rw [h1]; exact sim_ok _ _
    · exact sim_fail
  · exact sim_ok _ _
  · exact sim_fail
omit ha in
theorem sim_field (T : Tab) (t : TypeId) (x : AV) (f : Nat) : Sim H H' (oField T H t x f) (oField T H' t x f) := by
  unfold oField
  split <;> first | exact sim_fail | exact sim_okV
omit ha in
theorem sim_build (T : Tab) (t : TypeId) (ps : List (Nat × AV)) : Sim H H' (buildR T H t ps) (buildR T H' t ps) := by
  unfold buildR
  split
  · rename_i x hx
    cases x.fok with
    | false => exact sim_fail
    | true =>
      simp only [cond_true]
      unfold buildX
      repeat' split
      all_goals first | exact sim_fail | exact sim_ok _ _
  · exact sim_fail
theorem sim_len (kd : Kind') (x : AV) : Sim H H' (lenR kd H x) (lenR kd H' x) := by
  have row : Sim H H' (lenRow H x) (lenRow H' x) := by
    unfold lenRow
    cases isRowV x with
    | false => exact sim_fail
    | true =>
      simp only [cond_true]
      split
      · rename_i n hn
        rw [agree_lenOf ha hn]
        exact sim_ok _ _
      · exact sim_fail
  unfold lenR
  split
  · unfold lenStr
    split <;> first | exact sim_fail | exact sim_ok _ _
  · exact row
  · exact row
  · exact sim_fail
omit ha in
theorem sim_pick (c x y : AV) : Sim H H' (oPick H c x y) (oPick H' c x y) := by
  unfold oPick
  split
  · rename_i t
    split
    · exact sim_ok _ _
    · split <;> first | exact sim_fail | exact sim_ok _ _
    · cases t <;> exact sim_ok _ _
  · exact sim_fail
/-- an operation that is still tells the same in a memory that has more -/
theorem sim_op (T : Tab) (env : Env) {op : Op} (hs : still op = true) (ht : touches tgt env op = false) : Sim H H' (opR T H env op) (opR T H' env op) := by
  cases op <;> simp only [still, Bool.false_eq_true] at hs
  case move y => exact sim_ok _ _
  case assign y => exact sim_ok _ _
  case binOp => exact sim_bin ha _ _ _ _
  case unOp => exact sim_un _ _
  case convert => exact sim_conv _ _ _ _ (by simpa [touches] using ht)
  case indexAddr => exact sim_index ha _ _ _ _ _
  case index =>
    show Sim H H' (oIndexStr _ H _ _) (oIndexStr _ H' _ _)
    unfold oIndexStr
    split <;> first | exact sim_fail | exact sim_ok _ _
  case load => exact sim_load ha _ _ _ ht
  case slice => exact sim_slice ha _ _ _ _ _ _ _
  case field => exact sim_field _ _ _ _
  case fieldAddr => exact sim_fieldAddr ha _ _ _ _
  case build => exact sim_build _ _ _
  case makeFunc =>
    show Sim H H' (oMakeFunc H _ _ _ _) (oMakeFunc H' _ _ _ _)
    unfold oMakeFunc
    split <;> first | exact sim_fail | exact sim_ok _ _
  case extract =>
    show Sim H H' (oExtract H _ _) (oExtract H' _ _)
    unfold oExtract
    split <;> first | exact sim_fail | exact sim_ok _ _
  case pick => exact sim_pick _ _ _
  case nilCheck =>
    show Sim H H' (oNilCheck H _) (oNilCheck H' _)
    unfold oNilCheck
    split <;> first | exact sim_fail | exact sim_ok _ _
  case call cl =>
    obtain ⟨cal, args, ts⟩ := cl
    split at hs
    · rename_i hc
      simp only at hc
      subst hc
      show Sim H H' (match ts.toList with | t :: _ => one1 (lenR (T.kind t) H) (args.toList.map (evalO env)) | [] => .fail) (match ts.toList with | t :: _ => one1 (lenR (T.kind t) H') (args.toList.map (evalO env)) | [] => .fail)
      cases ts.toList with
      | nil => exact sim_fail
      | cons t r =>
        simp only
        cases args.toList.map (evalO env) with
        | nil => exact sim_fail
        | cons x q =>
          cases q with
          | nil => exact sim_len ha _ _
          | cons y q => exact sim_fail
    · simp at hs
end
/-- a still operation leaves the memory -/
theorem still_same (T : Tab) {H : List HObj} (env : Env) {op : Op} (hs : still op = true) : opR T H env op = .fail ∨ ∃ g x, opR T H env op = .ok g x H := by
  have conv : ∀ s d x, convR T H s d x = .fail ∨ ∃ g y, convR T H s d x = .ok g y H := by
    intro s d x
    unfold convR
    split
    · rename_i y _
      cases y.okay with
      | false => exact .inl rfl
      | true =>
        simp only [cond_true]
        unfold conv1
        repeat' split
        all_goals first | exact .inl rfl | exact .inr ⟨_, _, rfl⟩
    · exact .inl rfl
  have load : ∀ t x, loadR T H t x = .fail ∨ ∃ g y, loadR T H t x = .ok g y H := by
    intro t x
    have h1 : ∀ o : Option AV, okV H o = .fail ∨ ∃ g y, okV H o = .ok g y H := fun o => by
      cases o with
      | none => exact .inl rfl
      | some y => exact .inr ⟨_, _, rfl⟩
    unfold loadR
    repeat' split
    all_goals first | exact .inl rfl | exact h1 _
  have wag : WAg .undef H H := fun id => ⟨fun e xs fz h => ⟨xs, fz, h, rfl, fun _ => rfl⟩, fun cs h _ => h⟩
  by_cases ht : touches .undef env op = false
  · rcases sim_op wag T env hs ht with h | ⟨g, x, h, _⟩
    · exact .inl h
    · exact .inr ⟨g, x, h⟩
  · cases op <;> first
      | exact (ht rfl).elim
      | exact conv _ _ _
theorem WAg.of_agree {H H' : List HObj} (h : agree H H') : WAg .undef H H' := fun id => ⟨fun e xs fz ho => ⟨xs, fz, by rw [h id (by rw [ho]; simp), ho], rfl, fun _ => rfl⟩, fun cs ho _ => by rw [h id (by rw [ho]; simp), ho]⟩
/-- the same for objects that are as they were -/
theorem sim_agree {H H' : List HObj} (ha : agree H H') (T : Tab) (env : Env) {op : Op} (hs : still op = true) : Sim H H' (opR T H env op) (opR T H' env op) := by
  by_cases ht : touches .undef env op = false
  · exact sim_op (WAg.of_agree ha) T env hs ht
  · cases op <;> first
      | exact (ht rfl).elim
      | skip
    rename_i s d x
    show Sim H H' (convR T H s d (evalO env x)) (convR T H' s d (evalO env x))
    have row : ∀ {e : ETy} {l : List e.D}, rowOf H e (evalO env x) = some l → rowOf H' e (evalO env x) = some l := by
      intro e l h
      generalize evalO env x = X at *
      cases X <;> simp only [rowOf] at h ⊢ <;> try exact h
      all_goals
        split at h
        · rename_i ho
          rw [ha _ (by rw [ho]; simp), ho]; exact h
        · simp at h
    unfold convR
    split
    · rename_i y hy
      cases y.okay with
      | false => exact sim_fail
      | true =>
        simp only [cond_true]
        unfold conv1
        split
        · split <;> first | exact sim_fail | exact sim_ok _ _
        · split
          · exact sim_ok _ _
          · exact sim_ok _ _
          · split
            · split
              · rename_i l hl
                rw [row hl]
                exact sim_ok _ _
              · exact sim_fail
            · exact sim_fail
        · split <;> first | exact sim_fail | exact sim_ok _ _
        · exact sim_fail
    · exact sim_fail
theorem freeze1_typed {H : List HObj} {id k : Nat} {e : ETy} {xs : List e.D} {fz : Bool} (h : objAt H k = .typed e xs fz) : ∃ fz', objAt (freeze1 H id) k = .typed e xs fz' := by
  by_cases hk : k = id
  · subst hk
    unfold freeze1
    rw [h]
    simp only
    have hlt := objAt_lt (H := H) (id := k) (by rw [h]; simp)
    rw [objAt_setAt, if_pos ⟨rfl, hlt⟩]
    exact ⟨true, rfl⟩
  · rw [objAt_freeze1 H id k hk]; exact ⟨fz, h⟩
theorem freeze1_box {H : List HObj} {id k : Nat} {cs : List AV} (h : objAt H k = .box cs) : objAt (freeze1 H id) k = .box cs := by
  by_cases hk : k = id
  · subst hk
    unfold freeze1
    rw [h]
    exact h
  · rw [objAt_freeze1 H id k hk]; exact h
theorem freezeAt_typed : ∀ (l : List Nat) {H : List HObj} {k : Nat} {e : ETy} {xs : List e.D} {fz : Bool}, objAt H k = .typed e xs fz → ∃ fz', objAt (freezeAt H l) k = .typed e xs fz'
  | [], _, _, _, _, fz, h => ⟨fz, h⟩
  | id :: l, H, k, e, xs, fz, h => by
    obtain ⟨fz', h'⟩ := freeze1_typed (id := id) h
    exact freezeAt_typed l h'
theorem freezeAt_box : ∀ (l : List Nat) {H : List HObj} {k : Nat} {cs : List AV}, objAt H k = .box cs → objAt (freezeAt H l) k = .box cs
  | [], _, _, _, h => h
  | id :: l, _, _, _, h => freezeAt_box l (freeze1_box h)
/-- a store -/
theorem store_agree {T : Tab} {H : List HObj} {t : TypeId} {v tgt x : AV} {g : Bool} {H' : List HObj} (h : storeR T H t v tgt = .ok g x H') : WAg tgt H H' := by
  unfold storeR at h
  split at h
  · rename_i id off
    split at h
    · rename_i cs ho
      unfold storeBox at h
      split at h
      · simp only [OpR.ok.injEq] at h
        obtain ⟨_, _, rfl⟩ := h
        intro k
        refine ⟨fun e xs fz hk => ⟨xs, fz, ?_, rfl, fun _ => rfl⟩, fun ds hk hne => ?_⟩
        · rw [objAt_setAt, if_neg (fun hh => by rw [hh.1, ho] at hk; simp at hk)]; exact hk
        · rw [objAt_setAt, if_neg (fun hh => hne off (by rw [hh.1]))]; exact hk
      · simp at h
    · simp at h
  · rename_i id i off
    split at h
    · rename_i e xs ho
      unfold storeElt at h
      split at h
      · split at h
        · rename_i q hq
          cases hc : (showL (cellsOf v)).contains id with
          | true => rw [hc] at h; simp at h
          | false =>
            rw [hc] at h
            simp only [cond_false, OpR.ok.injEq] at h
            obtain ⟨_, _, rfl⟩ := h
            intro k
            refine ⟨fun e' xs' fz hk => ?_, fun ds hk _ => ?_⟩
            · rw [objAt_setAt]
              split
              · rename_i hh
                rw [hh.1, ho] at hk
                simp only [HObj.typed.injEq] at hk
                obtain ⟨rfl, hxs, _⟩ := hk
                have := eq_of_heq hxs
                subst this
                exact ⟨_, false, rfl, by simp, fun hne => absurd rfl (hne id i off)⟩
              · obtain ⟨fz', h'⟩ := freezeAt_typed (showL (cellsOf v)) hk
                exact ⟨xs', fz', h', rfl, fun _ => rfl⟩
            · rw [objAt_setAt]
              split
              · rename_i hh
                rw [hh.1, ho] at hk; simp at hk
              · exact freezeAt_box _ hk
        · simp at h
      · simp at h
    · simp at h
  · simp at h
theorem agree_refl (H : List HObj) : agree H H := fun _ _ => rfl
theorem agree_append (H l : List HObj) : agree H (H ++ l) := fun id hid => by
  have hlt := objAt_lt hid
  rw [objAt_get, objAt_get, List.getElem?_append_left hlt]
/-- an operation that adds alone -/
theorem adds_agree {T : Tab} {H : List HObj} {env : Env} {op : Op} (hs : adds op = true) {g : Bool} {x : AV} {H' : List HObj} (h : opR T H env op = .ok g x H') : agree H H' := by
  cases op <;> simp only [adds, Bool.false_eq_true] at hs
  case alloc t =>
    have h' : oAlloc T H t = .ok g x H' := h
    unfold oAlloc allocX at h'
    split at h'
    · rename_i y hy
      split at h'
      · rename_i p hp
        cases hz : y.ezok with
        | false => rw [hz] at h'; simp at h'
        | true =>
          rw [hz] at h'
          simp only [cond_true, OpR.ok.injEq] at h'
          rw [← h'.2.2]; exact agree_append _ _
      · split at h'
        · simp only [OpR.ok.injEq] at h'
          rw [← h'.2.2]; exact agree_append _ _
        · simp at h'
    · simp at h'
  case box t y =>
    have h' : oBox H (evalO env y) = .ok g x H' := h
    unfold oBox at h'
    simp only [OpR.ok.injEq] at h'
    rw [← h'.2.2]; exact agree_append _ _
  case makeSlice t y z =>
    have h' : oMakeSlice T H t (evalO env y) (evalO env z) = .ok g x H' := h
    unfold oMakeSlice makeRow at h'
    split at h'
    · split at h'
      · split at h'
        · simp only [OpR.ok.injEq] at h'
          rw [← h'.2.2]; exact agree_append _ _
        · simp at h'
      · simp at h'
    · simp at h'
  case call cl =>
    obtain ⟨cal, args, ts⟩ := cl
    split at hs
    · rename_i f hc
      simp only at hc
      subst hc
      have h' : oCallV T H (evalO env f) (args.toList.map (evalO env)) = .ok g x H' := h
      unfold oCallV at h'
      split at h'
      · split at h'
        · simp at h'
        · rename_i k hk
          cases hb : Nat.beq k 1 with
          | false => rw [hb] at h'; simp at h'
          | true =>
            rw [hb] at h'
            simp only [cond_true] at h'
            unfold two indexByteR at h'
            repeat' split at h'
            all_goals first
              | (simp only [OpR.ok.injEq] at h'; rw [← h'.2.2]; exact agree_refl _)
              | simp at h'
      · simp at h'
    · simp at hs
end Go.Proofs.Ytejcniaepjahbaa.Mach
