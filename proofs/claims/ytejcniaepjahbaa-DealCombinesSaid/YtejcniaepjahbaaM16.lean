/- Arrays that are handed on stay as they are; slice literals: sound. -/
import Derived.Test.YtejcniaepjahbaaM15
set_option linter.unusedSimpArgs false
namespace Go.Proofs.Ytejcniaepjahbaa.Mach
open Go
theorem setAt_length {α : Type} (l : List α) (i : Nat) (v : α) : (setAt l i v).length = l.length := by rw [setAt_set]; simp
theorem objAt_setAt (H : List HObj) (id : Nat) (o : HObj) (k : Nat) : objAt (setAt H id o) k = if k = id ∧ k < H.length then o else objAt H k := by
  rw [objAt_get, objAt_get, setAt_set, List.getElem?_set]
  by_cases h : id = k
  · subst h
    by_cases hl : id < H.length
    · simp [hl]
    · simp [hl]
  · simp [h, Ne.symm h]
theorem freeze1_length (H : List HObj) (id : Nat) : (freeze1 H id).length = H.length := by
  unfold freeze1
  split <;> simp [setAt_length]
theorem freezeAt_length : ∀ (l : List Nat) (H : List HObj), (freezeAt H l).length = H.length
  | [], _ => rfl
  | id :: l, H => by
    show (freezeAt (freeze1 H id) l).length = _
    rw [freezeAt_length l, freeze1_length]
theorem objAt_freeze1 (H : List HObj) (id k : Nat) (h : k ≠ id) : objAt (freeze1 H id) k = objAt H k := by
  unfold freeze1
  split
  · rw [objAt_setAt, if_neg (fun h' => h h'.1)]
  · rfl
theorem objAt_freezeAt : ∀ (l : List Nat) (H : List HObj) (k : Nat), k ∉ l → objAt (freezeAt H l) k = objAt H k
  | [], _, _, _ => rfl
  | id :: l, H, k, h => by
    simp only [List.mem_cons, not_or] at h
    show objAt (freezeAt (freeze1 H id) l) k = _
    rw [objAt_freezeAt l _ k h.2, objAt_freeze1 H id k h.1]
/-- an array, whatever it holds -/
def isArr : HObj → Bool
  | .typed _ _ _ => true
  | _ => false
theorem isArr_freeze1 (H : List HObj) (id k : Nat) : isArr (objAt (freeze1 H id) k) = isArr (objAt H k) := by
  by_cases h : k = id
  · subst h
    unfold freeze1
    split
    · rename_i e xs fz ho
      rw [objAt_setAt]
      split
      · rw [ho]; rfl
      · rfl
    · rfl
  · rw [objAt_freeze1 H id k h]
section
variable {P : Program} {T : Tab} {n0 : Nat} {c : Ctx} {H : List HObj} {w : World} {env : Env} {a : Act} {o : Oper}
/-- a context that differs by its stable blocks alone -/
def Ctx.withS (c : Ctx) (S : Nat → Prop) : Ctx := ⟨c.n, c.m, c.z, S, c.S0⟩
theorem Ctx.withS_le (c : Ctx) {S : Nat → Prop} (h : ∀ g, c.S g → S g) : Ctx.le c (c.withS S) := ⟨Nat.le_refl _, fun _ _ => rfl, fun _ _ => rfl, h, rfl⟩
theorem alive_arr {ob : HObj} (h : isArr ob = true) : alive ob = true := by cases ob <;> simp_all [isArr, alive]
theorem Mem.freeze1 (hM : Mem n0 c H w) (id : Nat) : Mem n0 (c.withS fun g => c.S g ∨ (isArr (objAt H id) = true ∧ blk (c.m id) = some g)) (Mach.freeze1 H id) w := by
  have hlen := hM.obj.len
  have hlt : ∀ k, alive (objAt H k) = true → k < H.length := fun k hk => objAt_lt (fun h => by rw [h] at hk; simp [alive] at hk)
  refine ⟨⟨by rw [freeze1_length]; exact hlen, fun k hk => ?_, fun i j g hi hj hne ai aj bi => ?_⟩, hM.base, fun g hg => ?_, fun g hg hgl => ?_⟩
  · rw [freeze1_length] at hk
    have hob := hM.obj.obj k hk
    by_cases hki : k = id
    · subst hki
      unfold Mach.freeze1
      cases ho : objAt H k with
      | typed e xs fz =>
        rw [ho] at hob
        simp only
        rw [objAt_setAt, if_pos ⟨rfl, hk⟩]
        obtain ⟨hz, ⟨Ty, cells, hown, hrow⟩, _⟩ := hob
        refine ⟨hz, ⟨Ty, cells, hown, fun i x hx => ?_⟩, fun g hg => ⟨fun _ => .inr ⟨rfl, hg⟩, fun h => by simp at h⟩⟩
        obtain ⟨vs, h1, h2⟩ := hrow i x hx
        exact ⟨vs, ElemR.mono (fun _ h => .inl h) (fun _ _ => rfl) h1, h2⟩
      | box cs =>
        simp only
        rw [ho]
        rw [ho] at hob
        exact hob.mono (Ctx.withS_le c fun _ h => .inl h) (by omega) (fun g _ hS => hS.elim id (fun h => by simp [isArr] at h)) (fun _ _ => rfl) (fun _ _ => rfl)
      | dead => simp only; rw [ho]; trivial
    · rw [objAt_freeze1 H id k hki]
      by_cases hal : alive (objAt H k) = true
      · refine hob.mono (Ctx.withS_le c fun _ h => .inl h) (by omega) (fun g hg hS => ?_) (fun _ _ => rfl) (fun _ _ => rfl)
        rcases hS with hS | ⟨h1, h2⟩
        · exact hS
        · exact absurd hg (hM.obj.dist id k g (hlt id (alive_arr h1)) hk (Ne.symm hki) (alive_arr h1) hal h2)
      · cases ho : objAt H k with
        | dead => trivial
        | typed e xs fz => rw [ho] at hal; simp [alive] at hal
        | box cs => rw [ho] at hal; simp [alive] at hal
  · rw [freeze1_length] at hi hj
    have key : ∀ k, alive (objAt (Mach.freeze1 H id) k) = true → alive (objAt H k) = true := by
      intro k hk
      by_cases hki : k = id
      · subst hki
        unfold Mach.freeze1 at hk
        split at hk
        · rename_i ho; rw [ho]; rfl
        · exact hk
      · rwa [objAt_freeze1 H id k hki] at hk
    exact hM.obj.dist i j g hi hj hne (key i ai) (key j aj) bi
  · rcases hg with hg | ⟨h1, h2⟩
    · exact hM.stab g hg
    · exact hM.obj.lt id g (hlt id (alive_arr h1)) (alive_arr h1) h2
  · rcases hg with hg | ⟨h1, h2⟩
    · exact hM.old g hg hgl
    · have := hM.obj.base' (hlt id (alive_arr h1)) (alive_arr h1) h2
      omega
theorem Mem.freezeAt (l : List Nat) : ∀ {c : Ctx} {H : List HObj}, Mem n0 c H w → ∃ S : Nat → Prop, (∀ g, c.S g → S g) ∧ Mem n0 (c.withS S) (Mach.freezeAt H l) w ∧ ∀ id ∈ l, isArr (objAt H id) = true → ∀ g, blk (c.m id) = some g → S g := by
  induction l with
  | nil => intro c H hM; exact ⟨c.S, fun _ h => h, hM, fun id h => by cases h⟩
  | cons id l ih =>
    intro c H hM
    obtain ⟨S, h1, h2, h3⟩ := ih (hM.freeze1 id)
    refine ⟨S, fun g hg => h1 g (.inl hg), h2, fun k hk ha g hg => ?_⟩
    rcases List.mem_cons.1 hk with rfl | hk
    · exact h1 g (.inr ⟨ha, hg⟩)
    · exact h3 k hk (by rw [isArr_freeze1]; exact ha) g hg
theorem row_stable (hH : HR n0 c H w) {x : AV} {v : Value} (hx : AVR c w x v) {e : ETy} {l : List e.D} (hl : rowOf H e x = some l) {S : Nat → Prop} (hS : ∀ g, c.S g → S g)
    (hs : ∀ id ∈ show1 x, isArr (objAt H id) = true → ∀ g, blk (c.m id) = some g → S g) : CellR S w (.slice e) l v := by
  have key : RowV S w e l v := by
    obtain ⟨A, cap, h1, h2, h3⟩ := rowOf_rel hH hx hl
    refine ⟨A, cap, h1, h2, fun hp => ?_⟩
    obtain ⟨g, o, ha, hi⟩ := h3 hp
    refine ⟨g, o, ha, fun i y hy => ?_⟩
    obtain ⟨vs, hv1, hv2⟩ := hi i y hy
    exact ⟨vs, ElemR.mono hS (fun _ _ => rfl) hv1, hv2⟩
  obtain ⟨A, cap, rfl, h2, h3⟩ := key
  simp only [CellR]
  refine ⟨A, cap, rfl, h2, fun hp => ?_⟩
  obtain ⟨g, o, rfl, hi⟩ := h3 hp
  refine ⟨g, o, rfl, ?_, hi⟩
  have hp' : 0 < l.length := hp
  cases x <;> simp only [rowOf] at hl <;> try (simp at hl; done)
  · cases hx with
    | imm hc =>
      rename_i e' l'
      obtain ⟨he, hr⟩ := castRow_eq hl
      subst he
      subst hr
      simp only [CellR] at hc
      obtain ⟨A, cap', hv, hle, hcell⟩ := hc
      obtain ⟨g', o', ha, hg, _⟩ := hcell hp
      simp only [Value.slice.injEq] at hv
      rw [← hv.1] at ha
      simp only [Option.some.injEq, Addr.mk.injEq, and_true] at ha
      rw [ha.1]
      exact hS _ hg
  · rename_i id
    generalize hv : Value.slice (some ⟨g, o, none⟩) l.length cap = v at hx
    cases hx with
    | own hb hm =>
      refine hs id (by simp [show1]) ?_ g (by rw [hm, ← hv]; rfl)
      split at hl
      · rename_i ho; rw [ho]; rfl
      · simp at hl
  · rename_i id off len
    generalize hv : Value.slice (some ⟨g, o, none⟩) l.length cap = v at hx
    cases hx with
    | win hb hm h4 h5 h6 =>
      simp only [Value.slice.injEq] at hv
      obtain ⟨g', hA, hB⟩ := h6 (by omega)
      rw [← hv.1] at hB
      simp only [Option.some.injEq, Addr.mk.injEq, and_true] at hB
      refine hs id (by simp [show1]) ?_ g (by rw [hm, hA, hB.1]; rfl)
      split at hl
      · rename_i ho; rw [ho]; rfl
      · simp at hl
  · simp only [Option.some.injEq] at hl
    subst hl
    simp at hp'
theorem asCell_rel (hH : HR n0 c H w) {t : CTy} {x : AV} {v : Value} (hx : AVR c w x v) {d : t.D} (hd : asCell H t x = some d) {S : Nat → Prop} (hS : ∀ g, c.S g → S g)
    (hs : ∀ id ∈ show1 x, isArr (objAt H id) = true → ∀ g, blk (c.m id) = some g → S g) : CellR S w t d v := by
  cases t with
  | int k =>
    change asI k x = some d at hd
    cases x <;> simp only [asI] at hd <;> try (simp at hd; done)
    rename_i k' n
    split at hd
    · rename_i hk
      have hk' : k = k' := by simpa using hk
      subst hk'
      have hd' : n = d := Option.some.inj hd
      subst hd'
      simp only [CellR]
      exact int_inv hx
    · simp at hd
  | bool =>
    change asB x = some d at hd
    cases x <;> simp only [asB] at hd <;> try (simp at hd; done)
    rename_i b
    have hd' : b = d := Option.some.inj hd
    subst hd'
    simp only [CellR]
    exact bool_inv hx
  | str =>
    change asS x = some d at hd
    cases x <;> simp only [asS] at hd <;> try (simp at hd; done)
    rename_i b
    have hd' : b = d := Option.some.inj hd
    subst hd'
    simp only [CellR]
    exact str_inv hx
  | slice e =>
    have hd' : rowOf H e x = some d := hd
    exact row_stable hH hx hd' hS hs
theorem asElem_rel (hH : HR n0 c H w) : ∀ {e : ETy} {cs : List AV} {vs : List Value} {y : e.D}, CellsR c w cs vs → asElem H e cs = some y → ∀ {S : Nat → Prop}, (∀ g, c.S g → S g) →
    (∀ id ∈ showL cs, isArr (objAt H id) = true → ∀ g, blk (c.m id) = some g → S g) → ElemR S w e y vs
  | .one t, [], _, _, _, hy, _, _, _ => by simp [asElem] at hy
  | .one t, _ :: _ :: _, _, _, _, hy, _, _, _ => by simp [asElem] at hy
  | .one t, [x], vs, y, h, hy, S, hS, hs => by
    simp only [asElem] at hy
    obtain ⟨v, rfl⟩ : ∃ v, vs = [v] := List.length_eq_one_iff.1 (by simpa using h.1.symm)
    simp only [ElemR]
    refine ⟨v, rfl, asCell_rel hH (by simpa using h.2 0 x rfl) hy hS fun id hid => hs id ?_⟩
    show id ∈ show1 x ++ []
    simpa using hid
  | .more t e, [], _, _, _, hy, _, _, _ => by simp [asElem] at hy
  | .more t e, x :: r, vs, y, h, hy, S, hS, hs => by
    cases vs with
    | nil => simp [CellsR] at h
    | cons v vs =>
      simp only [asElem] at hy
      split at hy
      · rename_i p q hp hq
        have hy' := Option.some.inj hy
        subst hy'
        simp only [ElemR]
        have hs' : ∀ id, id ∈ show1 x ∨ id ∈ showL r → isArr (objAt H id) = true → ∀ g, blk (c.m id) = some g → S g := fun id hid => hs id (by show id ∈ show1 x ++ showL r; exact List.mem_append.2 hid)
        refine ⟨v, vs, rfl, asCell_rel hH (by simpa using h.2 0 x rfl) hp hS fun id hid => hs' id (.inl hid), asElem_rel hH ⟨by simpa using h.1, fun j z hz => by simpa using h.2 (j + 1) z (by simpa using hz)⟩ hq hS fun id hid => hs' id (.inr hid)⟩
      · simp at hy
/-- the parts of a literal, one behind the other -/
theorem fill_lit (size : Nat) : ∀ (vparts : List (Nat × Value)) (k : Nat) (cells : Array Value), (∀ (i : Nat) (p : Nat × Value), vparts[i]? = some p → p.1 = k + i ∧ p.2.cells.size = size) → (k + vparts.length) * size ≤ cells.size →
    ∃ us, Instr.fill (fun i => some (i * size, size)) cells vparts = some us ∧ us.size = cells.size ∧ (∀ j : Nat, j < k * size → us[j]? = cells[j]?) ∧
      ∀ (i : Nat) (p : Nat × Value), vparts[i]? = some p → ∀ (j : Nat) (u : Value), p.2.cells[j]? = some u → us[(k + i) * size + j]? = some u
  | [], k, cells, _, _ => ⟨cells, rfl, rfl, fun _ _ => rfl, fun i p hp => by simp at hp⟩
  | p :: vparts, k, cells, h, hs => by
    obtain ⟨h1, h2⟩ := h 0 p rfl
    simp only [List.length_cons] at hs
    have e1 : (k + (vparts.length + 1)) * size = k * size + vparts.length * size + size := by rw [Nat.add_mul, Nat.add_mul]; omega
    have hlay : (p.2.cells.zipIdx.foldl (fun cs (x : Value × Nat) => cs.setIfInBounds (p.1 * size + x.2) x.1) cells).toList = cells.toList.take (k * size) ++ p.2.cells.toList ++ cells.toList.drop (k * size + size) := by
      rw [← Array.foldl_toList, Array.toList_zipIdx, fold_lay (p.1 * size) _ 0, h1, Nat.add_zero, Nat.add_zero, lay_eq _ _ _ (by simp only [Array.length_toList]; omega)]
      simp only [Array.length_toList, h2]
    generalize hc : p.2.cells.zipIdx.foldl (fun cs (x : Value × Nat) => cs.setIfInBounds (p.1 * size + x.2) x.1) cells = cells1 at hlay
    have hsz : cells1.size = cells.size := by
      have := congrArg List.length hlay
      simp only [Array.length_toList, List.length_append, List.length_take, List.length_drop, h2] at this
      omega
    have hget : ∀ j : Nat, cells1[j]? = (cells.toList.take (k * size) ++ p.2.cells.toList ++ cells.toList.drop (k * size + size))[j]? := by
      intro j; rw [← hlay]; simp
    obtain ⟨us, g1, g2, g3, g4⟩ := fill_lit size vparts (k + 1) cells1 (fun i q hq => by
      have := h (i + 1) q (by simpa using hq)
      exact ⟨by omega, this.2⟩) (by
        rw [hsz]
        have e2 : (k + 1 + vparts.length) * size = k * size + vparts.length * size + size := by rw [Nat.add_mul, Nat.add_mul]; omega
        omega)
    have e3 : (k + 1) * size = k * size + size := by rw [Nat.add_mul, Nat.one_mul]
    refine ⟨us, ?_, by omega, fun j hj => ?_, fun i q hq j u hu => ?_⟩
    · obtain ⟨p1, p2⟩ := p
      simp only [Instr.fill]
      rw [if_neg (by simp only [Bool.or_eq_true, decide_eq_true_eq]; simp only at h1 h2; subst h1; omega)]
      simp only at hc
      rw [hc]
      exact g1
    · rw [g3 j (by omega), hget, List.append_assoc, List.getElem?_append_left (by simp only [List.length_take, Array.length_toList]; omega), List.getElem?_take, if_pos hj]
      simp
    · cases i with
      | zero =>
        simp only [List.getElem?_cons_zero, Option.some.injEq] at hq
        subst hq
        have hj : j < size := by rw [← h2]; exact (Array.getElem?_eq_some_iff.1 hu).1
        rw [Nat.add_zero, g3 _ (by omega), hget, List.append_assoc, List.getElem?_append_right (by simp only [List.length_take, Array.length_toList]; omega), List.getElem?_append_left (by simp only [List.length_take, Array.length_toList, h2]; omega)]
        have : k * size + j - (cells.toList.take (k * size)).length = j := by simp only [List.length_take, Array.length_toList]; omega
        rw [this]
        simpa using hu
      | succ i =>
        have := g4 i q (by simpa using hq) j u hu
        rwa [show k + 1 + i = k + (i + 1) by omega] at this
theorem litL_rel (hH : HR n0 c H w) {e : ETy} {S : Nat → Prop} (hS : ∀ g, c.S g → S g) : ∀ (parts : List (Nat × AV)) (vparts : List (Nat × Value)) (k : Nat) (l : List e.D), parts.length = vparts.length →
    (∀ (j : Nat) (p : Nat × AV), parts[j]? = some p → ∃ q, vparts[j]? = some q ∧ q.1 = p.1 ∧ AVR c w p.2 q.2) → (∀ id ∈ showP parts, isArr (objAt H id) = true → ∀ g, blk (c.m id) = some g → S g) → litL H e parts k = some l →
    l.length = parts.length ∧ (∀ (i : Nat) (q : Nat × Value), vparts[i]? = some q → q.1 = k + i ∧ q.2.cells.size = e.size) ∧ ∀ (i : Nat) (x : e.D), l[i]? = some x → ∃ q, vparts[i]? = some q ∧ ElemR S w e x q.2.cells.toList
  | [], [], k, l, _, _, _, hl => by
    simp only [litL, Option.some.injEq] at hl
    subst hl
    exact ⟨rfl, fun i q hq => by simp at hq, fun i x hx => by simp at hx⟩
  | [], _ :: _, _, _, hlen, _, _, _ => by simp at hlen
  | _ :: _, [], _, _, hlen, _, _, _ => by simp at hlen
  | p :: parts, q :: vparts, k, l, hlen, hp, hs, hl => by
    simp only [litL] at hl
    cases hb : Nat.beq p.1 k with
    | false => rw [hb] at hl; simp at hl
    | true =>
      rw [hb] at hl
      cases hv : isVal p.2 with
      | false => rw [hv] at hl; simp at hl
      | true =>
        rw [hv] at hl
        simp only [cond_true] at hl
        obtain ⟨q', hq1, hq2, hq3⟩ := hp 0 p rfl
        simp only [List.getElem?_cons_zero, Option.some.injEq] at hq1
        subst hq1
        have hsplit : ∀ id, id ∈ showL (cellsOf p.2) ∨ id ∈ showP parts → isArr (objAt H id) = true → ∀ g, blk (c.m id) = some g → S g := fun id hid => hs id (by show id ∈ showL (cellsOf p.2) ++ showP parts; exact List.mem_append.2 hid)
        split at hl
        · rename_i x hx
          split at hl
          · rename_i l' hl'
            simp only [Option.some.injEq] at hl
            subst hl
            have hel := asElem_rel hH (val_cells hq3 hv).1 hx hS fun id hid => hsplit id (.inl hid)
            obtain ⟨h1, h2, h3⟩ := litL_rel hH hS parts vparts (k + 1) l' (by simpa using hlen) (fun j p' hp' => by simpa using hp (j + 1) p' (by simpa using hp')) (fun id hid => hsplit id (.inr hid)) hl'
            refine ⟨by simp [h1], fun i q' hq' => ?_, fun i y hy => ?_⟩
            · cases i with
              | zero =>
                simp only [List.getElem?_cons_zero, Option.some.injEq] at hq'
                subst hq'
                exact ⟨by rw [hq2, Nat.eq_of_beq_eq_true hb]; rfl, by simpa using hel.length⟩
              | succ i =>
                have := h2 i q' (by simpa using hq')
                exact ⟨by omega, this.2⟩
            · cases i with
              | zero =>
                simp only [List.getElem?_cons_zero, Option.some.injEq] at hy
                subst hy
                exact ⟨q, rfl, hel⟩
              | succ i =>
                obtain ⟨q', hq', he⟩ := h3 i y (by simpa using hy)
                exact ⟨q', by simpa using hq', he⟩
          · simp at hl
        · simp at hl
theorem s_buildSlice (hM : Mem n0 c H w) (h : EnvR c w env a.tmps) (hT : TabOk P T) {t : TypeId} {n : Nat} {parts : Array (Nat × Operand)} (ho : o.op = .buildSlice t n parts) : Spec P n0 c w o a (oBuildSlice T H t n (oParts env parts)) := by
  unfold oBuildSlice
  split
  · rename_i p hp
    obtain ⟨et, i, z, h1, h2, h3, h4, h5, h6, h7⟩ := row_spec hT hp
    unfold buildRow
    split
    · rename_i l hl
      intro hg
      cases hb : Nat.beq l.length n with
      | false => rw [hb] at hg; simp at hg
      | true =>
        rw [hb] at hg
        have hn := Nat.eq_of_beq_eq_true hb
        have hle := (ble_iff _ _).1 hg
        obtain ⟨S, hS1, hS2, hS3⟩ := hM.freezeAt (showP (oParts env parts))
        obtain ⟨g1, g2, g3⟩ := litL_rel (c := c) hM.obj hS1 (oParts env parts) (parts.map fun (i, x) => (i, a.eval x)).toList 0 l (by simp [oParts]) (fun j p hp => by
          simp only [oParts, List.getElem?_map, Option.map_eq_some_iff] at hp
          obtain ⟨q, hq, rfl⟩ := hp
          have hq' : parts[j]? = some q := by simpa using hq
          exact ⟨(q.1, a.eval q.2), by simp [hq'], rfl, evalO_rel h q.2⟩) hS3 hl
        have hlen : (parts.map fun (i, x) => (i, a.eval x)).toList.length = n := by rw [← hn, g1]; simp [oParts]
        generalize hvp : parts.map (fun (i, x) => (i, a.eval x)) = vparts at *
        obtain ⟨us, f1, f2, f3, f4⟩ := fill_lit p.1.size vparts.toList 0 ((Array.range (n * p.1.size)).map ((if n * i.size = 0 then #[] else z.cells)[· % (if n * i.size = 0 then #[] else z.cells).size]!)) g2 (by rw [Nat.zero_add, hlen]; simp)
        have hsz : us.size = n * p.1.size := by rw [f2]; simp
        have hrun : (Instr.buildSlice t n vparts).run P w = .ok (.slice (some ⟨w.heap.size, 0, none⟩) n n) (w.alloc (.cells us et)) := by
          have h24 : ¬ (16777216 < n * i.size) := by rw [h4]; omega
          by_cases hz0 : n * i.size = 0
          · have hz0' : n * p.1.size = 0 := by rw [← h4]; exact hz0
            simp only [hz0', Array.range_zero', if_pos hz0] at f1
            simp [Instr.buildSlice, run_underlying h1, sizeOf, typeInfo, h2, h24, hz0, newRow, Array.range_zero', Sem.run_bind, Sem.run_pure]
            simp at f1
            rw [h4]
            rw [f1]
            simp [Sem.run_pure]
          · rw [if_neg hz0] at f1
            simp [Instr.buildSlice, run_underlying h1, sizeOf, typeInfo, zeroValue, h2, h3, h24, hz0, newRow, Sem.run_bind, Sem.run_pure]
            rw [h4]
            rw [f1]
            simp [Sem.run_pure]
        have hold : ∀ g, g < w.heap.size → (w.alloc (.cells us et)).heap[g]? = w.heap[g]? := fun g hg => heap_alloc_old w _ g hg
        have hfl := freezeAt_length (showP (oParts env parts)) H
        have hown := own_new hS2 (v := .slice (some ⟨w.heap.size, 0, none⟩) n n) (z := p.1.size) (w' := w.alloc (.cells us et)) rfl
        rw [hfl] at hown
        refine ⟨_, _, (c.withS S).more (.slice (some ⟨w.heap.size, 0, none⟩) n n) p.1.size S, ?_, ?_, hown, ?_, (RowKit.Below.refl n0 w).alloc hM.base _, fun g hg => hold g (hM.stab g hg)⟩
        · simp only [execOp, ho, Sem.run_bind, hvp, hrun, Result.andThen_ok, Sem.run_pure]
        · exact (Ctx.withS_le c hS1).trans (Ctx.more_le _ _ _ fun _ h => h)
        · refine push_row hS2 (Ty := et) (cells := us.toList) hold (by simp) (fun g hg => by simp [blk] at hg; omega) ?_ ?_
          · rw [hn]
            refine World.ownsRow_lit w us n hM.base ?_ hsz
            have := p.1.size_pos
            have : n * 1 ≤ n * p.1.size := Nat.mul_le_mul_left _ this
            simp only [maxLen]
            omega
          · intro j x hx
            obtain ⟨q, hq, he⟩ := g3 j x hx
            refine ⟨q.2.cells.toList, ElemR.mono (S := S) (S' := S) (w := w) (fun _ h => h) (fun g hg => hold g (hS2.stab g hg)) he, fun k u hu => ?_⟩
            have := f4 j q hq k u (by simpa using hu)
            rw [Nat.zero_add] at this
            simpa using this
    · trivial
  · trivial
end
end Go.Proofs.Ytejcniaepjahbaa.Mach
