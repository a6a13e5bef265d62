/- A call that is shown alone, made anywhere: sound. -/
import Derived.Test.YtejcniaepjahbaaM37
set_option linter.unusedSimpArgs false
set_option linter.unusedVariables false
namespace Go.Proofs.Ytejcniaepjahbaa.Mach
open Go
theorem objAt_app (H l : List HObj) (id : Nat) : objAt (H ++ l) id = if id < H.length then objAt H id else objAt l (id - H.length) := by
  rw [objAt_get, objAt_get, objAt_get]
  by_cases h : id < H.length
  · rw [if_pos h, List.getElem?_append_left h]
  · rw [if_neg h, List.getElem?_append_right (by omega)]
section
variable {P : Program} {n0 : Nat} {c : Ctx} {H : List HObj} {w : World}
/-- the caller's objects and the callee's results, together -/
def Ctx.join (cb c1 : Ctx) (k : Nat) (ids : List Nat) (n1 : Nat) : Ctx := ⟨cb.n + k, fun id => if id < cb.n then cb.m id else c1.m (ids.getD (id - cb.n) 0), fun id => if id < cb.n then cb.z id else c1.z (ids.getD (id - cb.n) 0), fun g => cb.S g ∨ (c1.S g ∧ n1 ≤ g), cb.S0⟩
theorem join_le (cb c1 : Ctx) (k : Nat) (ids : List Nat) (n1 : Nat) : Ctx.le cb (cb.join c1 k ids n1) := ⟨Nat.le_add_right _ _, fun id hi => by simp [Ctx.join, hi], fun id hi => by simp [Ctx.join, hi], fun g hg => .inl hg, rfl⟩
theorem join_frame {cb c1 : Ctx} {Hb H1 objs : List HObj} {w' : World} {ids : List Nat} {v : AV} {x' : AV} {v0 : Value} (hM : Mem n0 cb Hb w) (hM1 : Mem w.heap.size c1 H1 w') (hbel : RowKit.Below w.heap.size w w') (hn0 : n0 ≤ w.heap.size)
    (hlen : ids.length = objs.length) (hnd : ids.Nodup) (hob : ∀ (k id : Nat), ids[k]? = some id → objs[k]? = some (objAt H1 id)) (hty : typedL objs = true) (hout : outOk objs.length v = true) (hx' : x' = reId (fun k => ids.getD k 0) v) (hx : AVR c1 w' x' v0)
    (hS : (∀ g, c1.S g → cb.S g ∨ w.heap.size ≤ g) ∨ flatR v objs = true) :
    AVR (cb.join c1 objs.length ids w.heap.size) w' (reId (fun k => Hb.length + k) v) v0 ∧ Mem n0 (cb.join c1 objs.length ids w.heap.size) (Hb ++ objs) w' ∧ ∀ g, cb.S g → w'.heap[g]? = w.heap[g]? := by
  have hcl := hM.obj.len
  have hSw : ∀ g, cb.S g → w'.heap[g]? = w.heap[g]? := fun g hg => hbel.block g (hM.stab g hg)
  have hle := join_le cb c1 objs.length ids w.heap.size
  -- the new objects
  have hnew : ∀ k, k < objs.length → ∃ id e xs fz, ids[k]? = some id ∧ ids.getD k 0 = id ∧ objs[k]? = some (.typed e xs fz) ∧ objAt H1 id = .typed e xs fz ∧ id < H1.length := by
    intro k hk
    have hik : ids[k]? = some ids[k] := List.getElem?_eq_getElem (by omega)
    have ho := hob k _ hik
    have hmem : objAt H1 ids[k] ∈ objs := List.mem_iff_getElem?.2 ⟨k, ho⟩
    have ht := boolL_mem isTyped hty _ hmem
    cases hobj : objAt H1 ids[k] with
    | typed e xs fz => exact ⟨_, e, xs, fz, hik, by rw [List.getD_eq_getElem?_getD, hik]; rfl, by rw [ho, hobj], hobj, objAt_lt (by rw [hobj]; simp)⟩
    | box cs => rw [hobj] at ht; simp [isTyped] at ht
    | dead => rw [hobj] at ht; simp [isTyped] at ht
  have hmk : ∀ k, k < objs.length → (cb.join c1 objs.length ids w.heap.size).m (cb.n + k) = c1.m (ids.getD k 0) := fun k hk => by
    simp only [Ctx.join]
    rw [if_neg (by omega), show cb.n + k - cb.n = k by omega]
  have hzk : ∀ k, k < objs.length → (cb.join c1 objs.length ids w.heap.size).z (cb.n + k) = c1.z (ids.getD k 0) := fun k hk => by
    simp only [Ctx.join]
    rw [if_neg (by omega), show cb.n + k - cb.n = k by omega]
  have hgeS : ∀ g, c1.S g → w.heap.size ≤ g → (cb.join c1 objs.length ids w.heap.size).S g := fun g h1 h2 => .inr ⟨h1, h2⟩
  -- results
  have one : ∀ (y : AV) (u : Value), out1 objs.length y = true → noImm1 y = true ∨ (∀ g, c1.S g → cb.S g ∨ w.heap.size ≤ g) → AVR c1 w' (re1 (fun k => ids.getD k 0) y) u → AVR (cb.join c1 objs.length ids w.heap.size) w' (re1 (fun k => Hb.length + k) y) u := by
    intro y u ho hf h
    cases y <;> simp only [out1, Bool.false_eq_true] at ho <;> simp only [re1] at h ⊢
    · cases h; exact .int _ _
    · cases h; exact .bool _
    · cases h; exact .str _
    · rename_i e l
      rcases hf with hf | hf
      · simp [noImm1] at hf
      · cases h with
        | imm hc =>
          refine .imm (CellR.mono (S := c1.S) (w := w') (fun g hg => ?_) (fun _ _ => rfl) hc)
          rcases hf g hg with h1 | h1
          · exact .inl h1
          · exact .inr ⟨hg, h1⟩
    · rename_i k
      have hk := (blt_iff _ _).1 ho
      cases h with
      | own hb hm =>
        refine .own (by simp only [Ctx.join]; omega) ?_
        rw [← hcl, hmk k hk]
        exact hm
    · cases h; exact .nils
    · cases h; exact .nilp
  have hres : AVR (cb.join c1 objs.length ids w.heap.size) w' (reId (fun k => Hb.length + k) v) v0 := by
    have hflat : flatR v objs = true → noImm v = true := fun h => by
      unfold flatR at h
      cases hn : noImm v with
      | true => rfl
      | false => rw [hn] at h; simp at h
    rw [hx'] at hx
    have other : (∀ vs, v ≠ .tup vs) → outOk objs.length v = out1 objs.length v ∧ noImm v = noImm1 v ∧ ∀ f, reId f v = re1 f v := by
      intro hne
      cases v <;> first | exact ⟨rfl, rfl, fun _ => rfl⟩ | exact absurd rfl (hne _)
    have rest : (∀ vs, v ≠ .tup vs) → AVR (cb.join c1 objs.length ids w.heap.size) w' (reId (fun k => Hb.length + k) v) v0 := by
      intro hne
      obtain ⟨o1, o2, o3⟩ := other hne
      rw [o3]
      rw [o3] at hx
      refine one v _ (o1 ▸ hout) ?_ hx
      rcases hS with hS | hS
      · exact .inr hS
      · exact .inl (o2 ▸ hflat hS)
    cases v with
    | tup vs =>
      simp only [reId] at hx ⊢
      cases hx with
      | tup hl u h1 h2 =>
        rename_i us
        refine .tup (by simpa using hl) u (fun j y hy => ?_) (fun j y hy => ?_)
        · rw [List.getElem?_map, Option.map_eq_some_iff] at hy
          obtain ⟨z, hz, rfl⟩ := hy
          exact h1 j (re1 (fun k => ids.getD k 0) z) (by rw [List.getElem?_map, hz]; rfl)
        · rw [List.getElem?_map, Option.map_eq_some_iff] at hy
          obtain ⟨z, hz, rfl⟩ := hy
          have hzm : z ∈ vs := List.mem_iff_getElem?.2 ⟨j, hz⟩
          refine one z _ (boolL_mem (out1 objs.length) hout z hzm) ?_ (h2 j (re1 (fun k => ids.getD k 0) z) (by rw [List.getElem?_map, hz]; rfl))
          rcases hS with hS | hS
          · exact .inr hS
          · exact .inl (boolL_mem noImm1 (hflat hS) z hzm)
    | _ => exact rest (by intro vs h; cases h)
  refine ⟨hres, ⟨⟨by simp [Ctx.join, hcl], fun id hid => ?_, fun i j g hi hj hne ai aj bi => ?_⟩, ?_, fun g hg => ?_, fun g hg hgl => ?_⟩, hSw⟩
  · rw [objAt_app]
    by_cases h1 : id < Hb.length
    · rw [if_pos h1]
      by_cases hal : alive (objAt Hb id) = true
      · refine (hM.obj.obj id h1).mono hle (by omega) (fun g hg hgS => ?_) hSw fun g hg => hbel.block g (hM.obj.lt id g h1 hal hg)
        rcases hgS with hgS | ⟨_, hgS⟩
        · exact hgS
        · have := hM.obj.lt id g h1 hal hg; omega
      · cases ho : objAt Hb id with
        | dead => trivial
        | typed e xs fz => rw [ho] at hal; simp [alive] at hal
        | box cs => rw [ho] at hal; simp [alive] at hal
    · rw [if_neg h1]
      simp only [List.length_append] at hid
      have hk : id - Hb.length < objs.length := by omega
      obtain ⟨id1, e, xs, fz, p1, p2, p3, p4, p5⟩ := hnew _ hk
      have hid2 : id = cb.n + (id - Hb.length) := by omega
      have e1 : objAt objs (id - Hb.length) = .typed e xs fz := by rw [objAt_get, p3]; rfl
      rw [e1]
      have hm1 := hmk _ hk
      have hz1 := hzk _ hk
      rw [← hid2, p2] at hm1 hz1
      have hob1 := hM1.obj.obj id1 p5
      rw [p4] at hob1
      obtain ⟨hz, ⟨Ty, cells, hown, hrow⟩, hst⟩ := hob1
      refine ⟨hz1.trans hz, ⟨Ty, cells, ?_, fun i x hx => ?_⟩, fun g hg => ?_⟩
      · rw [hm1]
        refine ⟨hown.1, ?_⟩
        rcases hown.2 with hn | ⟨g', cap, cur, a1, a2, a3⟩
        · exact .inl hn
        · exact .inr ⟨g', cap, cur, a1, by omega, a3⟩
      · obtain ⟨vs, h2, h3⟩ := hrow i x hx
        refine ⟨vs, ?_, h3⟩
        rcases hS with hS | hS
        · refine ElemR.mono (S := c1.S) (w := w') (fun g hg => ?_) (fun _ _ => rfl) h2
          rcases hS g hg with h4 | h4
          · exact .inl h4
          · exact .inr ⟨hg, h4⟩
        · have hfl : flatL objs = true := by
            unfold flatR at hS
            cases hn : noImm v with
            | true => rw [hn] at hS; exact hS
            | false => rw [hn] at hS; simp at hS
          have := boolL_mem flatO hfl _ (List.mem_iff_getElem?.2 ⟨_, p3⟩)
          exact flat_elem this h2
      · rw [hm1] at hg
        have hge := hM1.obj.base' p5 (by rw [p4]; rfl) hg
        refine ⟨fun hf => .inr ⟨(hst g hg).1 hf, hge⟩, fun hf hgS => ?_⟩
        rcases hgS with hgS | ⟨hgS, _⟩
        · have := hM.stab g hgS; omega
        · exact (hst g hg).2 hf hgS
  · simp only [List.length_append] at hi hj
    rw [objAt_app] at ai aj
    have hold : ∀ k, k < Hb.length → (cb.join c1 objs.length ids w.heap.size).m k = cb.m k := fun k hk => by simp only [Ctx.join]; rw [if_pos (by omega)]
    have hnewb : ∀ k g, ¬ k < Hb.length → k < Hb.length + objs.length → blk ((cb.join c1 objs.length ids w.heap.size).m k) = some g → ∃ id1, ids[k - Hb.length]? = some id1 ∧ id1 < H1.length ∧ alive (objAt H1 id1) = true ∧ blk (c1.m id1) = some g ∧ w.heap.size ≤ g := by
      intro k g hk1 hk2 hb
      obtain ⟨id1, e, xs, fz, p1, p2, p3, p4, p5⟩ := hnew (k - Hb.length) (by omega)
      have hm1 := hmk (k - Hb.length) (by omega)
      rw [p2, show cb.n + (k - Hb.length) = k by omega] at hm1
      rw [hm1] at hb
      exact ⟨id1, p1, p5, by rw [p4]; rfl, hb, hM1.obj.base' p5 (by rw [p4]; rfl) hb⟩
    by_cases h1 : i < Hb.length
    · rw [if_pos h1] at ai
      rw [hold i h1] at bi
      by_cases h2 : j < Hb.length
      · rw [if_pos h2] at aj
        rw [hold j h2]
        exact hM.obj.dist i j g h1 h2 hne ai aj bi
      · intro hb
        obtain ⟨_, _, _, _, _, hge⟩ := hnewb j g h2 hj hb
        have := hM.obj.lt i g h1 ai bi
        omega
    · obtain ⟨id1, q1, q2, q3, q4, q5⟩ := hnewb i g h1 hi bi
      by_cases h2 : j < Hb.length
      · rw [if_pos h2] at aj
        rw [hold j h2]
        intro hb
        have := hM.obj.lt j g h2 aj hb
        omega
      · intro hb
        obtain ⟨id2, r1, r2, r3, r4, r5⟩ := hnewb j g h2 hj hb
        refine hM1.obj.dist id1 id2 g q2 r2 (fun he => ?_) q3 r3 q4 r4
        subst he
        have h3 := List.getElem?_eq_some_iff.1 q1
        have h4 := List.getElem?_eq_some_iff.1 r1
        have := (List.getElem_inj hnd (h₀ := h3.1) (h₁ := h4.1)).1 (h3.2.trans h4.2.symm)
        omega
  · have := hM.base; have := hbel.size; omega
  · rcases hg with hg | ⟨hg, _⟩
    · have := hM.stab g hg; have := hbel.size; omega
    · exact hM1.stab g hg
  · rcases hg with hg | ⟨_, hg⟩
    · exact hM.old g hg hgl
    · omega
/-- a call that is shown alone may be made anywhere -/
theorem frame_ok {g : FuncId} {args args' : List AV} {Q : AV → List HObj → Prop} {K : AV → List HObj → Prop} (hcon : Con P g args' Q) (hp : plains H args = some args')
    (hQ : ∀ v objs, Q v objs → K (reId (fun k => H.length + k) v) (behind H args v objs)) : CallOk P n0 g args H K := by
  refine ⟨(hcon 0).1, fun c w vals ha hm => ?_⟩
  obtain ⟨S, hS1, hS2, hS3⟩ := hm.freezeAt (argIds args)
  have hcl := hm.obj.len
  obtain ⟨hpl, hpg⟩ := plains_get hp
  have hm1 : Mem w.heap.size (alone S) [] w := ⟨⟨rfl, fun id hid => by simp at hid, fun i j g hi => by simp at hi⟩, Nat.le_refl _, fun g hg => hS2.stab g hg, fun g hg _ => hg⟩
  have ha1 : ArgsR (alone S) w args' vals := by
    refine ⟨by rw [ha.1, hpl], fun j y hy => ?_⟩
    obtain ⟨x, hx, hxy⟩ := hpg j y hy
    exact plain_rel hm.obj hS1 (ha.2 j x hx) hxy fun id hid => hS3 id (argIds_mem.2 ⟨x, List.mem_iff_getElem?.2 ⟨j, hx⟩, hid⟩)
  refine ((hcon w.heap.size).2 (alone S) w vals ha1 hm1).mono fun e w' hE => ?_
  obtain ⟨v0, rfl, c1, x', H1, hst, hx, hM1, v, objs, hq, hout, hty, ids, hlen, hnd, hob, hx'⟩ := hE
  refine ⟨v0, rfl, ?_⟩
  have hold : ∀ g, c1.S g → S g ∨ w.heap.size ≤ g := fun g hg => by
    by_cases h : g < w.heap.size
    · have := hM1.old g hg h
      rw [hst.le.S0] at this
      exact .inl this
    · exact .inr (by omega)
  have hk := hQ v objs hq
  unfold behind at hk
  have hb0 : RowKit.Below n0 w w' := hst.below.mono hm.base
  cases hf : flatR v objs with
  | true =>
    rw [hf] at hk
    obtain ⟨r1, r2, r3⟩ := join_frame hm hM1 hst.below hm.base hlen hnd hob hty hout hx' hx (.inr hf)
    exact ⟨_, _, _, ⟨join_le c c1 _ _ _, hb0, r3⟩, r1, r2, hk⟩
  | false =>
    rw [hf] at hk
    obtain ⟨r1, r2, r3⟩ := join_frame hS2 hM1 hst.below hm.base hlen hnd hob hty hout hx' hx (.inl hold)
    rw [freezeAt_length] at r1
    refine ⟨_, _, _, ⟨(Ctx.withS_le c hS1).trans (join_le (c.withS S) c1 _ _ _), hb0, fun g hg => r3 g (hS1 g hg)⟩, r1, r2, hk⟩
end
end Go.Proofs.Ytejcniaepjahbaa.Mach
