/- Appending to a local array: sound. -/
import Derived.Test.YtejcniaepjahbaaM16
set_option linter.unusedSimpArgs false
set_option linter.unusedVariables false
namespace Go.Proofs.Ytejcniaepjahbaa.Mach
open Go
section
variable {P : Program} (w : World)
/-- room in the array (whose block may have been laid for another type) -/
theorem run_append_roomT (t ty e T : TypeId) (i : TypeInfo) (ht : P.underlying t = some (.slice e)) (hi : P.info? e = some i)
    (g sLen sCap : Nat) (cur : Array Value) (hg : w.heap[g]? = some (.cells cur T (0, 0)))
    (a : Addr) (m c : Nat) (news : List Value) (hl : news.length = m * i.size) (hnews : ∀ j u, news[j]? = some u → w.cell? (a.add j) = some u) (h1 : ∀ u ∈ news, u.oneCell' = true)
    (hroom : sLen + m ≤ sCap) (hfit : sLen * i.size + news.length ≤ cur.size) :
    (Builtin.append_ #[t, t] ty #[.slice (some ⟨g, 0, none⟩) sLen sCap, .slice (some a) m c]).run P w =
      .ok (.slice (some ⟨g, 0, none⟩) (sLen + m) sCap) (w.setRow g (cur.toList.take (sLen * i.size) ++ news ++ cur.toList.drop (sLen * i.size + news.length)).toArray) := by
  have hf := run_firstCells_some (P := P) w i.size m a m c news hl hnews
  have hst := run_storeCells_at P g (sLen * i.size) T news 0 cur w hg (by simpa using hfit) h1
  simp only [Nat.add_zero] at hst
  simp [Builtin.append_, run_underlying ht, sizeOf, typeInfo, hi, Builtin.lenOf, hroom, hf, Addr.add_lit, hst]
theorem run_append_ownT (base : Nat) (t ty e T : TypeId) (i : TypeInfo) (z : Value) (size bytes : Nat) (ht : P.underlying t = some (.slice e)) (hi : P.info? e = some i) (hz : i.zero = some z)
    (hsize : i.size = size) (hby : i.bytes = bytes) (hzs : z.cells.size = size) (hsz : 0 < size)
    (v : Value) (n : Nat) (xs : List Value) (hown : w.ownsRow base T size v n xs)
    (a : Addr) (m c : Nat) (news : List Value) (hl : news.length = m * size) (hnews : ∀ j u, news[j]? = some u → w.cell? (a.add j) = some u) (h1 : ∀ u ∈ news, u.oneCell' = true)
    (h63 : n + m ≤ maxLen) (hbytes : (n + m) * bytes ≤ 140737488355328) (hbase : base ≤ w.heap.size) :
    ∃ v' w' T', (Builtin.append_ #[t, t] ty #[v, .slice (some a) m c]).run P w = .ok v' w' ∧ w'.ownsRow base T' size v' (n + m) (xs ++ news) ∧ w.grownBy w' v.ownBlock ∧
      (v'.ownBlock = v.ownBlock ∨ v'.ownBlock = some w.heap.size) := by
  subst hsize
  subst hby
  have hsmall : n + m ≤ 9223372036854775807 := by simp only [maxLen] at h63; omega
  have hlen : (xs ++ news).length = (n + m) * i.size := by rw [List.length_append, hown.1, hl, Nat.add_mul]
  have grown : ∀ (old : Nat), old < n + m → ∀ (row : Option Nat),
      (w.drew.alloc (.cells (xs.toArray ++ news.toArray ++ Builtin.zeroCells z.cells (grownCap w (n + m) old e - (n + m))) e)).ownsRow base e i.size
        (.slice (some ⟨w.heap.size, 0, none⟩) (n + m) (grownCap w (n + m) old e)) (n + m) (xs ++ news) ∧
      w.grownBy (w.drew.alloc (.cells (xs.toArray ++ news.toArray ++ Builtin.zeroCells z.cells (grownCap w (n + m) old e - (n + m))) e)) row := by
    intro old ho row
    have hge := grownCap_ge w (n + m) old e
    have hcm : grownCap w (n + m) old e ≤ maxLen := grownCap_le_maxLen w (n + m) old e h63
    refine ⟨⟨hlen, .inr ⟨w.heap.size, _, _, rfl, hbase, heap_alloc_new w.drew _, hge, hcm, ?_, ?_⟩⟩, ⟨rfl, rfl, rfl, by simp, fun k hk _ => heap_alloc_old w.drew _ k hk⟩⟩
    · simp only [Array.size_append, List.size_toArray, size_zeroCells, hzs, hown.1, hl, ← Nat.add_mul]
      congr 1
      omega
    · simp only [Array.toList_append, List.append_assoc]
      rw [← List.append_assoc, ← hlen]
      exact List.take_left
  rcases hown.2 with ⟨rfl, rfl⟩ | ⟨g, cap, cur, rfl, hbg, hg, hnc, hcm, hcs, htake⟩
  · have hx : xs = [] := List.eq_nil_of_length_eq_zero (by simpa using hown.1)
    subst hx
    by_cases hm : m = 0
    · subst hm
      have hn : news = [] := List.eq_nil_of_length_eq_zero (by simpa using hl)
      subst hn
      refine ⟨.slice none 0 0, w, e, ?_, World.ownsRow_nil w base e i.size, ⟨rfl, rfl, rfl, Nat.le_refl _, fun _ _ _ => rfl⟩, .inl rfl⟩
      simp [Builtin.append_, run_underlying ht, sizeOf, typeInfo, hi, Builtin.lenOf, Builtin.firstCells, loadCells, loadCellsFrom]
    · have hr := run_append_nil (P := P) w t ty e i z ht hi hz a m c news hl hnews (by omega) (by omega) (by have hb := hbytes; simp only [Nat.zero_add] at hb; omega)
      have hgr := grown 0 (by omega) (Value.ownBlock (.slice none 0 0))
      simp only [Nat.zero_add, List.nil_append, Array.empty_append] at hgr ⊢
      exact ⟨_, _, _, hr, hgr.1, hgr.2, .inr rfl⟩
  · by_cases hroom : n + m ≤ cap
    · have hfit : n * i.size + news.length ≤ cur.size := by rw [hl, hcs, ← Nat.add_mul]; exact Nat.mul_le_mul_right _ hroom
      have hr := run_append_roomT (P := P) w t ty e T i ht hi g n cap cur hg a m c news hl hnews h1 hroom hfit
      refine ⟨_, _, T, hr, ⟨hlen, .inr ⟨g, cap, _, rfl, hbg, setRow_heap w g cur _ T _ hg, hroom, hcm, ?_, ?_⟩⟩, ⟨rfl, rfl, rfl, by simp, fun k _ hk => setRow_other w g k _ (fun e => hk (by simp [Value.ownBlock, e]))⟩, .inl rfl⟩
      · simp only [List.size_toArray, List.length_append, List.length_take, List.length_drop, Array.length_toList]
        omega
      · rw [htake, ← hlen]
        exact List.take_left
    · have holds : ∀ j u, xs[j]? = some u → w.cell? ((⟨g, 0, none⟩ : Addr).add j) = some u := hown.cells (g := g) rfl
      have hr := run_append_grow (P := P) w t ty e i z ht hi hz ⟨g, 0, none⟩ n cap xs hown.1 holds a m c news hl hnews (by omega) (by omega) (growslice_fits (by omega) hbytes)
      have hgr := grown cap (by omega) (Value.ownBlock (.slice (some ⟨g, 0, none⟩) n cap))
      exact ⟨_, _, _, hr, hgr.1, hgr.2, .inr rfl⟩
theorem run_append_noneT (base : Nat) (t ty e T : TypeId) (i : TypeInfo) (size : Nat) (ht : P.underlying t = some (.slice e)) (hi : P.info? e = some i)
    (v : Value) (n : Nat) (xs : List Value) (hown : w.ownsRow base T size v n xs) (c : Nat) :
    (Builtin.append_ #[t, t] ty #[v, .slice none 0 c]).run P w = .ok v w := by
  rcases hown.2 with ⟨rfl, rfl⟩ | ⟨g, cap, cur, rfl, _, _, hnc, _⟩
  · simp [Builtin.append_, run_underlying ht, sizeOf, typeInfo, hi, Builtin.lenOf, Builtin.firstCells]
  · simp [Builtin.append_, run_underlying ht, sizeOf, typeInfo, hi, Builtin.lenOf, Builtin.firstCells, hnc, storeCells]
end
section
variable {P : Program} {T : Tab} {n0 : Nat} {c : Ctx} {H : List HObj} {w : World} {env : Env} {a : Act} {o : Oper}
/-- the cells of a row, as a list -/
theorem row_news {S : Nat → Prop} {e : ETy} {l : List e.D} {g o' : Nat} (hi : ∀ (i : Nat) (x : e.D), l[i]? = some x → ∃ vs, ElemR S w e x vs ∧ ∀ (j : Nat) (u : Value), vs[j]? = some u → w.cell? ⟨g, o' + i * e.size + j, none⟩ = some u) :
    ∃ news : List Value, news.length = l.length * e.size ∧ (∀ (j : Nat) (u : Value), news[j]? = some u → w.cell? ((⟨g, o', none⟩ : Addr).add j) = some u) ∧ (∀ u ∈ news, u.oneCell' = true) ∧ RowR S w e l news := by
  have key : ∀ j, j < l.length * e.size → ∃ u, w.cell? ⟨g, o' + j, none⟩ = some u ∧ u.oneCell' = true := by
    intro j hj
    have hpos := e.size_pos
    have hq : j / e.size < l.length := Nat.div_lt_of_lt_mul (by rwa [Nat.mul_comm])
    obtain ⟨vs, h1, h2⟩ := hi (j / e.size) _ (List.getElem?_eq_getElem hq)
    have hr : j % e.size < vs.length := by rw [h1.length]; exact Nat.mod_lt _ hpos
    refine ⟨vs[j % e.size], ?_, h1.one _ (List.getElem_mem hr)⟩
    have := h2 _ _ (List.getElem?_eq_getElem hr)
    rwa [Nat.add_assoc, Nat.mul_comm, Nat.div_add_mod] at this
  have hget : ∀ (j : Nat) (u : Value), ((List.range (l.length * e.size)).map fun j => (w.cell? ⟨g, o' + j, none⟩).getD default)[j]? = some u → j < l.length * e.size ∧ (w.cell? ⟨g, o' + j, none⟩).getD default = u := by
    intro j u hu
    rw [List.getElem?_map, Option.map_eq_some_iff] at hu
    obtain ⟨k, hk, rfl⟩ := hu
    by_cases hj : j < l.length * e.size
    · rw [List.getElem?_range hj] at hk
      simp only [Option.some.injEq] at hk
      subst hk
      exact ⟨hj, rfl⟩
    · rw [List.getElem?_eq_none (by simp; omega)] at hk
      simp at hk
  refine ⟨(List.range (l.length * e.size)).map fun j => (w.cell? ⟨g, o' + j, none⟩).getD default, by simp, fun j u hu => ?_, fun u hu => ?_, fun i x hx => ?_⟩
  · obtain ⟨hj, rfl⟩ := hget j u hu
    obtain ⟨u, hu, _⟩ := key j hj
    rw [add_at, hu]; rfl
  · obtain ⟨j, hj0⟩ := List.mem_iff_getElem?.1 hu
    obtain ⟨hj, he⟩ := hget j u hj0
    obtain ⟨u', hu', h1⟩ := key j hj
    rw [hu'] at he
    rw [← he]; exact h1
  · obtain ⟨vs, h1, h2⟩ := hi i x hx
    refine ⟨vs, h1, fun j u hu => ?_⟩
    have hil : i < l.length := (List.getElem?_eq_some_iff.1 hx).1
    have hj : j < e.size := by rw [← h1.length]; exact (List.getElem?_eq_some_iff.1 hu).1
    have hlt : i * e.size + j < l.length * e.size := by
      have : (i + 1) * e.size ≤ l.length * e.size := Nat.mul_le_mul_right _ (by omega)
      rw [Nat.add_mul] at this
      omega
    rw [List.getElem?_map, List.getElem?_range hlt]
    have := h2 j u hu
    simp only [Option.map_some]
    rw [← Nat.add_assoc, this]; rfl
theorem RowR.mono {S S' : Nat → Prop} {w' : World} {e : ETy} {xs : List e.D} {cells : List Value} (hS : ∀ g, S g → S' g) (hw : ∀ g, S g → w'.heap[g]? = w.heap[g]?) (h : RowR S w e xs cells) : RowR S' w' e xs cells := fun i x hx => by
  obtain ⟨vs, h1, h2⟩ := h i x hx
  exact ⟨vs, h1.mono hS hw, h2⟩
theorem RowR.append {S : Nat → Prop} {e : ETy} {xs ys : List e.D} {cs ds : List Value} (h : RowR S w e xs cs) (hl : cs.length = xs.length * e.size) (h' : RowR S w e ys ds) : RowR S w e (xs ++ ys) (cs ++ ds) := fun i x hx => by
  by_cases hi : i < xs.length
  · rw [List.getElem?_append_left hi] at hx
    obtain ⟨vs, h1, h2⟩ := h i x hx
    refine ⟨vs, h1, fun j u hu => ?_⟩
    have := h2 j u hu
    rw [List.getElem?_append_left]
    · exact this
    · exact (List.getElem?_eq_some_iff.1 this).1
  · rw [List.getElem?_append_right (by omega)] at hx
    obtain ⟨vs, h1, h2⟩ := h' _ x hx
    refine ⟨vs, h1, fun j u hu => ?_⟩
    have := h2 j u hu
    have e1 : i * e.size = xs.length * e.size + (i - xs.length) * e.size := by rw [← Nat.add_mul]; congr 1; omega
    rw [List.getElem?_append_right (by omega), hl, e1]
    rw [show xs.length * e.size + (i - xs.length) * e.size + j - xs.length * e.size = (i - xs.length) * e.size + j by omega]
    exact this
/-- the old array gives way to the new one, in its place or elsewhere -/
theorem swap_row (hM : Mem n0 c H w) {w' : World} {e : ETy} {xs : List e.D} {Ty : TypeId} {v v0 : Value} {cells : List Value} (H1 : List HObj) (hH1 : H1.length = H.length) (hd : ∀ k, alive (objAt H1 k) = true → objAt H1 k = objAt H k ∧ (∀ g, blk (c.m k) = some g → some g ≠ v0.ownBlock))
    (hg : w.grownBy w' v0.ownBlock) (hv0 : ∀ g, v0.ownBlock = some g → n0 ≤ g ∧ ¬ c.S g) (hblk : v.ownBlock = v0.ownBlock ∨ v.ownBlock = some w.heap.size) (hvs : ∃ A n k, v = .slice A n k)
    (hown : w'.ownsRow n0 Ty e.size v xs.length cells) (hrow : RowR c.S w' e xs cells) :
    Mem n0 (c.more v e.size c.S) (H1 ++ [.typed e xs false]) w' ∧ RowKit.Below n0 w w' ∧ ∀ g, c.S g → w'.heap[g]? = w.heap[g]? := by
  obtain ⟨A, n, k, rfl⟩ := hvs
  have hS : ∀ g, c.S g → w'.heap[g]? = w.heap[g]? := fun g hg' => hg.block g (hM.stab g hg') fun h => (hv0 g h.symm).2 hg'
  have hcl := hM.obj.len
  have hvb : ∀ g, blk (.slice A n k) = some g → (Value.slice A n k).ownBlock = some g := fun g h => by rw [← blk_own (.slice A n k) n k A rfl]; exact h
  have hlt : ∀ k, alive (objAt H1 k) = true → k < H.length := fun k hk => by rw [← hH1]; exact objAt_lt (fun h => by rw [h] at hk; simp [alive] at hk)
  have hle := Ctx.more_le c (.slice A n k) e.size (S := c.S) (fun _ hg => hg)
  have hkeep : ∀ id, alive (objAt H1 id) = true → ∀ g, blk (c.m id) = some g → w'.heap[g]? = w.heap[g]? := fun id hal g hg' => by
    obtain ⟨h1, h2⟩ := hd id hal
    exact hg.block g (hM.obj.lt id g (hlt id hal) (by rw [← h1]; exact hal) hg') (h2 g hg')
  have hfresh : ∀ id, alive (objAt H1 id) = true → ∀ g, blk (c.m id) = some g → blk (.slice A n k) ≠ some g := fun id hal g hg' hb => by
    obtain ⟨h1, h2⟩ := hd id hal
    rcases hblk with hb' | hb'
    · exact h2 g hg' (by rw [← hb', hvb g hb])
    · rw [hvb g hb] at hb'
      have := hM.obj.lt id g (hlt id hal) (by rw [← h1]; exact hal) hg'
      simp only [Option.some.injEq] at hb'
      omega
  refine ⟨⟨⟨by simp [Ctx.more, hcl, hH1], fun id hid => ?_, fun i j g hi hj hne ai aj bi => ?_⟩, by have := hM.base; have := hg.size; omega, fun g hg' => by have := hM.stab g hg'; have := hg.size; omega, fun g hg' hl => hM.old g hg' hl⟩, (RowKit.Below.refl n0 w).grown hg hM.base (fun g h => (hv0 g h).1), hS⟩
  · rw [objAt_append]
    by_cases h1 : id < H1.length
    · rw [if_pos h1]
      by_cases hal : alive (objAt H1 id) = true
      · rw [(hd id hal).1]
        exact (hM.obj.obj id (by omega)).mono hle (by omega) (fun _ _ hg => hg) hS (hkeep id hal)
      · cases ho : objAt H1 id with
        | dead => trivial
        | typed e xs fz => rw [ho] at hal; simp [alive] at hal
        | box cs => rw [ho] at hal; simp [alive] at hal
    · have hid' : id = c.n := by simp at hid; omega
      rw [if_neg h1, if_pos (by omega), hid']
      have hv : (c.more (.slice A n k) e.size c.S).m c.n = .slice A n k := by simp [Ctx.more]
      refine ⟨by simp [Ctx.more], ⟨Ty, cells, by rw [hv]; exact hown, hrow⟩, fun g hg' => ⟨fun h => by simp at h, fun _ hSg => ?_⟩⟩
      rw [hv] at hg'
      rcases hblk with hb' | hb'
      · rw [hvb g hg'] at hb'
        exact (hv0 g hb'.symm).2 hSg
      · rw [hvb g hg'] at hb'
        simp only [Option.some.injEq] at hb'
        have := hM.stab g hSg
        omega
  · simp only [List.length_append, List.length_singleton] at hi hj
    rw [objAt_append] at ai aj
    have em : ∀ k', k' < H1.length → (c.more (.slice A n k) e.size c.S).m k' = c.m k' := fun k' hk => by simp [Ctx.more, show ¬ k' = c.n by omega]
    have en : (c.more (.slice A n k) e.size c.S).m H1.length = .slice A n k := by simp [Ctx.more, hcl, hH1]
    by_cases h1 : i < H1.length
    · rw [if_pos h1] at ai
      rw [em i h1] at bi
      by_cases h2 : j < H1.length
      · rw [if_pos h2] at aj
        rw [em j h2]
        exact hM.obj.dist i j g (by omega) (by omega) hne (by rw [← (hd i ai).1]; exact ai) (by rw [← (hd j aj).1]; exact aj) bi
      · have hj' : j = H1.length := by omega
        subst hj'
        rw [en]
        exact hfresh i ai g bi
    · have hi' : i = H1.length := by omega
      subst hi'
      rw [en] at bi
      have h2 : j < H1.length := by omega
      rw [if_pos h2] at aj
      rw [em j h2]
      intro hb
      exact hfresh j aj g hb bi
theorem own_val {id : Nat} {v : Value} (h : AVR c w (.own id) v) : v = c.m id := by
  cases h with
  | own hb hm => exact hm.symm
theorem run_append {o : Oper} {s x : Operand} {t : TypeId} (ho : o.op = .call { callee := .builtin .append, args := #[s, x], argTypes := #[t, t] }) {v : Value} {w' : World}
    (h : (Builtin.append_ #[t, t] o.type #[a.eval s, a.eval x]).run P w = .ok v w') : (execOp a.eval o).run P w = .ok (.value v) w' := by
  simp only [execOp, ho, resolve, invoke, builtin, Sem.run_bind, Sem.run_pure, Result.andThen_ok, List.map_toArray, List.map_cons, List.map_nil, h]
theorem s_append (hM : Mem n0 c H w) (h : EnvR c w env a.tmps) (hT : TabOk P T) {t : TypeId} {s x : Operand} (ho : o.op = .call { callee := .builtin .append, args := #[s, x], argTypes := #[t, t] }) :
    Spec P n0 c w o a (appendR T H t (evalO env s) (evalO env x)) := by
  have hs := evalO_rel h s
  have hx := evalO_rel h x
  have hrun := fun v w' (hh : (Builtin.append_ #[t, t] o.type #[a.eval s, a.eval x]).run P w = .ok v w') => run_append (o := o) (a := a) (w := w) ho hh
  generalize a.eval s = vs at *
  generalize a.eval x = vx at *
  generalize evalO env s = X at *
  generalize evalO env x = Y at *
  unfold appendR
  split
  · rename_i p hp
    obtain ⟨et, i, z, h1, h2, h3, h4, h5, h6, h7⟩ := row_spec hT hp
    split
    · rename_i ys hys
      have hrow := rowOf_rel hM.obj hx hys
      have fin : ∀ (id : Option Nat) (xs : List p.1.D) (Ty : TypeId) (cells : List Value), w.ownsRow n0 Ty p.1.size vs xs.length cells → RowR c.S w p.1 xs cells → (∀ g, vs.ownBlock = some g → ¬ c.S g) →
          (∀ i, id = some i → vs = c.m i ∧ i < H.length ∧ alive (objAt H i) = true) → (id = none → vs.ownBlock = none) → Spec P n0 c w o a (appendTo H id p.1 p.2 xs ys) := by
        intro id xs Ty cells hown hr0 hnS hid hnone hg
        obtain ⟨hf1, hf2⟩ := fits_spec hg
        obtain ⟨A, cap, rfl, hle, hcell⟩ := hrow
        have hcl := hM.obj.len
        have hH1 : (killAt H id).length = H.length := by
          cases id with
          | none => rfl
          | some i => exact setAt_length H i _
        have hd : ∀ k, alive (objAt (killAt H id) k) = true → objAt (killAt H id) k = objAt H k ∧ (∀ g, blk (c.m k) = some g → some g ≠ vs.ownBlock) := by
          intro k hk
          cases id with
          | none => exact ⟨rfl, fun g _ => by rw [hnone rfl]; simp⟩
          | some i =>
            obtain ⟨hv, hi1, hi2⟩ := hid i rfl
            have hk' : alive (objAt (setAt H i HObj.dead) k) = true := hk
            rw [objAt_setAt] at hk'
            by_cases hki : k = i ∧ k < H.length
            · rw [if_pos hki] at hk'; simp [alive] at hk'
            · rw [if_neg hki] at hk'
              have hkl : k < H.length := objAt_lt (fun h => by rw [h] at hk'; simp [alive] at hk')
              have hne : k ≠ i := fun h => hki ⟨h, hkl⟩
              refine ⟨by show objAt (setAt H i HObj.dead) k = _; rw [objAt_setAt, if_neg hki], fun g hg h => ?_⟩
              exact hM.obj.dist k i g hkl hi1 hne hk' hi2 hg (by rw [← hv]; exact blk_ownBlock vs g h.symm)
        generalize hH1e : killAt H id = H1 at *
        have hv0 : ∀ g, vs.ownBlock = some g → n0 ≤ g ∧ ¬ c.S g := fun g hg => ⟨(hown.lt g hg).1, hnS g hg⟩
        have cont : ∀ (v' : Value) (w' : World) (T' : TypeId) (news : List Value), (execOp a.eval o).run P w = .ok (.value v') w' → w'.ownsRow n0 T' p.1.size v' (xs.length + ys.length) (cells ++ news) → w.grownBy w' vs.ownBlock → (v'.ownBlock = vs.ownBlock ∨ v'.ownBlock = some w.heap.size) →
            RowR c.S w p.1 ys news → MemSpec P n0 c w o a (.own H.length) (H1 ++ [.typed p.1 (xs ++ ys) false]) := by
          intro v' w' T' news hr ho' hgr hbl hrn
          have hsl : ∃ A n k, v' = .slice A n k := by
            rcases ho'.2 with ⟨h, _⟩ | ⟨g, cap, cur, h, _⟩
            · exact ⟨_, _, _, h⟩
            · exact ⟨_, _, _, h⟩
          have hS : ∀ g, c.S g → w'.heap[g]? = w.heap[g]? := fun g hg' => hgr.block g (hM.stab g hg') fun h => (hv0 g h.symm).2 hg'
          obtain ⟨m1, m2, m3⟩ := swap_row hM (v := v') (v0 := vs) (xs := xs ++ ys) (cells := cells ++ news) H1 hH1 hd hgr hv0 hbl hsl (by rw [List.length_append]; exact ho') ((hr0.append hown.1 hrn).mono (fun _ h => h) hS)
          obtain ⟨A', n', k', hv'⟩ := hsl
          exact ⟨v', w', c.more v' p.1.size c.S, hr, Ctx.more_le c _ _ (fun _ h => h), own_new hM hv', m1, m2, m3⟩
        by_cases hp0 : 0 < ys.length
        · obtain ⟨g, o', rfl, hi⟩ := hcell hp0
          obtain ⟨news, q1, q2, q3, q4⟩ := row_news hi
          obtain ⟨v', w', T', r1, r2, r3, r4⟩ := run_append_ownT (P := P) w n0 t o.type et Ty i z p.1.size p.2 h1 h2 h3 h4 h7.symm h5 p.1.size_pos vs xs.length cells hown ⟨g, o', none⟩ ys.length cap news q1 q2 q3 hf1 hf2 hM.base
          exact cont v' w' T' news (hrun _ _ r1) r2 r3 r4 q4
        · have hy0 : ys = [] := List.eq_nil_of_length_eq_zero (by omega)
          subst hy0
          cases A with
          | none =>
            have r1 := run_append_noneT (P := P) w n0 t o.type et Ty i p.1.size h1 h2 vs xs.length cells hown cap
            exact cont vs w Ty [] (hrun _ _ r1) (by simpa using hown) ⟨rfl, rfl, rfl, Nat.le_refl _, fun _ _ _ => rfl⟩ (.inl rfl) (fun i x hx => by simp at hx)
          | some ad =>
            obtain ⟨v', w', T', r1, r2, r3, r4⟩ := run_append_ownT (P := P) w n0 t o.type et Ty i z p.1.size p.2 h1 h2 h3 h4 h7.symm h5 p.1.size_pos vs xs.length cells hown ad 0 cap [] (by simp) (fun j u hu => by simp at hu) (fun u hu => by simp at hu) (by simpa using hf1) (by simpa using hf2) hM.base
            exact cont v' w' T' [] (hrun _ _ r1) (by simpa using r2) r3 r4 (fun i x hx => by simp at hx)
      unfold appendN
      split
      · cases hs
        exact fin none [] 0 [] (World.ownsRow_nil w n0 0 p.1.size) (fun i x hx => by simp at hx) (fun g hg => by simp [Value.ownBlock] at hg) (fun i hi => by simp at hi) (fun _ => rfl)
      · rename_i id
        split
        · rename_i e' l hobj
          split
          · rename_i l' hl'
            obtain ⟨he, hr⟩ := castRow_eq hl'
            have hob := hM.obj.obj id (objAt_lt (by rw [hobj]; simp))
            rw [hobj] at hob
            obtain ⟨hz, ⟨Ty, cells, hown, hrow2⟩, hst⟩ := hob
            have hv := own_val hs
            subst hv
            have hlt := objAt_lt (H := H) (id := id) (by rw [hobj]; simp)
            obtain ⟨p1, p2⟩ := p
            simp only at he
            subst he
            subst hr
            refine fin (some id) _ Ty cells hown hrow2 (fun g hg => (hst g (blk_ownBlock _ g hg)).2 rfl) (fun i hi => ?_) (fun h => by simp at h)
            simp only [Option.some.injEq] at hi
            subst hi
            exact ⟨rfl, hlt, by rw [hobj]; rfl⟩
          · trivial
        · trivial
      · trivial
    · trivial
  · trivial
end
end Go.Proofs.Ytejcniaepjahbaa.Mach
