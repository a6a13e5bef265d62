/- New variables, stores: sound. -/
import Derived.Test.YtejcniaepjahbaaM17
set_option linter.unusedSimpArgs false
set_option linter.unusedVariables false
namespace Go.Proofs.Ytejcniaepjahbaa.Mach
open Go
theorem zeroRows_rel {S : Nat → Prop} {w : World} {e : ETy} : ∀ {n : Nat} {l : List Value}, zeroRows e n l = true → l.length = n * e.size ∧ RowR S w e (List.replicate n e.dflt) l
  | 0, l, h => by
    have : l = [] := by simpa [zeroRows] using h
    subst this
    exact ⟨by simp, fun i x hx => by simp at hx⟩
  | n + 1, l, h => by
    simp only [zeroRows, Bool.and_eq_true] at h
    obtain ⟨h1, h2⟩ := zeroRows_rel (S := S) (w := w) h.2
    have h3 := zeroRow_length h.1
    simp only [List.length_take, List.length_drop] at h3 h1
    have e1 : (n + 1) * e.size = n * e.size + e.size := by rw [Nat.add_mul, Nat.one_mul]
    refine ⟨by omega, fun i x hx => ?_⟩
    cases i with
    | zero =>
      simp only [List.replicate_succ, List.getElem?_cons_zero, Option.some.injEq] at hx
      subst hx
      refine ⟨l.take e.size, zeroRow_rel h.1, fun j u hu => ?_⟩
      rw [List.getElem?_take] at hu
      split at hu
      · simpa using hu
      · simp at hu
    | succ i =>
      obtain ⟨vs, h4, h5⟩ := h2 i x (by simpa [List.replicate_succ] using hx)
      refine ⟨vs, h4, fun j u hu => ?_⟩
      have := h5 j u hu
      rw [List.getElem?_drop] at this
      rw [← this]
      congr 1
      rw [Nat.add_mul]; omega
theorem elemCells_length : ∀ (e : ETy) (x : e.D), (elemCells e x).length = e.size
  | .one t, x => rfl
  | .more t e, x => by simp [elemCells, ETy.size, elemCells_length e]
theorem show1_cell (t : CTy) (x : t.D) : show1 (cellAV t x) = [] := by cases t <;> rfl
theorem showL_elem : ∀ (e : ETy) (x : e.D), showL (elemCells e x) = []
  | .one t, x => by
    have h := show1_cell t x
    exact (List.append_nil _).trans h
  | .more t e, x => by show show1 (cellAV t x.1) ++ showL (elemCells e x.2) = []; rw [show1_cell, showL_elem e]; rfl
theorem showL_mem {cs : List AV} {id : Nat} : id ∈ showL cs ↔ ∃ x ∈ cs, id ∈ show1 x := by
  induction cs with
  | nil => simp [showL]
  | cons y cs ih =>
    show id ∈ show1 y ++ showL cs ↔ _
    rw [List.mem_append, ih]
    simp
theorem showL_patch : ∀ (new : List AV) (cs : List AV) (i : Nat) (id : Nat), id ∈ showL (patch cs i new) → id ∈ showL cs ∨ id ∈ showL new
  | [], cs, i, id, h => .inl h
  | x :: new, cs, i, id, h => by
    rcases showL_patch new (setAt cs i x) (i + 1) id h with h1 | h1
    · rw [setAt_set] at h1
      rw [showL_mem] at h1
      obtain ⟨y, hy, hid⟩ := h1
      rcases List.mem_or_eq_of_mem_set hy with hy | rfl
      · exact .inl (showL_mem.2 ⟨y, hy, hid⟩)
      · exact .inr (showL_mem.2 ⟨y, by simp, hid⟩)
    · refine .inr ?_
      show id ∈ show1 x ++ showL new
      exact List.mem_append.2 (.inr h1)
theorem patch_length : ∀ (new : List AV) (cs : List AV) (i : Nat), (patch cs i new).length = cs.length
  | [], _, _ => rfl
  | x :: new, cs, i => by
    show (patch (setAt cs i x) (i + 1) new).length = _
    rw [patch_length new, setAt_length]
section
variable {P : Program} {T : Tab} {n0 : Nat} {c : Ctx} {H : List HObj} {w : World} {env : Env} {a : Act} {o : Oper}
/-- an operation that may yield nothing -/
def MemSpecN (P : Program) (n0 : Nat) (c : Ctx) (w : World) (o : Oper) (a : Act) (x : AV) (H' : List HObj) : Prop :=
  ∃ v w' c' nx, (execOp a.eval o).run P w = .ok nx w' ∧ (nx = .value v ∨ (nx = .skip ∧ v = undef)) ∧ Ctx.le c c' ∧ AVR c' w' x v ∧ Mem n0 c' H' w' ∧ RowKit.Below n0 w w' ∧ ∀ g, c.S g → w'.heap[g]? = w.heap[g]?
theorem MemSpec.n {x : AV} {H' : List HObj} (h : MemSpec P n0 c w o a x H') : MemSpecN P n0 c w o a x H' := by
  obtain ⟨v, w', c', h1, h2⟩ := h
  exact ⟨v, w', c', _, h1, .inl rfl, h2⟩
theorem s_alloc (hM : Mem n0 c H w) (h : EnvR c w env a.tmps) (hT : TabOk P T) {t : TypeId} (ho : o.op = .alloc t) : Spec P n0 c w o a (oAlloc T H t) := by
  have hrun : ∀ (i : TypeInfo) (z : Value), P.info? t = some i → i.zero = some z → (execOp a.eval o).run P w = .ok (.value (.pointer (some ⟨w.heap.size, 0, none⟩))) (w.alloc (.cells z.cells t)) := by
    intro i z hi hz
    simp [execOp, ho, Instr.alloc, zeroValue, typeInfo, hi, hz, newVar, newRow, newObj, Sem.run_bind, Sem.run_pure, Sem.run]
  have hold : ∀ (ob : Obj) (g : Nat), g < w.heap.size → (w.alloc ob).heap[g]? = w.heap[g]? := fun ob g hg => heap_alloc_old w ob g hg
  have hcl := hM.obj.len
  unfold oAlloc
  split
  · rename_i x hx
    have hx' := find_ty hT hx
    subst hx'
    unfold allocX
    split
    · rename_i p hp
      cases hz : (tyOf P t).ezok with
      | false => trivial
      | true =>
        intro _
        cases hu : P.underlying t with
        | none => simp [tyOf, hu] at hp
        | some d =>
          cases d with
          | array n e =>
            simp only [tyOf, hu, Option.map_eq_some_iff] at hp hz
            obtain ⟨et, he, rfl⟩ := hp
            simp only [Bool.and_eq_true] at hz
            have hz2 := hz.2
            unfold arrOk at hz2
            rw [he] at hz2
            cases hi : P.info? t with
            | none => rw [hi] at hz2; simp at hz2
            | some i =>
              cases hj : P.info? e with
              | none => rw [hi, hj] at hz2; simp at hz2
              | some j =>
                rw [hi, hj] at hz2
                simp only at hz2
                split at hz2
                · rename_i z hzz
                  simp only [Bool.and_eq_true, decide_eq_true_eq] at hz2
                  obtain ⟨h1, h2⟩ := zeroRows_rel (S := c.S) (w := w.alloc (.cells z.cells t)) hz2.1.1
                  have hsz : z.cells.size = n * et.size := by simpa using h1
                  refine ⟨_, _, c.more (.slice (some ⟨w.heap.size, 0, none⟩) n n) et.size c.S, hrun i z hi hzz, Ctx.more_le c _ _ (fun _ h => h), ?_, ?_, (RowKit.Below.refl n0 w).alloc hM.base _, fun g hg => hold _ g (hM.stab g hg)⟩
                  · exact .parr (n := n) (k := n) (by simp [Ctx.more, hcl]) (by simp [Ctx.more, hcl])
                  · refine push_row hM (Ty := t) (cells := z.cells.toList) (hold _) (by simp) (fun g hg => by simp [blk] at hg; omega) ?_ h2
                    rw [List.length_replicate]
                    exact World.ownsRow_lit w z.cells n hM.base (by have := hz2.2; simp only [maxLen]; omega) hsz
                · simp at hz2
          | _ => simp [tyOf, hu] at hp
    · split
      · rename_i z hz
        intro _
        cases hi : P.info? t with
        | none => simp [tyOf, hi] at hz
        | some i =>
          obtain ⟨zv, hzv, hzr⟩ := zero_rel (c := c) (w := w) hi hz
          have hle := Ctx.more_le c (.pointer (some ⟨w.heap.size, 0, none⟩)) 0 (S := c.S) (fun _ hg => hg)
          have hS : ∀ g, c.S g → (w.alloc (.cells zv.cells t)).heap[g]? = w.heap[g]? := fun g hg => hold _ g (hM.stab g hg)
          refine ⟨_, _, c.more (.pointer (some ⟨w.heap.size, 0, none⟩)) 0 c.S, hrun i zv hi hzv, hle, .ptr (off := 0) (by simp [Ctx.more, hcl]) (by simp [Ctx.more, hcl]), ⟨?_, ?_, ?_, fun g hg hl => hM.old g hg hl⟩, (RowKit.Below.refl n0 w).alloc hM.base _, hS⟩
          · refine hM.obj.push (hold _) hM.stab (fun id g hid hal hb => hM.obj.lt id g hid hal hb) (fun g hg => by simp [blk] at hg; omega) ?_
            refine ⟨w.heap.size, t, zv.cells, by simp [Ctx.more], hM.base, heap_alloc_new w _, by simpa using hzr.1.symm, fun j y hy => ?_, fun hg => ?_⟩
            · have := (hzr.2 j y hy).mono hle hS
              rwa [List.getD_eq_getElem?_getD, Array.getElem?_toList, ← Array.getD_eq_getD_getElem?] at this
            · have := hM.stab _ hg
              omega
          · have := hM.base
            simp; omega
          · intro g hg
            have := hM.stab g hg
            simp; omega
      · trivial
  · trivial
/-- one object is another, in its own block -/
theorem Mem.swap (hM : Mem n0 c H w) {w' : World} {id : Nat} {ob : HObj} (hid : id < H.length) (hal : alive (objAt H id) = true) {g : Nat} (hg : blk (c.m id) = some g) (hn : n0 ≤ g) (hnS : ¬ c.S g) (hsz : w'.heap.size = w.heap.size)
    (hoth : ∀ k, k ≠ g → w'.heap[k]? = w.heap[k]?) (hob : ObjR n0 c w' id ob) : Mem n0 c (setAt H id ob) w' ∧ ∀ g, c.S g → w'.heap[g]? = w.heap[g]? := by
  have hS : ∀ g, c.S g → w'.heap[g]? = w.heap[g]? := fun k hk => hoth k fun h => hnS (h ▸ hk)
  have hcl := hM.obj.len
  refine ⟨⟨⟨by rw [setAt_length]; exact hcl, fun k hk => ?_, fun i j q hi hj hne ai aj bi => ?_⟩, by rw [hsz]; exact hM.base, fun q hq => by rw [hsz]; exact hM.stab q hq, hM.old⟩, hS⟩
  · rw [setAt_length] at hk
    rw [objAt_setAt]
    by_cases h : k = id ∧ k < H.length
    · rw [if_pos h, h.1]; exact hob
    · rw [if_neg h]
      have hne : k ≠ id := fun e => h ⟨e, hk⟩
      by_cases ha : alive (objAt H k) = true
      · exact (hM.obj.obj k hk).mono (Ctx.le_refl c) (by omega) (fun _ _ h => h) hS fun q hq => hoth q fun e => hM.obj.dist k id q hk hid hne ha hal hq (by rw [hg, e])
      · cases ho : objAt H k with
        | dead => trivial
        | typed e xs fz => rw [ho] at ha; simp [alive] at ha
        | box cs => rw [ho] at ha; simp [alive] at ha
  · rw [setAt_length] at hi hj
    have key : ∀ k, alive (objAt (setAt H id ob) k) = true → alive (objAt H k) = true := by
      intro k hk
      rw [objAt_setAt] at hk
      split at hk
      · rename_i h; rw [h.1]; exact hal
      · exact hk
    exact hM.obj.dist i j q hi hj hne (key i ai) (key j aj) bi
theorem layIn_spec {cs new r : List AV} {off z : Nat} (h : layIn cs off new z = some r) : 0 < z ∧ new.length = z ∧ off + new.length ≤ cs.length ∧ r = patch cs off new := by
  unfold layIn at h
  cases h1 : Nat.blt 0 z && Nat.beq new.length z with
  | false => rw [h1] at h; simp at h
  | true =>
    rw [h1] at h
    simp only [Bool.and_eq_true] at h1
    simp only [cond_true] at h
    cases h2 : Nat.ble (off + new.length) cs.length with
    | false => rw [h2] at h; simp at h
    | true =>
      rw [h2] at h
      simp only [cond_true, Option.some.injEq] at h
      exact ⟨(blt_iff _ _).1 h1.1, Nat.eq_of_beq_eq_true h1.2, (ble_iff _ _).1 h2, h.symm⟩
theorem run_storeAt (hT : TabOk P T) {t : TypeId} {g off : Nat} {v : Value} {cur : Array Value} {Ty : TypeId} (hg : w.heap[g]? = some (.cells cur Ty (0, 0))) (hz : 0 < T.size t) (hl : v.cells.size = T.size t) (hf : off + v.cells.size ≤ cur.size) (h1 : ∀ u ∈ v.cells.toList, u.oneCell' = true) :
    (Instr.storeAt t (.pointer (some ⟨g, off, none⟩)) v).run P w = .ok () (w.setRow g (lay cur.toList off v.cells.toList).toArray) := by
  have hst := run_storeCells_at P g off Ty v.cells.toList 0 cur w hg (by simpa using hf) h1
  simp only [Nat.add_zero] at hst
  rw [← lay_eq _ _ _ (by simpa using hf)] at hst
  unfold Tab.size at hz hl
  split at hz
  · rename_i x hx
    have hx' := find_ty hT hx
    subst hx'
    simp only [tyOf, Program.cellsOf] at hz hl
    cases hi : P.info? t with
    | none => rw [hi] at hz; simp at hz
    | some i =>
      rw [hx] at hl
      simp only [tyOf, Program.cellsOf, hi, Option.map_some, Option.getD_some] at hl
      simp [Instr.storeAt, Instr.sureAddr, storeVar, sizeOf, typeInfo, hi, hl, hst, Sem.run_bind, Sem.run_pure]
  · simp at hz
theorem s_store (hM : Mem n0 c H w) (h : EnvR c w env a.tmps) (hT : TabOk P T) {t : TypeId} {x y : Operand} (ho : o.op = .store t x y) {v : AV} {H' : List HObj} (hr : storeR T H t (evalO env y) (evalO env x) = .ok true v H') : MemSpecN P n0 c w o a v H' := by
  have hx := evalO_rel h x
  have hy := evalO_rel h y
  have hrun : ∀ (w' : World), (Instr.storeAt t (a.eval x) (a.eval y)).run P w = .ok () w' → (execOp a.eval o).run P w = .ok .skip w' := by
    intro w' hh
    simp only [execOp, ho, Sem.run_bind, hh, Result.andThen_ok, Sem.run_pure]
  generalize a.eval x = vx at *
  generalize a.eval y = vy at *
  generalize evalO env x = X at *
  generalize evalO env y = Y at *
  have hcl := hM.obj.len
  unfold storeR at hr
  split at hr
  · rename_i id off
    split at hr
    · rename_i cs hobj
      unfold storeBox at hr
      split at hr
      · rename_i r hl
        simp only [OpR.ok.injEq] at hr
        obtain ⟨hv, rfl, rfl⟩ := hr
        obtain ⟨hz, hlen, hfit, rfl⟩ := layIn_spec hl
        obtain ⟨hc1, hc2⟩ := val_cells hy hv
        have hlt := objAt_lt (H := H) (id := id) (by rw [hobj]; simp)
        have hob := hM.obj.obj id hlt
        rw [hobj] at hob
        obtain ⟨g, Ty, arr, b1, b2, b3, b4, b5, b6⟩ := hob
        cases hx with
        | ptr hb hm =>
          rw [b1] at hm
          simp only [Value.pointer.injEq, Option.some.injEq, Addr.mk.injEq, and_true] at hm
          subst hm
          have hcl2 : (cellsOf Y).length = vy.cells.size := by simpa using hc1.1
          have hst := run_storeAt hT (t := t) (off := off) (v := vy) b3 hz (by omega) (by omega) hc2
          have hcur : CellsR c w cs arr.toList := ⟨by simpa using b4.symm, fun j z hz => by
            rw [List.getD_eq_getElem?_getD, Array.getElem?_toList, ← Array.getD_eq_getD_getElem?]
            exact b5 j z hz⟩
          have hnew := hcur.patch off hc1
          obtain ⟨m1, m2⟩ := hM.swap (w' := w.setRow g (lay arr.toList off vy.cells.toList).toArray) (ob := .box (patch cs off (cellsOf Y))) hlt (by rw [hobj]; rfl) (g := g) (by rw [b1]; rfl) b2 b6 (by simp) (fun k hk => setRow_other w g k _ hk)
            ⟨g, Ty, (lay arr.toList off vy.cells.toList).toArray, b1, b2, setRow_heap w g arr _ Ty _ b3, by simp only [List.size_toArray]; exact hnew.1.symm, fun j z hz => by
              have hS : ∀ q, c.S q → (w.setRow g (lay arr.toList off vy.cells.toList).toArray).heap[q]? = w.heap[q]? := fun q hq => setRow_other w g q _ (fun e => b6 (e ▸ hq))
              have := (hnew.2 j z hz).mono (Ctx.le_refl c) hS
              simpa [Array.getD_eq_getD_getElem?, List.getD_eq_getElem?_getD] using this, b6⟩
          refine ⟨undef, _, c, .skip, hrun _ hst, .inr ⟨rfl, rfl⟩, Ctx.le_refl c, .undef _, m1, ?_, m2⟩
          exact (RowKit.Below.refl n0 w).trans ⟨rfl, rfl, rfl, by simp, fun k hk => setRow_other w g k _ (by omega)⟩
      · simp at hr
    · simp at hr
  · rename_i id i off
    split at hr
    · rename_i e xs hobj
      unfold storeElt at hr
      split at hr
      · rename_i r hl
        split at hr
        · rename_i q hq
          cases hcon : (showL (cellsOf Y)).contains id with
          | true => rw [hcon] at hr; simp at hr
          | false =>
            rw [hcon] at hr
            simp only [cond_false, OpR.ok.injEq] at hr
            obtain ⟨hv, rfl, rfl⟩ := hr
            obtain ⟨hz, hlen, hfit, rfl⟩ := layIn_spec hl
            rw [elemCells_length] at hfit
            obtain ⟨hc1, hc2⟩ := val_cells hy hv
            have hcl2 : (cellsOf Y).length = vy.cells.size := by simpa using hc1.1
            have hnid : id ∉ showL (cellsOf Y) := by
              intro hm
              have : (showL (cellsOf Y)).contains id = true := by simpa using hm
              rw [this] at hcon; simp at hcon
            obtain ⟨S, hS1, hS2, hS3⟩ := hM.freezeAt (showL (cellsOf Y))
            have hobj' : objAt (freezeAt H (showL (cellsOf Y))) id = .typed e xs false := by rw [objAt_freezeAt _ _ _ hnid]; exact hobj
            have hlt' := objAt_lt (H := freezeAt H (showL (cellsOf Y))) (id := id) (by rw [hobj']; simp)
            have hob := hS2.obj.obj id hlt'
            rw [hobj'] at hob
            obtain ⟨hzz, ⟨Ty, cells, hown, hrow⟩, hst⟩ := hob
            cases hx with
            | elt hb hm h0 h1 h2 =>
              rename_i g n k
              have hmS : (c.withS S).m id = .slice (some ⟨g, 0, none⟩) n k := hm
              have hzS : c.z id = e.size := hzz
              rw [hmS] at hown
              obtain ⟨hol, hor⟩ := hown
              rcases hor with ⟨hbad, _⟩ | ⟨g', cap, cur, hsl, hbg, hgg, hnc, hcm, hcs, htake⟩
              · simp at hbad
              · simp only [Value.slice.injEq, Option.some.injEq, Addr.mk.injEq, and_true] at hsl
                obtain ⟨rfl, rfl, rfl⟩ := hsl
                have hin : i.toNat < xs.length := by omega
                have hget : xs[i.toNat]? = some (xs.getD i.toNat e.dflt) := by
                  rw [List.getD_eq_getElem?_getD, List.getElem?_eq_getElem hin]; rfl
                obtain ⟨vs, hvs, hvc⟩ := hrow _ _ hget
                have hvl := hvs.length
                have hpos : i.toNat * e.size + e.size ≤ xs.length * e.size := by
                  have : (i.toNat + 1) * e.size ≤ xs.length * e.size := Nat.mul_le_mul_right _ (by omega)
                  rwa [Nat.add_mul, Nat.one_mul] at this
                have hcapm : xs.length * e.size ≤ k * e.size := Nat.mul_le_mul_right _ hnc
                rw [hzS] at hrun
                have hst2 := run_storeAt hT (t := t) (off := i.toNat * e.size + off) (v := vy) hgg hz (by omega) (by omega) hc2
                -- the element's new cells
                have hold : CellsR (c.withS S) w (elemCells e (xs.getD i.toNat e.dflt)) vs := ⟨by rw [elemCells_length, hvl], fun j z hz => (elem_rel hvs j z hz).2⟩
                have hc1S : CellsR (c.withS S) w (cellsOf Y) vy.cells.toList := ⟨hc1.1, fun j z hz => (hc1.2 j z hz).mono (Ctx.withS_le c hS1) (fun _ _ => rfl)⟩
                have hnewC := hold.patch off hc1S
                have hold0 : CellsR c w (elemCells e (xs.getD i.toNat e.dflt)) vs → CellsR c w (patch (elemCells e (xs.getD i.toNat e.dflt)) off (cellsOf Y)) (lay vs off vy.cells.toList) := fun h => h.patch off hc1
                have hel : ElemR S w e q (lay vs off vy.cells.toList) := by
                  -- by the memory as it was (what the element's cells show lies in blocks that stay)
                  have hrow0 := hM.obj.obj id (objAt_lt (by rw [hobj]; simp))
                  rw [hobj] at hrow0
                  obtain ⟨_, ⟨Ty0, cells0, hown0, hr0⟩, _⟩ := hrow0
                  rw [hm] at hown0
                  obtain ⟨hol0, hor0⟩ := hown0
                  rcases hor0 with ⟨hbad, _⟩ | ⟨g2, cap2, cur2, hsl2, _, hgg2, _, _, _, htake2⟩
                  · simp at hbad
                  · simp only [Value.slice.injEq, Option.some.injEq, Addr.mk.injEq, and_true, true_and] at hsl2
                    obtain ⟨rfl, rfl⟩ := hsl2
                    rw [hgg] at hgg2
                    simp only [Option.some.injEq, Obj.cells.injEq] at hgg2
                    obtain ⟨rfl, rfl, _⟩ := hgg2
                    have : cells0 = cells := by rw [← htake2, ← htake]
                    subst this
                    obtain ⟨vs0, hvs0, hvc0⟩ := hr0 _ _ hget
                    have hsame : vs0 = vs := by
                      apply List.ext_getElem?
                      intro j
                      by_cases hj : j < e.size
                      · have h1 := hvc0 j _ (List.getElem?_eq_getElem (by rw [hvs0.length]; exact hj))
                        have h2 := hvc j _ (List.getElem?_eq_getElem (by rw [hvl]; exact hj))
                        rw [List.getElem?_eq_getElem (by rw [hvs0.length]; exact hj), List.getElem?_eq_getElem (by rw [hvl]; exact hj), ← h1, ← h2]
                      · rw [List.getElem?_eq_none (by rw [hvs0.length]; omega), List.getElem?_eq_none (by rw [hvl]; omega)]
                    subst hsame
                    refine asElem_rel hM.obj (hold0 ⟨by rw [elemCells_length, hvl], fun j z hz => (elem_rel hvs0 j z hz).2⟩) hq hS1 fun id' hid' => ?_
                    rcases showL_patch _ _ _ _ hid' with h3 | h3
                    · rw [showL_elem] at h3; cases h3
                    · exact hS3 id' h3
                have hgS : ¬ S g := (hst g (by rw [hmS]; rfl)).2 rfl
                obtain ⟨m1, m2⟩ := hS2.swap (w' := w.setRow g (lay cur.toList (i.toNat * e.size + off) vy.cells.toList).toArray) (ob := .typed e (xs.set i.toNat q) false) hlt' (by rw [hobj']; rfl) (g := g) (by rw [hmS]; rfl) hbg hgS (by simp) (fun k hk => setRow_other w g k _ hk) (by
                  have hSw : ∀ k, S k → (w.setRow g (lay cur.toList (i.toNat * e.size + off) vy.cells.toList).toArray).heap[k]? = w.heap[k]? := fun k hk => setRow_other w g k _ (fun h => hgS (h ▸ hk))
                  have hcells : (lay cur.toList (i.toNat * e.size + off) vy.cells.toList).take (xs.length * e.size) = lay cells (i.toNat * e.size + off) vy.cells.toList := by
                    have l1 : i.toNat * e.size + off + vy.cells.toList.length ≤ xs.length * e.size := by simp; omega
                    rw [lay_eq _ _ _ (by simp at l1 ⊢; omega), lay_eq _ _ _ (by rw [hol]; exact l1), ← htake]
                    rw [List.take_append, List.take_append, List.take_take, List.take_take, List.drop_take]
                    simp only [List.length_take, List.length_append, Array.length_toList] at l1 ⊢
                    congr 1
                    · congr 1
                      · congr 1; omega
                      · rw [List.take_of_length_le (by simp; omega)]
                    · congr 1; omega
                  refine ⟨hzz, ⟨Ty, lay cells (i.toNat * e.size + off) vy.cells.toList, ?_, fun j z hz => ?_⟩, hst⟩
                  · rw [hmS, List.length_set]
                    refine ⟨by rw [lay_length, hol], .inr ⟨g, k, _, rfl, hbg, setRow_heap w g cur _ Ty _ hgg, hnc, hcm, by simp [lay_length, hcs], ?_⟩⟩
                    simpa using hcells
                  · have l1 : i.toNat * e.size + off + vy.cells.toList.length ≤ cells.length := by rw [hol]; simp; omega
                    rw [List.getElem?_set] at hz
                    have hlayget : ∀ k : Nat, (lay cells (i.toNat * e.size + off) vy.cells.toList)[k]? = if k < i.toNat * e.size + off then cells[k]? else if k < i.toNat * e.size + off + vy.cells.toList.length then vy.cells.toList[k - (i.toNat * e.size + off)]? else cells[k]? := by
                      intro k
                      rw [lay_eq _ _ _ l1, List.append_assoc]
                      by_cases k1 : k < i.toNat * e.size + off
                      · rw [if_pos k1, List.getElem?_append_left (by simp; omega), List.getElem?_take, if_pos k1]
                      · rw [if_neg k1, List.getElem?_append_right (by simp; omega)]
                        have e1 : k - (cells.take (i.toNat * e.size + off)).length = k - (i.toNat * e.size + off) := by simp; omega
                        rw [e1]
                        by_cases k2 : k < i.toNat * e.size + off + vy.cells.toList.length
                        · rw [if_pos k2, List.getElem?_append_left (by omega)]
                        · rw [if_neg k2, List.getElem?_append_right (by omega), List.getElem?_drop]
                          congr 1; omega
                    split at hz
                    · rename_i hij
                      subst hij
                      simp only [Option.some.injEq] at hz
                      subst hz
                      refine ⟨lay vs off vy.cells.toList, hel.mono (fun _ h => h) hSw, fun k u hu => ?_⟩
                      have hvfit : off + vy.cells.toList.length ≤ vs.length := by rw [hvl]; simp; omega
                      have hk : k < e.size := by
                        have := (List.getElem?_eq_some_iff.1 hu).1
                        rw [lay_length, hvl] at this
                        exact this
                      rw [hlayget]
                      rw [lay_eq _ _ _ hvfit, List.append_assoc] at hu
                      by_cases k1 : k < off
                      · rw [if_pos (by omega)]
                        rw [List.getElem?_append_left (by simp; omega), List.getElem?_take, if_pos k1] at hu
                        exact hvc k u hu
                      · rw [if_neg (by omega)]
                        rw [List.getElem?_append_right (by simp; omega)] at hu
                        have e1 : k - (vs.take off).length = k - off := by simp; omega
                        rw [e1] at hu
                        by_cases k2 : k < off + vy.cells.toList.length
                        · rw [if_pos (by omega), show i.toNat * e.size + k - (i.toNat * e.size + off) = k - off by omega]
                          rwa [List.getElem?_append_left (by omega)] at hu
                        · rw [if_neg (by omega)]
                          rw [List.getElem?_append_right (by omega), List.getElem?_drop, show off + vy.cells.toList.length + (k - off - vy.cells.toList.length) = k by omega] at hu
                          exact hvc k u hu
                    · rename_i hij
                      obtain ⟨us, hus, huc⟩ := hrow j z hz
                      refine ⟨us, hus.mono (fun _ h => h) hSw, fun k u hu => ?_⟩
                      have hk : k < e.size := by
                        have := (List.getElem?_eq_some_iff.1 hu).1
                        rw [hus.length] at this
                        exact this
                      have := huc k u hu
                      rw [hlayget]
                      by_cases hji : j < i.toNat
                      · have : (j + 1) * e.size ≤ i.toNat * e.size := Nat.mul_le_mul_right _ (by omega)
                        rw [Nat.add_mul, Nat.one_mul] at this
                        rw [if_pos (by omega)]
                        assumption
                      · have : (i.toNat + 1) * e.size ≤ j * e.size := Nat.mul_le_mul_right _ (by omega)
                        rw [Nat.add_mul, Nat.one_mul] at this
                        have e3 : vy.cells.toList.length = vy.cells.size := by simp
                        rw [if_neg (by omega), if_neg (by omega)]
                        assumption)
                refine ⟨undef, _, c.withS S, .skip, hrun _ hst2, .inr ⟨rfl, rfl⟩, Ctx.withS_le c hS1, .undef _, m1, ?_, fun k hk => m2 k (hS1 k hk)⟩
                exact (RowKit.Below.refl n0 w).trans ⟨rfl, rfl, rfl, by simp, fun k hk => setRow_other w g k _ (by omega)⟩
        · simp at hr
      · simp at hr
    · simp at hr
  · simp at hr
end
end Go.Proofs.Ytejcniaepjahbaa.Mach
