/- Rows of every kind; conversions; the lesser and the greater: sound. -/
import Derived.Test.YtejcniaepjahbaaM13
import Derived.Laws.IdiomStrings
set_option linter.unusedSimpArgs false
namespace Go.Proofs.Ytejcniaepjahbaa.Mach
open Go
/-- a slice's cells, wherever they lie -/
def RowV (S : Nat → Prop) (w : World) (e : ETy) (l : List e.D) (v : Value) : Prop := ∃ A cap, v = .slice A l.length cap ∧ l.length ≤ cap ∧ (0 < l.length → ∃ g o, A = some ⟨g, o, none⟩ ∧
      ∀ (i : Nat) (x : e.D), l[i]? = some x → ∃ vs, ElemR S w e x vs ∧ ∀ (j : Nat) (u : Value), vs[j]? = some u → w.cell? ⟨g, o + i * e.size + j, none⟩ = some u)
theorem castRow_eq {e e' : ETy} {l : List e'.D} {r : List e.D} (h : castRow e e' l = some r) : ∃ he : e' = e, r = he ▸ l := by
  unfold castRow at h
  split at h
  · rename_i hb
    exact ⟨ETy.eq_of_beq hb, (Option.some.inj h).symm⟩
  · simp at h
section
variable {P : Program} {T : Tab} {n0 : Nat} {c : Ctx} {H : List HObj} {w : World} {env : Env} {a : Act} {o : Oper}
theorem own_row (hH : HR n0 c H w) {id : Nat} {e : ETy} {xs : List e.D} {fz : Bool} (ho : objAt H id = .typed e xs fz) : RowV c.S w e xs (c.m id) := by
  have := hH.obj id (objAt_lt (by rw [ho]; simp))
  rw [ho] at this
  obtain ⟨hz, ⟨Ty, cells, hown, hrow⟩, _⟩ := this
  obtain ⟨A, cap, h1, h2, _, h3⟩ := typed_head hH ho
  refine ⟨A, cap, h1, h2, fun hp => ?_⟩
  obtain ⟨g, rfl⟩ := h3 hp
  refine ⟨g, 0, rfl, fun i x hx => ?_⟩
  obtain ⟨vs, hvs, hc⟩ := hrow i x hx
  refine ⟨vs, hvs, fun j u hu => ?_⟩
  have := hown.cells (g := g) (by rw [h1]; rfl) _ _ (hc j u hu)
  rw [add_at] at this
  rw [show 0 + i * e.size + j = 0 + (i * e.size + j) by omega]
  exact this
theorem rowOf_rel (hH : HR n0 c H w) {x : AV} {v : Value} (hx : AVR c w x v) {e : ETy} {l : List e.D} (hl : rowOf H e x = some l) : RowV c.S w e l v := by
  cases x <;> simp only [rowOf] at hl <;> try (simp at hl; done)
  · rename_i e' l'
    obtain ⟨he, hr⟩ := castRow_eq hl
    subst he
    subst hr
    cases hx with
    | imm hc =>
      simp only [CellR] at hc
      obtain ⟨A, cap, hv, hle, hcell⟩ := hc
      refine ⟨A, cap, hv, hle, fun hp => ?_⟩
      obtain ⟨g, o, ha, hg, hi⟩ := hcell hp
      exact ⟨g, o, ha, hi⟩
  · rename_i id
    split at hl
    · rename_i e' xs fz ho
      obtain ⟨he, hr⟩ := castRow_eq hl
      subst he
      subst hr
      cases hx with
      | own hb hm => rw [← hm]; exact own_row hH ho
    · simp at hl
  · rename_i id off len
    split at hl
    · rename_i e' xs fz ho
      rw [Option.map_eq_some_iff] at hl
      obtain ⟨r', hr', hl⟩ := hl
      obtain ⟨he, hr⟩ := castRow_eq hr'
      subst he
      subst hr
      subst hl
      cases hx with
      | win hb hm h1 h2 h3 =>
        obtain ⟨A, cap, h4, h5, hrow⟩ := own_row hH ho
        obtain ⟨_, _, _, _, hz, _⟩ := typed_head hH ho
        rw [h4] at hm
        simp only [Value.slice.injEq] at hm
        obtain ⟨rfl, rfl, rfl⟩ := hm
        have hlen : ((r'.drop off).take len).length = len := by simp; omega
        refine ⟨_, _, by rw [hlen], by rw [hlen]; exact h2, fun hp => ?_⟩
        rw [hlen] at hp
        obtain ⟨g, hA, rfl⟩ := h3 hp
        subst hA
        obtain ⟨g', o', ha, hi⟩ := hrow (by omega)
        simp only [Option.some.injEq, Addr.mk.injEq, and_true] at ha
        obtain ⟨rfl, rfl⟩ := ha
        refine ⟨g, _, rfl, fun i y hy => ?_⟩
        rw [List.getElem?_take] at hy
        split at hy
        · rw [List.getElem?_drop] at hy
          obtain ⟨vs, hvs, hc⟩ := hi _ y hy
          refine ⟨vs, hvs, fun j u hu => ?_⟩
          have := hc j u hu
          rw [hz, show off * e'.size + i * e'.size + j = 0 + (off + i) * e'.size + j by rw [Nat.add_mul]; omega]
          exact this
        · simp at hy
    · simp at hl
  · cases hx
    simp only [Option.some.injEq] at hl
    subst hl
    exact ⟨none, 0, rfl, Nat.le_refl _, fun hp => by simp at hp⟩
theorem foldl_push_ints : ∀ (l : List Int) (r : ByteArray), l.foldl (fun r n => r.push (UInt8.ofNat n.toNat)) r = ⟨r.data ++ (l.map fun n => UInt8.ofNat n.toNat).toArray⟩
  | [], r => by simp
  | b :: l, r => by
    simp only [List.map_cons, List.foldl_cons]
    rw [foldl_push_ints l]
    simp [ByteArray.push]
theorem bytes_str (A : Option Addr) (cap : Nat) (l : List Int) (h : 0 < l.length → ∃ g o', A = some ⟨g, o', none⟩ ∧ ∀ (i : Nat) (n : Int), l[i]? = some n → w.cell? ⟨g, o' + i, none⟩ = some (.int .u8 n)) :
    (Conv.bytesToString (.slice A l.length cap)).run P w = .ok (.string (strL l)) w := by
  have fin : ∀ ad : Addr, (loadCells ad l.length).run P w = .ok (l.map (Value.int .u8)).toArray w → (Conv.bytesToString (.slice (some ad) l.length cap)).run P w = .ok (.string (strL l)) w := by
    intro ad hl
    rw [run_bytesToString w ad l.length cap l hl, foldl_push_ints]
    simp [strL, ByteArray.empty, ByteArray.emptyWithCapacity]
    try rfl
  by_cases hp : 0 < l.length
  · obtain ⟨g, o', rfl, hi⟩ := h hp
    refine fin _ ?_
    have hl' := run_loadCells_list (P := P) w ⟨g, o', none⟩ (l.map (Value.int .u8)) (fun j v hj => by
      rw [List.getElem?_map, Option.map_eq_some_iff] at hj
      obtain ⟨n, hn, rfl⟩ := hj
      rw [add_at]
      exact hi j n hn)
    simpa using hl'
  · have h0 : l = [] := List.eq_nil_of_length_eq_zero (by omega)
    subst h0
    cases A with
    | none =>
      simp [Conv.bytesToString, Sem.run_pure, strL, ByteArray.empty, ByteArray.emptyWithCapacity]
      try rfl
    | some ad =>
      refine fin ad ?_
      have := run_loadCells_list (P := P) w ad [] (fun j v hj => by simp at hj)
      simpa using this
theorem bytesL_get (s : ByteArray) (i : Nat) (n : Int) (h : (bytesL s)[i]? = some n) : ∃ b, s.data[i]? = some b ∧ i < s.size ∧ n = (b.toNat : Int) := by
  unfold bytesL at h
  rw [List.getElem?_map, Option.map_eq_some_iff] at h
  obtain ⟨b, hb, rfl⟩ := h
  have hi : i < s.size := by
    have := (List.getElem?_eq_some_iff.1 hb).1
    simpa using this
  exact ⟨b, by simpa using hb, hi, rfl⟩
theorem okay_some {t : TypeId} (h : (tyOf P t).okay = true) : ∃ d, P.underlying t = some d := by
  have : (P.underlying t).isSome = true ∧ (P.info? t).isSome = true := by simpa [tyOf] using h
  exact Option.isSome_iff_exists.1 this.1
theorem kind_bytes (hT : TabOk P T) {t : TypeId} (h : T.kind t = .bytes) : ∃ e, P.underlying t = some (.slice e) ∧ P.underlying e = some (.int .u8) := by
  unfold Tab.kind at h
  split at h
  · rename_i x hx
    rw [hT.ty _ _ hx] at h
    unfold tyOf at h
    dsimp only at h
    split at h <;> first
      | (rename_i e he
         split at h
         · exact ⟨e, he, by assumption⟩
         · simp at h)
      | simp at h
  · simp at h
/-- a new block that stays as it is -/
def Ctx.stab (c : Ctx) (g : Nat) : Ctx := ⟨c.n, c.m, c.z, fun x => c.S x ∨ x = g, c.S0⟩
theorem Ctx.stab_le (c : Ctx) (g : Nat) : Ctx.le c (c.stab g) := ⟨Nat.le_refl _, fun _ _ => rfl, fun _ _ => rfl, fun _ h => .inl h, rfl⟩
theorem Mem.stab' {w' : World} (h : Mem n0 c H w) (hold : ∀ g, g < w.heap.size → w'.heap[g]? = w.heap[g]?) (hs : w.heap.size < w'.heap.size) : Mem n0 (c.stab w.heap.size) H w' := by
  have hlen := h.obj.len
  refine ⟨⟨hlen, fun id hid => ?_, h.obj.dist⟩, by have := h.base; omega, fun g hg => ?_, fun g hg hlt => ?_⟩
  · by_cases hal : alive (objAt H id) = true
    · refine (h.obj.obj id hid).mono (Ctx.stab_le c _) (by omega) (fun g hg hS => ?_) (fun g hg => hold g (h.stab g hg)) (fun g hg => hold g (h.obj.lt id g hid hal hg))
      rcases hS with hS | rfl
      · exact hS
      · have := h.obj.lt id _ hid hal hg; omega
    · cases ho : objAt H id with
      | dead => trivial
      | typed e xs fz => rw [ho] at hal; simp [alive] at hal
      | box cs => rw [ho] at hal; simp [alive] at hal
  · rcases hg with hg | rfl
    · have := h.stab g hg; omega
    · exact hs
  · rcases hg with hg | rfl
    · exact h.old g hg hlt
    · have := h.base; omega
theorem Pure1.mem (hM : Mem n0 c H w) {x : AV} (h : Pure1 P c w o a x) : MemSpec P n0 c w o a x H := by
  obtain ⟨v, h1, h2⟩ := h
  exact ⟨v, w, c, h1, Ctx.le_refl c, h2, hM, RowKit.Below.refl n0 w, fun _ _ => rfl⟩
/-- a claim of an operation's result -/
def Spec (P : Program) (n0 : Nat) (c : Ctx) (w : World) (o : Oper) (a : Act) (r : OpR) : Prop := match r with
  | .fail => True
  | .ok g x H' => g = true → MemSpec P n0 c w o a x H'
  | .call _ _ => False
theorem PureSpec.spec (hM : Mem n0 c H w) {r : OpR} (h : PureSpec P c w H o a r) : Spec P n0 c w o a r := by
  cases r with
  | fail => trivial
  | ok g x H' =>
    intro hg
    obtain ⟨rfl, h1⟩ := h hg
    exact h1.mem hM
  | call f args => exact h.elim
theorem run_conv {src dst : TypeId} {x : Operand} (ho : o.op = .convert src dst x) {v : Value} {w' : World} (h : (convert src dst (a.eval x)).run P w = .ok v w') : (execOp a.eval o).run P w = .ok (.value v) w' := by
  simp only [execOp, ho, Sem.run_bind, h, Result.andThen_ok, Sem.run_pure]
theorem s_convert (hM : Mem n0 c H w) (h : EnvR c w env a.tmps) (hT : TabOk P T) {src dst : TypeId} {x : Operand} (ho : o.op = .convert src dst x) : Spec P n0 c w o a (convR T H src dst (evalO env x)) := by
  have hx := evalO_rel h x
  have hrun := fun v w' (hh : (convert src dst (a.eval x)).run P w = .ok v w') => run_conv (o := o) (a := a) (w := w) ho hh
  generalize a.eval x = vx at *
  generalize evalO env x = X at *
  unfold convR
  split
  · rename_i y hy
    have hy' := find_ty hT hy
    subst hy'
    cases hok : (tyOf P src).okay with
    | false => trivial
    | true =>
      obtain ⟨ds, hds⟩ := okay_some hok
      simp only [cond_true]
      unfold conv1
      split
      · rename_i k hk
        have hkd := kind_int hT hk
        split
        · rename_i k' n
          obtain rfl := int_inv hx
          intro _
          refine Pure1.mem hM ⟨_, hrun _ _ ?_, .int _ _⟩
          cases ds <;> simp [convert, run_underlying hds, run_underlying hkd, Conv.intToInt, Sem.run_bind, Sem.run_pure]
        · trivial
      · rename_i hk
        have hkd := kind_str hT hk
        split
        · rename_i k' n
          obtain rfl := int_inv hx
          intro _
          refine Pure1.mem hM ⟨_, hrun _ _ ?_, .str _⟩
          cases ds <;> simp [convert, run_underlying hds, run_underlying hkd, Conv.intToString, Sem.run_bind, Sem.run_pure]
        · rename_i s
          obtain rfl := str_inv hx
          intro _
          refine Pure1.mem hM ⟨_, hrun _ _ ?_, .str _⟩
          cases ds <;> simp [convert, run_underlying hds, run_underlying hkd, Sem.run_bind, Sem.run_pure]
        · split
          · rename_i hks
            obtain ⟨e, he1, he2⟩ := kind_bytes hT hks
            split
            · rename_i l hl
              intro _
              obtain ⟨A, cap, rfl, hle, hcell⟩ := rowOf_rel hM.obj hx hl
              refine Pure1.mem hM ⟨_, hrun _ _ ?_, .str _⟩
              rw [run_convert_bytes_string w src dst e A l.length cap he1 he2 hkd]
              exact bytes_str A cap l fun hp => by
                obtain ⟨g, o', hA, hi⟩ := hcell hp
                refine ⟨g, o', hA, fun i n hn => ?_⟩
                obtain ⟨vs, hvs, hc⟩ := hi i n hn
                simp only [ElemR, CellR] at hvs
                obtain ⟨u, rfl, rfl⟩ := hvs
                have := hc 0 _ rfl
                simpa [ETy.size] using this
            · trivial
          · trivial
      · rename_i hk
        obtain ⟨e, he1, he2⟩ := kind_bytes hT hk
        split
        · rename_i s hks
          have hss := kind_str hT hks
          obtain rfl := str_inv hx
          intro _
          have hr := run_bytes_of_string (P := P) w src dst e s hss he1 he2
          have hcap := grownCap_ge w s.size 0 e
          generalize grownCap w s.size 0 e = cap at hr hcap
          have hold : ∀ (ob : Obj) (g : Nat), g < w.heap.size → (w.drew.alloc ob).heap[g]? = w.heap[g]? := fun ob g hg => heap_alloc_old w.drew ob g hg
          refine ⟨_, _, c.stab w.heap.size, hrun _ _ hr, Ctx.stab_le c _, .imm ?_, hM.stab' (hold _) (by simp), ?_, fun g hg => hold _ g (hM.stab g hg)⟩
          · simp only [CellR]
            have hbl : (rowD (e := .one (.int .u8)) (bytesL s)).length = s.size := by show (bytesL s).length = _; simp [bytesL]
            refine ⟨_, _, by rw [hbl], by rw [hbl]; exact hcap, fun _ => ⟨w.heap.size, 0, rfl, .inr rfl, fun i x hx => ?_⟩⟩
            obtain ⟨b, hb', hi, hbx⟩ := bytesL_get s i x hx
            refine ⟨[.int .u8 x], by simp only [ElemR, CellR]; exact ⟨_, rfl, rfl⟩, fun j u hu => ?_⟩
            cases j with
            | succ j => simp at hu
            | zero =>
              simp only [List.getElem?_cons_zero, Option.some.injEq] at hu
              subst hu
              have hnew : (w.drew.alloc (.cells (bytesRow s cap) e ((bytesRow s cap).size, (bytesRow s cap).size + 1))).heap[w.heap.size]? = some (.cells (bytesRow s cap) e ((bytesRow s cap).size, (bytesRow s cap).size + 1)) := heap_alloc_new w.drew _
              rw [cell_of_row _ _ _ _ _ _ hnew]
              simp only [bytesRow, ETy.size, Nat.mul_one, Nat.zero_add, Nat.add_zero]
              rw [Array.getElem?_append_left (by simpa using hi), Array.getElem?_map]
              rw [hb', hbx]; rfl
          · exact (RowKit.Below.refl n0 w).drew.alloc (by have := hM.base; simpa using this) _
        · trivial
      · trivial
  · trivial
end
end Go.Proofs.Ytejcniaepjahbaa.Mach
