/- Parts of structs, structs built, functions made: sound. -/
import Derived.Test.YtejcniaepjahbaaM12
import Derived.Laws.Tables
set_option linter.unusedSimpArgs false
namespace Go.Proofs.Ytejcniaepjahbaa.Mach
open Go
/-- cells against cells -/
def CellsR (c : Ctx) (w : World) (cs : List AV) (vs : List Value) : Prop := cs.length = vs.length ∧ ∀ (j : Nat) (x : AV), cs[j]? = some x → AVR c w x (vs.getD j default)
theorem CellsR.agg {c : Ctx} {w : World} {cs : List AV} {vs : Array Value} (h : CellsR c w cs vs.toList) : AVR c w (.agg cs) (.agg vs) := by
  have hl : cs.length = vs.size := by simpa using h.1
  refine .agg hl (fun j => vs.toList.getD j default) (fun j x hx => ?_) (fun j x hx => h.2 j x hx)
  have hj : j < vs.size := by
    by_cases hj : j < cs.length
    · omega
    · rw [List.getElem?_eq_none (by omega)] at hx; simp at hx
  rw [Array.getElem?_eq_getElem hj, List.getD_eq_getElem?_getD]
  simp [hj]
theorem agg_cells {c : Ctx} {w : World} {cs : List AV} {v : Value} (h : AVR c w (.agg cs) v) : ∃ vs : Array Value, v = .agg vs ∧ CellsR c w cs vs.toList := by
  cases h with
  | agg hl u h1 h2 =>
    rename_i vs
    refine ⟨vs, rfl, by simpa using hl, fun j x hx => ?_⟩
    have := h1 j x hx
    rw [List.getD_eq_getElem?_getD]
    simp only [Array.getElem?_toList, this, Option.getD_some]
    exact h2 j x hx
theorem val_cells {c : Ctx} {w : World} {x : AV} {v : Value} (h : AVR c w x v) (hx : isVal x = true) : CellsR c w (cellsOf x) v.cells.toList ∧ ∀ u ∈ v.cells.toList, u.oneCell' = true := by
  obtain ⟨h1, h2⟩ := cells_rel h hx
  refine ⟨⟨by simpa using h1, fun j y hy => ?_⟩, fun u hu => ?_⟩
  · have := (h2 j y hy).1
    rwa [List.getD_eq_getElem?_getD, Array.getElem?_toList, ← Array.getD_eq_getD_getElem?]
  · obtain ⟨j, hj⟩ := List.mem_iff_getElem?.1 hu
    have hlt : j < v.cells.size := by
      have := List.getElem?_eq_some_iff.1 hj
      simpa using this.1
    have hlt2 : j < (cellsOf x).length := by omega
    have := (h2 j _ (List.getElem?_eq_getElem hlt2)).2
    rw [Array.getElem?_toList] at hj
    simpa [Array.getD_eq_getD_getElem?, hj] using this
theorem setAt_set {α : Type} : ∀ (l : List α) (i : Nat) (v : α), setAt l i v = l.set i v
  | [], _, _ => rfl
  | x :: l, 0, v => rfl
  | x :: l, i + 1, v => by
    show x :: setAt l i v = x :: l.set i v
    rw [setAt_set l i v]
theorem CellsR.set {c : Ctx} {w : World} {cs : List AV} {vs : List Value} (h : CellsR c w cs vs) (i : Nat) {x : AV} {v : Value} (hx : AVR c w x v) : CellsR c w (setAt cs i x) (vs.set i v) := by
  rw [setAt_set]
  refine ⟨by simpa using h.1, fun j y hy => ?_⟩
  rw [List.getElem?_set] at hy
  rw [List.getD_eq_getElem?_getD, List.getElem?_set]
  split at hy
  · rename_i he
    split at hy
    · simp only [Option.some.injEq] at hy
      subst hy
      rw [if_pos he, if_pos (by rw [← h.1]; assumption)]
      exact hx
    · simp at hy
  · rename_i he
    rw [if_neg he, ← List.getD_eq_getElem?_getD]
    exact h.2 j y hy
/-- the cells of a part, laid over -/
def lay : List Value → Nat → List Value → List Value
  | cs, _, [] => cs
  | cs, i, v :: r => lay (cs.set i v) (i + 1) r
theorem lay_length : ∀ (cs : List Value) (i : Nat) (l : List Value), (lay cs i l).length = cs.length
  | cs, i, [] => rfl
  | cs, i, v :: r => by simp [lay, lay_length]
theorem lay_eq : ∀ (cs : List Value) (i : Nat) (l : List Value), i + l.length ≤ cs.length → lay cs i l = cs.take i ++ l ++ cs.drop (i + l.length)
  | cs, i, [], h => by simp [lay]
  | cs, i, v :: r, h => by
    simp only [List.length_cons] at h ⊢
    rw [lay, lay_eq _ _ _ (by simp; omega)]
    apply List.ext_getElem?
    intro j
    simp only [List.getElem?_append, List.getElem?_take, List.getElem?_drop, List.length_append, List.length_take, List.length_set, List.length_cons, List.getElem?_set, List.getElem?_cons]
    by_cases h1 : j < i
    · simp [show j < min (i + 1) cs.length + r.length by omega, show j < min (i + 1) cs.length by omega, show j < i + 1 by omega, show ¬ i = j by omega, show j < min i cs.length + (r.length + 1) by omega, show j < min i cs.length by omega, h1]
    · by_cases h2 : j = i
      · subst h2
        simp [show j < min (j + 1) cs.length + r.length by omega, show j < min (j + 1) cs.length by omega, show j < cs.length by omega, show j < min j cs.length + (r.length + 1) by omega, show ¬ j < min j cs.length by omega, show min j cs.length = j by omega]
      · by_cases h3 : j < i + 1 + r.length
        · simp [show j < min (i + 1) cs.length + r.length by omega, show ¬ j < min (i + 1) cs.length by omega, show j < min i cs.length + (r.length + 1) by omega, show ¬ j < min i cs.length by omega, show ¬ j - min i cs.length = 0 by omega, show j - min i cs.length - 1 = j - min (i + 1) cs.length by omega]
        · simp [show ¬ j < min (i + 1) cs.length + r.length by omega, show ¬ j < min i cs.length + (r.length + 1) by omega]
          have e1 : i + 1 + r.length + (j - (min (i + 1) cs.length + r.length)) = j := by omega
          have e2 : i + (r.length + 1) + (j - (min i cs.length + (r.length + 1))) = j := by omega
          rw [e1, e2, if_neg (by omega)]
theorem CellsR.patch {c : Ctx} {w : World} : ∀ {new : List AV} {news : List Value} {cs : List AV} {vs : List Value} (i : Nat), CellsR c w cs vs → CellsR c w new news → CellsR c w (Mach.patch cs i new) (lay vs i news)
  | [], [], _, _, _, h, _ => h
  | [], _ :: _, _, _, _, _, h2 => by simp [CellsR] at h2
  | _ :: _, [], _, _, _, _, h2 => by simp [CellsR] at h2
  | x :: new, v :: news, cs, vs, i, h, h2 => by
    show CellsR c w (Mach.patch (setAt cs i x) (i + 1) new) (lay (vs.set i v) (i + 1) news)
    refine CellsR.patch (i + 1) (h.set i (by simpa using h2.2 0 x rfl)) ⟨by simpa using h2.1, fun j y hy => ?_⟩
    simpa using h2.2 (j + 1) y (by simpa using hy)
theorem fold_lay (off : Nat) : ∀ (l : List Value) (k : Nat) (cells : Array Value), ((l.zipIdx k).foldl (fun cs (p : Value × Nat) => cs.setIfInBounds (off + p.2) p.1) cells).toList = lay cells.toList (off + k) l
  | [], _, _ => rfl
  | v :: l, k, cells => by
    rw [List.zipIdx_cons, List.foldl_cons, fold_lay off l (k + 1), lay, Array.toList_setIfInBounds]
    rfl
section
variable {P : Program} {T : Tab} {n0 : Nat} {c : Ctx} {H : List HObj} {w : World} {env : Env} {a : Act} {o : Oper}
theorem whole_spec (hT : TabOk P T) {t : TypeId} {cs : List AV} {y : AV} (hy : whole T t cs = some y) : ∃ (d : TypeDesc) (i : TypeInfo), P.underlying t = some d ∧ P.info? t = some i ∧
    ((d.isRow = true ∧ i.size ≤ cs.length ∧ y = .agg (cs.take i.size)) ∨ (d.isRow = false ∧ ∃ r, cs = y :: r)) := by
  unfold whole at hy
  split at hy
  · rename_i x hf
    have hx := hT.ty _ _ hf
    subst hx
    cases hok : (tyOf P t).okay with
    | false => rw [hok] at hy; simp at hy
    | true =>
      rw [hok] at hy
      simp only [cond_true] at hy
      have hok' : (P.underlying t).isSome = true ∧ (P.info? t).isSome = true := by simpa [tyOf] using hok
      obtain ⟨d, hd⟩ := Option.isSome_iff_exists.1 hok'.1
      obtain ⟨i, hi⟩ := Option.isSome_iff_exists.1 hok'.2
      have hsz : (tyOf P t).size = i.size := by simp [tyOf, Program.cellsOf, hi]
      have hag : (tyOf P t).agg = d.isRow := by
        simp only [tyOf, hd]
        cases d <;> rfl
      unfold wholeX at hy
      rw [hag, hsz] at hy
      refine ⟨d, i, hd, hi, ?_⟩
      cases hr : d.isRow with
      | false =>
        rw [hr] at hy
        simp only [cond_false] at hy
        cases cs with
        | nil => simp at hy
        | cons z r =>
          simp only [Option.some.injEq] at hy
          exact .inr ⟨rfl, r, by rw [hy]⟩
      | true =>
        rw [hr] at hy
        simp only [cond_true] at hy
        cases hb : Nat.ble i.size cs.length with
        | false => rw [hb] at hy; simp at hy
        | true =>
          rw [hb] at hy
          simp only [cond_true, Option.some.injEq] at hy
          exact .inl ⟨rfl, (ble_iff _ _).1 hb, hy.symm⟩
  · simp at hy
theorem isAgg_run {t : TypeId} {d : TypeDesc} (hd : P.underlying t = some d) : (isAgg t).run P w = .ok d.isRow w := by
  cases d <;> simp [isAgg, run_underlying hd, Sem.run_bind, Sem.run_pure, TypeDesc.isRow]
theorem part_rel (hT : TabOk P T) {t : TypeId} {cs : List AV} {vs : Array Value} (h : CellsR c w cs vs.toList) {off : Nat} {y : AV} (hy : whole T t (cs.drop off) = some y) : ∃ v, (part t vs off).run P w = .ok v w ∧ AVR c w y v := by
  obtain ⟨d, i, hd, hi, h1⟩ := whole_spec hT hy
  have hl : cs.length = vs.size := by simpa using h.1
  rcases h1 with ⟨hr, h2, rfl⟩ | ⟨hr, r, h2⟩
  · refine ⟨.agg (vs.extract off (off + i.size)), ?_, CellsR.agg ⟨?_, fun j x hx => ?_⟩⟩
    · simp [part, isAgg_run hd, hr, sizeOf, typeInfo, hi, Sem.run_bind, Sem.run_pure]
    · simp only [List.length_take, List.length_drop] at h2 ⊢
      simp
      omega
    · rw [List.getElem?_take] at hx
      split at hx
      · rename_i hj
        rw [List.getElem?_drop] at hx
        have := h.2 _ x hx
        rw [List.getD_eq_getElem?_getD] at this ⊢
        have e : (vs.extract off (off + i.size)).toList[j]? = vs.toList[off + j]? := by
          simp only [Array.getElem?_toList, Array.getElem?_extract]
          have : off + j < cs.length := by
            by_cases hh : off + j < cs.length
            · exact hh
            · rw [List.getElem?_eq_none (by omega)] at hx; simp at hx
          rw [if_pos (by omega)]
        rw [e]; exact this
      · simp at hx
  · have h3 : cs[off]? = some y := by
      have : (cs.drop off)[0]? = some y := by rw [h2]; rfl
      simpa using this
    have hj : off < vs.size := by
      by_cases hj : off < cs.length
      · omega
      · rw [List.getElem?_eq_none (by omega)] at h3; simp at h3
    refine ⟨vs[off], ?_, ?_⟩
    · simp [part, isAgg_run hd, hr, hj, Sem.run_bind, Sem.run_pure]
    · have := h.2 _ y h3
      rw [List.getD_eq_getElem?_getD] at this
      simpa [hj] using this
theorem s_field (h : EnvR c w env a.tmps) (hT : TabOk P T) {t : TypeId} {x : Operand} {f : Nat} (ho : o.op = .field t x f) : PureSpec P c w H o a (oField T H t (evalO env x) f) := by
  have hx := evalO_rel h x
  generalize hv : a.eval x = vx at *
  generalize evalO env x = X at *
  unfold oField
  split
  · rename_i cs o' u hq
    obtain ⟨vs, rfl, hcs⟩ := agg_cells hx
    obtain ⟨fs, fl, i, h1, h2, h3, h4, h5⟩ := field_type hT hq
    simp only [Prod.mk.injEq] at h3
    obtain ⟨rfl, rfl⟩ := h3
    refine okV_spec fun y hy => ?_
    obtain ⟨v, hrun, hr⟩ := part_rel hT hcs hy
    refine ⟨v, ?_, hr⟩
    simp [execOp, ho, hv, Instr.field, run_underlying h1, h2, asAgg, hrun, Sem.run_bind, Sem.run_pure]
  · trivial
theorem args_rel (h : EnvR c w env a.tmps) (xs : Array Operand) : CellsR c w (xs.toList.map (evalO env)) (xs.map a.eval).toList := by
  refine ⟨by simp, fun j x hx => ?_⟩
  rw [List.getElem?_map, Option.map_eq_some_iff] at hx
  obtain ⟨y, hy, rfl⟩ := hx
  have hy' : xs[j]? = some y := by simpa using hy
  rw [List.getD_eq_getElem?_getD]
  simp only [Array.getElem?_toList, Array.getElem?_map, hy', Option.map_some, Option.getD_some]
  exact evalO_rel h y
theorem s_makeFunc (h : EnvR c w env a.tmps) {f : Fn} {first caps : Array Operand} (ho : o.op = .makeFunc f first caps) : PureSpec P c w H o a (oMakeFunc H env f first.toList caps.toList) := by
  unfold oMakeFunc
  split
  · rename_i g hf
    intro _
    have hcs := args_rel h caps
    have hfe : first = #[] := by simpa using hf
    refine ⟨rfl, .func (.func g) #[] (caps.map a.eval), ?_, ?_⟩
    · simp [execOp, ho, hfe, Instr.makeFunc, Sem.run_bind, Sem.run_pure]
    · have h2 := hcs.agg
      cases h2 with
      | agg hl u h1 h3 => exact .fn hl u h1 h3
  · trivial
theorem mapM_get {α β : Type} (f : α → Option β) : ∀ (l : List α) (r : List β), l.mapM f = some r → ∀ (j : Nat) (x : α), l[j]? = some x → ∃ y, f x = some y ∧ r[j]? = some y
  | [], r, h, j, x, hx => by simp at hx
  | z :: l, r, h, j, x, hx => by
    simp only [List.mapM_cons, Option.bind_eq_bind, Option.pure_def] at h
    cases hz : f z with
    | none => simp [hz] at h
    | some y =>
      cases hl : l.mapM f with
      | none => simp [hz, hl] at h
      | some r' =>
        simp [hz, hl] at h
        subst h
        cases j with
        | zero => simp only [List.getElem?_cons_zero, Option.some.injEq] at hx; subst hx; exact ⟨y, hz, rfl⟩
        | succ j => simpa using mapM_get f l r' hl j x (by simpa using hx)
theorem find_ty (hT : TabOk P T) {t : TypeId} {x : TyT} (h : find T.ty t = some x) : x = tyOf P t := hT.ty _ _ h
theorem fill_rel (hT : TabOk P T) {fs : Array Field} {places : List (Nat × Nat)} (hp : fs.toList.mapM (fun f => (P.info? f.type).map fun i => (f.offset, i.size)) = some places) :
    ∀ (parts : List (Nat × AV)) (vparts : List (Nat × Value)) (cs r : List AV) (vs : Array Value), parts.length = vparts.length → (∀ (j : Nat) (p : Nat × AV), parts[j]? = some p → ∃ q, vparts[j]? = some q ∧ q.1 = p.1 ∧ AVR c w p.2 q.2) →
      CellsR c w cs vs.toList → fillR T (fs.toList.map fun f => (f.offset, f.type)) parts cs = some r → ∃ us, Instr.fill (places.toArray[·]?) vs vparts = some us ∧ CellsR c w r us.toList
  | [], [], cs, r, vs, _, _, h, hr => by
    simp only [fillR, Option.some.injEq] at hr
    subst hr
    exact ⟨vs, rfl, h⟩
  | p :: parts, [], _, _, _, hl, _, _, _ => by simp at hl
  | [], _ :: _, _, _, _, hl, _, _, _ => by simp at hl
  | p :: parts, q :: vparts, cs, r, vs, hl, hq, h, hr => by
    simp only [fillR] at hr
    rw [nth_get] at hr
    obtain ⟨q', hq1, hq2, hq3⟩ := hq 0 p rfl
    simp only [List.getElem?_cons_zero, Option.some.injEq] at hq1
    subst hq1
    split at hr
    · rename_i f hf
      split at hr
      · rename_i x hx
        have hx' := find_ty hT hx
        subst hx'
        cases hv : isVal p.2 with
        | false => rw [hv] at hr; simp at hr
        | true =>
          rw [hv] at hr
          cases hb : Nat.beq (cellsOf p.2).length (tyOf P f.2).size with
          | false => rw [hb] at hr; simp at hr
          | true =>
            rw [hb] at hr
            cases hle : Nat.ble (f.1 + (cellsOf p.2).length) cs.length with
            | false => rw [hle] at hr; simp at hr
            | true =>
              rw [hle] at hr
              simp only [cond_true] at hr
              have h1 := Nat.eq_of_beq_eq_true hb
              have h2 := (ble_iff _ _).1 hle
              obtain ⟨hc1, _⟩ := val_cells hq3 hv
              have hcl : (cellsOf p.2).length = q.2.cells.size := by simpa using hc1.1
              rw [List.getElem?_map, Option.map_eq_some_iff] at hf
              obtain ⟨fl, hfl, rfl⟩ := hf
              obtain ⟨i, hi, hpl⟩ : ∃ i, P.info? fl.type = some i ∧ places[p.1]? = some (fl.offset, i.size) := by
                obtain ⟨y, hy1, hy2⟩ := mapM_get _ _ _ hp _ _ hfl
                rw [Option.map_eq_some_iff] at hy1
                obtain ⟨i, hi, rfl⟩ := hy1
                exact ⟨i, hi, hy2⟩
              have hsz : (tyOf P fl.type).size = i.size := by simp [tyOf, Program.cellsOf, hi]
              obtain ⟨us, h3, h4⟩ := fill_rel hT hp parts vparts _ r (q.2.cells.zipIdx.foldl (fun cs (x : Value × Nat) => cs.setIfInBounds (fl.offset + x.2) x.1) vs) (by simpa using hl) (fun j p' hp' => by simpa using hq (j + 1) p' (by simpa using hp')) (by
                have := h.patch fl.offset hc1
                rw [← Array.foldl_toList, Array.toList_zipIdx, fold_lay fl.offset _ 0]
                exact this) hr
              refine ⟨us, ?_, h4⟩
              have hlen : cs.length = vs.size := by simpa using h.1
              obtain ⟨q1, q2⟩ := q
              simp only at hq2 h3 hcl
              subst hq2
              simp only [Instr.fill, List.getElem?_toArray, hpl]
              have h5 : q2.cells.size = i.size := by rw [← hcl, ← hsz]; exact h1
              have h6 : fl.offset + q2.cells.size ≤ vs.size := by rw [← hcl, ← hlen]; exact h2
              rw [if_neg (by simp only [Bool.or_eq_true, decide_eq_true_eq]; omega)]
              simpa using h3
      · simp at hr
    · simp at hr
theorem mapM_all {α β : Type} (f : α → Option β) : ∀ (l : List α), (l.all fun x => (f x).isSome) = true → ∃ r, l.mapM f = some r
  | [], _ => ⟨[], rfl⟩
  | x :: l, h => by
    simp only [List.all_cons, Bool.and_eq_true] at h
    obtain ⟨y, hy⟩ := Option.isSome_iff_exists.1 h.1
    obtain ⟨r, hr⟩ := mapM_all f l h.2
    exact ⟨y :: r, by simp [List.mapM_cons, hy, hr]⟩
theorem zero_rel {t : TypeId} {i : TypeInfo} (hi : P.info? t = some i) {cs : List AV} (hz : (tyOf P t).zero = some cs) : ∃ z, i.zero = some z ∧ CellsR c w cs z.cells.toList := by
  have one : ∀ v : Value, CellsR c w [ofVal 3 v] [v] := fun v => ⟨rfl, fun j x hx => by
    cases j with
    | zero => simp only [List.getElem?_cons_zero, Option.some.injEq] at hx; subst hx; exact ofVal_rel c w 3 v
    | succ j => simp at hx⟩
  simp only [tyOf, hi, Option.bind_some] at hz
  cases h : i.zero with
  | none => rw [h] at hz; simp at hz
  | some v =>
    refine ⟨v, rfl, ?_⟩
    rw [h] at hz
    cases v with
    | agg vs =>
      simp only [Option.some.injEq] at hz
      subst hz
      refine ⟨by simp [Value.cells], fun j x hx => ?_⟩
      rw [List.getElem?_map, Option.map_eq_some_iff] at hx
      obtain ⟨u, hu, rfl⟩ := hx
      have hu' : vs[j]? = some u := by simpa using hu
      rw [List.getD_eq_getElem?_getD]
      simp only [Value.cells, Array.getElem?_toList, hu', Option.getD_some]
      exact ofVal_rel c w 3 u
    | _ =>
      simp only [Option.some.injEq] at hz
      subst hz
      exact one _
theorem s_build (h : EnvR c w env a.tmps) (hT : TabOk P T) {t : TypeId} {parts : Array (Nat × Operand)} (ho : o.op = .build t parts) : PureSpec P c w H o a (buildR T H t (oParts env parts)) := by
  unfold buildR
  split
  · rename_i x hx
    have hx' := find_ty hT hx
    subst hx'
    cases hf : (tyOf P t).fok with
    | false => trivial
    | true =>
      simp only [cond_true]
      unfold buildX
      split
      · rename_i z hz
        split
        · rename_i cs hcs
          intro _
          simp only [tyOf] at hf
          cases hu : P.underlying t with
          | none => rw [hu] at hf; simp at hf
          | some d =>
            rw [hu] at hf
            cases d with
            | struct fs =>
              simp only at hf
              cases hi : P.info? t with
              | none => simp [tyOf, hi] at hz
              | some i =>
                obtain ⟨zv, hzv, hzr⟩ := zero_rel (c := c) (w := w) hi hz
                obtain ⟨places, hp⟩ := mapM_all (fun f : Field => (P.info? f.type).map fun i => (f.offset, i.size)) fs.toList (by
                  rw [List.all_eq_true] at hf ⊢
                  intro f hfm
                  have := hf f hfm
                  simpa using this)
                have hfe : (tyOf P t).fields = fs.toList.map fun f => (f.offset, f.type) := by simp [tyOf, hu]
                rw [hfe] at hcs
                obtain ⟨us, h1, h2⟩ := fill_rel hT hp (oParts env parts) (parts.map fun (i, x) => (i, a.eval x)).toList z cs zv.cells (by simp [oParts]) (fun j p hp => by
                  simp only [oParts, List.getElem?_map, Option.map_eq_some_iff] at hp
                  obtain ⟨q, hq, rfl⟩ := hp
                  have hq' : parts[j]? = some q := by simpa using hq
                  exact ⟨(q.1, a.eval q.2), by simp [hq'], rfl, evalO_rel h q.2⟩) hzr hcs
                refine ⟨rfl, .agg us, ?_, h2.agg⟩
                have hb : P.built t (parts.map fun (i, x) => (i, a.eval x)).toList = some us := by
                  simp only [Program.built, hi, hu, hzv, hp]
                  exact h1
                simp only [execOp, ho, run_build w t _ us hb, Sem.run_bind, Result.andThen_ok, Sem.run_pure]
            | _ => simp at hf
        · trivial
      · trivial
  · trivial
end
end Go.Proofs.Ytejcniaepjahbaa.Mach
