/- Regions whose order is not told: sound. -/
import Derived.Test.YtejcniaepjahbaaM35
set_option linter.unusedSimpArgs false
set_option linter.unusedVariables false
namespace Go.Proofs.Ytejcniaepjahbaa.Mach
open Go
/-! ### guards -/
noncomputable def gval (all : List Oper) (env : Env) (g : Option (Nat × Bool)) : Option Bool := match g with
  | none => some true
  | some p => match nth all p.1 with
    | some o => match o.dst with
      | some d => match getE env d with
        | .bool b => some (b == p.2)
        | .tup _ => some false
        | _ => none
      | none => none
    | none => none
theorem guarded_iff {all : List Oper} {env : Env} {g : Option (Nat × Bool)} {go skip : Env → Prop} : guarded all env g go skip ↔ (gval all env g = some true ∧ go env) ∨ (gval all env g = some false ∧ skip env) := by
  unfold guarded gval
  cases g with
  | none => simp
  | some p =>
    simp only
    unfold guarded2
    cases nth all p.1 with
    | none => simp
    | some o =>
      simp only
      cases o.dst with
      | none => simp
      | some d =>
        simp only
        unfold way
        cases hx : getE env d <;> simp only <;> try (simp; done)
        rename_i b
        have h1 : ∀ b', b = b' → setE env d (.bool b') = env := fun b' hb => by subst hb; exact setE_self hx (by simp)
        cases p.2 <;> cases b <;> simp [h1]
theorem gval_put {all : List Oper} {env : Env} {o : Oper} {d : Option Tmp} {x : AV} (h : ∀ t, d = some t → t ∉ o.looksAt all.toArray) : gval all (putD env d x) o.guard = gval all env o.guard := by
  unfold gval
  cases hg : o.guard with
  | none => rfl
  | some p =>
    simp only
    cases hn : nth all p.1 with
    | none => rfl
    | some q =>
      simp only
      cases hd : q.dst with
      | none => rfl
      | some u =>
        simp only
        have : getE (putD env d x) u = getE env u := by
          cases d with
          | none => rfl
          | some t =>
            refine getE_setE fun he => h t rfl ?_
            unfold Oper.looksAt
            rw [hg]
            obtain ⟨p1, p2⟩ := p
            rw [nth_get] at hn
            simp only at hn ⊢
            refine List.mem_append_right _ ?_
            simp [hn, hd, he]
        rw [this]
theorem op_put (T : Tab) (H : List HObj) {all : List Oper} {env : Env} {o : Oper} {d : Option Tmp} {x : AV} (h : ∀ t, d = some t → t ∉ o.looksAt all.toArray) : opR T H (putD env d x) o.op = opR T H env o.op :=
  opR_congr T H o.op fun y hy => evalO_putD fun t ht hyt => h t ht (by
    subst hyt
    exact List.mem_append_left _ (List.mem_filterMap.2 ⟨.tmp t, by simpa using hy, rfl⟩))
theorem gate_iff {b : Bool} {p : Prop} : gate b p ↔ b = true ∧ p := by cases b <;> simp [gate]
theorem stepI_iff {T : Tab} {callK : CallK} {all : List Oper} {i : Nat} {U : List Nat} {o : Oper} (hi : nth all i = some o) {cont : Env → List HObj → Prop} {env : Env} {H : List HObj} :
    stepI T callK all i U cont env H ↔ (gval all env o.guard = some true ∧ storeOk all U i env o.op = true ∧ opK callK (keepAt all i) H (fun v H => cont (putD env o.dst v) H) (opR T H env o.op)) ∨ (gval all env o.guard = some false ∧ cont (putD env o.dst (.tup [])) H) := by
  unfold stepI
  rw [hi]
  simp only [guarded_iff, gate_iff]
/-- calls may be asked less -/
def MonoK (callK : CallK) : Prop := ∀ f args H keep (K K' : AV → List HObj → Prop), (∀ v H', (keep = true → agree H H') → K v H' → K' v H') → callK f args H keep K → callK f args H keep K'
theorem still_noStore {op : Op} (h : still op = true) : storesTo op = none := by cases op <;> first | rfl | (simp [still] at h)
theorem adds_noStore {op : Op} (h : adds op = true) : storesTo op = none := by cases op <;> first | rfl | (simp [adds] at h)
theorem storeOk_none {all : List Oper} {U : List Nat} {i : Nat} {env : Env} {op : Op} (h : storesTo op = none) : storeOk all U i env op = true := by unfold storeOk; rw [h]
theorem touches_put {tgt : AV} {all : List Oper} {env : Env} {o : Oper} {d : Option Tmp} {x : AV} (h : ∀ t, d = some t → t ∉ o.looksAt all.toArray) : touches tgt (putD env d x) o.op = touches tgt env o.op := by
  have key : ∀ y ∈ o.op.operands, evalO (putD env d x) y = evalO env y := fun y hy => evalO_putD fun t ht hyt => h t ht (by
    subst hyt
    exact List.mem_append_left _ (List.mem_filterMap.2 ⟨.tmp t, by simpa using hy, rfl⟩))
  cases hop : o.op <;> rw [hop] at key <;> simp only [touches]
  · rw [key _ (by simp [Op.operands])]
  · rw [key _ (by simp [Op.operands])]
section
variable {T : Tab} {callK : CallK} (hm : MonoK callK) {all : List Oper}
theorem still_step {i : Nat} {U : List Nat} {x : Oper} (hi : nth all i = some x) (hs : still x.op = true) {cont : Env → List HObj → Prop} {env : Env} {H : List HObj} (h : stepI T callK all i U cont env H) :
    ∃ v, cont (putD env x.dst v) H ∧ ∀ (env' : Env) (H' : List HObj) (U' : List Nat) (cont' : Env → List HObj → Prop), gval all env' x.guard = gval all env x.guard → (∀ H0, opR T H0 env' x.op = opR T H0 env x.op) → Sim H H' (opR T H env x.op) (opR T H' env x.op) → cont' (putD env' x.dst v) H' → stepI T callK all i U' cont' env' H' := by
  rw [stepI_iff hi] at h
  rcases h with ⟨hg, _, hk⟩ | ⟨hg, hk⟩
  · rcases still_same T (H := H) env hs with hf | ⟨g, v, h1⟩
    · rw [hf] at hk; exact hk.elim
    · rw [h1] at hk
      cases g with
      | false => exact hk.elim
      | true =>
        refine ⟨v, hk, fun env' H' U' cont' hg' ho ha hc => ?_⟩
        rw [stepI_iff hi]
        refine .inl ⟨by rw [hg', hg], storeOk_none (still_noStore hs), ?_⟩
        rcases ha with hf | ⟨g', v', h2, h3⟩
        · rw [hf] at h1; simp at h1
        · rw [h1] at h2
          simp only [OpR.ok.injEq] at h2
          obtain ⟨rfl, rfl, _⟩ := h2
          rw [ho, h3]
          exact hc
  · refine ⟨.tup [], hk, fun env' H' U' cont' hg' ho ha hc => ?_⟩
    rw [stepI_iff hi]
    exact .inr ⟨by rw [hg', hg], hc⟩
include hm
theorem stepI_mono {i : Nat} {U : List Nat} {cont cont' : Env → List HObj → Prop} (hc : ∀ e H, cont e H → cont' e H) {env : Env} {H : List HObj} (h : stepI T callK all i U cont env H) : stepI T callK all i U cont' env H := by
  cases hi : nth all i with
  | none => unfold stepI at h; rw [hi] at h; exact h.elim
  | some o =>
    rw [stepI_iff hi] at h ⊢
    rcases h with ⟨hg, hst, hk⟩ | ⟨hg, hk⟩
    · refine .inl ⟨hg, hst, ?_⟩
      unfold opK at hk ⊢
      split
      · rename_i he; rw [he] at hk; exact hk
      · rename_i g x H' he
        rw [he] at hk
        cases g with
        | false => exact hk
        | true => exact hc _ _ hk
      · rename_i f args he
        rw [he] at hk
        exact hm _ _ _ _ _ _ (fun v H' _ hkk => hc _ _ hkk) hk
    · exact .inr ⟨hg, hc _ _ hk⟩
/-- what is over has not waited for what is left -/
def Closed (all : List Oper) (U : List Nat) : Prop := ∀ k m, k < all.length → k ∉ U → depB all k m = true → m ∉ U
/-- of what is in no order -/
structure Free (all : List Oper) (i j : Nat) (x y : Oper) : Prop where
  hi : nth all i = some x
  hj : nth all j = some y
  hs : still x.op = true
  hw : still y.op = true ∨ adds y.op = true ∨ (∃ a, storesTo y.op = some a) ∧ ∀ d, x.dst = some d → ∀ k o, k < all.length → nth all k = some o → d ∈ o.looksAt all.toArray → k ≠ i ∧ depB all k i = true
  keep : keepAt all j = true
  ap : Oper.apart all.toArray x y = true
  ord : inOrder all j i = false
/-- a still operation, put behind the next one -/
theorem swap_step {i j : Nat} {U : List Nat} {x y : Oper} (hf : Free all i j x y) (hcl : Closed all U) (hiU : i ∈ U) (hil : i < all.length)
    {cont : Env → List HObj → Prop} {env : Env} {H : List HObj} (h : stepI T callK all i U (stepI T callK all j (U.filter fun k => !Nat.beq k i) cont) env H) : stepI T callK all j U (stepI T callK all i (U.filter fun k => !Nat.beq k j) cont) env H := by
  obtain ⟨hi, hj, hs, hw, hkeep, hap, hord⟩ := hf
  obtain ⟨a1, a2, a3⟩ := Oper.apart_spec hap
  obtain ⟨v, h1, h2⟩ := still_step hi hs h
  rw [stepI_iff hj] at h1 ⊢
  rw [gval_put a1, op_put T H a1] at h1
  have back : ∀ (u : AV) (H' : List HObj), Sim H H' (opR T H env x.op) (opR T H' env x.op) → cont (putD (putD env x.dst v) y.dst u) H' → stepI T callK all i (U.filter fun k => !Nat.beq k j) cont (putD env y.dst u) H' := fun u H' ha hc =>
    h2 _ H' _ cont (gval_put a3) (fun H0 => op_put T H0 a3) ha (by rw [← putD_comm env x.dst y.dst v u a2]; exact hc)
  have wt : touches .undef env x.op = false → ∀ H', agree H H' → Sim H H' (opR T H env x.op) (opR T H' env x.op) := fun ht H' ha => sim_op (WAg.of_agree ha) T env hs ht
  have wsim : ∀ H', agree H H' → Sim H H' (opR T H env x.op) (opR T H' env x.op) := fun H' ha => sim_agree ha T env hs
  rcases h1 with ⟨hg, hst, hk⟩ | ⟨hg, hk⟩
  · -- the store's test, without i's yield
    have hst' : storeOk all U j env y.op = true := by
      rcases hw with hw | hw | ⟨⟨a, ha⟩, hanti⟩
      · exact storeOk_none (still_noStore hw)
      · exact storeOk_none (adds_noStore hw)
      · unfold storeOk at hst ⊢
        rw [ha] at hst ⊢
        simp only at hst ⊢
        rw [List.all_eq_true] at hst ⊢
        intro k hk
        have hkl : k < all.length := by simpa using hk
        have hold := hst k hk
        cases hcon : U.contains k with
        | true => rfl
        | false =>
          have hkU : k ∉ U := fun hm => by
            have : U.contains k = true := by simpa using hm
            rw [this] at hcon; simp at hcon
          have hcon2 : (U.filter fun k => !Nat.beq k i).contains k = false := by
            cases hc2 : (U.filter fun k => !Nat.beq k i).contains k with
            | false => rfl
            | true =>
              have : k ∈ U.filter fun k => !Nat.beq k i := by simpa using hc2
              exact absurd (List.mem_filter.1 this).1 hkU
          rw [hcon2] at hold
          simp only [cond_false] at hold ⊢
          cases hio : inOrder all j k with
          | true => rfl
          | false =>
            rw [hio] at hold
            simp only [cond_false] at hold ⊢
            cases hnk : nth all k with
            | none => rfl
            | some o =>
              rw [hnk] at hold
              simp only at hold ⊢
              have hnd : ∀ d, x.dst = some d → d ∉ o.looksAt all.toArray := fun d hd hm => by
                obtain ⟨_, hdep⟩ := hanti d hd k o hkl hnk hm
                exact hcl k i hkl hkU hdep hiU
              rw [touches_put hnd] at hold
              have hae : evalO (putD env x.dst v) a = evalO env a := evalO_putD fun t ht hat => a1 t ht (by
                subst hat
                refine List.mem_append_left _ (List.mem_filterMap.2 ⟨.tmp t, ?_, rfl⟩)
                cases hyo : y.op <;> rw [hyo] at ha <;> simp only [storesTo, Option.some.injEq] at ha <;> first | (simp at ha; done) | (subst ha; simp [Op.operands]))
              rw [hae] at hold
              exact hold
    refine .inl ⟨hg, hst', ?_⟩
    unfold opK at hk ⊢
    split
    · rename_i he; rw [he] at hk; exact hk
    · rename_i g u H' he
      rw [he] at hk
      cases g with
      | false => exact hk
      | true =>
        refine back u H' ?_ hk
        rcases hw with hw | hw | ⟨⟨a, ha⟩, hanti⟩
        · rcases still_same T (H := H) env hw with hf | ⟨g', v', h3⟩
          · rw [hf] at he; simp at he
          · rw [h3] at he
            simp only [OpR.ok.injEq] at he
            rw [← he.2.2]; exact wsim H (agree_refl H)
        · exact wsim H' (adds_agree hw he)
        · have hwa : WAg (evalO env a) H H' := by
            cases hyo : y.op <;> rw [hyo] at ha he <;> simp only [storesTo, Option.some.injEq] at ha <;> first | (simp at ha; done) | (subst ha; exact store_agree he)
          refine sim_op hwa T env hs ?_
          unfold storeOk at hst
          rw [ha] at hst
          simp only at hst
          have := List.all_eq_true.1 hst i (by simpa using hil)
          have hcon2 : (U.filter fun k => !Nat.beq k i).contains i = false := by
            cases hc2 : (U.filter fun k => !Nat.beq k i).contains i with
            | false => rfl
            | true => simp at hc2
          rw [hcon2, hord] at this
          simp only [cond_false] at this
          rw [hi] at this
          simp only at this
          have hnd : ∀ d, x.dst = some d → d ∉ x.looksAt all.toArray := fun d hd hm => (hanti d hd i x hil hi hm).1 rfl
          rw [touches_put hnd] at this
          have hae : evalO (putD env x.dst v) a = evalO env a := evalO_putD fun t ht hat => a1 t ht (by
            subst hat
            refine List.mem_append_left _ (List.mem_filterMap.2 ⟨.tmp t, ?_, rfl⟩)
            cases hyo : y.op <;> rw [hyo] at ha <;> simp only [storesTo, Option.some.injEq] at ha <;> first | (simp at ha; done) | (subst ha; simp [Op.operands]))
          rw [hae] at this
          simpa using this
    · rename_i f args he
      rw [he] at hk
      exact hm _ _ _ _ _ _ (fun u H' ha hkk => back u H' (wsim H' (ha hkeep)) hkk) hk
  · exact .inr ⟨hg, back _ H (wsim H (agree_refl H)) hk⟩
end
/-! ### the order that is taken -/
theorem allOf_mem {l : List Nat} {p : Nat → Prop} (h : allOf l p) : ∀ i ∈ l, p i := by
  cases l with
  | nil => exact h.elim
  | cons i r =>
    cases r with
    | nil => intro k hk; rcases List.mem_singleton.1 hk with rfl; exact h
    | cons j r =>
      have key : ∀ (r : List Nat), (List.rec (motive := fun _ => Prop) (p i) (fun j _ ih => p j ∧ ih) r) → p i ∧ ∀ k ∈ r, p k := by
        intro r
        induction r with
        | nil => intro h; exact ⟨h, fun k hk => by cases hk⟩
        | cons j r ih =>
          intro h
          obtain ⟨h1, h2⟩ := h
          obtain ⟨h3, h4⟩ := ih h2
          exact ⟨h3, fun k hk => by
            rcases List.mem_cons.1 hk with rfl | hk
            · exact h1
            · exact h4 k hk⟩
      obtain ⟨h1, h2⟩ := key (j :: r) h
      intro k hk
      rcases List.mem_cons.1 hk with rfl | hk
      · exact h1
      · exact h2 k hk
theorem allOf_of {l : List Nat} {p : Nat → Prop} (hne : l ≠ []) (h : ∀ i ∈ l, p i) : allOf l p := by
  cases l with
  | nil => exact absurd rfl hne
  | cons i r =>
    cases r with
    | nil => exact h i (by simp)
    | cons j r =>
      have key : ∀ (r : List Nat), (∀ k ∈ r, p k) → (List.rec (motive := fun _ => Prop) (p i) (fun j _ ih => p j ∧ ih) r) := by
        intro r
        induction r with
        | nil => intro _; exact h i (by simp)
        | cons j r ih => intro hr; exact ⟨hr j (by simp), ih fun k hk => hr k (by simp [hk])⟩
      exact key (j :: r) fun k hk => h k (by simp [hk])
theorem mem_without {U : List Nat} {i k : Nat} : k ∈ without U i ↔ k ∈ U ∧ k ≠ i := by
  unfold without
  rw [List.mem_filter]
  constructor
  · rintro ⟨h1, h2⟩
    refine ⟨h1, fun he => ?_⟩
    rw [he, Nat.beq_refl] at h2
    simp at h2
  · rintro ⟨h1, h2⟩
    refine ⟨h1, ?_⟩
    cases hb : Nat.beq k i with
    | false => rfl
    | true => exact absurd (Nat.eq_of_beq_eq_true hb) h2
theorem without_comm (U : List Nat) (i j : Nat) : without (without U i) j = without (without U j) i := by
  unfold without
  rw [List.filter_filter, List.filter_filter]
  congr 1
  funext k
  exact Bool.and_comm _ _
theorem without_len {U : List Nat} {i : Nat} (h : i ∈ U) : (without U i).length < U.length := by
  unfold without
  induction U with
  | nil => cases h
  | cons x U ih =>
    rw [List.filter_cons]
    split
    · rename_i hx
      rcases List.mem_cons.1 h with rfl | h
      · rw [Nat.beq_refl] at hx; simp at hx
      · simp only [List.length_cons]; have := ih h; omega
    · simp only [List.length_cons]
      have := List.length_filter_le (fun k => !Nat.beq k i) U
      omega
/-- nothing that is left is waited for -/
def Rdy (all : List Oper) (U : List Nat) (i : Nat) : Prop := i ∈ U ∧ ∀ k ∈ U, depB all i k = false
theorem Rdy.without {all : List Oper} {U : List Nat} {i j : Nat} (h : Rdy all U i) (hne : i ≠ j) : Rdy all (Mach.without U j) i := ⟨mem_without.2 ⟨h.1, hne⟩, fun k hk => h.2 k (mem_without.1 hk).1⟩
theorem Closed.without {all : List Oper} {U : List Nat} {i : Nat} (h : Closed all U) (hr : Rdy all U i) : Closed all (Mach.without U i) := fun k m hk hn hd hm => by
  have hmU := (mem_without.1 hm).1
  by_cases hki : k = i
  · subst hki
    rw [hr.2 m hmU] at hd
    simp at hd
  · exact h k m hk (fun hkU => hn (mem_without.2 ⟨hkU, hki⟩)) hd hmU
theorem readyIn_iff {all : List Oper} {U : List Nat} {i : Nat} : readyIn all U i = true ↔ ∀ k ∈ U, depB all i k = false := by
  unfold readyIn
  rw [List.all_eq_true]
  constructor
  · intro h k hk; have := h k hk; simpa using this
  · intro h k hk; rw [h k hk]; rfl
theorem stillIn_some {all : List Oper} {U : List Nat} {i : Nat} (h : stillIn all U = some i) : Rdy all U i ∧ stillAt all i = true := by
  unfold stillIn at h
  have h1 := List.find?_some h
  have h2 := List.mem_of_find?_eq_some h
  cases hs : stillAt all i with
  | false => rw [hs] at h1; simp at h1
  | true => rw [hs] at h1; exact ⟨⟨h2, readyIn_iff.1 h1⟩, rfl⟩
theorem stillIn_none {all : List Oper} {U : List Nat} (h : stillIn all U = none) {i : Nat} (hr : Rdy all U i) : stillAt all i = false := by
  unfold stillIn at h
  have := List.find?_eq_none.1 h i hr.1
  cases hs : stillAt all i with
  | false => rfl
  | true =>
    rw [hs] at this
    simp only [cond_true, Bool.not_eq_true] at this
    rw [readyIn_iff.2 hr.2] at this
    simp at this
section
variable {T : Tab} {callK : CallK} (hm : MonoK callK) {all : List Oper} {K : St → Prop}
theorem runD_step {n : Nat} {U : List Nat} {env : Env} {H : List HObj} (hU : U ≠ []) : runD T callK all K (n + 1) U env H = (match stillIn all U with
      | some k => stepI T callK all k U (runD T callK all K n (without U k)) env H
      | none => allOf (U.filter (readyIn all U)) fun k => stepI T callK all k U (runD T callK all K n (without U k)) env H) := by
  cases U with
  | nil => exact absurd rfl hU
  | cons i U => rfl
include hm
/-- whatever may come next may come first; and any still operation that may come may be taken -/
theorem first_step (hp : ∀ i j, i < all.length → j < all.length → i ≠ j → depB all i j = false → depB all j i = false → stillAt all i = true → ∃ x y, Free all i j x y) :
    ∀ (n : Nat) (U : List Nat), U.length ≤ n + 1 → (∀ i ∈ U, i < all.length) → Closed all U →
      (∀ (j : Nat) (env : Env) (H : List HObj), Rdy all U j → runD T callK all K (n + 1) U env H → stepI T callK all j U (runD T callK all K n (without U j)) env H) ∧
      (∀ (i : Nat) (env : Env) (H : List HObj), Rdy all U i → stillAt all i = true → stepI T callK all i U (runD T callK all K n (without U i)) env H → runD T callK all K (n + 1) U env H) := by
  intro n
  induction n with
  | zero =>
    intro U hlen hlt hcl
    refine ⟨fun j env H hj h => ?_, fun i env H hi hs h => ?_⟩
    · have hU : U ≠ [] := fun he => by rw [he] at hj; cases hj.1
      rw [runD_step hU] at h
      have hone : ∀ k ∈ U, k = j := fun k hk => by
        cases U with
        | nil => cases hk
        | cons x U =>
          have : U = [] := by simpa using hlen
          subst this
          rw [List.mem_singleton] at hk
          have := hj.1
          rw [List.mem_singleton] at this
          rw [hk, this]
      split at h
      · rename_i k hk
        have := hone k (stillIn_some hk).1.1
        rw [this] at h
        exact h
      · exact allOf_mem h j (List.mem_filter.2 ⟨hj.1, readyIn_iff.2 hj.2⟩)
    · have hU : U ≠ [] := fun he => by rw [he] at hi; cases hi.1
      rw [runD_step hU]
      have hone : ∀ k ∈ U, k = i := fun k hk => by
        cases U with
        | nil => cases hk
        | cons x U =>
          have : U = [] := by simpa using hlen
          subst this
          rw [List.mem_singleton] at hk
          have := hi.1
          rw [List.mem_singleton] at this
          rw [hk, this]
      split
      · rename_i k hk
        have := hone k (stillIn_some hk).1.1
        rw [this]
        exact h
      · rename_i hk
        have := stillIn_none hk hi
        rw [hs] at this
        simp at this
  | succ n ih =>
    intro U hlen hlt hcl
    have sub : ∀ i ∈ U, (without U i).length ≤ n + 1 ∧ ∀ k ∈ without U i, k < all.length := fun i hi => ⟨by have := without_len hi; omega, fun k hk => hlt k (mem_without.1 hk).1⟩
    have cls : ∀ i, Rdy all U i → Closed all (without U i) := fun i hr => hcl.without hr
    refine ⟨fun j env H hj h => ?_, fun i env H hi hs h => ?_⟩
    · have hU : U ≠ [] := fun he => by rw [he] at hj; cases hj.1
      rw [runD_step hU] at h
      split at h
      · rename_i i hi
        obtain ⟨hri, hsi⟩ := stillIn_some hi
        by_cases hij : i = j
        · rw [← hij]; exact h
        · -- i is taken; j comes first
          have h1 : stepI T callK all i U (stepI T callK all j (without U i) (runD T callK all K n (without (without U i) j))) env H :=
            stepI_mono hm (fun e H hh => (ih (without U i) (sub i hri.1).1 (sub i hri.1).2 (cls i hri)).1 j e H (hj.without (Ne.symm hij)) hh) h
          obtain ⟨x, y, hfr⟩ := hp i j (hlt i hri.1) (hlt j hj.1) hij (hri.2 j hj.1) (hj.2 i hri.1) hsi
          have h2 := swap_step hm hfr hcl hri.1 (hlt i hri.1) h1
          change stepI T callK all j U (stepI T callK all i (without U j) (runD T callK all K n (without (without U i) j))) env H at h2
          rw [without_comm] at h2
          exact stepI_mono hm (fun e H hh => (ih (without U j) (sub j hj.1).1 (sub j hj.1).2 (cls j hj)).2 i e H (hri.without hij) hsi hh) h2
      · exact allOf_mem h j (List.mem_filter.2 ⟨hj.1, readyIn_iff.2 hj.2⟩)
    · have hU : U ≠ [] := fun he => by rw [he] at hi; cases hi.1
      rw [runD_step hU]
      split
      · rename_i k hk
        obtain ⟨hrk, hsk⟩ := stillIn_some hk
        by_cases hik : k = i
        · rw [hik]; exact h
        · have h1 : stepI T callK all i U (stepI T callK all k (without U i) (runD T callK all K n (without (without U i) k))) env H :=
            stepI_mono hm (fun e H hh => (ih (without U i) (sub i hi.1).1 (sub i hi.1).2 (cls i hi)).1 k e H (hrk.without hik) hh) h
          obtain ⟨x, y, hfr⟩ := hp i k (hlt i hi.1) (hlt k hrk.1) (Ne.symm hik) (hi.2 k hrk.1) (hrk.2 i hi.1) hs
          have h2 := swap_step hm hfr hcl hi.1 (hlt i hi.1) h1
          change stepI T callK all k U (stepI T callK all i (without U k) (runD T callK all K n (without (without U i) k))) env H at h2
          rw [without_comm] at h2
          exact stepI_mono hm (fun e H hh => (ih (without U k) (sub k hrk.1).1 (sub k hrk.1).2 (cls k hrk)).2 i e H (hi.without (Ne.symm hik)) hs hh) h2
      · rename_i hk
        have := stillIn_none hk hi
        rw [hs] at this
        simp at this
end
theorem depB_edge {all : List Oper} {i k : Nat} {o : Oper} (hi : nth all i = some o) : depB all i k = true ↔ ∃ e ∈ o.after, Region.binds .any e = true ∧ e.on = k := by
  unfold depB
  rw [hi]
  simp only
  unfold depOn
  rw [List.any_eq_true]
  constructor
  · rintro ⟨e, he, hb⟩
    cases h1 : Region.binds .any e with
    | false => rw [h1] at hb; simp at hb
    | true =>
      rw [h1] at hb
      exact ⟨e, by simpa using he, h1, Nat.eq_of_beq_eq_true hb⟩
  · rintro ⟨e, he, h1, rfl⟩
    exact ⟨e, by simpa using he, by rw [h1]; exact Nat.beq_refl _⟩
section
variable {P : Program} {T : Tab} {n0 : Nat} {callK : CallK}
theorem any_sound (hO : OpSound P T n0) (hC : CallsOk P n0 callK) (hm : MonoK callK) {c0 : Ctx} {w0 : World} {K : St → Prop} {all : List Oper} (hE : ∀ (i : Nat) (o : Oper), nth all i = some o → ∀ e ∈ o.after, Region.binds .any e = true → e.on < all.length ∧ e.on ≠ i)
    (hp : ∀ i j, i < all.length → j < all.length → i ≠ j → depB all i j = false → depB all j i = false → stillAt all i = true → ∃ x y, Free all i j x y) :
    ∀ (fuel : Nat) (U : List Nat) (listed : Array Bool) {c : Ctx} {w : World} {env : Env} {H : List HObj} {a : Act}, listed.size = all.length → (∀ i, i < all.length → (listed.getD i true = false ↔ i ∈ U)) → (∀ i ∈ U, i < all.length) → Closed all U → U.length ≤ fuel → Step1 n0 c0 c w0 w → StR n0 c w ⟨env, H⟩ a →
      runD T callK all K fuel U env H → wpAny P .any all.toArray (RegQ n0 c0 w0 K) fuel listed a w := by
  intro fuel
  induction fuel with
  | zero =>
    intro U listed c w env H a hsz hl hlt hcl hlen hs hr h
    have hC0 : U = [] := List.eq_nil_of_length_eq_zero (by omega)
    subst hC0
    refine ⟨?_, rfl, c, ⟨env, H⟩, hs, hr, h⟩
    cases hrd : Region.ready .any all.toArray listed with
    | nil => rfl
    | cons i r =>
      have hmem : i ∈ Region.ready .any all.toArray listed := by rw [hrd]; simp
      obtain ⟨h1, o, ho, _⟩ := mem_ready.1 hmem
      have hi : i < all.length := by
        have := (Array.getElem?_eq_some_iff.1 ho).1
        simpa using this
      exact absurd ((hl i hi).1 h1) (by simp)
  | succ fuel ih =>
    intro U listed c w env H a hsz hl hlt hcl hlen hs hr h
    have hlisted : ∀ k, k ∈ U → listed.getD k false = false := by
      intro k hk
      have hk2 := hlt k hk
      have := (hl k hk2).2 hk
      simp only [Array.getD_eq_getD_getElem?] at this ⊢
      rw [Array.getElem?_eq_getElem (by rw [hsz]; exact hk2)] at this ⊢
      exact this
    refine ⟨fun hrd => ?_, fun i hi => ?_⟩
    · cases hU : U with
      | nil => rw [hU] at h; exact ⟨rfl, c, ⟨env, H⟩, hs, hr, h⟩
      | cons u0 U0 =>
        exfalso
        have hne : U ≠ [] := by rw [hU]; simp
        -- something may come
        obtain ⟨i, hri⟩ : ∃ i, Rdy all U i := by
          rw [runD_step hne] at h
          split at h
          · rename_i k hk; exact ⟨k, (stillIn_some hk).1⟩
          · cases hfl : U.filter (readyIn all U) with
            | nil => rw [hfl] at h; exact h.elim
            | cons k r =>
              have : k ∈ U.filter (readyIn all U) := by rw [hfl]; simp
              obtain ⟨h1, h2⟩ := List.mem_filter.1 this
              exact ⟨k, h1, readyIn_iff.1 h2⟩
        have hilt := hlt i hri.1
        have hiall : all.toArray[i]? = some all[i] := by simp [hilt]
        have hn : nth all i = some all[i] := by rw [nth_get]; simp [hilt]
        have hmem : i ∈ Region.ready .any all.toArray listed := by
          rw [mem_ready]
          refine ⟨(hl i hilt).2 hri.1, all[i], hiall, fun e he hb => ?_⟩
          have hd : depB all i e.on = true := (depB_edge hn).2 ⟨e, he, hb, rfl⟩
          obtain ⟨hek, hne⟩ := hE i _ hn e he hb
          have hnot : e.on ∉ U := fun hin => by rw [hri.2 _ hin] at hd; simp at hd
          have := mt (hl e.on hek).1 hnot
          simp only [Array.getD_eq_getD_getElem?] at this ⊢
          rw [Array.getElem?_eq_getElem (by rw [hsz]; exact hek)] at this ⊢
          simpa using this
        rw [hrd] at hmem
        cases hmem
    · obtain ⟨h1, o, ho, hdeps⟩ := mem_ready.1 hi
      have hilt : i < all.length := by
        have := (Array.getElem?_eq_some_iff.1 ho).1
        simpa using this
      have hn : nth all i = some o := by rw [nth_get]; simpa using ho
      have hiC := (hl i hilt).1 h1
      have hready : Rdy all U i := by
        refine ⟨hiC, fun k hk => ?_⟩
        cases hb : depB all i k with
        | false => rfl
        | true =>
          obtain ⟨e, he, hb1, rfl⟩ := (depB_edge hn).1 hb
          have := hdeps e he hb1
          rw [hlisted _ hk] at this
          simp at this
      have hmv : stepI T callK all i U (runD T callK all K fuel (without U i)) env H := (first_step hm hp fuel U hlen hlt hcl).1 i env H hready h
      have next : ∀ {c : Ctx} {w : World} {env : Env} {H : List HObj} {a : Act}, Step1 n0 c0 c w0 w → StR n0 c w ⟨env, H⟩ a → runD T callK all K fuel (without U i) env H → wpAny P .any all.toArray (RegQ n0 c0 w0 K) fuel (listed.setIfInBounds i true) a w := fun hs hr h => by
        refine ih (without U i) (listed.setIfInBounds i true) (by simpa using hsz) (fun k hk => ?_) (fun k hk => hlt k (mem_without.1 hk).1) (hcl.without hready) (by have := without_len hiC; omega) hs hr h
        by_cases hki : k = i
        · subst hki
          constructor
          · intro hh
            simp [hsz, hk] at hh
          · intro hh; exact absurd rfl (mem_without.1 hh).2
        · rw [getD_set_ne true (Ne.symm hki), hl k hk, mem_without]
          exact ⟨fun h => ⟨h, hki⟩, fun h => h.1⟩
      unfold wpOp
      simp only [ho]
      rw [show stepI T callK all i U (runD T callK all K fuel (without U i)) env H = guarded all env o.guard
        (fun env => gate (storeOk all U i env o.op) (opK callK (keepAt all i) H (fun v H => runD T callK all K fuel (without U i) (putD env o.dst v) H) (opR T H env o.op)))
        (fun env => runD T callK all K fuel (without U i) (putD env o.dst (.tup [])) H) by unfold stepI; rw [hn]] at hmv
      obtain ⟨env', he, hw | hw⟩ := guarded_sound hr.env hmv
      · obtain ⟨hw, hg⟩ := hw
        have hg := (gate_iff.1 hg).2
        rw [if_pos hw]
        refine .inl ?_
        unfold Oper.wp
        unfold opK at hg
        split at hg
        · exact hg.elim
        · rename_i g x H' hop
          cases g with
          | false => exact hg.elim
          | true =>
            obtain ⟨v, w', c', nx, hrun, hnx, hle, hx, hmm, hb, hst⟩ := hO.ok (o := o) he hr.mem hop
            rw [hrun]
            have hgoal := next (a := a.put o.dst v) (hs.trans ⟨hle, hb, hst⟩) ⟨(he.mono hle hst).put o.dst hx, hmm, by rw [put_defers]; exact hr.nod⟩ hg
            rcases hnx with rfl | ⟨rfl, rfl⟩
            · exact hgoal
            · exact hgoal
        · rename_i f args hop
          have hcok := hC _ _ _ _ _ hg
          obtain ⟨vals, hrun, ha⟩ := hO.call (o := o) he hr.mem hop hcok.1
          rw [hrun]
          refine (hcok.2 c w vals ha hr.mem).mono fun e w' hE => ?_
          obtain ⟨v, rfl, c', x, H', hst, hx, hmm, _, hk⟩ := hE
          exact next (a := a.put o.dst v) (hs.trans hst) ⟨(he.mono hst.le hst.stab).put o.dst hx, hmm, by rw [put_defers]; exact hr.nod⟩ hk
      · obtain ⟨hw, hg⟩ := hw
        rw [if_neg (by rw [hw]; exact Bool.false_ne_true)]
        exact next (a := a.put o.dst undef) hs ⟨he.put o.dst (.tup rfl (fun _ => default) (fun j x hx => by simp at hx) (fun j x hx => by simp at hx)), hr.mem, by rw [put_defers]; exact hr.nod⟩ hg
/-- calls, as they are asked of the model -/
def askK (P : Program) (n0 : Nat) : CallK := fun g args H keep K => CallOk P n0 g args H (kept H keep K)
theorem askK_ok : CallsOk P n0 (askK P n0) := fun _ _ _ _ _ h => h
theorem askK_mono : MonoK (askK P n0) := fun f args H keep K K' hk h => CallOk.mono h fun v H' hh => ⟨hh.1, hk v H' hh.1 hh.2⟩
theorem stepI_ask (hC : CallsOk P n0 callK) {all : List Oper} {i : Nat} {U : List Nat} {cont cont' : Env → List HObj → Prop} (hc : ∀ e H, cont e H → cont' e H) {env : Env} {H : List HObj} (h : stepI T callK all i U cont env H) : stepI T (askK P n0) all i U cont' env H := by
  cases hi : nth all i with
  | none => unfold stepI at h; rw [hi] at h; exact h.elim
  | some o =>
    rw [stepI_iff hi] at h ⊢
    rcases h with ⟨hg, hst, hk⟩ | ⟨hg, hk⟩
    · refine .inl ⟨hg, hst, ?_⟩
      unfold opK at hk ⊢
      split
      · rename_i he; rw [he] at hk; exact hk
      · rename_i g x H' he
        rw [he] at hk
        cases g with
        | false => exact hk
        | true => exact hc _ _ hk
      · rename_i f args he
        rw [he] at hk
        exact askK_mono _ _ _ _ _ _ (fun v H' _ hh => hc _ _ hh) (hC _ _ _ _ _ hk)
    · exact .inr ⟨hg, hc _ _ hk⟩
theorem runD_ask (hC : CallsOk P n0 callK) {all : List Oper} {K : St → Prop} : ∀ (n : Nat) (U : List Nat) {env : Env} {H : List HObj}, runD T callK all K n U env H → runD T (askK P n0) all K n U env H
  | 0, [], _, _, h => h
  | 0, _ :: _, _, _, h => h.elim
  | n + 1, [], _, _, h => h
  | n + 1, u :: U, env, H, h => by
    have hne : u :: U ≠ [] := by simp
    rw [runD_step hne] at h ⊢
    split
    · rename_i k hk
      rw [hk] at h
      exact stepI_ask hC (fun e H hh => runD_ask hC n _ hh) h
    · rename_i hk
      rw [hk] at h
      refine allOf_of (fun he => ?_) fun k hkm => stepI_ask hC (fun e H hh => runD_ask hC n _ hh) (allOf_mem h k hkm)
      simp only at h
      rw [he] at h
      exact h
theorem EnvR.drawn {c : Ctx} {w : World} {env : Env} {tmps : Array Value} (h : EnvR c w env tmps) : EnvR c { w with drawn := w.drawn + 1 } env tmps := EnvR.mono (w := w) (w' := { w with drawn := w.drawn + 1 }) (Ctx.le_refl c) (fun _ _ => rfl) h
theorem drawOk (hm : P.follows .mixedOrders = true) (hO : OpSound P T n0) (hC : CallsOk P n0 callK) : DrawOk P T n0 callK := by
  intro ops hcalm c0 w0 st a X id hr h
  have h1 : runD T (askK P n0) ops X ops.length (List.range ops.length) st.env st.H := runD_ask hC _ _ h
  unfold calm at hcalm
  cases hc4 : edgesOk ops with
  | false => rw [hc4] at hcalm; simp at hcalm
  | true =>
    rw [hc4] at hcalm
    have hc5 : pairsOk ops ops.length = true := hcalm
    refine wp_region_any hm ?_
    have hsz : ops.toArray.size = ops.length := by simp
    rw [hsz]
    refine any_sound (T := T) (callK := askK P n0) hO askK_ok askK_mono (fun i o hi e he hb => ?_) (fun i j hi hj hne d1 d2 hs => ?_) ops.length (List.range ops.length) _ (by simp) (fun i hi => ?_) (fun i hi => by simpa using hi) (fun k m hk hn => absurd (by simpa using hk) hn) (by simp) (c := c0) (w := { w0 with drawn := w0.drawn + 1 }) ⟨Ctx.le_refl _, ⟨rfl, rfl, rfl, Nat.le_refl _, fun _ _ => rfl⟩, fun _ _ => rfl⟩ ⟨hr.env.drawn, hr.mem.heap rfl, hr.nod⟩ h1
    · have hil : i < ops.length := by
        rw [nth_get] at hi
        exact (List.getElem?_eq_some_iff.1 hi).1
      unfold edgesOk at hc4
      have := List.all_eq_true.1 hc4 i (by simpa using hil)
      rw [hi] at this
      have := List.all_eq_true.1 this e (by simpa using he)
      rw [hb] at this
      simp only [cond_true] at this
      cases hb2 : Nat.blt e.on ops.length with
      | false => rw [hb2] at this; simp at this
      | true =>
        rw [hb2] at this
        refine ⟨(blt_iff _ _).1 hb2, fun heq => ?_⟩
        rw [heq, Nat.beq_refl] at this
        simp at this
    · unfold pairsOk at hc5
      have := List.all_eq_true.1 (List.all_eq_true.1 hc5 i (by simpa using hi)) j (by simpa using hj)
      have hno : inOrder ops i j = false := by
        unfold inOrder
        have hb : Nat.beq i j = false := by cases hb : Nat.beq i j with | false => rfl | true => exact absurd (Nat.eq_of_beq_eq_true hb) hne
        rw [hb, d1, d2]; rfl
      rw [hno] at this
      simp only [cond_false] at this
      unfold pairOk at this
      rw [hs] at this
      simp only [cond_true] at this
      cases hb : (bif stillAt ops j then true else bif addsAt ops j then true else bif storesAt ops j then antiOk ops i else false) with
      | false => rw [hb] at this; simp at this
      | true =>
        rw [hb] at this
        simp only [cond_true] at this
        split at this
        · rename_i x y hx hy
          have hne' : Nat.beq j i = false := by cases hb : Nat.beq j i with | false => rfl | true => exact absurd (Nat.eq_of_beq_eq_true hb).symm hne
          refine ⟨x, y, hx, hy, ?_, ?_, ?_, this, by unfold inOrder; rw [hne', d2, d1]; rfl⟩
          · unfold stillAt at hs; rw [hx] at hs; exact hs
          · unfold stillAt addsAt storesAt at hb
            rw [hy] at hb
            simp only at hb
            cases h6 : still y.op with
            | true => exact .inl rfl
            | false =>
              rw [h6] at hb
              simp only [cond_false] at hb
              cases h7 : adds y.op with
              | true => exact .inr (.inl rfl)
              | false =>
                rw [h7] at hb
                simp only [cond_false] at hb
                cases h8 : storesTo y.op with
                | none => rw [h8] at hb; simp at hb
                | some a =>
                  rw [h8] at hb
                  simp only [cond_true] at hb
                  refine .inr (.inr ⟨⟨a, rfl⟩, fun d hd k o hk hnk hm => ?_⟩)
                  unfold antiOk at hb
                  rw [hx] at hb
                  simp only at hb
                  rw [hd] at hb
                  simp only at hb
                  have h9 := List.all_eq_true.1 hb k (by simpa using hk)
                  rw [hnk] at h9
                  simp only at h9
                  have h10 : (o.looksAt ops.toArray).contains d = true := by simpa using hm
                  rw [h10] at h9
                  simp only [cond_true] at h9
                  cases h11 : Nat.beq k i with
                  | true => rw [h11] at h9; simp at h9
                  | false =>
                    rw [h11] at h9
                    exact ⟨fun he => by rw [he, Nat.beq_refl] at h11; simp at h11, h9⟩
          · unfold keepAt
            rw [List.any_eq_true]
            refine ⟨i, by simpa using hi, ?_⟩
            unfold inOrder
            rw [hne', d1, d2]; rfl
        · simp at this
    · simp [hi]
end
end Go.Proofs.Ytejcniaepjahbaa.Mach
