/- Texts of this session, put together. -/
import Derived.Test.YtejcniaepjahbaaDX3
import Derived.RowKit
import Derived.RowKit3
import Derived.Laws.Slices
import Derived.Lib.ConvBytes
import Derived.Laws.Strings
import Derived.Lib.Strings
import Derived.Laws.BytesArg
section
/- Base words: reading of lists and texts, answers from some number of rounds on (out of the print's words). -/
set_option linter.unusedVariables false
set_option linter.unusedSimpArgs false
namespace Go.Proofs.YtejcniaepjahbaaW.PrintWords
open Go.RowKit
def rd (xs : List Int) (i : Int) : Int := xs.getD i.toNat 0
def bt (s : ByteArray) (i : Int) : Int := if h : i.toNat < s.size then ((s[i.toNat]'h).toNat : Int) else 0
theorem bt_at (s : ByteArray) (i : Int) : ∀ h : i.toNat < s.size, ((s[i.toNat]'h).toNat : Int) = bt s i := fun h => by simp [bt, h]
def bytesOf (s : ByteArray) : List Int := s.data.toList.map fun b => (b.toNat : Int)
theorem data_length (s : ByteArray) : s.data.toList.length = s.size := by rw [Array.length_toList]; rfl
theorem bytesOf_length (s : ByteArray) : (bytesOf s).length = s.size := by rw [bytesOf, List.length_map, data_length]
theorem rd_bytesOf (s : ByteArray) (i : Int) : rd (bytesOf s) i = bt s i := by
  unfold rd bt bytesOf
  split
  · rename_i h
    have h' : i.toNat < s.data.toList.length := by rw [data_length]; exact h
    simp [List.getD_eq_getElem?_getD, List.getElem?_eq_getElem h']
    rfl
  · rename_i h
    have h' : s.data.toList.length ≤ i.toNat := by rw [data_length]; omega
    simp [List.getD_eq_getElem?_getD, List.getElem?_eq_none h']
/-- Where the first answers, the second answers the same. -/
def LeO {α : Type} (a b : Option α) : Prop := ∀ r, a = some r → b = some r
theorem LeO.refl {α : Type} (a : Option α) : LeO a a := fun _ h => h
theorem LeO.none {α : Type} (b : Option α) : LeO Option.none b := fun _ h => by cases h
theorem LeO.trans {α : Type} {a b c : Option α} (h : LeO a b) (k : LeO b c) : LeO a c := fun r hr => k r (h r hr)
theorem LeO.ite {α : Type} {c : Prop} [Decidable c] {a a' b b' : Option α} (h : LeO a a') (k : LeO b b') : LeO (if c then a else b) (if c then a' else b') := by
  split
  · exact h
  · exact k
theorem LeO.bind {α β : Type} {a a' : Option α} {f f' : α → Option β} (h : LeO a a') (k : ∀ x, LeO (f x) (f' x)) : LeO (a.bind f) (a'.bind f') := by
  intro r hr
  obtain ⟨x, hx, hf⟩ := Option.bind_eq_some_iff.1 hr
  exact Option.bind_eq_some_iff.2 ⟨x, h x hx, k x r hf⟩
theorem LeO.map {α β : Type} {a a' : Option α} (f : α → β) (h : LeO a a') : LeO (a.map f) (a'.map f) := by
  intro r hr
  obtain ⟨x, hx, hf⟩ := Option.map_eq_some_iff.1 hr
  exact Option.map_eq_some_iff.2 ⟨x, h x hx, hf⟩
theorem more_rounds {α : Type} {g : Nat → Option α} (h : ∀ k, LeO (g k) (g (k + 1))) (k : Nat) : ∀ j, LeO (g k) (g (k + j))
  | 0 => LeO.refl _
  | j + 1 => (more_rounds h k j).trans (h (k + j))
theorem at_rounds {α : Type} {g : Nat → Option α} (h : ∀ k, LeO (g k) (g (k + 1))) {k k' : Nat} (hk : k ≤ k') {r : α} (hr : g k = some r) : g k' = some r := by
  have := more_rounds h k (k' - k) r hr
  rwa [Nat.add_sub_cancel' hk] at this
/-- Two that come to their answers, each at rounds of its own, come to them at one number. -/
theorem together {α β : Type} {g : Nat → Option α} {f : Nat → Option β} (hg : ∀ k, LeO (g k) (g (k + 1))) (hf : ∀ k, LeO (f k) (f (k + 1))) {r : α} {q : β} (h : ∃ k, g k = some r) (h' : ∃ k, f k = some q) : ∃ k, g k = some r ∧ f k = some q := by
  obtain ⟨k, hk⟩ := h
  obtain ⟨k', hk'⟩ := h'
  exact ⟨max k k', at_rounds hg (Nat.le_max_left _ _) hk, at_rounds hf (Nat.le_max_right _ _) hk'⟩
def Ev {α : Type} (g : Nat → Option α) (r : α) : Prop := ∃ K, ∀ k, K ≤ k → g k = some r
theorem Ev.of {α : Type} {g : Nat → Option α} {r : α} (hg : ∀ k, LeO (g k) (g (k + 1))) {k : Nat} (h : g k = some r) : Ev g r := ⟨k, fun _ hk => at_rounds hg hk h⟩
theorem Ev.now {α : Type} (r : α) : Ev (fun _ => some r) r := ⟨0, fun _ _ => rfl⟩
theorem Ev.rounds {α : Type} {g : Nat → Option α} {r : α} (h : Ev g r) : ∃ k, g k = some r := by
  obtain ⟨K, h⟩ := h
  exact ⟨K, h K (Nat.le_refl _)⟩
theorem Ev.bind {α β : Type} {g : Nat → Option α} {f : Nat → α → Option β} {a : α} {r : β} (h : Ev g a) (k : Ev (fun n => f n a) r) : Ev (fun n => (g n).bind (f n)) r := by
  obtain ⟨K, h⟩ := h
  obtain ⟨K', k⟩ := k
  refine ⟨max K K', fun n hn => ?_⟩
  have h1 := h n (by omega)
  have h2 := k n (by omega)
  simp only [h1, Option.bind_some]
  exact h2
/-- One round of a loop. -/
theorem Ev.step {α : Type} {g f : Nat → Option α} {r : α} (h : ∀ k, g (k + 1) = f k) (k : Ev f r) : Ev g r := by
  obtain ⟨K, k⟩ := k
  refine ⟨K + 1, fun n hn => ?_⟩
  obtain ⟨m, rfl⟩ : ∃ m, n = m + 1 := ⟨n - 1, by omega⟩
  rw [h]
  exact k m (by omega)
theorem Ev.congr {α : Type} {g f : Nat → Option α} {r : α} (h : ∀ k, g k = f k) (k : Ev f r) : Ev g r := by
  obtain ⟨K, k⟩ := k
  exact ⟨K, fun n hn => (h n).trans (k n hn)⟩
/-- The greater of two whole numbers, ars Go's max tells it. -/
abbrev mx (a b : Int) : Int := if a < b then b else a
/-- The smaller of two whole numbers, ars Go's min tells it. -/
abbrev mn (a b : Int) : Int := if b < a then b else a
end Go.Proofs.YtejcniaepjahbaaW.PrintWords
namespace Go.Proofs.YtejcniaepjahbaaW.PrintLast
end Go.Proofs.YtejcniaepjahbaaW.PrintLast
namespace Go.Proofs.YtejcniaepjahbaaW.PrintMore
end Go.Proofs.YtejcniaepjahbaaW.PrintMore
end
section
/- From the words' answers to the executor: tests one by one; functions with handed arrays. -/
set_option linter.unusedVariables false
namespace Go.Proofs.Ytejcniaepjahbaa.Lib
open Go Go.Proofs.Ytejcniaepjahbaa.Mach Go.Proofs.YtejcniaepjahbaaW.PrintWords Go.RowKit
section
variable {A B : Prop}
theorem bif_pos {p : Prop} {i : Decidable p} (h : p) (a : A) : bif decide p then A else B := by rw [decide_eq_true h]; exact a
theorem bif_neg {p : Prop} {i : Decidable p} (h : ¬ p) (b : B) : bif decide p then A else B := by rw [decide_eq_false h]; exact b
theorem bif_and {a b : Bool} (h : bif a then (bif b then A else B) else B) : bif a && b then A else B := by cases a <;> exact h
theorem bif_not {a : Bool} (h : bif a then B else A) : bif !a then A else B := by cases a <;> exact h
theorem bif_cc {a b c : Bool} (h : bif a then (bif b then A else B) else (bif c then A else B)) : bif (bif a then b else c) then A else B := by cases a <;> exact h
theorem bif_tt (a : A) : bif true then A else B := a
theorem bif_ff (a : B) : bif false then A else B := a
theorem bif_t {b : Bool} (h : b = true) (a : A) : bif b then A else B := by rw [h]; exact a
theorem bif_f {b : Bool} (h : ¬ b = true) (a : B) : bif b then A else B := by cases b <;> first | exact a | exact absurd rfl h
theorem bif_ble {n m : Nat} (h : n ≤ m) (a : A) : bif n.ble m then A else B := by rw [(ble_iff _ _).2 h]; exact a
theorem bif_blt {n m : Nat} (h : n < m) (a : A) : bif n.blt m then A else B := by rw [(blt_iff _ _).2 h]; exact a
theorem bif_beq {n m : Nat} (h : n = m) (a : A) : bif n.beq m then A else B := by subst h; rw [Nat.beq_refl]; exact a
theorem bif_eqL {l m : List UInt8} (h : l = m) (a : A) : bif l == m then A else B := by subst h; rw [beq_self_eq_true]; exact a
theorem bif_neL {l m : List UInt8} (h : ¬ l = m) (a : B) : bif l == m then A else B := by rw [beq_eq_false_iff_ne.2 h]; exact a
end
theorem w64i (x : Int) : wrap64 x = IntKind.i64.wrap x := by rw [IntKind.wrap_i64]; unfold wrap64; omega
theorem u32w (x : Int) : IntKind.u32.wrap x = x % 4294967296 := by unfold IntKind.wrap; rfl
theorem u8w (x : Int) : IntKind.u8.wrap x = x % 256 := by unfold IntKind.wrap; rfl
theorem bt_get (s : ByteArray) (i : Int) : bt s i = ((s.data.toList.getD i.toNat 0).toNat : Int) := by
  rw [← rd_bytesOf]
  unfold rd bytesOf
  rw [List.getD_eq_getElem?_getD, List.getElem?_map, List.getD_eq_getElem?_getD]
  cases s.data.toList[i.toNat]? <;> rfl
theorem mx0 (w : Int) : (if w > 0 then w else 0) = mx 0 w := rfl
theorem mnf (a w : Int) : (if w < a then w else a) = mn a w := rfl
theorem emod1 (x y : Int) : (x % 4294967296 + y) % 4294967296 = (x + y) % 4294967296 := by omega
theorem emod2 (x y : Int) : (x + y % 4294967296) % 4294967296 = (x + y) % 4294967296 := by omega
theorem emod3 (x : Int) : x % 4294967296 % 256 = x % 256 := by omega
theorem emod4 (x : Int) : x % 256 % 4294967296 = x % 256 := by omega
theorem emod5 (x : Int) : IntKind.i64.wrap (x % 256) = x % 256 := by rw [IntKind.wrap_i64]; omega
theorem tmodN (x : Int) : (x % 4294967296).tmod 1000000000 = x % 4294967296 % 1000000000 := Int.tmod_eq_emod_of_nonneg (by omega)
theorem tdivN (x : Int) : (x % 4294967296).tdiv 1000000000 % 4294967296 = x % 4294967296 / 1000000000 := by rw [Int.tdiv_eq_ediv_of_nonneg (by omega)]; omega
theorem listE : (ByteArray.mk #[]).toList = ([] : List UInt8) := by rw [ByteArray.toList_eq]
theorem list48 : (ByteArray.mk #[48]).toList = ([48] : List UInt8) := by rw [ByteArray.toList_eq]
/-! ### results -/
theorem res_own {Q : Res} {e : ETy} {l : List e.D} {fz : Bool} {id : Nat} {H : List HObj} (ho : objAt H id = .typed e l fz) (hq : Q (.own 0) [.typed e l fz]) : resK Q (.own id) H :=
  ⟨.own 0, [.typed e l fz], hq, rfl, rfl, [id], rfl, by simp, fun k i h => by
    match k, h with
    | 0, h => cases h; exact congrArg some ho.symm, rfl⟩
/-- a new array, ars a value that is only read -/
theorem con_imm {P : Program} {g : FuncId} {args : List AV} {e : ETy} {l : List e.D} {Q : Res} (h : Con P g args fun v o => v = .own 0 ∧ ∃ fz, o = [.typed e l fz]) (hq : Q (.imm e l) []) : Con P g args Q :=
  h.sealTo fun v o hv => by
    obtain ⟨rfl, fz, rfl⟩ := hv
    exact ⟨_, ⟨e, l, fz, rfl, rfl⟩, hq⟩
/-! ### functions that call others with handed arrays -/
section
variable {f : FuncId} {gn : FnT} (hg : find tab.fn f = some gn) {C : FuncId → List AV → Res → Prop} (hC : ∀ g xs Q, C g xs Q → Con Try.prog g xs Q) {CH : List (Nat × List Bool × HCtr)} (hH : ∀ g p, find CH g = some p → ∀ xs os Q, p.2 xs os Q → ConH Try.prog g xs os Q)
  {inl : List Nat} {LT : List (Nat × List Nat)} {NT : List (Nat × ETy)} {K : Res} {n0 : Nat}
include hg hC hH
theorem goodHN {todo : List Item} {st : St} (h : execN tab (mixH tab CH C inl 400) (maskN LT NT (GoodL Try.prog n0 f K)) (finK tab gn.res K) 400 todo st) : GoodL Try.prog n0 f K todo st :=
  good_ofN tabOk hmo (mixH_ok tabOk hmo hH hC inl 400) (fnI f gn hg) h
theorem roundHN {r : Nat} {st : St} (h : execN tab (mixH tab CH C inl 400) (maskN LT NT (GoodL Try.prog n0 f K)) (finK tab gn.res K) 400 (roundAt gn r) st) : GoodL Try.prog n0 f K (headAt gn r) st :=
  round_ok (goodHN hg hC hH h)
theorem conHN {args : List AV} {Q : Res} (hn : Nat.ble args.length gn.n = true)
    (h : ∀ n0, execN tab (mixH tab CH C inl 400) (maskN LT NT (GoodL Try.prog n0 f (resK Q))) (finK tab gn.res (resK Q)) 400 [.code gn.body] ⟨initEnv gn.n args, []⟩) : Con Try.prog f args Q :=
  con_of (fnI f gn hg) hn fun n0 => goodHN hg hC hH (h n0)
end
/-! ### functions that write into handed arrays -/
section
variable {f : FuncId} {gn : FnT} (hg : find tab.fn f = some gn) {C : FuncId → List AV → Res → Prop} (hC : ∀ g xs Q, C g xs Q → Con Try.prog g xs Q)
  {inl : List Nat} {LT : List (Nat × List Nat)} {NT : List (Nat × ETy)} {K : Res} {n0 m : Nat} {hv : Nat → Value × Nat}
include hg hC
theorem goodW {todo : List Item} {st : St} (h : execN tab (mixE tab C inl 400) (maskH m LT NT (GoodH Try.prog n0 f m hv K)) (finK tab gn.res K) 400 todo st) : GoodH Try.prog n0 f m hv K todo st :=
  good_ofH tabOk hmo (mixE_ok tabOk hmo hC inl 400) (fnI f gn hg) h
theorem roundW {r : Nat} {st : St} (h : execN tab (mixE tab C inl 400) (maskH m LT NT (GoodH Try.prog n0 f m hv K)) (finK tab gn.res K) 400 (roundAt gn r) st) : GoodH Try.prog n0 f m hv K (headAt gn r) st :=
  round_okH (goodW hg hC h)
theorem conW {args : List AV} {os : List HObj} {Q : Res} (hn : Nat.ble args.length gn.n = true)
    (h : ∀ n0 hv, execN tab (mixE tab C inl 400) (maskH os.length LT NT (GoodH Try.prog n0 f os.length hv (resH os.length Q))) (finK tab gn.res (resH os.length Q)) 400 [.code gn.body] ⟨initEnv gn.n args, os⟩) : ConH Try.prog f args os Q :=
  conH_of (fnI f gn hg) hn fun n0 hv => goodW hg hC (h n0 hv)
end
theorem hands_ok {L : List (Nat × List Bool × HCtr)} (h : ∀ p ∈ L, ∀ xs os Q, p.2.2 xs os Q → ConH Try.prog p.1 xs os Q) : ∀ g p, find L g = some p → ∀ xs os Q, p.2 xs os Q → ConH Try.prog g xs os Q :=
  fun g p hp xs os Q hq => h _ (find_mem hp) xs os Q hq
end Go.Proofs.Ytejcniaepjahbaa.Lib
end
section
/- Deals: Missing: its contract holds. -/
set_option linter.unusedVariables false
set_option linter.unusedSimpArgs false
namespace Go.Proofs.Ytejcniaepjahbaa.Lib
open Go Go.Proofs.Ytejcniaepjahbaa.Mach
/-- the places of 'false' among the first x -/
def falsesK (l : List Bool) (x : Nat) : List Int := ((List.range x).filter fun i => !l.getD i false).map fun (i : Nat) => (i : Int)
theorem falsesK_len (l : List Bool) (x : Nat) : (falsesK l x).length ≤ x := by
  unfold falsesK
  rw [List.length_map]
  exact Nat.le_trans (List.length_filter_le _ _) (by simp)
theorem falsesK_succ (l : List Bool) (x : Nat) : falsesK l (x + 1) = if (!l.getD x false) = true then falsesK l x ++ [(x : Int)] else falsesK l x := by
  unfold falsesK
  rw [List.range_succ, List.filter_append, List.map_append]
  by_cases h : (!l.getD x false) = true
  · rw [if_pos h, List.filter_cons, if_pos h]; rfl
  · rw [if_neg h, List.filter_cons, if_neg h]; simp
theorem res_ownT {Q : Res} {e : ETy} {l : List e.D} {fz : Bool} (hq : Q (.own 0) [.typed e l fz]) : resK Q (.own 0) [.typed e l fz] := res_own (H := [.typed e l fz]) (id := 0) rfl hq
theorem wrD {x n : Nat} (h : x < n) (hn : n ≤ 1000000000000000000) : IntKind.i64.wrap ((x : Int) + 1) = ((x + 1 : Nat) : Int) := by rw [wr (by omega) (by omega)]; omega
theorem miss_con {t : Tb} {Q : Res} (h : missC t Q) : Con Try.prog 53 [tbAV t] Q := by
  obtain ⟨⟨h1, h2, h3, h4⟩, hq⟩ := h
  obtain ⟨tn, ts, ta, tb, tc, td, te⟩ := t
  unfold missV at hq
  simp only at h1 h2 h3 h4 hq
  refine conN (gn := fnT Try.f53) (by kernel_rfl) con0_ok (inl := []) (LT := miss_live) (NT := miss_nils) rfl fun n0 => ?_
  refine (miss_E tn ts ta tb tc td te n0 _).symm ▸ ?_
  by_cases hs : ts = 1
  · refine bif_pos hs ?_
    rw [if_pos (by omega), if_pos hs] at hq
    refine loopN (f := 53) (gn := fnT Try.f53) (n0 := n0) (K := resK Q) (r := 6) (by kernel_rfl) con0_ok (inl := []) (LT := miss_live) (NT := miss_nils) (fun x : Nat => miss_s6_0 tn ts ta tb tc td te (tb.length : Int) (x : Int) (falsesK tb x)) (fun x => tb.length - x) (fun x => x ≤ tb.length) (fun x hp ih => ?_) 0 (Nat.zero_le _)
    rw [miss_s6_0_E]
    by_cases hx : x < tb.length
    · have ih' := ih (x + 1) (by omega) (by omega)
      have hlen := falsesK_len tb x
      rw [falsesK_succ] at ih'
      refine bif_pos (by omega) (bif_and (bif_pos (by omega) (bif_pos (by omega) ?_)))
      rw [Int.toNat_natCast, wrD hx (by omega)]
      by_cases hb : (!tb.getD x false) = true
      · rw [if_pos hb] at ih'
        refine bif_t hb (bif_t (by rw [cond_true]; exact decide_eq_true (by omega)) (bif_t ?_ ih'))
        rw [show (falsesK tb x).length + [(x : Int)].length = (falsesK tb x).length + 1 from rfl, (ble_iff _ _).2 (show (falsesK tb x).length + 1 ≤ 9223372036854775807 by omega)]
        exact (ble_iff _ _).2 (by omega)
      · rw [if_neg hb] at ih'
        exact bif_f hb ih'
    · have hxx : x = tb.length := by omega
      subst hxx
      exact bif_neg (by omega) (res_ownT hq)
  · refine bif_neg hs ?_
    rw [if_neg hs] at hq
    by_cases h1s : ts ≤ 1
    · rw [if_pos h1s] at hq
      refine loopN (f := 53) (gn := fnT Try.f53) (n0 := n0) (K := resK Q) (r := 6) (by kernel_rfl) con0_ok (inl := []) (LT := miss_live) (NT := miss_nils) (fun x : Nat => miss_s6_1 tn ts ta tb tc td te (ta.length : Int) (x : Int) (falsesK ta x)) (fun x => ta.length - x) (fun x => x ≤ ta.length) (fun x hp ih => ?_) 0 (Nat.zero_le _)
      rw [miss_s6_1_E]
      by_cases hx : x < ta.length
      · have ih' := ih (x + 1) (by omega) (by omega)
        have hlen := falsesK_len ta x
        rw [falsesK_succ] at ih'
        refine bif_pos (by omega) (bif_and (bif_pos (by omega) (bif_pos (by omega) ?_)))
        rw [Int.toNat_natCast, wrD hx (by omega)]
        by_cases hb : (!ta.getD x false) = true
        · rw [if_pos hb] at ih'
          refine bif_t hb (bif_t (by rw [cond_true]; exact decide_eq_true h1s) (bif_t ?_ ih'))
          rw [show (falsesK ta x).length + [(x : Int)].length = (falsesK ta x).length + 1 from rfl, (ble_iff _ _).2 (show (falsesK ta x).length + 1 ≤ 9223372036854775807 by omega)]
          exact (ble_iff _ _).2 (by omega)
        · rw [if_neg hb] at ih'
          exact bif_f hb ih'
      · have hxx : x = ta.length := by omega
        subst hxx
        exact bif_neg (by omega) (res_ownT hq)
    · rw [if_neg h1s] at hq
      refine loopN (f := 53) (gn := fnT Try.f53) (n0 := n0) (K := resK Q) (r := 6) (by kernel_rfl) con0_ok (inl := []) (LT := miss_live) (NT := miss_nils) (fun x : Nat => miss_s6_1 tn ts ta tb tc td te (ta.length : Int) (x : Int) []) (fun x => ta.length - x) (fun x => x ≤ ta.length) (fun x hp ih => ?_) 0 (Nat.zero_le _)
      rw [miss_s6_1_E]
      by_cases hx : x < ta.length
      · have ih' := ih (x + 1) (by omega) (by omega)
        refine bif_pos (by omega) (bif_and (bif_pos (by omega) (bif_pos (by omega) ?_)))
        rw [Int.toNat_natCast, wrD hx (by omega)]
        by_cases hb : (!ta.getD x false) = true
        · exact bif_t hb (bif_f (by rw [cond_true]; exact fun h => h1s (of_decide_eq_true h)) ih')
        · exact bif_f hb ih'
      · exact bif_neg (by omega) (res_ownT hq)
end Go.Proofs.Ytejcniaepjahbaa.Lib
end
section
/- Deals: what the law needs of numbers and lists. -/
set_option linter.unusedVariables false
set_option linter.unusedSimpArgs false
namespace Go.Proofs.Ytejcniaepjahbaa.Lib
open Go Go.Proofs.Ytejcniaepjahbaa.Mach
theorem fits_of_draw {n : Int} {l : List Int} (h : drawV n l = 0) : Deal.fitsV n l = 0 := by
  have hl := drawV_len h
  unfold Deal.fitsV
  rw [if_neg (by omega), if_pos fun j hj => drawV_in h hj]
theorem fresh_getD {n : Int} (h0 : 0 ≤ n) (h52 : n ≤ 52) {i : Nat} (hi : i < n.toNat) : (freshV n).getD i 0 = (i : Int) := by
  unfold freshV
  rw [if_neg (by omega), List.getD_eq_getElem?_getD, List.getElem?_map, List.getElem?_range hi]; rfl
theorem fresh_len {n : Int} (h0 : 0 ≤ n) (h52 : n ≤ 52) : (freshV n).length = n.toNat := by
  unfold freshV
  rw [if_neg (by omega), List.length_map, List.length_range]
theorem fresh_deck {n : Int} (h0 : 0 ≤ n) (h52 : n ≤ 52) : deckV (freshV n) = 0 := by
  have hl := fresh_len h0 h52
  unfold deckV
  rw [if_neg (by omega)]
  refine firstN_zero fun j hj => ?_
  unfold deckE
  rw [fresh_getD h0 h52 (by omega), if_neg (by omega), if_neg]
  intro hm
  obtain ⟨i, hi, he⟩ := List.getElem_of_mem hm
  rw [List.length_take] at hi
  have hij : i < j := by omega
  rw [List.getElem_take] at he
  have := fresh_getD h0 h52 (i := i) (by omega)
  rw [List.getD_eq_getElem?_getD, List.getElem?_eq_getElem (by omega)] at this
  simp only [Option.getD_some] at this
  omega
theorem comb_zero {n : Int} {op : List (List Int)} (h0 : 0 ≤ n) (h52 : n ≤ 52) (h6 : op.length ≤ 6) (h : ∀ i, i < op.length → drawV n (op.getD i []) = 0) : Deal.combE n op = 0 := by
  unfold Deal.combE
  rw [if_neg (by omega), if_neg (by omega)]
  exact Deal.firstE_all fun y hy => fits_of_draw (h y hy)
theorem comb_len {n : Int} {op : List (List Int)} : (Deal.combOut n op).length = (n - 1).toNat := by
  unfold Deal.combOut
  rw [List.length_map, List.length_range]
theorem comb_draw {n : Int} {op : List (List Int)} (h0 : 0 ≤ n) : drawV n (Deal.combOut n op) = 0 := by
  have hl := comb_len (n := n) (op := op)
  unfold drawV
  rw [if_neg (by omega)]
  refine firstN_zero fun j hj => ?_
  have hg : (Deal.combOut n op).getD j 0 = Deal.colSum op j % (n - j) := by
    unfold Deal.combOut
    rw [List.getD_eq_getElem?_getD, List.getElem?_map, List.getElem?_range (by omega)]; rfl
  unfold drawE
  rw [hg, if_neg]
  have h1 := Int.emod_nonneg (Deal.colSum op j) (show n - j ≠ 0 by omega)
  have h2 := Int.emod_lt_of_pos (Deal.colSum op j) (show 0 < n - j by omega)
  omega
theorem falses_none {l : List Bool} (h : ¬ false ∈ l) : falses l = [] := by
  unfold falses
  rw [List.filter_eq_nil_iff.2 fun i hi => ?_]
  · rfl
  · have hi' : i < l.length := by simpa using hi
    rw [List.getD_eq_getElem?_getD, List.getElem?_eq_getElem hi']
    simp only [Option.getD_some, Bool.not_eq_true', Bool.not_eq_false]
    cases hc : l[i] with
    | true => rfl
    | false => exact absurd (hc ▸ List.getElem_mem hi') h
end Go.Proofs.Ytejcniaepjahbaa.Lib
end
section
/- Equations of functions (printed). -/
namespace Go.Proofs.Ytejcniaepjahbaa.Mach
open Go Go.Proofs.Ytejcniaepjahbaa Go.Proofs.Ytejcniaepjahbaa.Lib
set_option linter.unusedVariables false
def dealt_live : List (Nat × List Nat) := [(10, [0, 1, 4, 5, 13, 15, 39, 40, 41]), (23, [1, 4, 20, 21, 22, 23, 112, 113]), (28, [1, 4, 20, 21, 22, 23, 123, 124]), (32, [1, 4, 20, 21, 22, 23, 25, 26, 123, 124, 127, 128, 129])]
def dealt_nils : List (Nat × ETy) := [(15, ETy.one (CTy.int IntKind.i64)), (39, ETy.one CTy.bool), (20, ETy.one (CTy.int IntKind.i64)), (22, ETy.one (CTy.int IntKind.i64)), (23, ETy.one (CTy.int IntKind.i64)), (127, ETy.one (CTy.slice (ETy.one (CTy.int IntKind.i64))))]
noncomputable def dealt_s10_0 (tn : Int) (ts : Int) (ta : List Bool) (tb : List Bool) (tc : List Int) (td : List (List Int)) (te : Int) (n : Int) (sealed : List Bool) (opened : List Bool) (op : List (List Int)) (ch : Int) (x0 : Int) (x1 : Int) (x2 : Int) (x3 : List Int) : St := stOf 158 [(0, AV.adr [AV.int IntKind.i64 tn, AV.int IntKind.i64 ts, AV.imm (ETy.one CTy.bool) ta, AV.imm (ETy.one CTy.bool) tb, AV.imm (ETy.one (CTy.int IntKind.u64)) tc, AV.imm (ETy.one (CTy.slice (ETy.one (CTy.int IntKind.i64)))) td, AV.int IntKind.i64 te]), (1, AV.int IntKind.i64 n), (4, AV.imm (ETy.one (CTy.slice (ETy.one (CTy.int IntKind.i64)))) op), (5, AV.int IntKind.i64 ch), (13, AV.int IntKind.i64 x0), (15, AV.own 0), (39, AV.imm (ETy.one CTy.bool) opened), (40, AV.int IntKind.i64 x1), (41, AV.int IntKind.i64 x2)] [HObj.typed (ETy.one (CTy.int IntKind.i64)) x3 false]
noncomputable def dealt_s10_1 (tn : Int) (ts : Int) (ta : List Bool) (tb : List Bool) (tc : List Int) (td : List (List Int)) (te : Int) (n : Int) (sealed : List Bool) (opened : List Bool) (op : List (List Int)) (ch : Int) (x0 : Int) (x1 : Int) (x2 : Int) (x3 : List Int) : St := stOf 158 [(0, AV.adr [AV.int IntKind.i64 tn, AV.int IntKind.i64 ts, AV.imm (ETy.one CTy.bool) ta, AV.imm (ETy.one CTy.bool) tb, AV.imm (ETy.one (CTy.int IntKind.u64)) tc, AV.imm (ETy.one (CTy.slice (ETy.one (CTy.int IntKind.i64)))) td, AV.int IntKind.i64 te]), (1, AV.int IntKind.i64 n), (4, AV.imm (ETy.one (CTy.slice (ETy.one (CTy.int IntKind.i64)))) op), (5, AV.int IntKind.i64 ch), (13, AV.int IntKind.i64 x0), (15, AV.own 0), (39, AV.imm (ETy.one CTy.bool) sealed), (40, AV.int IntKind.i64 x1), (41, AV.int IntKind.i64 x2)] [HObj.typed (ETy.one (CTy.int IntKind.i64)) x3 false]
noncomputable def dealt_s23_0 (tn : Int) (ts : Int) (ta : List Bool) (tb : List Bool) (tc : List Int) (td : List (List Int)) (te : Int) (n : Int) (sealed : List Bool) (opened : List Bool) (op : List (List Int)) (ch : Int) (x0 : Int) (x1 : Int) (x2 : List Int) (x3 : List Int) (x4 : List Int) : St := stOf 158 [(1, AV.int IntKind.i64 n), (4, AV.imm (ETy.one (CTy.slice (ETy.one (CTy.int IntKind.i64)))) op), (20, AV.own 0), (21, AV.int IntKind.i64 x0), (22, AV.own 1), (23, AV.own 2), (112, AV.int IntKind.i64 n), (113, AV.int IntKind.i64 x1)] [HObj.typed (ETy.one (CTy.int IntKind.i64)) x2 false, HObj.typed (ETy.one (CTy.int IntKind.i64)) x3 false, HObj.typed (ETy.one (CTy.int IntKind.i64)) x4 false]
noncomputable def dealt_s23_1 (tn : Int) (ts : Int) (ta : List Bool) (tb : List Bool) (tc : List Int) (td : List (List Int)) (te : Int) (n : Int) (sealed : List Bool) (opened : List Bool) (op : List (List Int)) (ch : Int) (x0 : List Int) (x1 : Int) (x2 : Int) (x3 : List Int) (x4 : List Int) : St := stOf 158 [(1, AV.int IntKind.i64 n), (4, AV.imm (ETy.one (CTy.slice (ETy.one (CTy.int IntKind.i64)))) op), (20, AV.imm (ETy.one (CTy.int IntKind.i64)) x0), (21, AV.int IntKind.i64 x1), (22, AV.own 0), (23, AV.own 1), (112, AV.int IntKind.i64 n), (113, AV.int IntKind.i64 x2)] [HObj.typed (ETy.one (CTy.int IntKind.i64)) x3 false, HObj.typed (ETy.one (CTy.int IntKind.i64)) x4 false]
noncomputable def dealt_s28_0 (tn : Int) (ts : Int) (ta : List Bool) (tb : List Bool) (tc : List Int) (td : List (List Int)) (te : Int) (n : Int) (sealed : List Bool) (opened : List Bool) (op : List (List Int)) (ch : Int) (x0 : Int) (x1 : Int) (x2 : Int) (x3 : List Int) (x4 : List Int) (x5 : List Int) : St := stOf 158 [(1, AV.int IntKind.i64 n), (4, AV.imm (ETy.one (CTy.slice (ETy.one (CTy.int IntKind.i64)))) op), (20, AV.own 0), (21, AV.int IntKind.i64 x0), (22, AV.own 1), (23, AV.own 2), (123, AV.int IntKind.i64 x1), (124, AV.int IntKind.i64 x2)] [HObj.typed (ETy.one (CTy.int IntKind.i64)) x3 false, HObj.typed (ETy.one (CTy.int IntKind.i64)) x4 false, HObj.typed (ETy.one (CTy.int IntKind.i64)) x5 false]
noncomputable def dealt_s28_1 (tn : Int) (ts : Int) (ta : List Bool) (tb : List Bool) (tc : List Int) (td : List (List Int)) (te : Int) (n : Int) (sealed : List Bool) (opened : List Bool) (op : List (List Int)) (ch : Int) (x0 : List Int) (x1 : Int) (x2 : Int) (x3 : Int) (x4 : List Int) (x5 : List Int) : St := stOf 158 [(1, AV.int IntKind.i64 n), (4, AV.imm (ETy.one (CTy.slice (ETy.one (CTy.int IntKind.i64)))) op), (20, AV.imm (ETy.one (CTy.int IntKind.i64)) x0), (21, AV.int IntKind.i64 x1), (22, AV.own 0), (23, AV.own 1), (123, AV.int IntKind.i64 x2), (124, AV.int IntKind.i64 x3)] [HObj.typed (ETy.one (CTy.int IntKind.i64)) x4 false, HObj.typed (ETy.one (CTy.int IntKind.i64)) x5 false]
noncomputable def dealt_s32_0 (tn : Int) (ts : Int) (ta : List Bool) (tb : List Bool) (tc : List Int) (td : List (List Int)) (te : Int) (n : Int) (sealed : List Bool) (opened : List Bool) (op : List (List Int)) (ch : Int) (x0 : Int) (x1 : Int) (x2 : Int) (x3 : Int) (x4 : Int) (x5 : Int) (x6 : Int) (x7 : List Int) (x8 : List Int) (x9 : List Int) : St := stOf 158 [(1, AV.int IntKind.i64 n), (4, AV.imm (ETy.one (CTy.slice (ETy.one (CTy.int IntKind.i64)))) op), (20, AV.own 0), (21, AV.int IntKind.i64 x0), (22, AV.own 1), (23, AV.own 2), (25, AV.int IntKind.i64 x1), (26, AV.int IntKind.i64 x2), (123, AV.int IntKind.i64 x3), (124, AV.int IntKind.i64 x4), (127, AV.imm (ETy.one (CTy.slice (ETy.one (CTy.int IntKind.i64)))) op), (128, AV.int IntKind.i64 x5), (129, AV.int IntKind.i64 x6)] [HObj.typed (ETy.one (CTy.int IntKind.i64)) x7 false, HObj.typed (ETy.one (CTy.int IntKind.i64)) x8 false, HObj.typed (ETy.one (CTy.int IntKind.i64)) x9 false]
noncomputable def dealt_s32_1 (tn : Int) (ts : Int) (ta : List Bool) (tb : List Bool) (tc : List Int) (td : List (List Int)) (te : Int) (n : Int) (sealed : List Bool) (opened : List Bool) (op : List (List Int)) (ch : Int) (x0 : List Int) (x1 : Int) (x2 : Int) (x3 : Int) (x4 : Int) (x5 : Int) (x6 : Int) (x7 : Int) (x8 : List Int) (x9 : List Int) : St := stOf 158 [(1, AV.int IntKind.i64 n), (4, AV.imm (ETy.one (CTy.slice (ETy.one (CTy.int IntKind.i64)))) op), (20, AV.imm (ETy.one (CTy.int IntKind.i64)) x0), (21, AV.int IntKind.i64 x1), (22, AV.own 0), (23, AV.own 1), (25, AV.int IntKind.i64 x2), (26, AV.int IntKind.i64 x3), (123, AV.int IntKind.i64 x4), (124, AV.int IntKind.i64 x5), (127, AV.imm (ETy.one (CTy.slice (ETy.one (CTy.int IntKind.i64)))) op), (128, AV.int IntKind.i64 x6), (129, AV.int IntKind.i64 x7)] [HObj.typed (ETy.one (CTy.int IntKind.i64)) x8 false, HObj.typed (ETy.one (CTy.int IntKind.i64)) x9 false]
def dealt_j6 (tn : Int) (ts : Int) (ta : List Bool) (tb : List Bool) (tc : List Int) (td : List (List Int)) (te : Int) (n : Int) (sealed : List Bool) (opened : List Bool) (op : List (List Int)) (ch : Int) (y0 : Int) (y1 : Int) (y2 : Int) (y3 : Int) (y4 : Bool) (y5 : List Int) (n0 : Nat) (K : AV → List HObj → Prop) : Prop :=
    bif y4 then bif bif (y5.length + [y1].length).ble 9223372036854775807 then ((y5.length + [y1].length) * 8).ble 140737488355328 else false then GoodL Try.prog n0 33 K (headAt (fnT Try.f33) 10) (dealt_s10_0 tn ts ta tb tc td te n sealed opened op ch y0 y2 (IntKind.i64.wrap (y3 + 1)) (y5 ++ [y1])) else False else GoodL Try.prog n0 33 K (headAt (fnT Try.f33) 10) (dealt_s10_0 tn ts ta tb tc td te n sealed opened op ch y0 y2 (IntKind.i64.wrap (y3 + 1)) y5)
def dealt_j11 (tn : Int) (ts : Int) (ta : List Bool) (tb : List Bool) (tc : List Int) (td : List (List Int)) (te : Int) (n : Int) (sealed : List Bool) (opened : List Bool) (op : List (List Int)) (ch : Int) (y0 : Int) (y1 : Int) (y2 : Int) (y3 : Int) (y4 : List Int) (n0 : Nat) (K : AV → List HObj → Prop) : Prop :=
    bif !decide (ts = y0) then K (AV.bool false) [HObj.typed (ETy.one (CTy.int IntKind.i64)) y4 false]
  else (Sm (Tb.mk tn ts ta tb tc td te).sealed ∧ Sm (Tb.mk tn ts ta tb tc td te).opened ∧ (Tb.mk tn ts ta tb tc td te).sealed.length * 8 ≤ 140737488351232 ∧ (Tb.mk tn ts ta tb tc td te).opened.length * 8 ≤ 140737488351232) ∧ Sm (missV (Tb.mk tn ts ta tb tc td te)) ∧ bif bif false then true else !decide (missV (Tb.mk tn ts ta tb tc td te) = y4) then K (AV.bool false) [HObj.typed (ETy.one (CTy.int IntKind.i64)) y4 false, HObj.typed (ETy.one (CTy.int IntKind.i64)) (missV (Tb.mk tn ts ta tb tc td te)) false] else bif decide (ch ≥ 0) then bif !decide (y2 = 0) then K (AV.bool false) [HObj.typed (ETy.one (CTy.int IntKind.i64)) y4 false, HObj.typed (ETy.one (CTy.int IntKind.i64)) (missV (Tb.mk tn ts ta tb tc td te)) false] else bif bif false then true else bif true then bif false then true else !decide (y1 = ch) else false then K (AV.bool false) [HObj.typed (ETy.one (CTy.int IntKind.i64)) y4 false, HObj.typed (ETy.one (CTy.int IntKind.i64)) (missV (Tb.mk tn ts ta tb tc td te)) false] else bif decide (ch < 0) then bif !decide (y2 = 8) then K (AV.bool false) [HObj.typed (ETy.one (CTy.int IntKind.i64)) y4 false, HObj.typed (ETy.one (CTy.int IntKind.i64)) (missV (Tb.mk tn ts ta tb tc td te)) false] else bif bif false then true else bif true then bif false then true else !decide (y1 = 0) else false then K (AV.bool false) [HObj.typed (ETy.one (CTy.int IntKind.i64)) y4 false, HObj.typed (ETy.one (CTy.int IntKind.i64)) (missV (Tb.mk tn ts ta tb tc td te)) false] else bif !decide (y0 = 2) then bif decide (y3 = 10) then K (AV.bool true) [HObj.typed (ETy.one (CTy.int IntKind.i64)) y4 false, HObj.typed (ETy.one (CTy.int IntKind.i64)) (missV (Tb.mk tn ts ta tb tc td te)) false] else K (AV.bool false) [HObj.typed (ETy.one (CTy.int IntKind.i64)) y4 false, HObj.typed (ETy.one (CTy.int IntKind.i64)) (missV (Tb.mk tn ts ta tb tc td te)) false] else GoodL Try.prog n0 33 K (headAt (fnT Try.f33) 23) (dealt_s23_0 tn ts ta tb tc td te n sealed opened op ch y3 0 [] [] []) else bif !decide (y0 = 2) then bif decide (y3 = 10) then K (AV.bool true) [HObj.typed (ETy.one (CTy.int IntKind.i64)) y4 false, HObj.typed (ETy.one (CTy.int IntKind.i64)) (missV (Tb.mk tn ts ta tb tc td te)) false] else K (AV.bool false) [HObj.typed (ETy.one (CTy.int IntKind.i64)) y4 false, HObj.typed (ETy.one (CTy.int IntKind.i64)) (missV (Tb.mk tn ts ta tb tc td te)) false] else GoodL Try.prog n0 33 K (headAt (fnT Try.f33) 23) (dealt_s23_0 tn ts ta tb tc td te n sealed opened op ch y3 0 [] [] []) else bif decide (ch < 0) then bif !decide (y2 = 8) then K (AV.bool false) [HObj.typed (ETy.one (CTy.int IntKind.i64)) y4 false, HObj.typed (ETy.one (CTy.int IntKind.i64)) (missV (Tb.mk tn ts ta tb tc td te)) false] else bif bif false then true else bif true then bif false then true else !decide (y1 = 0) else false then K (AV.bool false) [HObj.typed (ETy.one (CTy.int IntKind.i64)) y4 false, HObj.typed (ETy.one (CTy.int IntKind.i64)) (missV (Tb.mk tn ts ta tb tc td te)) false] else bif !decide (y0 = 2) then bif decide (y3 = 10) then K (AV.bool true) [HObj.typed (ETy.one (CTy.int IntKind.i64)) y4 false, HObj.typed (ETy.one (CTy.int IntKind.i64)) (missV (Tb.mk tn ts ta tb tc td te)) false] else K (AV.bool false) [HObj.typed (ETy.one (CTy.int IntKind.i64)) y4 false, HObj.typed (ETy.one (CTy.int IntKind.i64)) (missV (Tb.mk tn ts ta tb tc td te)) false] else GoodL Try.prog n0 33 K (headAt (fnT Try.f33) 23) (dealt_s23_0 tn ts ta tb tc td te n sealed opened op ch y3 0 [] [] []) else bif !decide (y0 = 2) then bif decide (y3 = 10) then K (AV.bool true) [HObj.typed (ETy.one (CTy.int IntKind.i64)) y4 false, HObj.typed (ETy.one (CTy.int IntKind.i64)) (missV (Tb.mk tn ts ta tb tc td te)) false] else K (AV.bool false) [HObj.typed (ETy.one (CTy.int IntKind.i64)) y4 false, HObj.typed (ETy.one (CTy.int IntKind.i64)) (missV (Tb.mk tn ts ta tb tc td te)) false] else GoodL Try.prog n0 33 K (headAt (fnT Try.f33) 23) (dealt_s23_0 tn ts ta tb tc td te n sealed opened op ch y3 0 [] [] [])
def dealt_j14 (tn : Int) (ts : Int) (ta : List Bool) (tb : List Bool) (tc : List Int) (td : List (List Int)) (te : Int) (n : Int) (sealed : List Bool) (opened : List Bool) (op : List (List Int)) (ch : Int) (y0 : Int) (y1 : Int) (y2 : Int) (y3 : List Int) (n0 : Nat) (K : AV → List HObj → Prop) : Prop :=
    bif !decide (ts = y0) then K (AV.bool false) [HObj.typed (ETy.one (CTy.int IntKind.i64)) y3 false]
  else (Sm (Tb.mk tn ts ta tb tc td te).sealed ∧ Sm (Tb.mk tn ts ta tb tc td te).opened ∧ (Tb.mk tn ts ta tb tc td te).sealed.length * 8 ≤ 140737488351232 ∧ (Tb.mk tn ts ta tb tc td te).opened.length * 8 ≤ 140737488351232) ∧ Sm (missV (Tb.mk tn ts ta tb tc td te)) ∧ bif bif false then true else !decide (missV (Tb.mk tn ts ta tb tc td te) = y3) then K (AV.bool false) [HObj.typed (ETy.one (CTy.int IntKind.i64)) y3 false, HObj.typed (ETy.one (CTy.int IntKind.i64)) (missV (Tb.mk tn ts ta tb tc td te)) false] else bif decide (ch ≥ 0) then bif !decide (y1 = 0) then K (AV.bool false) [HObj.typed (ETy.one (CTy.int IntKind.i64)) y3 false, HObj.typed (ETy.one (CTy.int IntKind.i64)) (missV (Tb.mk tn ts ta tb tc td te)) false] else bif bif false then true else bif true then bif false then true else !decide (te = ch) else false then K (AV.bool false) [HObj.typed (ETy.one (CTy.int IntKind.i64)) y3 false, HObj.typed (ETy.one (CTy.int IntKind.i64)) (missV (Tb.mk tn ts ta tb tc td te)) false] else bif decide (ch < 0) then bif !decide (y1 = 8) then K (AV.bool false) [HObj.typed (ETy.one (CTy.int IntKind.i64)) y3 false, HObj.typed (ETy.one (CTy.int IntKind.i64)) (missV (Tb.mk tn ts ta tb tc td te)) false] else bif bif false then true else bif true then bif false then true else !decide (te = 0) else false then K (AV.bool false) [HObj.typed (ETy.one (CTy.int IntKind.i64)) y3 false, HObj.typed (ETy.one (CTy.int IntKind.i64)) (missV (Tb.mk tn ts ta tb tc td te)) false] else bif !decide (y0 = 2) then bif decide (y2 = 10) then K (AV.bool true) [HObj.typed (ETy.one (CTy.int IntKind.i64)) y3 false, HObj.typed (ETy.one (CTy.int IntKind.i64)) (missV (Tb.mk tn ts ta tb tc td te)) false] else K (AV.bool false) [HObj.typed (ETy.one (CTy.int IntKind.i64)) y3 false, HObj.typed (ETy.one (CTy.int IntKind.i64)) (missV (Tb.mk tn ts ta tb tc td te)) false] else GoodL Try.prog n0 33 K (headAt (fnT Try.f33) 23) (dealt_s23_0 tn ts ta tb tc td te n sealed opened op ch y2 0 [] [] []) else bif !decide (y0 = 2) then bif decide (y2 = 10) then K (AV.bool true) [HObj.typed (ETy.one (CTy.int IntKind.i64)) y3 false, HObj.typed (ETy.one (CTy.int IntKind.i64)) (missV (Tb.mk tn ts ta tb tc td te)) false] else K (AV.bool false) [HObj.typed (ETy.one (CTy.int IntKind.i64)) y3 false, HObj.typed (ETy.one (CTy.int IntKind.i64)) (missV (Tb.mk tn ts ta tb tc td te)) false] else GoodL Try.prog n0 33 K (headAt (fnT Try.f33) 23) (dealt_s23_0 tn ts ta tb tc td te n sealed opened op ch y2 0 [] [] []) else bif decide (ch < 0) then bif !decide (y1 = 8) then K (AV.bool false) [HObj.typed (ETy.one (CTy.int IntKind.i64)) y3 false, HObj.typed (ETy.one (CTy.int IntKind.i64)) (missV (Tb.mk tn ts ta tb tc td te)) false] else bif bif false then true else bif true then bif false then true else !decide (te = 0) else false then K (AV.bool false) [HObj.typed (ETy.one (CTy.int IntKind.i64)) y3 false, HObj.typed (ETy.one (CTy.int IntKind.i64)) (missV (Tb.mk tn ts ta tb tc td te)) false] else bif !decide (y0 = 2) then bif decide (y2 = 10) then K (AV.bool true) [HObj.typed (ETy.one (CTy.int IntKind.i64)) y3 false, HObj.typed (ETy.one (CTy.int IntKind.i64)) (missV (Tb.mk tn ts ta tb tc td te)) false] else K (AV.bool false) [HObj.typed (ETy.one (CTy.int IntKind.i64)) y3 false, HObj.typed (ETy.one (CTy.int IntKind.i64)) (missV (Tb.mk tn ts ta tb tc td te)) false] else GoodL Try.prog n0 33 K (headAt (fnT Try.f33) 23) (dealt_s23_0 tn ts ta tb tc td te n sealed opened op ch y2 0 [] [] []) else bif !decide (y0 = 2) then bif decide (y2 = 10) then K (AV.bool true) [HObj.typed (ETy.one (CTy.int IntKind.i64)) y3 false, HObj.typed (ETy.one (CTy.int IntKind.i64)) (missV (Tb.mk tn ts ta tb tc td te)) false] else K (AV.bool false) [HObj.typed (ETy.one (CTy.int IntKind.i64)) y3 false, HObj.typed (ETy.one (CTy.int IntKind.i64)) (missV (Tb.mk tn ts ta tb tc td te)) false] else GoodL Try.prog n0 33 K (headAt (fnT Try.f33) 23) (dealt_s23_0 tn ts ta tb tc td te n sealed opened op ch y2 0 [] [] [])
def dealt_j17 (tn : Int) (ts : Int) (ta : List Bool) (tb : List Bool) (tc : List Int) (td : List (List Int)) (te : Int) (n : Int) (sealed : List Bool) (opened : List Bool) (op : List (List Int)) (ch : Int) (y0 : Int) (y1 : Int) (y2 : Int) (y3 : Int) (y4 : Bool) (y5 : List Int) (n0 : Nat) (K : AV → List HObj → Prop) : Prop :=
    bif y4 then bif bif (y5.length + [y1].length).ble 9223372036854775807 then ((y5.length + [y1].length) * 8).ble 140737488355328 else false then GoodL Try.prog n0 33 K (headAt (fnT Try.f33) 10) (dealt_s10_1 tn ts ta tb tc td te n sealed opened op ch y0 y2 (IntKind.i64.wrap (y3 + 1)) (y5 ++ [y1])) else False else GoodL Try.prog n0 33 K (headAt (fnT Try.f33) 10) (dealt_s10_1 tn ts ta tb tc td te n sealed opened op ch y0 y2 (IntKind.i64.wrap (y3 + 1)) y5)
def dealt_j18 (tn : Int) (ts : Int) (ta : List Bool) (tb : List Bool) (tc : List Int) (td : List (List Int)) (te : Int) (n : Int) (sealed : List Bool) (opened : List Bool) (op : List (List Int)) (ch : Int) (y0 : Int) (y1 : List Int) (n0 : Nat) (K : AV → List HObj → Prop) : Prop :=
    bif !decide (ts = 3) then bif !decide (ts = 2) then dealt_j11 tn ts ta tb tc td te n sealed opened op ch y0 0 8 10 y1 n0 K else (∀ (d : List Int), d ∈ td → Fit d) ∧ bif !decide (Deal.combE tn td = 0) then dealt_j11 tn ts ta tb tc td te n sealed opened op ch y0 0 8 (Deal.combE tn td) y1 n0 K else bif !decide (freshE tn = 0) then dealt_j11 tn ts ta tb tc td te n sealed opened op ch y0 0 8 (freshE tn) y1 n0 K else (Sm (freshV tn) ∧ Sm (combO tn td)) ∧ bif !decide (ts = y0) then K (AV.bool false) [HObj.typed (ETy.one (CTy.int IntKind.i64)) y1 false] else (Sm (Tb.mk tn ts ta tb tc td te).sealed ∧ Sm (Tb.mk tn ts ta tb tc td te).opened ∧ (Tb.mk tn ts ta tb tc td te).sealed.length * 8 ≤ 140737488351232 ∧ (Tb.mk tn ts ta tb tc td te).opened.length * 8 ≤ 140737488351232) ∧ Sm (missV (Tb.mk tn ts ta tb tc td te)) ∧ bif bif false then true else !decide (missV (Tb.mk tn ts ta tb tc td te) = y1) then K (AV.bool false) [HObj.typed (ETy.one (CTy.int IntKind.i64)) y1 false, HObj.typed (ETy.one (CTy.int IntKind.i64)) (missV (Tb.mk tn ts ta tb tc td te)) false] else bif decide (ch ≥ 0) then K (AV.bool false) [HObj.typed (ETy.one (CTy.int IntKind.i64)) y1 false, HObj.typed (ETy.one (CTy.int IntKind.i64)) (missV (Tb.mk tn ts ta tb tc td te)) false] else bif decide (ch < 0) then bif !decide (y0 = 2) then bif decide (shufE (freshV tn) (combO tn td) = 10) then K (AV.bool (bif true then decide ((↑(shufO (freshV tn) (combO tn td)).length : Int) = 0) else false)) [HObj.typed (ETy.one (CTy.int IntKind.i64)) y1 false, HObj.typed (ETy.one (CTy.int IntKind.i64)) (missV (Tb.mk tn ts ta tb tc td te)) false] else K (AV.bool false) [HObj.typed (ETy.one (CTy.int IntKind.i64)) y1 false, HObj.typed (ETy.one (CTy.int IntKind.i64)) (missV (Tb.mk tn ts ta tb tc td te)) false] else GoodL Try.prog n0 33 K (headAt (fnT Try.f33) 23) (dealt_s23_1 tn ts ta tb tc td te n sealed opened op ch (shufO (freshV tn) (combO tn td)) (shufE (freshV tn) (combO tn td)) 0 [] []) else bif !decide (y0 = 2) then bif decide (shufE (freshV tn) (combO tn td) = 10) then K (AV.bool (bif true then decide ((↑(shufO (freshV tn) (combO tn td)).length : Int) = 0) else false)) [HObj.typed (ETy.one (CTy.int IntKind.i64)) y1 false, HObj.typed (ETy.one (CTy.int IntKind.i64)) (missV (Tb.mk tn ts ta tb tc td te)) false] else K (AV.bool false) [HObj.typed (ETy.one (CTy.int IntKind.i64)) y1 false, HObj.typed (ETy.one (CTy.int IntKind.i64)) (missV (Tb.mk tn ts ta tb tc td te)) false] else GoodL Try.prog n0 33 K (headAt (fnT Try.f33) 23) (dealt_s23_1 tn ts ta tb tc td te n sealed opened op ch (shufO (freshV tn) (combO tn td)) (shufE (freshV tn) (combO tn td)) 0 [] [])
  else bif !decide (ts = 2) then dealt_j14 tn ts ta tb tc td te n sealed opened op ch y0 0 10 y1 n0 K else (∀ (d : List Int), d ∈ td → Fit d) ∧ bif !decide (Deal.combE tn td = 0) then dealt_j14 tn ts ta tb tc td te n sealed opened op ch y0 0 (Deal.combE tn td) y1 n0 K else bif !decide (freshE tn = 0) then dealt_j14 tn ts ta tb tc td te n sealed opened op ch y0 0 (freshE tn) y1 n0 K else (Sm (freshV tn) ∧ Sm (combO tn td)) ∧ bif !decide (ts = y0) then K (AV.bool false) [HObj.typed (ETy.one (CTy.int IntKind.i64)) y1 false] else (Sm (Tb.mk tn ts ta tb tc td te).sealed ∧ Sm (Tb.mk tn ts ta tb tc td te).opened ∧ (Tb.mk tn ts ta tb tc td te).sealed.length * 8 ≤ 140737488351232 ∧ (Tb.mk tn ts ta tb tc td te).opened.length * 8 ≤ 140737488351232) ∧ Sm (missV (Tb.mk tn ts ta tb tc td te)) ∧ bif bif false then true else !decide (missV (Tb.mk tn ts ta tb tc td te) = y1) then K (AV.bool false) [HObj.typed (ETy.one (CTy.int IntKind.i64)) y1 false, HObj.typed (ETy.one (CTy.int IntKind.i64)) (missV (Tb.mk tn ts ta tb tc td te)) false] else bif decide (ch ≥ 0) then bif bif false then true else bif true then bif false then true else !decide (te = ch) else false then K (AV.bool false) [HObj.typed (ETy.one (CTy.int IntKind.i64)) y1 false, HObj.typed (ETy.one (CTy.int IntKind.i64)) (missV (Tb.mk tn ts ta tb tc td te)) false] else bif decide (ch < 0) then K (AV.bool false) [HObj.typed (ETy.one (CTy.int IntKind.i64)) y1 false, HObj.typed (ETy.one (CTy.int IntKind.i64)) (missV (Tb.mk tn ts ta tb tc td te)) false] else bif !decide (y0 = 2) then bif decide (shufE (freshV tn) (combO tn td) = 10) then K (AV.bool (bif true then decide ((↑(shufO (freshV tn) (combO tn td)).length : Int) = 0) else false)) [HObj.typed (ETy.one (CTy.int IntKind.i64)) y1 false, HObj.typed (ETy.one (CTy.int IntKind.i64)) (missV (Tb.mk tn ts ta tb tc td te)) false] else K (AV.bool false) [HObj.typed (ETy.one (CTy.int IntKind.i64)) y1 false, HObj.typed (ETy.one (CTy.int IntKind.i64)) (missV (Tb.mk tn ts ta tb tc td te)) false] else GoodL Try.prog n0 33 K (headAt (fnT Try.f33) 23) (dealt_s23_1 tn ts ta tb tc td te n sealed opened op ch (shufO (freshV tn) (combO tn td)) (shufE (freshV tn) (combO tn td)) 0 [] []) else bif decide (ch < 0) then K (AV.bool false) [HObj.typed (ETy.one (CTy.int IntKind.i64)) y1 false, HObj.typed (ETy.one (CTy.int IntKind.i64)) (missV (Tb.mk tn ts ta tb tc td te)) false] else bif !decide (y0 = 2) then bif decide (shufE (freshV tn) (combO tn td) = 10) then K (AV.bool (bif true then decide ((↑(shufO (freshV tn) (combO tn td)).length : Int) = 0) else false)) [HObj.typed (ETy.one (CTy.int IntKind.i64)) y1 false, HObj.typed (ETy.one (CTy.int IntKind.i64)) (missV (Tb.mk tn ts ta tb tc td te)) false] else K (AV.bool false) [HObj.typed (ETy.one (CTy.int IntKind.i64)) y1 false, HObj.typed (ETy.one (CTy.int IntKind.i64)) (missV (Tb.mk tn ts ta tb tc td te)) false] else GoodL Try.prog n0 33 K (headAt (fnT Try.f33) 23) (dealt_s23_1 tn ts ta tb tc td te n sealed opened op ch (shufO (freshV tn) (combO tn td)) (shufE (freshV tn) (combO tn td)) 0 [] [])
set_option maxRecDepth 1000000 in
theorem dealt_E (tn : Int) (ts : Int) (ta : List Bool) (tb : List Bool) (tc : List Int) (td : List (List Int)) (te : Int) (n : Int) (sealed : List Bool) (opened : List Bool) (op : List (List Int)) (ch : Int) (n0 : Nat) (K : AV → List HObj → Prop) :
    execN tab (mixE tab conD2 [54, 56, 55] 400) (maskN dealt_live dealt_nils (GoodL Try.prog n0 33 K)) (finK tab (fnT Try.f33).res K) 400 [.code (fnT Try.f33).body] ⟨initEnv (fnT Try.f33).n [AV.adr [AV.int IntKind.i64 tn, AV.int IntKind.i64 ts, AV.imm (ETy.one CTy.bool) ta, AV.imm (ETy.one CTy.bool) tb, AV.imm (ETy.one (CTy.int IntKind.u64)) tc, AV.imm (ETy.one (CTy.slice (ETy.one (CTy.int IntKind.i64)))) td, AV.int IntKind.i64 te], AV.int IntKind.i64 n, AV.imm (ETy.one CTy.bool) sealed, AV.imm (ETy.one CTy.bool) opened, AV.imm (ETy.one (CTy.slice (ETy.one (CTy.int IntKind.i64)))) op, AV.int IntKind.i64 ch], []⟩ =
    (Sm sealed ∧ bif !decide (false ∈ sealed) then Sm opened ∧ bif !decide (false ∈ opened) then bif decide (ch ≥ 0) then GoodL Try.prog n0 33 K (headAt (fnT Try.f33) 10) (dealt_s10_0 tn ts ta tb tc td te n sealed opened op ch 3 (↑opened.length : Int) 0 []) else GoodL Try.prog n0 33 K (headAt (fnT Try.f33) 10) (dealt_s10_0 tn ts ta tb tc td te n sealed opened op ch 2 (↑opened.length : Int) 0 []) else bif decide (ch ≥ 0) then GoodL Try.prog n0 33 K (headAt (fnT Try.f33) 10) (dealt_s10_0 tn ts ta tb tc td te n sealed opened op ch 3 (↑opened.length : Int) 0 []) else GoodL Try.prog n0 33 K (headAt (fnT Try.f33) 10) (dealt_s10_0 tn ts ta tb tc td te n sealed opened op ch 1 (↑opened.length : Int) 0 []) else Sm opened ∧ bif !decide (false ∈ opened) then bif decide (ch ≥ 0) then GoodL Try.prog n0 33 K (headAt (fnT Try.f33) 10) (dealt_s10_1 tn ts ta tb tc td te n sealed opened op ch 3 (↑sealed.length : Int) 0 []) else GoodL Try.prog n0 33 K (headAt (fnT Try.f33) 10) (dealt_s10_1 tn ts ta tb tc td te n sealed opened op ch 2 (↑sealed.length : Int) 0 []) else bif decide (ch ≥ 0) then GoodL Try.prog n0 33 K (headAt (fnT Try.f33) 10) (dealt_s10_1 tn ts ta tb tc td te n sealed opened op ch 3 (↑sealed.length : Int) 0 []) else GoodL Try.prog n0 33 K (headAt (fnT Try.f33) 10) (dealt_s10_1 tn ts ta tb tc td te n sealed opened op ch 0 (↑sealed.length : Int) 0 [])) := by kernel_rfl
set_option maxRecDepth 1000000 in
theorem dealt_s10_0_E (tn : Int) (ts : Int) (ta : List Bool) (tb : List Bool) (tc : List Int) (td : List (List Int)) (te : Int) (n : Int) (sealed : List Bool) (opened : List Bool) (op : List (List Int)) (ch : Int) (x0 : Int) (x1 : Int) (x2 : Int) (x3 : List Int) (n0 : Nat) (K : AV → List HObj → Prop) :
    execN tab (mixE tab conD2 [54, 56, 55] 400) (maskN dealt_live dealt_nils (GoodL Try.prog n0 33 K)) (finK tab (fnT Try.f33).res K) 400 (roundAt (fnT Try.f33) 10) (dealt_s10_0 tn ts ta tb tc td te n sealed opened op ch x0 x1 x2 x3) =
    (bif decide (x2 < x1) then bif decide (0 ≤ x2) && decide (x2 < (↑opened.length : Int)) then bif !opened.getD x2.toNat false then dealt_j6 tn ts ta tb tc td te n sealed opened op ch x0 x2 x1 x2 (bif true then decide (ch < 0) else false) x3 n0 K else dealt_j6 tn ts ta tb tc td te n sealed opened op ch x0 x2 x1 x2 false x3 n0 K else False
  else
  bif !decide (ts = 3) then bif !decide (ts = 2) then dealt_j11 tn ts ta tb tc td te n sealed opened op ch x0 0 8 10 x3 n0 K else (∀ (d : List Int), d ∈ td → Fit d) ∧ bif !decide (Deal.combE tn td = 0) then dealt_j11 tn ts ta tb tc td te n sealed opened op ch x0 0 8 (Deal.combE tn td) x3 n0 K else bif !decide (freshE tn = 0) then dealt_j11 tn ts ta tb tc td te n sealed opened op ch x0 0 8 (freshE tn) x3 n0 K else (Sm (freshV tn) ∧ Sm (combO tn td)) ∧ bif !decide (ts = x0) then K (AV.bool false) [HObj.typed (ETy.one (CTy.int IntKind.i64)) x3 false] else (Sm (Tb.mk tn ts ta tb tc td te).sealed ∧ Sm (Tb.mk tn ts ta tb tc td te).opened ∧ (Tb.mk tn ts ta tb tc td te).sealed.length * 8 ≤ 140737488351232 ∧ (Tb.mk tn ts ta tb tc td te).opened.length * 8 ≤ 140737488351232) ∧ Sm (missV (Tb.mk tn ts ta tb tc td te)) ∧ bif bif false then true else !decide (missV (Tb.mk tn ts ta tb tc td te) = x3) then K (AV.bool false) [HObj.typed (ETy.one (CTy.int IntKind.i64)) x3 false, HObj.typed (ETy.one (CTy.int IntKind.i64)) (missV (Tb.mk tn ts ta tb tc td te)) false] else bif decide (ch ≥ 0) then K (AV.bool false) [HObj.typed (ETy.one (CTy.int IntKind.i64)) x3 false, HObj.typed (ETy.one (CTy.int IntKind.i64)) (missV (Tb.mk tn ts ta tb tc td te)) false] else bif decide (ch < 0) then bif !decide (x0 = 2) then bif decide (shufE (freshV tn) (combO tn td) = 10) then K (AV.bool (bif true then decide ((↑(shufO (freshV tn) (combO tn td)).length : Int) = 0) else false)) [HObj.typed (ETy.one (CTy.int IntKind.i64)) x3 false, HObj.typed (ETy.one (CTy.int IntKind.i64)) (missV (Tb.mk tn ts ta tb tc td te)) false] else K (AV.bool false) [HObj.typed (ETy.one (CTy.int IntKind.i64)) x3 false, HObj.typed (ETy.one (CTy.int IntKind.i64)) (missV (Tb.mk tn ts ta tb tc td te)) false] else GoodL Try.prog n0 33 K (headAt (fnT Try.f33) 23) (dealt_s23_1 tn ts ta tb tc td te n sealed opened op ch (shufO (freshV tn) (combO tn td)) (shufE (freshV tn) (combO tn td)) 0 [] []) else bif !decide (x0 = 2) then bif decide (shufE (freshV tn) (combO tn td) = 10) then K (AV.bool (bif true then decide ((↑(shufO (freshV tn) (combO tn td)).length : Int) = 0) else false)) [HObj.typed (ETy.one (CTy.int IntKind.i64)) x3 false, HObj.typed (ETy.one (CTy.int IntKind.i64)) (missV (Tb.mk tn ts ta tb tc td te)) false] else K (AV.bool false) [HObj.typed (ETy.one (CTy.int IntKind.i64)) x3 false, HObj.typed (ETy.one (CTy.int IntKind.i64)) (missV (Tb.mk tn ts ta tb tc td te)) false] else GoodL Try.prog n0 33 K (headAt (fnT Try.f33) 23) (dealt_s23_1 tn ts ta tb tc td te n sealed opened op ch (shufO (freshV tn) (combO tn td)) (shufE (freshV tn) (combO tn td)) 0 [] [])
  else bif !decide (ts = 2) then dealt_j14 tn ts ta tb tc td te n sealed opened op ch x0 0 10 x3 n0 K else (∀ (d : List Int), d ∈ td → Fit d) ∧ bif !decide (Deal.combE tn td = 0) then dealt_j14 tn ts ta tb tc td te n sealed opened op ch x0 0 (Deal.combE tn td) x3 n0 K else bif !decide (freshE tn = 0) then dealt_j14 tn ts ta tb tc td te n sealed opened op ch x0 0 (freshE tn) x3 n0 K else (Sm (freshV tn) ∧ Sm (combO tn td)) ∧ bif !decide (ts = x0) then K (AV.bool false) [HObj.typed (ETy.one (CTy.int IntKind.i64)) x3 false] else (Sm (Tb.mk tn ts ta tb tc td te).sealed ∧ Sm (Tb.mk tn ts ta tb tc td te).opened ∧ (Tb.mk tn ts ta tb tc td te).sealed.length * 8 ≤ 140737488351232 ∧ (Tb.mk tn ts ta tb tc td te).opened.length * 8 ≤ 140737488351232) ∧ Sm (missV (Tb.mk tn ts ta tb tc td te)) ∧ bif bif false then true else !decide (missV (Tb.mk tn ts ta tb tc td te) = x3) then K (AV.bool false) [HObj.typed (ETy.one (CTy.int IntKind.i64)) x3 false, HObj.typed (ETy.one (CTy.int IntKind.i64)) (missV (Tb.mk tn ts ta tb tc td te)) false] else bif decide (ch ≥ 0) then bif bif false then true else bif true then bif false then true else !decide (te = ch) else false then K (AV.bool false) [HObj.typed (ETy.one (CTy.int IntKind.i64)) x3 false, HObj.typed (ETy.one (CTy.int IntKind.i64)) (missV (Tb.mk tn ts ta tb tc td te)) false] else bif decide (ch < 0) then K (AV.bool false) [HObj.typed (ETy.one (CTy.int IntKind.i64)) x3 false, HObj.typed (ETy.one (CTy.int IntKind.i64)) (missV (Tb.mk tn ts ta tb tc td te)) false] else bif !decide (x0 = 2) then bif decide (shufE (freshV tn) (combO tn td) = 10) then K (AV.bool (bif true then decide ((↑(shufO (freshV tn) (combO tn td)).length : Int) = 0) else false)) [HObj.typed (ETy.one (CTy.int IntKind.i64)) x3 false, HObj.typed (ETy.one (CTy.int IntKind.i64)) (missV (Tb.mk tn ts ta tb tc td te)) false] else K (AV.bool false) [HObj.typed (ETy.one (CTy.int IntKind.i64)) x3 false, HObj.typed (ETy.one (CTy.int IntKind.i64)) (missV (Tb.mk tn ts ta tb tc td te)) false] else GoodL Try.prog n0 33 K (headAt (fnT Try.f33) 23) (dealt_s23_1 tn ts ta tb tc td te n sealed opened op ch (shufO (freshV tn) (combO tn td)) (shufE (freshV tn) (combO tn td)) 0 [] []) else bif decide (ch < 0) then K (AV.bool false) [HObj.typed (ETy.one (CTy.int IntKind.i64)) x3 false, HObj.typed (ETy.one (CTy.int IntKind.i64)) (missV (Tb.mk tn ts ta tb tc td te)) false] else bif !decide (x0 = 2) then bif decide (shufE (freshV tn) (combO tn td) = 10) then K (AV.bool (bif true then decide ((↑(shufO (freshV tn) (combO tn td)).length : Int) = 0) else false)) [HObj.typed (ETy.one (CTy.int IntKind.i64)) x3 false, HObj.typed (ETy.one (CTy.int IntKind.i64)) (missV (Tb.mk tn ts ta tb tc td te)) false] else K (AV.bool false) [HObj.typed (ETy.one (CTy.int IntKind.i64)) x3 false, HObj.typed (ETy.one (CTy.int IntKind.i64)) (missV (Tb.mk tn ts ta tb tc td te)) false] else GoodL Try.prog n0 33 K (headAt (fnT Try.f33) 23) (dealt_s23_1 tn ts ta tb tc td te n sealed opened op ch (shufO (freshV tn) (combO tn td)) (shufE (freshV tn) (combO tn td)) 0 [] [])) := by kernel_rfl
set_option maxRecDepth 1000000 in
theorem dealt_s10_1_E (tn : Int) (ts : Int) (ta : List Bool) (tb : List Bool) (tc : List Int) (td : List (List Int)) (te : Int) (n : Int) (sealed : List Bool) (opened : List Bool) (op : List (List Int)) (ch : Int) (x0 : Int) (x1 : Int) (x2 : Int) (x3 : List Int) (n0 : Nat) (K : AV → List HObj → Prop) :
    execN tab (mixE tab conD2 [54, 56, 55] 400) (maskN dealt_live dealt_nils (GoodL Try.prog n0 33 K)) (finK tab (fnT Try.f33).res K) 400 (roundAt (fnT Try.f33) 10) (dealt_s10_1 tn ts ta tb tc td te n sealed opened op ch x0 x1 x2 x3) =
    (bif decide (x2 < x1) then bif decide (0 ≤ x2) && decide (x2 < (↑sealed.length : Int)) then bif !sealed.getD x2.toNat false then dealt_j17 tn ts ta tb tc td te n sealed opened op ch x0 x2 x1 x2 (bif true then decide (ch < 0) else false) x3 n0 K else dealt_j17 tn ts ta tb tc td te n sealed opened op ch x0 x2 x1 x2 false x3 n0 K else False else dealt_j18 tn ts ta tb tc td te n sealed opened op ch x0 x3 n0 K) := by kernel_rfl
set_option maxRecDepth 1000000 in
theorem dealt_s23_0_E (tn : Int) (ts : Int) (ta : List Bool) (tb : List Bool) (tc : List Int) (td : List (List Int)) (te : Int) (n : Int) (sealed : List Bool) (opened : List Bool) (op : List (List Int)) (ch : Int) (x0 : Int) (x1 : Int) (x2 : List Int) (x3 : List Int) (x4 : List Int) (n0 : Nat) (K : AV → List HObj → Prop) :
    execN tab (mixE tab conD2 [54, 56, 55] 400) (maskN dealt_live dealt_nils (GoodL Try.prog n0 33 K)) (finK tab (fnT Try.f33).res K) 400 (roundAt (fnT Try.f33) 23) (dealt_s23_0 tn ts ta tb tc td te n sealed opened op ch x0 x1 x2 x3 x4) =
    (bif decide (x1 < n) then bif bif (x3.length + [x1].length).ble 9223372036854775807 then ((x3.length + [x1].length) * 8).ble 140737488355328 else false then GoodL Try.prog n0 33 K (headAt (fnT Try.f33) 23) (dealt_s23_0 tn ts ta tb tc td te n sealed opened op ch x0 (IntKind.i64.wrap (x1 + 1)) x2 (x3 ++ [x1]) x4) else False else GoodL Try.prog n0 33 K (headAt (fnT Try.f33) 28) (dealt_s28_0 tn ts ta tb tc td te n sealed opened op ch x0 (if IntKind.i64.wrap (n - 1) > 0 then IntKind.i64.wrap (n - 1) else 0) 0 x2 x3 x4)) := by kernel_rfl
set_option maxRecDepth 1000000 in
theorem dealt_s23_1_E (tn : Int) (ts : Int) (ta : List Bool) (tb : List Bool) (tc : List Int) (td : List (List Int)) (te : Int) (n : Int) (sealed : List Bool) (opened : List Bool) (op : List (List Int)) (ch : Int) (x0 : List Int) (x1 : Int) (x2 : Int) (x3 : List Int) (x4 : List Int) (n0 : Nat) (K : AV → List HObj → Prop) :
    execN tab (mixE tab conD2 [54, 56, 55] 400) (maskN dealt_live dealt_nils (GoodL Try.prog n0 33 K)) (finK tab (fnT Try.f33).res K) 400 (roundAt (fnT Try.f33) 23) (dealt_s23_1 tn ts ta tb tc td te n sealed opened op ch x0 x1 x2 x3 x4) =
    (bif decide (x2 < n) then bif bif (x3.length + [x2].length).ble 9223372036854775807 then ((x3.length + [x2].length) * 8).ble 140737488355328 else false then GoodL Try.prog n0 33 K (headAt (fnT Try.f33) 23) (dealt_s23_1 tn ts ta tb tc td te n sealed opened op ch x0 x1 (IntKind.i64.wrap (x2 + 1)) (x3 ++ [x2]) x4) else False else GoodL Try.prog n0 33 K (headAt (fnT Try.f33) 28) (dealt_s28_1 tn ts ta tb tc td te n sealed opened op ch x0 x1 (if IntKind.i64.wrap (n - 1) > 0 then IntKind.i64.wrap (n - 1) else 0) 0 x3 x4)) := by kernel_rfl
set_option maxRecDepth 1000000 in
theorem dealt_s28_0_E (tn : Int) (ts : Int) (ta : List Bool) (tb : List Bool) (tc : List Int) (td : List (List Int)) (te : Int) (n : Int) (sealed : List Bool) (opened : List Bool) (op : List (List Int)) (ch : Int) (x0 : Int) (x1 : Int) (x2 : Int) (x3 : List Int) (x4 : List Int) (x5 : List Int) (n0 : Nat) (K : AV → List HObj → Prop) :
    execN tab (mixE tab conD2 [54, 56, 55] 400) (maskN dealt_live dealt_nils (GoodL Try.prog n0 33 K)) (finK tab (fnT Try.f33).res K) 400 (roundAt (fnT Try.f33) 28) (dealt_s28_0 tn ts ta tb tc td te n sealed opened op ch x0 x1 x2 x3 x4 x5) =
    (bif decide (x2 < x1) then GoodL Try.prog n0 33 K (headAt (fnT Try.f33) 32) (dealt_s32_0 tn ts ta tb tc td te n sealed opened op ch x0 x2 0 x1 x2 (↑op.length : Int) 0 x3 x4 x5) else bif decide (x0 = 0) then (Fit x4 ∧ drawV (↑x4.length : Int) x5 = 0) ∧ Sm x3 ∧ K (AV.bool (bif true then decide (x3 = shufV x4 x5) else false)) [HObj.typed (ETy.one (CTy.int IntKind.i64)) x3 false, HObj.typed (ETy.one (CTy.int IntKind.i64)) x4 true, HObj.typed (ETy.one (CTy.int IntKind.i64)) x5 true] else K (AV.bool false) [HObj.typed (ETy.one (CTy.int IntKind.i64)) x3 false, HObj.typed (ETy.one (CTy.int IntKind.i64)) x4 false, HObj.typed (ETy.one (CTy.int IntKind.i64)) x5 false]) := by kernel_rfl
set_option maxRecDepth 1000000 in
theorem dealt_s28_1_E (tn : Int) (ts : Int) (ta : List Bool) (tb : List Bool) (tc : List Int) (td : List (List Int)) (te : Int) (n : Int) (sealed : List Bool) (opened : List Bool) (op : List (List Int)) (ch : Int) (x0 : List Int) (x1 : Int) (x2 : Int) (x3 : Int) (x4 : List Int) (x5 : List Int) (n0 : Nat) (K : AV → List HObj → Prop) :
    execN tab (mixE tab conD2 [54, 56, 55] 400) (maskN dealt_live dealt_nils (GoodL Try.prog n0 33 K)) (finK tab (fnT Try.f33).res K) 400 (roundAt (fnT Try.f33) 28) (dealt_s28_1 tn ts ta tb tc td te n sealed opened op ch x0 x1 x2 x3 x4 x5) =
    (bif decide (x3 < x2) then GoodL Try.prog n0 33 K (headAt (fnT Try.f33) 32) (dealt_s32_1 tn ts ta tb tc td te n sealed opened op ch x0 x1 x3 0 x2 x3 (↑op.length : Int) 0 x4 x5) else bif decide (x1 = 0) then (Fit x4 ∧ drawV (↑x4.length : Int) x5 = 0) ∧ Sm x0 ∧ K (AV.bool (bif true then decide (x0 = shufV x4 x5) else false)) [HObj.typed (ETy.one (CTy.int IntKind.i64)) x4 true, HObj.typed (ETy.one (CTy.int IntKind.i64)) x5 true] else K (AV.bool false) [HObj.typed (ETy.one (CTy.int IntKind.i64)) x4 false, HObj.typed (ETy.one (CTy.int IntKind.i64)) x5 false]) := by kernel_rfl
set_option maxRecDepth 1000000 in
theorem dealt_s32_0_E (tn : Int) (ts : Int) (ta : List Bool) (tb : List Bool) (tc : List Int) (td : List (List Int)) (te : Int) (n : Int) (sealed : List Bool) (opened : List Bool) (op : List (List Int)) (ch : Int) (x0 : Int) (x1 : Int) (x2 : Int) (x3 : Int) (x4 : Int) (x5 : Int) (x6 : Int) (x7 : List Int) (x8 : List Int) (x9 : List Int) (n0 : Nat) (K : AV → List HObj → Prop) :
    execN tab (mixE tab conD2 [54, 56, 55] 400) (maskN dealt_live dealt_nils (GoodL Try.prog n0 33 K)) (finK tab (fnT Try.f33).res K) 400 (roundAt (fnT Try.f33) 32) (dealt_s32_0 tn ts ta tb tc td te n sealed opened op ch x0 x1 x2 x3 x4 x5 x6 x7 x8 x9) =
    (bif decide (x6 < x5) then bif decide (0 ≤ x6) && decide (x6 < (↑op.length : Int)) then bif decide (0 ≤ x1) && decide (x1 < (↑(List.length (op.getD x6.toNat [])) : Int)) then GoodL Try.prog n0 33 K (headAt (fnT Try.f33) 32) (dealt_s32_0 tn ts ta tb tc td te n sealed opened op ch x0 x1 (IntKind.i64.wrap (x2 + List.getD (op.getD x6.toNat []) x1.toNat 0)) x3 x4 x5 (IntKind.i64.wrap (x6 + 1)) x7 x8 x9) else False else False else bif !decide (IntKind.i64.wrap (n - x1) = 0) then bif bif (x9.length + [x2.tmod (IntKind.i64.wrap (n - x1))].length).ble 9223372036854775807 then ((x9.length + [x2.tmod (IntKind.i64.wrap (n - x1))].length) * 8).ble 140737488355328 else false then GoodL Try.prog n0 33 K (headAt (fnT Try.f33) 28) (dealt_s28_0 tn ts ta tb tc td te n sealed opened op ch x0 x3 (IntKind.i64.wrap (x4 + 1)) x7 x8 (x9 ++ [x2.tmod (IntKind.i64.wrap (n - x1))])) else False else False) := by kernel_rfl
set_option maxRecDepth 1000000 in
theorem dealt_s32_1_E (tn : Int) (ts : Int) (ta : List Bool) (tb : List Bool) (tc : List Int) (td : List (List Int)) (te : Int) (n : Int) (sealed : List Bool) (opened : List Bool) (op : List (List Int)) (ch : Int) (x0 : List Int) (x1 : Int) (x2 : Int) (x3 : Int) (x4 : Int) (x5 : Int) (x6 : Int) (x7 : Int) (x8 : List Int) (x9 : List Int) (n0 : Nat) (K : AV → List HObj → Prop) :
    execN tab (mixE tab conD2 [54, 56, 55] 400) (maskN dealt_live dealt_nils (GoodL Try.prog n0 33 K)) (finK tab (fnT Try.f33).res K) 400 (roundAt (fnT Try.f33) 32) (dealt_s32_1 tn ts ta tb tc td te n sealed opened op ch x0 x1 x2 x3 x4 x5 x6 x7 x8 x9) =
    (bif decide (x7 < x6) then bif decide (0 ≤ x7) && decide (x7 < (↑op.length : Int)) then bif decide (0 ≤ x2) && decide (x2 < (↑(List.length (op.getD x7.toNat [])) : Int)) then GoodL Try.prog n0 33 K (headAt (fnT Try.f33) 32) (dealt_s32_1 tn ts ta tb tc td te n sealed opened op ch x0 x1 x2 (IntKind.i64.wrap (x3 + List.getD (op.getD x7.toNat []) x2.toNat 0)) x4 x5 x6 (IntKind.i64.wrap (x7 + 1)) x8 x9) else False else False else bif !decide (IntKind.i64.wrap (n - x2) = 0) then bif bif (x9.length + [x3.tmod (IntKind.i64.wrap (n - x2))].length).ble 9223372036854775807 then ((x9.length + [x3.tmod (IntKind.i64.wrap (n - x2))].length) * 8).ble 140737488355328 else false then GoodL Try.prog n0 33 K (headAt (fnT Try.f33) 28) (dealt_s28_1 tn ts ta tb tc td te n sealed opened op ch x0 x1 x4 (IntKind.i64.wrap (x5 + 1)) x8 (x9 ++ [x3.tmod (IntKind.i64.wrap (n - x2))])) else False else False) := by kernel_rfl
end Go.Proofs.Ytejcniaepjahbaa.Mach
end
section
/- Deals: the law's own look at a deal. -/
set_option linter.unusedVariables false
set_option linter.unusedSimpArgs false
namespace Go.Proofs.Ytejcniaepjahbaa.Lib
open Go Go.Proofs.Ytejcniaepjahbaa.Mach
theorem res_bool' {Q : Res} {b : Bool} {H : List HObj} (h : Q (.bool b) []) : resK Q (.bool b) H := res_plain h rfl rfl
theorem comb_con' {n : Int} {l : List (List Int)} {Q : Res} (h : combC' n l Q) : Con Try.prog 27 [.int .i64 n, .imm (eL eI) l] Q := by
  obtain ⟨hF, hq⟩ := h
  refine Con.sealTo (Q := fun v o => (v = .tup [.own 0, .int .i64 (Deal.combE n l)] ∧ ∃ fz, o = [.typed eI (combO n l) fz]) ∨ (combO n l = [] ∧ v = .tup [.nils, .int .i64 (Deal.combE n l)])) (Deal.comb_con ⟨hF, fun h0 => Or.inr ⟨if_neg h0, rfl⟩, fun h0 h1 => Or.inr ⟨?_, by rw [h0]⟩, fun h0 h1 => Or.inl ⟨by rw [h0], false, by unfold combO; rw [if_pos h0]⟩⟩) fun v o hv => ?_
  · unfold combO
    rw [if_pos h0]
    unfold Deal.combOut
    rw [show (n - 1).toNat = 0 by omega]; rfl
  · rcases hv with ⟨rfl, fz, rfl⟩ | ⟨h1, rfl⟩
    · exact ⟨_, ⟨_, rfl, .cons ⟨eI, _, fz, rfl, rfl⟩ (.cons rfl .nil)⟩, hq⟩
    · rw [h1] at hq
      exact ⟨_, ⟨_, rfl, .cons (Or.inr ⟨eI, rfl⟩) (.cons rfl .nil)⟩, hq⟩
theorem conD2_ok : ∀ g xs Q, conD2 g xs Q → Con Try.prog g xs Q := table_ok fun p hp => by
  simp only [List.mem_cons, List.not_mem_nil, or_false] at hp
  rcases hp with rfl | rfl | rfl | rfl | rfl | rfl | rfl
  · exact c2_ok fun _ _ _ h => equI_con h
  · exact c2_ok fun _ _ _ h => comb_con' h
  · exact c2_ok fun _ _ _ h => hasB_con h
  · exact c1_ok fun _ _ h => miss_con h
  · exact c2_ok fun _ _ _ h => shuffled_con h
  · exact c1_ok fun _ _ h => fresh_con h
  · exact c2_ok fun _ _ _ h => shuffle_con h
/-- the first x cards -/
def freshTo (x : Nat) : List Int := (List.range x).map fun (i : Nat) => (i : Int)
theorem freshTo_succ (x : Nat) : freshTo (x + 1) = freshTo x ++ [(x : Int)] := by
  unfold freshTo
  rw [List.range_succ, List.map_append]; rfl
theorem freshTo_len (x : Nat) : (freshTo x).length = x := by unfold freshTo; simp
theorem room {l : List Int} {x : Int} {k : Nat} (h : l.length = k) (hk : k ≤ 1000) : (bif (l.length + [x].length).ble 9223372036854775807 then ((l.length + [x].length) * 8).ble 140737488355328 else false) = true := by
  rw [h, show k + [x].length = k + 1 from rfl, (ble_iff _ _).2 (show k + 1 ≤ 9223372036854775807 by omega)]
  exact (ble_iff _ _).2 (by omega)
section
variable {n : Int} {sealed opened : List Bool} {tc : List Int} {op : List (List Int)} {ch : Int} {Q : Res} {n0 : Nat}
theorem dealt_deck (D : Deals ⟨n, 2, sealed, opened, tc, op, ch⟩ n sealed opened op ch) (h2 : stageOf sealed opened ch = 2) (hq : Q (.bool true) []) :
    GoodL Try.prog n0 33 (resK Q) (headAt (fnT Try.f33) 23) (dealt_s23_1 n 2 sealed opened tc op ch n sealed opened op ch (shufO (freshV n) (combO n op)) (shufE (freshV n) (combO n op)) 0 [] []) := by
  have hn0 := D.n0
  have hn52 := D.n52
  have hls := D.ls
  have hlo := D.lo
  have hld := D.ld
  have hso : ¬ false ∈ sealed ∧ ¬ false ∈ opened ∧ ¬ 0 ≤ ch := by
    unfold stageOf at h2
    split at h2
    · omega
    · split at h2
      · omega
      · split at h2
        · omega
        · rename_i a b c; exact ⟨b, c, a⟩
  have hdr : ∀ i, i < op.length → drawV n (op.getD i []) = 0 := fun i hi => D.fits i (by
    rw [List.getD_eq_getElem?_getD, List.getElem?_eq_getElem (by omega)]
    simp only [Option.getD_some]
    cases hc : opened[i]'(by omega) with
    | true => rfl
    | false => exact absurd (hc ▸ List.getElem_mem (by omega)) hso.2.1)
  have hft : ∀ y, y < op.length → Deal.fitsV n (op.getD y []) = 0 := fun y hy => fits_of_draw (hdr y hy)
  have hce := comb_zero hn0 hn52 (by omega) hdr
  have hco : combO n op = Deal.combOut n op := by unfold combO; rw [if_pos hce]
  have hfl := fresh_len hn0 hn52
  have hfd := fresh_deck hn0 hn52
  have hcd := comb_draw (op := op) hn0
  have hse : shufE (freshV n) (combO n op) = 0 := by
    unfold shufE
    rw [hco, hfd, if_neg (fun h => h rfl), hfl, Int.toNat_of_nonneg hn0]
    exact hcd
  have hsv : shufO (freshV n) (combO n op) = shufV (freshV n) (Deal.combOut n op) := by unfold shufO; rw [if_pos hse, hco]
  have hfv : freshTo n.toNat = freshV n := by unfold freshV freshTo; rw [if_neg (by omega)]
  have hsl : (shufV (freshV n) (Deal.combOut n op)).length = n.toNat := by unfold shufV; rw [shufS_len, hfl]
  rw [hse, hsv]
  generalize hW : shufV (freshV n) (Deal.combOut n op) = W at *
  -- the columns
  have cols := loopN (f := 33) (gn := fnT Try.f33) (n0 := n0) (r := 28) (by kernel_rfl) conD2_ok (inl := [54, 56, 55]) (LT := dealt_live) (NT := dealt_nils) (K := resK Q) (fun j : Nat => dealt_s28_1 n 2 sealed opened tc op ch n sealed opened op ch W 0 (max 0 (n - 1)) (j : Int) (freshV n) (Deal.outTo n op j)) (fun j => (n - 1).toNat - j) (fun j => (j : Int) ≤ max 0 (n - 1)) (fun j hj ih => by
    rw [dealt_s28_1_E]
    by_cases hjn : (j : Int) < max 0 (n - 1)
    · refine bif_pos hjn ?_
      have inner := loopN (f := 33) (gn := fnT Try.f33) (n0 := n0) (r := 32) (by kernel_rfl) conD2_ok (inl := [54, 56, 55]) (LT := dealt_live) (NT := dealt_nils) (K := resK Q) (fun x : Nat => dealt_s32_1 n 2 sealed opened tc op ch n sealed opened op ch W 0 (j : Int) (Deal.pS op j x) (max 0 (n - 1)) (j : Int) (op.length : Int) (x : Int) (freshV n) (Deal.outTo n op j)) (fun x => op.length - x) (fun x => x ≤ op.length) (fun x hx ih2 => by
        rw [dealt_s32_1_E]
        by_cases hxl : x < op.length
        · have hlen := (Deal.fitsV_ok (hft x hxl)).1
          have b1 := Deal.pS_bound (n := n) (l := op) (j := j) hn52 (by omega) hft x (by omega)
          have b2 := Deal.pS_bound (n := n) (l := op) (j := j) hn52 (by omega) hft (x + 1) (by omega)
          have hs := Deal.pS_succ (l := op) (j := j) hxl
          have ih' := ih2 (x + 1) (by omega) (by omega)
          rw [hs] at ih' b2
          refine bif_pos (by omega) (bif_and (bif_pos (by omega) (bif_pos (by omega) (bif_and (bif_pos (by omega) (bif_pos (by rw [Int.toNat_natCast]; omega) ?_))))))
          rw [Int.toNat_natCast, Int.toNat_natCast, wrD hxl (by omega), wr (n := Deal.pS op j x + _) (by omega) (by omega)]
          exact ih'
        · have hxx : x = op.length := by omega
          subst hxx
          have b1 := Deal.pS_bound (n := n) (l := op) (j := j) hn52 (by omega) hft op.length (by omega)
          rw [Deal.pS_all] at b1 ⊢
          have hol : (Deal.outTo n op j).length = j := by unfold Deal.outTo; simp
          refine bif_neg (by omega) ?_
          rw [wr (n := n - j) (by omega) (by omega), Int.tmod_eq_emod_of_nonneg b1.1, wr (n := (j : Int) + 1) (by omega) (by omega)]
          refine bif_not (bif_neg (by omega) (bif_t (room hol (by omega)) ?_))
          have := ih (j + 1) (by omega) (by omega)
          rw [Deal.outTo_succ] at this
          exact this)
      exact inner 0 (Nat.zero_le _)
    · have hjj : (j : Int) = max 0 (n - 1) := by omega
      have hout : Deal.outTo n op j = Deal.combOut n op := by
        unfold Deal.outTo Deal.combOut
        rw [show j = (n - 1).toNat by omega]
      refine bif_neg hjn (bif_pos rfl ⟨⟨?_, ?_⟩, ?_, ?_⟩)
      · unfold Fit; omega
      · rw [hout, hfl, Int.toNat_of_nonneg hn0]; exact hcd
      · unfold Sm; omega
      · rw [hout, cond_true, hW, decide_eq_true rfl]
        exact res_bool' hq)
  have cards := loopN (f := 33) (gn := fnT Try.f33) (n0 := n0) (r := 23) (by kernel_rfl) conD2_ok (inl := [54, 56, 55]) (LT := dealt_live) (NT := dealt_nils) (K := resK Q) (fun x : Nat => dealt_s23_1 n 2 sealed opened tc op ch n sealed opened op ch W 0 (x : Int) (freshTo x) []) (fun x => n.toNat - x) (fun x => x ≤ n.toNat) (fun x hx ih => by
    rw [dealt_s23_1_E]
    by_cases hxn : (x : Int) < n
    · refine bif_pos hxn (bif_t (room (freshTo_len x) (by omega)) ?_)
      have := ih (x + 1) (by omega) (by omega)
      rw [freshTo_succ] at this
      rw [wr (n := (x : Int) + 1) (by omega) (by omega)]
      exact this
    · refine bif_neg hxn ?_
      rw [show x = n.toNat by omega, hfv, wr (n := n - 1) (by omega) (by omega), show (if n - 1 > 0 then n - 1 else 0) = max 0 (n - 1) by omega]
      exact cols 0 (by omega))
  exact cards 0 (Nat.zero_le _)
theorem dealt_end (D : Deals ⟨n, stageOf sealed opened ch, sealed, opened, tc, op, ch⟩ n sealed opened op ch) (hq : Q (.bool true) []) :
    dealt_j18 n (stageOf sealed opened ch) sealed opened tc op ch n sealed opened op ch (stageOf sealed opened ch) (missV ⟨n, stageOf sealed opened ch, sealed, opened, tc, op, ch⟩) n0 (resK Q) := by
  have yes : ∀ H, resK Q (.bool true) H := fun H => res_bool' hq
  have hls := D.ls
  have hlo := D.lo
  have hld := D.ld
  have hsm : Sm sealed ∧ Sm opened ∧ sealed.length * 8 ≤ 140737488351232 ∧ opened.length * 8 ≤ 140737488351232 := ⟨by unfold Sm; omega, by unfold Sm; omega, by omega, by omega⟩
  have hmm : Sm (missV ⟨n, stageOf sealed opened ch, sealed, opened, tc, op, ch⟩) := by
    unfold Sm missV
    split
    · have h1 := falsesK_len sealed sealed.length
      have h2 := falsesK_len opened opened.length
      simp only
      split
      · exact Nat.le_trans h2 (by omega)
      · exact Nat.le_trans h1 (by omega)
    · simp
  generalize hM : missV ⟨n, stageOf sealed opened ch, sealed, opened, tc, op, ch⟩ = M at *
  generalize hS : stageOf sealed opened ch = S at *
  unfold dealt_j18
  unfold stageOf at hS
  by_cases hch : 0 ≤ ch
  · rw [if_pos hch] at hS
    refine bif_not (bif_pos hS.symm (bif_not (bif_neg (by omega) ?_)))
    unfold dealt_j14
    rw [hM]
    refine bif_not (bif_pos rfl ⟨hsm, hmm, bif_f (by rw [cond_false, decide_eq_true rfl]; decide) (bif_pos hch (bif_not (bif_pos rfl (bif_f (by simp) (bif_neg (by omega) (bif_not (bif_neg (by omega) (bif_pos rfl (yes _)))))))))⟩)
  · rw [if_neg hch] at hS
    refine bif_not (bif_neg (by split at hS <;> (try split at hS) <;> omega) ?_)
    by_cases h2 : S = 2
    · subst h2
      have hS' : stageOf sealed opened ch = 2 := by unfold stageOf; rw [if_neg hch]; exact hS
      have hso : ¬ false ∈ sealed ∧ ¬ false ∈ opened := by
        split at hS
        · omega
        · split at hS
          · omega
          · rename_i b c; exact ⟨b, c⟩
      have hn0 := D.n0
      have hn52 := D.n52
      have hdr : ∀ i, i < op.length → drawV n (op.getD i []) = 0 := fun i hi => D.fits i (by
        rw [List.getD_eq_getElem?_getD, List.getElem?_eq_getElem (by omega)]
        simp only [Option.getD_some]
        cases hc : opened[i]'(by omega) with
        | true => rfl
        | false => exact absurd (hc ▸ List.getElem_mem (by omega)) hso.2)
      have hce := comb_zero hn0 hn52 (by omega) hdr
      have hfe : freshE n = 0 := by unfold freshE; rw [if_neg (by omega)]
      have hfl := fresh_len hn0 hn52
      have hcl : (combO n op).length = (n - 1).toNat := by unfold combO; rw [if_pos hce, comb_len]
      rw [hM]
      refine bif_not (bif_pos rfl ⟨D.fit, bif_not (bif_pos hce (bif_not (bif_pos hfe ⟨⟨by unfold Sm; omega, by unfold Sm; omega⟩, bif_not (bif_pos rfl ⟨hsm, hmm, bif_f (by rw [cond_false, decide_eq_true rfl]; decide) (bif_neg (by omega) (bif_pos (by omega) (bif_not (bif_pos rfl (dealt_deck D hS' hq)))))⟩)⟩)))⟩)
    · refine bif_not (bif_neg h2 ?_)
      unfold dealt_j11
      rw [hM]
      exact bif_not (bif_pos rfl ⟨hsm, hmm, bif_f (by rw [cond_false, decide_eq_true rfl]; decide) (bif_neg (by omega) (bif_pos (by omega) (bif_not (bif_pos rfl (bif_f (by simp) (bif_not (bif_neg h2 (bif_pos rfl (yes _)))))))))⟩)
end
end Go.Proofs.Ytejcniaepjahbaa.Lib
end
