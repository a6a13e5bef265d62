/- The memory grows: what is known of the old objects lasts; a new object is added. -/
import Derived.Test.YtejcniaepjahbaaM8
set_option linter.unusedSimpArgs false
namespace Go.Proofs.Ytejcniaepjahbaa.Mach
open Go
theorem blk_ownBlock (v : Value) (g : Nat) (h : v.ownBlock = some g) : blk v = some g := by
  cases v <;> simp [Value.ownBlock] at h
  rename_i A n k
  cases A with
  | none => simp at h
  | some ad => simpa [blk] using h
theorem ObjR.mono {n0 : Nat} {c c' : Ctx} {w w' : World} {id : Nat} {ob : HObj} (hc : Ctx.le c c') (hid : id < c.n) (hS : ∀ g, blk (c.m id) = some g → c'.S g → c.S g)
    (hw : ∀ g, c.S g → w'.heap[g]? = w.heap[g]?) (hb : ∀ g, blk (c.m id) = some g → w'.heap[g]? = w.heap[g]?) (h : ObjR n0 c w id ob) : ObjR n0 c' w' id ob := by
  cases ob with
  | dead => trivial
  | box cs =>
    obtain ⟨g, Ty, arr, h1, h2, h3, h4, h5, h6⟩ := h
    have hbg := hb g (by rw [h1]; rfl)
    exact ⟨g, Ty, arr, (hc.m _ hid).trans h1, h2, hbg.trans h3, h4, fun j x hx => (h5 j x hx).mono hc hw, fun hg => h6 (hS g (by rw [h1]; rfl) hg)⟩
  | typed e xs fz =>
    obtain ⟨hz, ⟨Ty, cells, hown, hrow⟩, hst⟩ := h
    refine ⟨(hc.z _ hid).trans hz, ⟨Ty, cells, ?_, fun i x hx => ?_⟩, fun g hg => ?_⟩
    · rw [hc.m _ hid]
      refine ⟨hown.1, ?_⟩
      rcases hown.2 with hn | ⟨g, cap, cur, hv, hb0, hh, rest⟩
      · exact .inl hn
      · exact .inr ⟨g, cap, cur, hv, hb0, (hb g (by rw [hv]; rfl)).trans hh, rest⟩
    · obtain ⟨vs, h1, h2⟩ := hrow i x hx
      exact ⟨vs, ElemR.mono hc.S hw h1, h2⟩
    · rw [hc.m _ hid] at hg
      exact ⟨fun hf => hc.S _ ((hst g hg).1 hf), fun hf hs => (hst g hg).2 hf (hS g hg hs)⟩
/-- a context with one object more -/
def Ctx.more (c : Ctx) (v : Value) (z : Nat) (S : Nat → Prop) : Ctx := ⟨c.n + 1, fun id => if id = c.n then v else c.m id, fun id => if id = c.n then z else c.z id, S, c.S0⟩
theorem Ctx.more_le (c : Ctx) (v : Value) (z : Nat) {S : Nat → Prop} (hS : ∀ g, c.S g → S g) : Ctx.le c (c.more v z S) :=
  ⟨Nat.le_succ _, fun id hi => by simp [Ctx.more, show ¬ id = c.n by omega], fun id hi => by simp [Ctx.more, show ¬ id = c.n by omega], hS, rfl⟩
theorem objAt_append (H : List HObj) (o : HObj) (id : Nat) : objAt (H ++ [o]) id = if id < H.length then objAt H id else if id = H.length then o else .dead := by
  rw [objAt_get, objAt_get]
  by_cases h : id < H.length
  · rw [if_pos h, List.getElem?_append_left h]
  · rw [if_neg h]
    by_cases h1 : id = H.length
    · rw [if_pos h1, h1]; simp
    · rw [if_neg h1, List.getElem?_eq_none (by simp; omega)]; rfl
/-- a new object, in a block behind all others -/
theorem HR.push {n0 : Nat} {c : Ctx} {H : List HObj} {w w' : World} (h : HR n0 c H w) {v : Value} {z : Nat} {ob : HObj} (hold : ∀ g, g < w.heap.size → w'.heap[g]? = w.heap[g]?) (hSs : ∀ g, c.S g → g < w.heap.size)
    (hlt : ∀ id g, id < H.length → alive (objAt H id) = true → blk (c.m id) = some g → g < w.heap.size) (hnew : ∀ g, blk v = some g → w.heap.size ≤ g)
    (hob : ObjR n0 (c.more v z c.S) w' c.n ob) : HR n0 (c.more v z c.S) (H ++ [ob]) w' := by
  have hcl := h.len
  have hle := Ctx.more_le c v z (S := c.S) (fun _ hg => hg)
  refine ⟨by simp [Ctx.more, hcl], fun id hid => ?_, fun i j g hi hj hne ai aj bi => ?_⟩
  · rw [objAt_append]
    by_cases h1 : id < H.length
    · rw [if_pos h1]
      by_cases hal : alive (objAt H id) = true
      · exact (h.obj id h1).mono hle (by omega) (fun _ _ hg => hg) (fun g hg => hold g (hSs g hg)) (fun g hg => hold g (hlt id g h1 hal hg))
      · cases ho : objAt H id with
        | dead => trivial
        | typed e xs fz => rw [ho] at hal; simp [alive] at hal
        | box cs => rw [ho] at hal; simp [alive] at hal
    · rw [if_neg h1, if_pos (by simp at hid; omega), show id = c.n by simp at hid; omega]
      exact hob
  · simp only [List.length_append, List.length_singleton] at hi hj
    rw [objAt_append] at ai aj
    have em : ∀ k, k < H.length → (c.more v z c.S).m k = c.m k := fun k hk => by simp [Ctx.more, show ¬ k = c.n by omega]
    have en : (c.more v z c.S).m H.length = v := by simp [Ctx.more, hcl]
    by_cases h1 : i < H.length
    · rw [if_pos h1] at ai
      rw [em i h1] at bi
      by_cases h2 : j < H.length
      · rw [if_pos h2] at aj
        rw [em j h2]
        exact h.dist i j g h1 h2 hne ai aj bi
      · have hj' : j = H.length := by omega
        subst hj'
        rw [en]
        intro hg
        have := hnew g hg
        have := hlt i g h1 ai bi
        omega
    · have hi' : i = H.length := by omega
      subst hi'
      rw [en] at bi
      have h2 : j < H.length := by omega
      rw [if_pos h2] at aj
      rw [em j h2]
      intro hg
      have := hnew g bi
      have := hlt j g h2 aj hg
      omega
/-- a live object's block lies in the memory -/
theorem HR.lt {n0 : Nat} {c : Ctx} {H : List HObj} {w : World} (h : HR n0 c H w) (id g : Nat) (hid : id < H.length) (hal : alive (objAt H id) = true) (hb : blk (c.m id) = some g) : g < w.heap.size := by
  have ho := h.obj id hid
  cases hobj : objAt H id with
  | dead => rw [hobj] at hal; simp [alive] at hal
  | box cs =>
    rw [hobj] at ho
    obtain ⟨g', Ty, arr, h1, _, h3, _⟩ := ho
    rw [h1] at hb
    simp only [blk, Option.some.injEq] at hb
    subst hb
    exact (Array.getElem?_eq_some_iff.1 h3).1
  | typed e xs fz =>
    rw [hobj] at ho
    obtain ⟨_, ⟨Ty, cells, hown, _⟩, _⟩ := ho
    rcases hown.2 with ⟨hv, _⟩ | ⟨g', cap, cur, hv, _, hh, _⟩
    · rw [hv] at hb; simp [blk] at hb
    · rw [hv] at hb
      simp only [blk, Option.some.injEq] at hb
      subst hb
      exact (Array.getElem?_eq_some_iff.1 hh).1
/-- a live object's block is ours -/
theorem HR.base' {n0 : Nat} {c : Ctx} {H : List HObj} {w : World} (h : HR n0 c H w) {id g : Nat} (hid : id < H.length) (hal : alive (objAt H id) = true) (hb : blk (c.m id) = some g) : n0 ≤ g := by
  have ho := h.obj id hid
  cases hobj : objAt H id with
  | dead => rw [hobj] at hal; simp [alive] at hal
  | box cs =>
    rw [hobj] at ho
    obtain ⟨g', Ty, arr, h1, h2, h3, _⟩ := ho
    rw [h1] at hb
    simp only [blk, Option.some.injEq] at hb
    omega
  | typed e xs fz =>
    rw [hobj] at ho
    obtain ⟨_, ⟨Ty, cells, hown, _⟩, _⟩ := ho
    rcases hown.2 with ⟨hv, _⟩ | ⟨g', cap, cur, hv, hn, hh, _⟩
    · rw [hv] at hb; simp [blk] at hb
    · rw [hv] at hb
      simp only [blk, Option.some.injEq] at hb
      omega
end Go.Proofs.Ytejcniaepjahbaa.Mach
