import Derived.Test.YtolikobhjmnedaaDoorWWords
/-! Small lemmas on rounds, ranges and lists: mine, for the pure statements of this seat. -/
namespace Go.Proofs.YtolikobhjmnedaaDoor.Aid
open Go.RowKit Go.Proofs.YtolikobhjmnedaaDoorW.PrintWords

section
variable {α β : Type} {f g : Nat → Option α} {r : α} {c : Prop} [Decidable c]
theorem Ev.yes (h : c) (k : Ev f r) : Ev (fun n => if c then f n else g n) r := by
  simpa [h] using k
theorem Ev.no (h : ¬ c) (k : Ev g r) : Ev (fun n => if c then f n else g n) r := by
  simpa [h] using k
theorem Ev.ite (h1 : c → Ev f r) (h2 : ¬ c → Ev g r) : Ev (fun n => if c then f n else g n) r := by
  by_cases h : c
  · exact Ev.yes h (h1 h)
  · exact Ev.no h (h2 h)
theorem Ev.now' {a b : α} (h : a = b) : Ev (fun _ => some a) b := by subst h; exact Ev.now _
theorem Ev.bind1 {g : Nat → Option β} {f : Nat → β → Option α} {a : β} (h : Ev g a) (k : Ev (fun n => f n a) r) : Ev (fun n => (g n).bind fun x => f n x) r := Ev.bind h k
theorem Ev.some_bind {f : Nat → β → Option α} {a : β} (k : Ev (fun n => f n a) r) : Ev (fun n => (some a).bind fun x => f n x) r := k
theorem Ev.opt_bind {o : Option β} {f : Nat → β → Option α} {a : β} (h : o = some a) (k : Ev (fun n => f n a) r) : Ev (fun n => o.bind fun x => f n x) r := by subst h; exact k
end

theorem w64 {i : Int} (h0 : -9223372036854775808 ≤ i) (h1 : i < 9223372036854775808) : wrap64 i = i := by unfold wrap64; omega
theorem w64s {j : Nat} (h : j < 1000000000000000) : wrap64 ((j : Int) + 1) = ((j + 1 : Nat) : Int) := by rw [w64] <;> omega
theorem rd_nat (l : List Int) (j : Nat) : rd l (j : Int) = l.getD j 0 := by simp [rd]
theorem rd_eq (l : List Int) (j : Nat) (h : j < l.length) : rd l (j : Int) = l[j] := by simp [rd, h]
theorem drop_rd (l : List Int) (j : Nat) (h : j < l.length) : l.drop j = rd l (j : Int) :: l.drop (j + 1) := by
  rw [rd_eq l j h]; exact List.drop_eq_getElem_cons h
theorem mem_rd (l : List Int) (j : Nat) (h : j < l.length) : rd l (j : Int) ∈ l := by
  rw [rd_eq l j h]; exact List.getElem_mem h
end Go.Proofs.YtolikobhjmnedaaDoor.Aid
