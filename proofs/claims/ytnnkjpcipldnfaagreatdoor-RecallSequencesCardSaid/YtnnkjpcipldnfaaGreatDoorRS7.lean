/- Texts of this session, put together. -/
import Derived.Test.YtnnkjpcipldnfaaGreatDoorRS6
section
set_option linter.unusedSimpArgs false
set_option linter.unusedVariables false
namespace Go.Proofs.YtnnkjpcipldnfaaGreatDoor.Lib
open Go Go.Proofs.YtnnkjpcipldnfaaGreatDoor.Mach Go.Proofs.YtnnkjpcipldnfaaGreatDoorW.PrintWords Go.Proofs.YtnnkjpcipldnfaaGreatDoor.Sem Go.Proofs.YtnnkjpcipldnfaaGreatDoor.Pure
section
def isTrueG : Res := fun v _ => v = .bool true
theorem yesG (H : List HObj) : resK isTrueG (.bool true) H := res_bool rfl
theorem yesB {b : Bool} (H : List HObj) (h : b = true) : resK isTrueG (.bool b) H := by subst h; exact yesG H
theorem conU9b_ok : ∀ g xs Q, conU9b g xs Q → Con Tryz.prog g xs Q := table_ok fun p hp => by
 simp only [List.mem_cons, List.not_mem_nil, or_false] at hp
 rcases hp with rfl | rfl | rfl | rfl | rfl | rfl | rfl | rfl | rfl
 · exact c0_ok fun _ h => recallFact_con h
 · exact c1_ok fun _ _ h => ltweight_con h
 · exact c2_ok fun _ _ _ h => tseqs_con h
 · exact c2_ok fun _ _ _ h => tat_con h
 · exact c2_ok fun _ _ _ h => lrec_con h
 · exact c2_ok fun _ _ _ h => xseq_con h
 · exact c3_ok fun _ _ _ _ h => xown_con h
 · exact c2_ok fun _ _ _ h => xway_con conU4_ok h
 · exact c2_ok fun _ _ _ h => eqsq_con h
section
variable {t : List Nd} {p f c : Int}
theorem at_getD {k : Nat} (hk : k < t.length) : (atL t p).getD k 0 = firstW (waysL t p) (own t p k) := by
 unfold atL
 rw [List.getD_eq_getElem?_getD, List.getElem?_map, List.getElem?_range hk]; rfl
theorem wseqs_con (ht : TxT t) : Con Tryz.prog 4 [.imm eNode t, .int .i64 p] isTrueG := by
 refine conN (gn := fnT Tryz.f4) (by kernel_rfl) conU9b_ok (inl := []) (LT := wseqs_live) (NT := wseqs_nils) rfl fun n0 => ?_
 rw [wseqs_E]
 refine ⟨ht, fun n => ?_⟩
 by_cases hw : n > 6000
 · exact bif_pos hw (yesG _)
 refine bif_neg hw ?_
 by_cases h40 : (t.length : Int) > 40
 · exact bif_pos h40 (yesG _)
 refine bif_neg h40 ⟨ht, ht, ht, ?_⟩
 by_cases h1 : recE t p = 0
 · obtain ⟨h2, h3⟩ := recE_zero h1
   have hg := (plE_zero h2).1
   have eS : seqV t p = seqL t p := if_pos h1
   have eA : atV t p = atL t p := if_pos h1
   have I := seq_all hg h3
   have hb := I.big
   have hn := (tree_ok hg).n120
   have hal : (atL t p).length = t.length := by unfold atL; simp
   refine bif_not (bif_pos h1 ⟨⟨hg, h3⟩, bif_not (bif_pos h1 ?_)⟩)
   rw [cond_false, cond_false, cond_false, eS, eA]
   refine bif_not (bif_pos h1 ⟨by unfold SmA; omega, bif_not (bif_pos rfl (bif_not (bif_pos (by omega) ?_)))⟩)
   refine loopN (f := 4) (gn := fnT Tryz.f4) (n0 := n0) (r := 16) (by kernel_rfl) conU9b_ok (inl := []) (LT := wseqs_live) (NT := wseqs_nils) (K := resK isTrueG) (fun k : Nat => wseqs_s16_0 t p (atL t p) (waysL t p) (t.length : Int) (k : Int)) (fun k => t.length - k) (fun k => k ≤ t.length) (fun k hk0 ih => ?_) 0 (Nat.zero_le _)
   rw [wseqs_s16_0_E]
   by_cases hk : k < t.length
   · refine bif_pos (by omega) (bif_in (by omega) ⟨⟨hg, by omega, by omega⟩, ways_sm hg h3, ?_⟩)
     rw [Int.toNat_natCast, wrS hk (by omega), at_getD hk]
     exact bif_not (bif_pos rfl (ih (k + 1) (by omega) (by omega)))
   · exact bif_neg (by omega) (yesG _)
 · have eS : seqV t p = [] := if_neg h1
   have eA : atV t p = [] := if_neg h1
   refine bif_not (bif_neg h1 (bif_pos rfl ?_))
   rw [cond_true]
   refine bif_pos rfl (yesB _ ?_)
   rw [eS, eA]; decide
end
end
end Go.Proofs.YtnnkjpcipldnfaaGreatDoor.Lib
end
