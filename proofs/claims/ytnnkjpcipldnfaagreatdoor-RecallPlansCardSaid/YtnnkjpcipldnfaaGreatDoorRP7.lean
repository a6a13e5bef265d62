/- Texts of this session, put together. -/
import Derived.Test.YtnnkjpcipldnfaaGreatDoorRP6
section
set_option linter.unusedSimpArgs false
set_option linter.unusedVariables false
namespace Go.Proofs.YtnnkjpcipldnfaaGreatDoor.Lib
open Go Go.Proofs.YtnnkjpcipldnfaaGreatDoor.Mach Go.Proofs.YtnnkjpcipldnfaaGreatDoorW.PrintWords Go.Proofs.YtnnkjpcipldnfaaGreatDoor.Sem Go.Proofs.YtnnkjpcipldnfaaGreatDoor.Pure
section
theorem sz_txt {q:Rat} {n:Nat} (h:(ratText q).size≤n):Sz (n+1) q:=by
 have:=text_size q
 exact ⟨by omega,by omega⟩
def isTrueG : Res:=fun v _=>v = .bool true
theorem yesG (H:List HObj):resK isTrueG (.bool true) H:=res_bool rfl
theorem yesB {b:Bool} (H:List HObj) (h:b=true):resK isTrueG (.bool b) H:=by subst h; exact yesG H
theorem conU9_ok : ∀ g xs Q,conU9 g xs Q→Con Tryz.prog g xs Q:=table_ok fun p hp=>by
 simp only [List.mem_cons,List.not_mem_nil,or_false] at hp
 rcases hp with rfl | rfl | rfl | rfl | rfl | rfl | rfl | rfl | rfl | rfl | rfl | rfl
 · exact c0_ok fun _ h=>recallFact_con h
 · exact c1_ok fun _ _ h=>ltweight_con h
 · exact c1_ok fun _ _ h=>lcweight_con h
 · exact c2_ok fun _ _ _ h=>lrec_con h
 · exact c2_ok fun _ _ _ h=>xseq_con h
 · exact c2_ok fun _ _ _ h=>eqv_con h
 · exact c1_ok fun _ _ h=>lmild_con h
 · exact c1_ok fun _ _ h=>ltame_con h
 · exact c3_ok fun _ _ _ _ h=>tplan_con h
 · exact c3_ok fun _ _ _ _ h=>xstrat_con h
 · exact c3_ok fun _ _ _ _ h=>tstrat_con h
 · exact c2_ok fun _ _ _ h=>xmul_con h
section
variable {t:List Nd} {p f c:Int} {s:List Ch}
noncomputable def stepQ (s:List Ch) (x:Int × Int):Rat:=ratOf (oddAt s x.1 x.2)
noncomputable def prodW (s:List Ch) (w:List (Int × Int)):Rat:=w.foldl (fun q x=>q * stepQ s x) 1
theorem prodW_snoc (w:List (Int × Int)) (x:Int × Int):prodW s (w ++ [x])=prodW s w * stepQ s x:=by
 unfold prodW
 rw [List.foldl_append]; rfl
theorem prodW_take {w:List (Int × Int)} {x:Nat} (hx:x<w.length):prodW s (w.take (x+1))=prodW s (w.take x) * stepQ s (w.getD x p0):=by
 rw [take_succ' (d:=p0) hx,prodW_snoc]
theorem wF_prod (hg:GoodT t) (h:remB t p=true):∀ j,j<(seqL t p).length→wF (seqL t p) s j=prodW s ((waysL t p).getD j []):=by
 have I:=seq_all hg h
 intro j
 induction j using Nat.strongRecOn with
 | ind j ih =>
   intro hj
   by_cases h0:j=0
   · subst h0
     rw [wF_zero,I.w0]; rfl
   · obtain ⟨m,c,a1,a2,a3,a4,a5,a6,b,b1,b2,b3⟩:=I.at_ j (by omega) hj
     rw [wF_succ (by omega) (by rw [b1]; omega) (by rw [b1]; omega),b1,Int.toNat_natCast,ih b b2 (by omega),a6,prodW_snoc,b3,a4,a5]; rfl
def StepIn (t:List Nd) (p:Int) (x:Int × Int):Prop:=∃ m c:Nat,m<t.length∧mine t p m∧c<(kidsOf t m).length∧x=(infoOf t m,(c:Int))
theorem own_in (T:TreeOk t) {k:Nat} (hk:k<t.length):∀ x∈own t p k,StepIn t p x:=fun x hx=>by
 obtain ⟨y,hy,hf⟩:=List.mem_filterMap.1 hx
 obtain ⟨i,c,k', e,hkid⟩:=T.path_in hk y hy
 subst e
 unfold ownF at hf
 simp only [Int.toNat_natCast] at hf
 split at hf
 · rename_i hm
   cases hf
   exact ⟨i,c,hkid.1,hm,hkid.2.1,rfl⟩
 · cases hf
theorem way_in (hg:GoodT t) (h:remB t p=true) {j:Nat} (hj:j<(seqL t p).length):∀ x∈(waysL t p).getD j [],StepIn t p x:=fun x hx=>by
 have T:=tree_ok hg
 have I:=seq_all hg h
 by_cases h0:j=0
 · rw [h0,I.w0] at hx; cases hx
 · obtain ⟨m,c,a1,a2,a3,a4,a5,a6,_⟩:=I.at_ j (by omega) hj
   rw [a6] at hx
   rcases List.mem_append.1 hx with hx | hx
   · exact own_in T a1 x hx
   · exact ⟨m,c,a1,a2,a3,List.mem_singleton.1 hx⟩
theorem way_len (hg:GoodT t) (h:remB t p=true) {j:Nat} (hj:j<(seqL t p).length):((waysL t p).getD j []).length≤t.length:=by
 have I:=seq_all hg h
 by_cases h0:j=0
 · rw [h0,I.w0]; exact Nat.zero_le _
 · obtain ⟨m,c,a1,a2,a3,a4,a5,a6,_⟩:=I.at_ j (by omega) hj
   have:=own_len t p m
   rw [a6,List.length_append]; simp; omega
def Tame (s:List Ch):Prop:=∀ c∈s,∀ r∈c.2,r.size≤12
theorem tame_of (h:tameB [s]=true):Tame s:=fun c hc=>by
 unfold tameB at h
 have h1:=List.all_eq_true.1 (List.all_eq_true.1 h s (by simp)) c hc
 have h2:=of_decide_eq_true h1
 exact long_none (by omega)
theorem step_sz (S:StratOk t p s) (T:TreeOk t) (hT:Tame s) {x:Int × Int} (hx:StepIn t p x):Sz 13 (stepQ s x):=by
 obtain ⟨m,c,h1,h2,h3,rfl⟩:=hx
 have o:=S.odd T h1 h2 h3
 have ht:(oddAt s (infoOf t m) (c:Int)).size≤12:=by
  obtain ⟨_,o1,o2,o3,o4,_⟩:=o
  exact hT _ (getD_mem (d:=ch0) (by omega)) _ (getD_mem (by omega))
 rw [(odd_sz o).1] at ht
 exact sz_txt ht
theorem prod_sz (S:StratOk t p s) (T:TreeOk t) (hT:Tame s) {w:List (Int × Int)} (hw:∀ x∈w,StepIn t p x):∀ x,x≤w.length→Sz (13 * x+20) (prodW s (w.take x))
 | 0,_=>by rw [List.take_zero]; exact (sz_int 1 (by decide)).mono (by omega)
 | x+1,hx=>by
   rw [prodW_take (by omega)]
   exact (szS_mul (prod_sz S T hT hw x (by omega)) (step_sz S T hT (hw _ (getD_mem (by omega))))).mono (by omega)
theorem wplans_con (ht:TxT t) (hs:TxC s):Con Tryz.prog 5 [.imm eNode t, .int .i64 p, .imm eCh s] isTrueG:=by
 refine conN (gn:=fnT Tryz.f5) (by kernel_rfl) conU9_ok (inl:=[]) (LT:=wplans_live) (NT:=wplans_nils) rfl fun n0=>?_
 rw [wplans_E]
 refine ⟨ht,fun n=>⟨hs,fun n1=>?_⟩⟩
 by_cases hw:IntKind.i64.wrap (n+n1) > 6000
 · exact bif_pos hw (yesG _)
 refine bif_neg hw ⟨ht,bif_not ?_⟩
 by_cases hm:mildB t=true
 case neg =>
  exact bif_f hm (yesG _)
 refine bif_t hm ⟨⟨ht,hs⟩,ht,?_⟩
 by_cases h1:recE t p=0
 case neg =>
  refine bif_neg h1 (bif_not (bif_neg h1 (bif_pos (planE_rec h1) (yesB _ ?_))))
  rw [planV_bad (by rw [planE_rec h1]; exact h1)]; rfl
 obtain ⟨h2,h3⟩:=recE_zero h1
 have hg:=(plE_zero h2).1
 have T:=tree_ok hg
 refine bif_pos h1 ⟨⟨hg,hs⟩,⟨hg,hs⟩,bif_not (bif_pos rfl (bif_not ?_))⟩
 by_cases h4:stratE t p s=0
 case neg =>
  refine bif_neg h4 (bif_pos (planE_str h1 h4) (yesB _ ?_))
  rw [planV_bad (by rw [planE_str h1 h4]; exact h4)]; rfl
 refine bif_pos h4 ⟨⟨by simp,fun s1 hs1=>by rw [List.mem_singleton.1 hs1]; exact hs⟩,bif_not ?_⟩
 by_cases h5:tameB [s]=true
 case neg =>
  exact bif_f h5 (yesG _)
 refine bif_t h5 ⟨⟨hg,h3⟩,?_⟩
 have hT:=tame_of h5
 have S:=strat_ok h4
 have I:=seq_all hg h3
 have hb:=I.big
 have hn:=T.n120
 have hlen:(waysL t p).length=(seqL t p).length:=I.len
 have h40:t.length≤40:=by
  unfold mildB at hm
  rw [Bool.and_eq_true] at hm
  exact of_decide_eq_true hm.2
 have hsl:s.length≤10:=by rw [S.len]; exact infos_len
 have hE:planE t p s=0:=by
  rw [planE_of h1 h4]
  refine vecE_fit fun j hj=>?_
  rw [wF_prod hg h3 j hj]
  have hwl:=way_len hg h3 hj
  have:=prod_sz S T hT (way_in hg h3 hj) _ (Nat.le_refl _)
  rw [List.take_length] at this
  exact this.mono (by omega)
 have hV:planV t p s=textsOf (seqL t p).length (wF (seqL t p) s):=if_pos hE
 refine loopN (f:=5) (gn:=fnT Tryz.f5) (n0:=n0) (r:=20) (by kernel_rfl) conU9_ok (inl:=[]) (LT:=wplans_live) (NT:=wplans_nils) (K:=resK isTrueG) (fun j:Nat=>wplans_s20_0 t p s (planV t p s) (planE t p s) (waysL t p) ((waysL t p).length:Int) (j:Int) (textsOf j (wF (seqL t p) s))) (fun j=>(waysL t p).length - j) (fun j=>j≤(waysL t p).length) (fun j hj0 ih=>?_) 0 (Nat.zero_le _)
 rw [wplans_s20_0_E]
 by_cases hj:j<(waysL t p).length
 case neg =>
  have hjj:j=(seqL t p).length:=by omega
  refine bif_neg (by omega) (bif_pos hE ⟨by unfold SmA; rw [hV,texts_len]; omega,yesB _ ?_⟩)
  rw [cond_true,hV,hjj]; exact decide_eq_true rfl
 have hjs:j<(seqL t p).length:=by omega
 have hwi:=way_in hg h3 hjs
 have hwl:=way_len hg h3 hjs
 have hwf:=wF_prod (s:=s) hg h3 j hjs
 have ih' := ih (j+1) (by omega) (by omega)
 rw [texts_succ,hwf] at ih'
 refine bif_pos (by omega) (bif_in hj ?_)
 rw [Int.toNat_natCast,show (⟨#[49]⟩:ByteArray)=ratText (prodW s (((waysL t p).getD j []).take 0)) from by rw [List.take_zero]; exact ratText_one.symm]
 generalize (waysL t p).getD j []=w at *
 refine loopN (f:=5) (gn:=fnT Tryz.f5) (n0:=n0) (r:=24) (by kernel_rfl) conU9_ok (inl:=[]) (LT:=wplans_live) (NT:=wplans_nils) (K:=resK isTrueG) (fun x:Nat=>wplans_s24_0 t p s (planV t p s) (planE t p s) (ratText (prodW s (w.take x))) (waysL t p) ((waysL t p).length:Int) (j:Int) w (w.length:Int) (x:Int) (textsOf j (wF (seqL t p) s))) (fun x=>w.length - x) (fun x=>x≤w.length) (fun x hx0 ih2=>?_) 0 (Nat.zero_le _)
 rw [wplans_s24_0_E]
 by_cases hx:x<w.length
 case neg =>
  have hxx:x=w.length:=by omega
  subst hxx
  refine bif_neg (by omega) (bif_t (roomN (len_snoc (texts_len j _) (by omega)) (by decide)) ?_)
  rw [List.take_length,wrS hj (by omega)]
  exact ih'
 have ih3:=ih2 (x+1) (by omega) (by omega)
 rw [prodW_take hx] at ih3
 have hst:=hwi _ (getD_mem (d:=p0) hx)
 have hsq:=step_sz S T hT hst
 have hps:=prod_sz S T hT hwi x (by omega)
 refine bif_pos (by omega) (bif_in hx ?_)
 rw [Int.toNat_natCast]
 generalize prodW s (w.take x)=P at *
 unfold stepQ at ih3 hsq
 generalize w.getD x p0=st at *
 obtain ⟨m,c,g1,g2,g3,rfl⟩:=hst
 simp only at ih3 hsq
 obtain ⟨i,hi,hie⟩:=T.infos_at g1 g2
 rw [← S.len] at hi
 have hix:=S.idx hi hie
 have ho:=S.odd T g1 g2 g3
 have hot:(s.getD i ch0).2.getD c b0=oddAt s (infoOf t m) (c:Int):=by unfold oddAt; rw [hix,Int.toNat_natCast,Int.toNat_natCast]
 have hsi:=(S.at_ i hi).1.trans hie
 have hcl:(c:Int)<((s.getD i ch0).2.length:Int):=by have:=ho.2.2.2.2.1; rw [hix,Int.toNat_natCast] at this; exact this
 have a1:=(odd_sz ho).1
 have other:∀ y,y<s.length→(s.getD y ch0).1=infoOf t m→y=i:=fun y hy h=>infos_inj (t:=t) (p:=p) (by rw [← S.len]; exact hy) (by rw [← S.len]; exact hi) (((S.at_ y hy).1.symm.trans h).trans hie.symm)
 have main:=loopN (f:=5) (gn:=fnT Tryz.f5) (n0:=n0) (r:=27) (by kernel_rfl) conU9_ok (inl:=[]) (LT:=wplans_live) (NT:=wplans_nils) (K:=resK isTrueG) (fun y:Nat=>wplans_s27_0 t p s (planV t p s) (planE t p s) (ratText (if y≤i then P else P * ratOf (oddAt s (infoOf t m) (c:Int)))) (waysL t p) ((waysL t p).length:Int) (j:Int) w (w.length:Int) (x:Int) (s.length:Int) (y:Int) (textsOf j (wF (seqL t p) s)) [infoOf t m,(c:Int)]) (fun y=>s.length - y) (fun y=>y≤s.length) (fun y hy0 ih4=>by
  rw [wplans_s27_0_E]
  by_cases hy:y<s.length
  · have ih5:=ih4 (y+1) (by omega) (by omega)
    refine bif_pos (by omega) (bif_in hy (bif_t rfl ?_))
    rw [Int.toNat_natCast,wrS hy (by omega)]
    by_cases hc:(s.getD y ch0).1=infoOf t m
    · have hyi:=other y hy hc
      subst hyi
      rw [if_neg (by omega)] at ih5
      refine bif_pos hc (bif_t rfl (bif_and (bif_pos (show (0:Int)≤(c:Int) by omega) (bif_pos hcl ?_))))
      rw [if_pos (Nat.le_refl _)]
      exact ⟨_,_,rfl,hot.trans a1,hps.mono (by omega),hsq.mono (by decide),ih5⟩
    · refine bif_neg hc ?_
      have e:(if y+1≤i then P else P * ratOf (oddAt s (infoOf t m) (c:Int)))=if y≤i then P else P * ratOf (oddAt s (infoOf t m) (c:Int)):=by
       by_cases hyi:y=i
       · rw [hyi] at hc; exact absurd hsi hc
       · by_cases hlt:y+1≤i
         · rw [if_pos hlt,if_pos (by omega)]
         · rw [if_neg hlt,if_neg (by omega)]
      rw [e] at ih5
      exact ih5
  · refine bif_neg (by omega) ?_
    rw [if_neg (by omega),wrS hx (by omega)]
    exact ih3) 0 (Nat.zero_le _)
 rw [if_pos (Nat.zero_le _)] at main
 exact main
end
end
end Go.Proofs.YtnnkjpcipldnfaaGreatDoor.Lib
end
