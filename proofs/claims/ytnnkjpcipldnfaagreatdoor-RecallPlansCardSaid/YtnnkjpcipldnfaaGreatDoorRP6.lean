/- Texts of this session, put together. -/
import Derived.Test.YtnnkjpcipldnfaaGreatDoorRP5
section
set_option linter.unusedSimpArgs false
set_option linter.unusedVariables false
namespace Go.Proofs.YtnnkjpcipldnfaaGreatDoor.Lib
open Go Go.Proofs.YtnnkjpcipldnfaaGreatDoor.Mach Go.Proofs.YtnnkjpcipldnfaaGreatDoorW.PrintWords Go.Proofs.YtnnkjpcipldnfaaGreatDoor.Sem Go.Proofs.YtnnkjpcipldnfaaGreatDoor.Pure
section
section
variable {t:List Nd} {k:Int} {Q:Res}
theorem xpar_con (h:parsS t k Q):Con Tryz.prog 73 [.imm eNode t, .int .i64 k] Q:=by
 obtain ⟨⟨hn,hw⟩,hq⟩:=h
 refine con_imm (e:=eP) (l:=pars t k) ?_ hq
 refine conN (gn:=fnT Tryz.f73) (by kernel_rfl) con0_ok (inl:=[]) (LT:=xpar_live) (NT:=xpar_nils) rfl fun n0=>?_
 rw [xpar_E]
 have big:∀ i,i≤t.length→(parsN t k i).length≤720:=fun i hi=>Nat.le_trans (parsN_len fun j hj=>hw j (by omega)) (by omega)
 have main:=loopN (f:=73) (gn:=fnT Tryz.f73) (n0:=n0) (r:=3) (by kernel_rfl) con0_ok (inl:=[]) (LT:=xpar_live) (NT:=xpar_nils) (K:=resK fun v o=>v = .own 0∧∃ fz,o=[.typed eP (pars t k) fz]) (fun i:Nat=>xpar_s3_0 t k (t.length:Int) (i:Int) (parsN t k i)) (fun i=>t.length - i) (fun i=>i≤t.length) (fun i hi0 ih=>by
  rw [xpar_s3_0_E]
  by_cases hi:i<t.length
  · refine bif_pos (by omega) (bif_in hi ?_)
    rw [Int.toNat_natCast]
    show GoodL _ _ _ _ _ (xpar_s6_0 t k (i:Int) (t.length:Int) (i:Int) (kidsOf t i) ((kidsOf t i).length:Int) 0 (parsN t k i))
    have b:=big i (by omega)
    have w:=hw i hi
    have inner:=loopN (f:=73) (gn:=fnT Tryz.f73) (n0:=n0) (r:=6) (by kernel_rfl) con0_ok (inl:=[]) (LT:=xpar_live) (NT:=xpar_nils) (K:=resK fun v o=>v = .own 0∧∃ fz,o=[.typed eP (pars t k) fz]) (fun c:Nat=>xpar_s6_0 t k (i:Int) (t.length:Int) (i:Int) (kidsOf t i) ((kidsOf t i).length:Int) (c:Int) (parsN t k i ++ parsI (kidsOf t i) i k c)) (fun c=>(kidsOf t i).length - c) (fun c=>c≤(kidsOf t i).length) (fun c hc0 ih2=>by
        rw [xpar_s6_0_E]
        have b2:=parsI_len (kidsOf t i) i k c
        by_cases hc:c<(kidsOf t i).length
        · refine bif_pos (by omega) (bif_in hc ?_)
          rw [Int.toNat_natCast,wrS hc (by omega)]
          have ih3:=ih2 (c+1) (by omega) (by omega)
          have e:parsI (kidsOf t i) i k (c+1)=if (kidsOf t i).getD c 0=k then parsI (kidsOf t i) i k c ++ [((i:Int),(c:Int))] else parsI (kidsOf t i) i k c:=rfl
          rw [e] at ih3
          by_cases hk:(kidsOf t i).getD c 0=k
          · rw [if_pos hk,← List.append_assoc] at ih3
            exact bif_pos hk (bif_t (roomN (by rw [List.length_append]; simp; omega) (by decide)) ih3)
          · rw [if_neg hk] at ih3
            exact bif_neg hk ih3
        · have hcc:c=(kidsOf t i).length:=by omega
          refine bif_neg (by omega) ?_
          rw [wrS hi (by omega),hcc]
          exact ih (i+1) (by omega) (by omega))
    have:=inner 0 (Nat.zero_le _)
    rw [show parsI (kidsOf t i) i k 0=[] from rfl,List.append_nil] at this
    exact this
  · have hii:i=t.length:=by omega
    subst hii
    exact bif_neg (by omega) (res_own rfl ⟨rfl,false,rfl⟩))
 exact main 0 (Nat.zero_le _)
end
theorem xbig_con {s:ByteArray} {Q:Res} (h:xbig s Q):Con Tryz.prog 90 [.str s] Q:=by
 obtain ⟨q,rfl,hs,hq⟩:=h
 refine conN (gn:=fnT Tryz.f90) (by kernel_rfl) conX2_ok (inl:=[]) (LT:=ybig_live) (NT:=ybig_nils) rfl fun n0=>?_
 rw [ybig_E]
 refine ⟨q,rfl,hs,?_⟩
 have e1:(natText q.num.natAbs).size=szN q:=rfl
 have e2:(natText q.den).size=szD q:=rfl
 rw [e1,e2]
 by_cases h1:szN q > 2000
 · refine bif_pos (by omega) (res_bool ?_)
   rw [decide_eq_true (show szN q > 2000∨szD q > 2000 from .inl h1)] at hq
   exact hq
 · refine bif_neg (by omega) (res_bool ?_)
   rw [cond_false]
   by_cases h2:szD q > 2000
   · rw [decide_eq_true (show szN q > 2000∨szD q > 2000 from .inr h2)] at hq
     rw [decide_eq_true (by omega)]; exact hq
   · rw [decide_eq_false (show ¬ (szN q > 2000∨szD q > 2000) by omega)] at hq
     rw [decide_eq_false (by omega)]; exact hq
theorem conTO_ok : ∀ g xs Q,conTO g xs Q→Con Tryz.prog g xs Q:=table_ok fun p hp=>by
 simp only [List.mem_cons,List.not_mem_nil,or_false] at hp
 rcases hp with rfl | rfl | rfl | rfl
 · exact c1_ok fun _ _ h=>xerrs_con h
 · exact c2_ok fun _ _ _ h=>xadd_con h
 · exact c1_ok fun _ _ h=>xbig_con h
 · exact c1_ok fun _ _ h=>xsign_con h
section
variable {l:List ByteArray} {Q:Res}
theorem odds_large (h:256<l.length):oddsE l=2:=by
 have e:sumE l=2:=by unfold sumE lisE; simp only [if_pos h]; rfl
 unfold oddsE; rw [e]; rfl
theorem odds_errs (h:¬ 256<l.length) (h1:ratErrs l≠0):oddsE l=ratErrs l:=by
 have e:sumE l=ratErrs l:=by unfold sumE lisE; simp only [if_neg h]; rw [if_neg h1]
 unfold oddsE; rw [e,if_pos h1]
theorem odds_none (h:¬ 256<l.length) (h1:ratErrs l=0) (h2:sumF 0 l=none):oddsE l=2:=by
 have e:sumE l=2:=by unfold sumE lisE; simp only [if_neg h]; rw [if_pos h1,h2]; rfl
 unfold oddsE; rw [e]; rfl
theorem odds_some {q:Rat} (h:¬ 256<l.length) (h1:ratErrs l=0) (h2:sumF 0 l=some q):oddsE l=if negative l=true then 4 else if ratText q=⟨#[49]⟩ then 0 else 3:=by
 have e:sumE l=0:=by unfold sumE lisE; simp only [if_neg h]; rw [if_pos h1,h2]; rfl
 have e2:sumS l=ratText q:=by unfold sumS lisE; simp only [if_neg h]; rw [if_pos h1,h2]
 unfold oddsE; rw [e,e2,if_neg (fun h=>h rfl)]
theorem xodds_con (h:oddsT l Q):Con Tryz.prog 58 [.imm eS l] Q:=by
 obtain ⟨ht,hq⟩:=h
 have hk:∀ e H,oddsE l=e→resK Q (.int .i64 e) H:=fun e H h1=>by rw [h1] at hq; exact res_int hq
 refine conN (gn:=fnT Tryz.f58) (by kernel_rfl) conTO_ok (inl:=[]) (LT:=xodds_live) (NT:=xodds_nils) rfl fun n0=>?_
 rw [xodds_E]
 by_cases h1:256<l.length
 · exact bif_pos (by omega) (hk _ _ (odds_large h1))
 refine bif_neg (by omega) ⟨ht,?_⟩
 by_cases h0:ratErrs l=0
 · refine bif_not (bif_pos h0 ?_)
   have loop15:∀ q,sumF 0 l=some q→GoodL Tryz.prog n0 58 (resK Q) (headAt (fnT Tryz.f58) 15) (xodds_s15_0 l (ratText q) (l.length:Int) ((0:Nat):Int)):=fun q hsum=>by
    refine loopN (f:=58) (gn:=fnT Tryz.f58) (n0:=n0) (r:=15) (by kernel_rfl) conTO_ok (inl:=[]) (LT:=xodds_live) (NT:=xodds_nils) (K:=resK Q) (fun x:Nat=>xodds_s15_0 l (ratText q) (l.length:Int) (x:Int)) (fun x=>l.length - x) (fun x=>x≤l.length∧∀ y,y<x→¬ sgn (ratOf (l.getD y ByteArray.empty))<0) (fun x hpre ih=>?_) 0 ⟨Nat.zero_le _,fun y hy=>absurd hy (Nat.not_lt_zero _)⟩
    obtain ⟨hxl,hneg⟩:=hpre
    have e:=odds_some h1 h0 hsum
    rw [xodds_s15_0_E]
    by_cases hx:x<l.length
    · refine bif_pos (by omega) (bif_in hx ?_)
      rw [Int.toNat_natCast,wrS hx (by omega)]
      obtain ⟨a1,a2⟩:=num_at h0 hx
      refine ⟨_,a1,a2.mono (by decide),?_⟩
      by_cases hc:sgn (ratOf (l.getD x ByteArray.empty))<0
      · rw [if_pos (neg_at hx hc)] at e
        exact bif_pos hc (hk _ _ e)
      · refine bif_neg hc (ih (x+1) ⟨by omega,fun y hy=>?_⟩ (by omega))
        by_cases hyx:y=x
        · rw [hyx]; exact hc
        · exact hneg y (by omega)
    · have hxx:x=l.length:=by omega
      subst hxx
      rw [neg_none hneg,if_neg (by decide)] at e
      refine bif_neg (by omega) ?_
      by_cases h2:ratText q=⟨#[49]⟩
      · rw [if_pos h2] at e
        exact bif_not (bif_t (bytes49.2 h2) (hk _ _ e))
      · rw [if_neg h2] at e
        exact bif_not (bif_f (fun h=>h2 (bytes49.1 h)) (hk _ _ e))
   have step:∀ {x:Nat} {q:Rat},x<l.length→sumF q (l.drop x)=if fitV (q+ratOf (l.getD x ByteArray.empty))=0 then sumF (q+ratOf (l.getD x ByteArray.empty)) (l.drop (x+1)) else none:=fun {x q} hx=>by
    rw [drop_at hx]; rfl
   have main:=loopN (f:=58) (gn:=fnT Tryz.f58) (n0:=n0) (r:=8) (by kernel_rfl) conTO_ok (inl:=[]) (LT:=xodds_live) (NT:=xodds_nils) (K:=resK Q) (fun y:Nat × Rat=>xodds_s8_0 l (ratText y.2) (l.length:Int) (y.1:Int)) (fun y=>l.length - y.1) (fun y=>y.1≤l.length∧Sz 2000 y.2∧sumF y.2 (l.drop y.1)=sumF 0 l) (fun y hp ih=>by
    obtain ⟨x,q⟩:=y
    obtain ⟨hp,sq,he⟩:=hp
    simp only at hp sq he
    show execN _ _ _ _ _ _ (xodds_s8_0 l (ratText q) (l.length:Int) (x:Int))
    rw [xodds_s8_0_E]
    by_cases hx:x<l.length
    · refine bif_pos (by omega) (bif_in hx ?_)
      rw [Int.toNat_natCast,wrS hx (by omega)]
      obtain ⟨a1,a2⟩:=num_at h0 hx
      rw [step hx] at he
      refine ⟨_,_,rfl,a1,sq.mono (by decide),a2.mono (by decide),_,rfl,(sz_add (sq.mono (by decide)) (a2.mono (by decide))).mono (by decide),?_⟩
      by_cases hf:fitV (q+ratOf (l.getD x ByteArray.empty))=0
      · rw [if_pos hf] at he
        have sf:=fit_sz hf
        refine bif_neg (fun hc=>?_) (ih (x+1,q+ratOf (l.getD x ByteArray.empty)) ⟨by show x+1≤l.length; omega,sf,he⟩ (by show l.length - (x+1)<l.length - x; omega))
        have:=sf.1; have:=sf.2
        rcases hc with hc | hc <;> omega
      · rw [if_neg hf] at he
        refine bif_pos ?_ (hk _ _ (odds_none h1 h0 he.symm))
        exact Decidable.not_not.1 fun hc=>hf (fit_of ⟨by omega,by omega⟩)
    · rw [List.drop_eq_nil_of_le (by omega)] at he
      exact bif_neg (by omega) (loop15 q he.symm))
   have:=main (0,0) ⟨Nat.zero_le _,sz_zero.mono (by decide),by rw [List.drop_zero]⟩
   rw [show (⟨#[48]⟩:ByteArray)=ratText 0 from ratText_zero.symm]
   exact this
 · exact bif_not (bif_neg h0 (hk _ _ (odds_errs h1 h0)))
end
theorem conTX_ok : ∀ g xs Q,conTX g xs Q→Con Tryz.prog g xs Q:=table_ok fun p hp=>by
 simp only [List.mem_cons,List.not_mem_nil,or_false] at hp
 rcases hp with rfl | rfl | rfl
 · exact c2_ok fun _ _ _ h=>xnext_con h
 · exact c1_ok fun _ _ h=>xerr_con h
 · exact c1_ok fun _ _ h=>xodds_con h
section
variable {t:List Nd} {i k p:Int} {Q:Res}
theorem xnode_con (h:nodeS t i Q):Con Tryz.prog 72 [.imm eNode t, .int .i64 i] Q:=by
 obtain ⟨⟨ht,i0,i1⟩,hq⟩:=h
 have hx:TxNd (t.getD i.toNat nd0):=ht.2 _ (getD_mem (by omega))
 have hk:∀ e H,nodeE t i.toNat=e→resK Q (.int .i64 e) H:=fun e H h1=>by rw [h1] at hq; exact res_int hq
 refine conN (gn:=fnT Tryz.f72) (by kernel_rfl) conTX_ok (inl:=[]) (LT:=xnode_live) (NT:=xnode_nils) rfl fun n0=>?_
 rw [xnode_E]
 refine bif_and (bif_pos i0 (bif_pos i1 ?_))
 unfold nodeE at hk
 have e0:nd0=(0,0,0,[],[],ByteArray.empty):=rfl
 rw [e0] at hk hx
 clear e0
 generalize t.getD i.toNat (0,0,0,[],[],ByteArray.empty)=x at *
 obtain ⟨kd,pl,inf,nx,od,py⟩:=x
 obtain ⟨x1,x2,x3⟩:=hx
 simp only at hk x1 x2 x3 ⊢
 have hInT:InT i t:=⟨i0,i1⟩
 have hw:IntKind.i64.wrap ((nx.length:Int)+(od.length:Int))=(nx.length:Int)+(od.length:Int):=wr (by omega) (by have:=x2.1; omega)
 have hpy:(py.toList == (ByteArray.mk #[]).toList)=decide (py=⟨#[]⟩):=by
  by_cases h:py=⟨#[]⟩
  · rw [decide_eq_true h,h,beq_self_eq_true]
  · rw [decide_eq_false h]; exact beq_eq_false_iff_ne.2 (ne_toList h)
 unfold xnode_j0
 rw [hw,hpy]
 by_cases k0:kd=0
 · subst k0
   by_cases c1:pl=0
   · subst c1
     by_cases c2:inf=0
     · subst c2
       by_cases c3:(nx.length:Int)+(od.length:Int) > 0
       · simp only [decide_true,decide_false,cond_true,cond_false,Bool.not_true,Bool.not_false,decide_eq_true c3]
         exact hk _ _ (by rw [if_pos rfl,if_pos (by omega)])
       · simp only [decide_true,decide_false,cond_true,cond_false,Bool.not_true,Bool.not_false,decide_eq_false c3]
         exact ⟨x3,hk _ _ (by rw [if_pos rfl,if_neg (by omega)])⟩
     · simp only [decide_true,decide_false,cond_true,cond_false,Bool.not_true,Bool.not_false,decide_eq_false c2]
       exact hk _ _ (by rw [if_pos rfl,if_pos (.inr (.inl c2))])
   · simp only [decide_true,decide_false,cond_true,cond_false,Bool.not_true,Bool.not_false,decide_eq_false c1]
     exact hk _ _ (by rw [if_pos rfl,if_pos (.inl c1)])
 by_cases k1:kd=1
 · subst k1
   by_cases c1:pl=0
   · subst c1
     by_cases c2:inf=0
     · subst c2
       by_cases c3:py=⟨#[]⟩
       · by_cases c4:kidsE t i.toNat=0
         · by_cases c5:(od.length:Int)=(nx.length:Int)
           · simp [c3,c4,c5]
             refine ⟨hInT,x2,hk _ _ ?_⟩
             simp [c3,c4]; omega
           · simp [c3,c4,c5]
             refine ⟨hInT,hk _ _ ?_⟩
             simp [c3,c4]; omega
         · simp [c3,c4]
           exact ⟨hInT,hk _ _ (by simp [c3,c4])⟩
       · simp [c3]
         exact hk _ _ (by simp [c3])
     · simp [c2]
       exact hk _ _ (by simp [c2])
   · simp [c1]
     exact hk _ _ (by simp [c1])
 by_cases k2:kd=2
 · subst k2
   by_cases c1:0<od.length
   · have c1' : (od.length:Int) > 0:=by omega
     have hk' := fun H=>hk 3 H (by simp [c1])
     have c1e:od≠[]:=List.length_pos_iff.1 c1
     by_cases d1:pl=0 <;> by_cases d2:inf=0 <;> simp [c1', c1e,d1,d2,hk']
   · have c0:od=[]:=List.length_eq_zero_iff.1 (by omega)
     subst c0
     by_cases c3:py=⟨#[]⟩
     · subst c3
       by_cases c4:pl<0∨1<pl∨inf<0∨10≤inf
       · have hk' := fun H=>hk 4 H (by simp [c4])
         by_cases p0:pl=0
         · subst p0
           have d2:inf≠0:=by omega
           by_cases d3:inf<0
           · simp [d2,d3,hk']
           · have d4:inf > 9:=by omega
             simp [d2,d3,d4,hk']
         · by_cases p1:pl=1
           · subst p1
             have d2:inf≠0:=by omega
             by_cases d3:inf<0
             · simp [d2,d3,hk']
             · have d4:inf > 9:=by omega
               simp [d2,d3,d4,hk']
           · by_cases d2:inf=0 <;> simp [p0,p1,d2,hk']
       · have hk' := fun H=>hk (kidsE t i.toNat) H (by simp [c4])
         have d3:¬ inf<0:=by omega
         have d4:¬ inf > 9:=by omega
         have hp:pl=0∨pl=1:=by omega
         by_cases d2:inf=0 <;> by_cases d5:kidsE t i.toNat=0 <;> rcases hp with rfl | rfl <;> simp [d2,d3,d4,d5] <;> first | exact ⟨hInT,hk' _⟩ | exact ⟨hInT,by rw [← d5]; exact hk' _⟩
     · have hk' := fun H=>hk 3 H (by simp [c3])
       by_cases d1:pl=0 <;> by_cases d2:inf=0 <;> simp [c3,d1,d2,hk']
 · have hk' := fun H=>hk 1 H (by simp [k0,k1,k2])
   by_cases d6:kd<0
   · by_cases d1:pl=0 <;> by_cases d2:inf=0 <;> simp [k0,k1,k2,d6,d1,d2,hk']
   · have d7:kd > 2:=by omega
     by_cases d1:pl=0 <;> by_cases d2:inf=0 <;> simp [k0,k1,k2,d6,d7,d1,d2,hk']
end
theorem conT2_ok : ∀ g xs Q,conT2 g xs Q→Con Tryz.prog g xs Q:=table_ok fun p hp=>by
 simp only [List.mem_cons,List.not_mem_nil,or_false] at hp
 rcases hp with rfl | rfl
 · exact c2_ok fun _ _ _ h=>node_con h
 · exact c2_ok fun _ _ _ h=>xnode_con h
section
variable {t:List Nd} {Q:Res}
def CntOk (t:List Nd) (i c:Nat) (xs:List Int):Prop:=xs.length=t.length∧∀ k:Nat,k<t.length→xs.getD k 0=(((parsN t (k:Int) i).length+(parsI (kidsOf t i) i (k:Int) c).length:Nat):Int)
theorem cnt_step {i c:Nat} {xs:List Int} (h:CntOk t i c xs) {m:Nat} (hm:(kidsOf t i).getD c 0=(m:Int)) (hml:m<t.length):CntOk t i (c+1) (xs.set m (xs.getD m 0+1)):=by
 obtain ⟨h1,h2⟩:=h
 refine ⟨by rw [List.length_set]; exact h1,fun k hk=>?_⟩
 have e:parsI (kidsOf t i) i (k:Int) (c+1)=if (kidsOf t i).getD c 0=(k:Int) then parsI (kidsOf t i) i (k:Int) c ++ [((i:Int),(c:Int))] else parsI (kidsOf t i) i (k:Int) c:=rfl
 rw [e,List.getD_eq_getElem?_getD,List.getElem?_set]
 by_cases hmk:m=k
 · subst hmk
   rw [if_pos rfl,if_pos (by omega),if_pos hm,List.length_append,Option.getD_some,h2 m hk]
   simp; omega
 · rw [if_neg hmk,if_neg (by rw [hm]; omega),← List.getD_eq_getElem?_getD,h2 k hk]
theorem cnt_next {i:Nat} {xs:List Int} (h:CntOk t i (kidsOf t i).length xs):CntOk t (i+1) 0 xs:=⟨h.1,fun k hk=>by
 rw [h.2 k hk]
 show _=(((parsN t (k:Int) i ++ parsI (kidsOf t i) i (k:Int) (kidsOf t i).length).length+0:Nat):Int)
 rw [List.length_append]; rfl⟩
def pairW (t:List Nd) (i j:Nat):Prop:=(t.getD i nd0).1=2→(t.getD j nd0).1=2→(t.getD i nd0).2.1=(t.getD j nd0).2.1→(t.getD i nd0).2.2.1=(t.getD j nd0).2.2.1→(kidsOf t i).length=(kidsOf t j).length
theorem same_of (h:∀ i j,i<t.length→j<i→pairW t i j):sameWd t:=fun i j hi hj a b c d=>by
 rcases Nat.lt_trichotomy i j with hl | hl | hl
 · exact (h j i hj hl b a c.symm d.symm).symm
 · rw [hl]
 · exact h i j hi hl a b c d
theorem same_not {i j:Nat} (hi:i<t.length) (hj:j<t.length) (h:¬ pairW t i j):¬ sameWd t:=fun hs=>h fun a b c d=>hs i j hi hj a b c d
theorem take_getD {i j:Nat} (hj:j<i):(t.take i).getD j ((0:Int),(0:Int),(0:Int),([]:List Int),([]:List ByteArray),ByteArray.empty)=t.getD j nd0:=by
 show (t.take i).getD j nd0=_
 rw [List.getD_eq_getElem?_getD,List.getD_eq_getElem?_getD,List.getElem?_take,if_pos hj]
theorem tree_large (h:120<t.length):treeE t=2:=by unfold treeE; rw [if_pos h]
theorem tree_none (h:t.length=0):treeE t=8:=by unfold treeE; rw [if_neg (by omega),if_pos h]
theorem tree_node (h1:¬ 120<t.length) {i:Nat} (hi:i<t.length) (hz:nodesE t i=0) (hb:nodeE t i≠0):treeE t=nodeE t i:=by
 have:=nodesE_bad hz hb t.length hi
 unfold treeE; rw [if_neg h1,if_neg (by omega),if_pos (by rw [this]; exact hb),this]
theorem tree_bad (h1:¬ 120<t.length) (h0:¬ t.length=0) (hz:nodesE t t.length=0) (hb:¬ (oneP t∧sameWd t)):treeE t=3:=by
 unfold treeE; rw [if_neg h1,if_neg h0,if_neg (fun h=>h hz),if_neg hb]
theorem tree_good (h1:¬ 120<t.length) (h0:¬ t.length=0) (hz:nodesE t t.length=0) (ho:oneP t) (hs:sameWd t):treeE t=0:=by
 unfold treeE; rw [if_neg h1,if_neg h0,if_neg (fun h=>h hz),if_pos ⟨ho,hs⟩]
theorem tcheck_con (h:treeS t Q):Con Tryz.prog 74 [.imm eNode t] Q:=by
 obtain ⟨ht,hq⟩:=h
 have hk:∀ e H,treeE t=e→resK Q (.int .i64 e) H:=fun e H h1=>by rw [h1] at hq; exact res_int hq
 refine conN (gn:=fnT Tryz.f74) (by kernel_rfl) conT2_ok (inl:=[]) (LT:=tcheck_live) (NT:=tcheck_nils) rfl fun n0=>?_
 rw [tcheck_E]
 by_cases h1:120<t.length
 · exact bif_pos (by omega) (hk _ _ (tree_large h1))
 refine bif_neg (by omega) ?_
 by_cases h0:t.length=0
 · exact bif_pos (by omega) (hk _ _ (tree_none h0))
 refine bif_neg (by omega) ?_
 -- the widths
 have loop25 : nodesE t t.length=0→oneP t→GoodL Tryz.prog n0 74 (resK Q) (headAt (fnT Tryz.f74) 25) (tcheck_s25_0 t (t.length:Int) ((0:Nat):Int)):=fun hz ho =>
  loopN (f:=74) (gn:=fnT Tryz.f74) (n0:=n0) (r:=25) (by kernel_rfl) conT2_ok (inl:=[]) (LT:=tcheck_live) (NT:=tcheck_nils) (K:=resK Q) (fun i:Nat=>tcheck_s25_0 t (t.length:Int) (i:Int)) (fun i=>t.length - i) (fun i=>i≤t.length∧∀ i' j,i' < i→j<i' → pairW t i' j) (fun i hp ih=>by
   obtain ⟨hi0,hw⟩:=hp
   rw [tcheck_s25_0_E]
   by_cases hi:i<t.length
   · refine bif_pos (by omega) (bif_in hi (bif_and (bif_pos (by omega) (bif_pos (by omega) ?_))))
     rw [Int.toNat_natCast]
     have hl:(t.take i).length=i:=by rw [List.length_take]; omega
     have inner:=loopN (f:=74) (gn:=fnT Tryz.f74) (n0:=n0) (r:=28) (by kernel_rfl) conT2_ok (inl:=[]) (LT:=tcheck_live) (NT:=tcheck_nils) (K:=resK Q) (fun j:Nat=>tcheck_s28_0 t (t.length:Int) (i:Int) (t.take i) ((t.take i).length:Int) (j:Int) (t.getD i nd0).1 (t.getD i nd0).2.1 (t.getD i nd0).2.2.1 (t.getD i nd0).2.2.2.1 (t.getD i nd0).2.2.2.2.1 (t.getD i nd0).2.2.2.2.2) (fun j=>i - j) (fun j=>j≤i∧∀ j', j' < j→pairW t i j') (fun j hp2 ih2=>by
        obtain ⟨hj0,hw2⟩:=hp2
        rw [tcheck_s28_0_E]
        by_cases hj:j<i
        · refine bif_pos (by omega) (bif_in (by omega) ?_)
          rw [Int.toNat_natCast,wrS hj (by omega),take_getD hj]
          have go:pairW t i j→GoodL Tryz.prog n0 74 (resK Q) (headAt (fnT Tryz.f74) 28) (tcheck_s28_0 t (t.length:Int) (i:Int) (t.take i) ((t.take i).length:Int) ((j+1:Nat):Int) (t.getD i nd0).1 (t.getD i nd0).2.1 (t.getD i nd0).2.2.1 (t.getD i nd0).2.2.2.1 (t.getD i nd0).2.2.2.2.1 (t.getD i nd0).2.2.2.2.2):=fun hpw=>ih2 (j+1) ⟨by omega,fun j' hj' => by
             by_cases hjj:j' = j
             · rw [hjj]; exact hpw
             · exact hw2 j' (by omega)⟩ (by omega)
          by_cases c1:(t.getD i nd0).1=2
          · refine bif_pos c1 ?_
            by_cases c2:(t.getD j nd0).1=2
            · refine bif_ap c2 ?_
              by_cases c3:(t.getD i nd0).2.1=(t.getD j nd0).2.1
              · refine bif_ap c3 ?_
                by_cases c4:(t.getD i nd0).2.2.1=(t.getD j nd0).2.2.1
                · refine bif_ap c4 ?_
                  rw [cond_true]
                  by_cases c5:(kidsOf t i).length=(kidsOf t j).length
                  · refine bif_not (bif_pos (by unfold kidsOf at c5; omega) (go fun _ _ _ _=>c5))
                  · refine bif_not (bif_neg (by unfold kidsOf at c5; omega) (hk _ _ (tree_bad h1 h0 hz fun hc=>same_not hi (by omega) (fun hpw=>c5 (hpw c1 c2 c3 c4)) hc.2)))
                · exact bif_an c4 (go fun _ _ _ d=>absurd d c4)
              · exact bif_an c3 (go fun _ _ c _=>absurd c c3)
            · exact bif_an c2 (go fun _ b _ _=>absurd b c2)
          · exact bif_neg c1 (go fun a _ _ _=>absurd a c1)
        · refine bif_neg (by omega) ?_
          rw [wrS hi (by omega)]
          exact ih (i+1) ⟨by omega,fun i' j' hi' hj' => by
             by_cases hii:i' = i
             · rw [hii] at hj' ⊢; exact hw2 j' (by omega)
             · exact hw i' j' (by omega) hj'⟩ (by omega))
     exact inner 0 ⟨Nat.zero_le _,fun j' hj' => absurd hj' (Nat.not_lt_zero _)⟩
   · exact bif_neg (by omega) (hk _ _ (tree_good h1 h0 hz ho (same_of fun i' j hi' hj=>hw i' j (by omega) hj)))) 0 ⟨Nat.zero_le _,fun i' j hi' => absurd hi' (Nat.not_lt_zero _)⟩
 -- one parent each
 have loop19:nodesE t t.length=0→∀ xs,CntOk t t.length 0 xs→GoodL Tryz.prog n0 74 (resK Q) (headAt (fnT Tryz.f74) 19) (tcheck_s19_0 t (xs.length:Int) ((0:Nat):Int) xs):=fun hz xs hc =>
  loopN (f:=74) (gn:=fnT Tryz.f74) (n0:=n0) (r:=19) (by kernel_rfl) conT2_ok (inl:=[]) (LT:=tcheck_live) (NT:=tcheck_nils) (K:=resK Q) (fun i:Nat=>tcheck_s19_0 t (xs.length:Int) (i:Int) xs) (fun i=>t.length - i) (fun i=>i≤t.length∧∀ j:Nat,1≤j→j<i→(pars t (j:Int)).length=1) (fun i hp ih=>by
   obtain ⟨hi0,hw⟩:=hp
   have hxl:=hc.1
   rw [tcheck_s19_0_E]
   by_cases hi:i<t.length
   · have hci:=hc.2 i hi
     have hci' : xs.getD i 0=((pars t (i:Int)).length:Int):=hci
     refine bif_pos (by omega) (bif_in (by omega) ?_)
     rw [Int.toNat_natCast,wrS hi (by omega)]
     by_cases c0:0<i
     · refine bif_pos (by omega) ?_
       rw [cond_true]
       by_cases c1:(pars t (i:Int)).length=1
       · refine bif_not (bif_pos (by omega) (ih (i+1) ⟨by omega,fun j hj1 hj2=>?_⟩ (by omega)))
         by_cases hji:j=i
         · rw [hji]; exact c1
         · exact hw j hj1 (by omega)
       · exact bif_not (bif_neg (by omega) (hk _ _ (tree_bad h1 h0 hz fun hc2=>c1 (hc2.1 i (by omega) hi))))
     · refine bif_neg (by omega) (ih (i+1) ⟨by omega,fun j hj1 hj2=>by omega⟩ (by omega))
   · exact bif_neg (by omega) (loop25 hz fun j hj1 hj2=>hw j hj1 (by omega))) 0 ⟨Nat.zero_le _,fun j _ hj=>absurd hj (Nat.not_lt_zero _)⟩
 -- the nodes
 have loop7:=loopN (f:=74) (gn:=fnT Tryz.f74) (n0:=n0) (r:=7) (by kernel_rfl) conT2_ok (inl:=[]) (LT:=tcheck_live) (NT:=tcheck_nils) (K:=resK Q) (fun y:Nat × List Int=>tcheck_s7_0 t (t.length:Int) (y.1:Int) y.2) (fun y=>t.length - y.1) (fun y=>y.1≤t.length∧nodesE t y.1=0∧CntOk t y.1 0 y.2) (fun y hp ih=>by
  obtain ⟨i,xs⟩:=y
  obtain ⟨hi0,hz,hc⟩:=hp
  simp only at hi0 hz hc
  show execN _ _ _ _ _ _ (tcheck_s7_0 t (t.length:Int) (i:Int) xs)
  rw [tcheck_s7_0_E]
  by_cases hi:i<t.length
  · refine bif_pos (by omega) (bif_in hi ⟨⟨ht,by omega,by omega⟩,?_⟩)
    rw [Int.toNat_natCast]
    by_cases hn:nodeE t i=0
    · have N:=node_ok hn
      have hw:=N.w
      refine bif_not (bif_pos hn ?_)
      show GoodL _ _ _ _ _ (tcheck_s13_0 t (t.length:Int) (i:Int) (kidsOf t i) ((kidsOf t i).length:Int) ((0:Nat):Int) xs)
      refine loopN (f:=74) (gn:=fnT Tryz.f74) (n0:=n0) (r:=13) (by kernel_rfl) conT2_ok (inl:=[]) (LT:=tcheck_live) (NT:=tcheck_nils) (K:=resK Q) (fun z:Nat × List Int=>tcheck_s13_0 t (t.length:Int) (i:Int) (kidsOf t i) ((kidsOf t i).length:Int) (z.1:Int) z.2) (fun z=>(kidsOf t i).length - z.1) (fun z=>z.1≤(kidsOf t i).length∧CntOk t i z.1 z.2) (fun z hp2 ih2=>?_) (0,xs) ⟨Nat.zero_le _,hc⟩
      obtain ⟨c,zs⟩:=z
      obtain ⟨hc0,hcz⟩:=hp2
      simp only at hc0 hcz
      have hzl:=hcz.1
      show execN _ _ _ _ _ _ (tcheck_s13_0 t (t.length:Int) (i:Int) (kidsOf t i) ((kidsOf t i).length:Int) (c:Int) zs)
      rw [tcheck_s13_0_E]
      by_cases hcl:c<(kidsOf t i).length
      · have K:=N.kid c hcl
        obtain ⟨m,hm⟩:∃ m:Nat,(kidsOf t i).getD c 0=(m:Int):=⟨((kidsOf t i).getD c 0).toNat,by omega⟩
        rw [hm] at K
        refine bif_pos (by omega) (bif_in hcl ?_)
        rw [Int.toNat_natCast,hm,Int.toNat_natCast,wrS hcl (by omega)]
        have hcm:=hcz.2 m (by omega)
        have b1:=parsN_len (t:=t) (k:=(m:Int)) (n:=i) fun j hj=>(node_ok (nodesE_zero.1 hz j hj)).w
        have b2:=parsI_len (kidsOf t i) i (m:Int) c
        refine bif_in (by omega) (bif_in (by omega) ?_)
        rw [wr (n:=zs.getD m 0+1) (by omega) (by omega)]
        exact ih2 (c+1,zs.set m (zs.getD m 0+1)) ⟨by show c+1≤_; omega,cnt_step hcz hm (by omega)⟩ (by show _ - (c+1)<_ - c; omega)
      · have hcc:c=(kidsOf t i).length:=by omega
        subst hcc
        refine bif_neg (by omega) ?_
        rw [wrS hi (by omega)]
        exact ih (i+1,zs) ⟨by show i+1≤_; omega,by unfold nodesE; rw [if_pos hz]; exact hn,cnt_next hcz⟩ (by show _ - (i+1)<_ - i; omega)
    · exact bif_not (bif_neg hn (hk _ _ (tree_node h1 hi hz hn)))
  · have hii:i=t.length:=by omega
    subst hii
    exact bif_neg (by omega) (loop19 hz xs hc))
 have k1:=makeN (n:=t.length) (b:=8) (by omega) (by decide)
 simp only [Int.toNat_natCast] at k1 ⊢
 refine bif_t k1 ?_
 exact loop7 (0,List.replicate t.length 0) ⟨Nat.zero_le _,rfl,List.length_replicate,fun k hk=>by
  rw [List.getD_eq_getElem?_getD,List.getElem?_replicate,if_pos hk]; rfl⟩
end
end
section
theorem conT3_ok : ∀ g xs Q,conT3 g xs Q→Con Tryz.prog g xs Q:=table_ok fun p hp=>by
 simp only [List.mem_cons,List.not_mem_nil,or_false] at hp
 rcases hp with rfl | rfl | rfl
 · exact c2_ok fun _ _ _ h=>node_con h
 · exact c2_ok fun _ _ _ h=>xnode_con h
 · exact c2_ok fun _ _ _ h=>xpar_con h
section
variable {t:List Nd} {k p:Int} {Q:Res}
theorem ytree_con (h:treeS t Q):Con Tryz.prog 31 [.imm eNode t] Q:=by
 obtain ⟨ht,hq⟩:=h
 have hk:∀ e H,treeE t=e→resK Q (.int .i64 e) H:=fun e H h1=>by rw [h1] at hq; exact res_int hq
 refine conN (gn:=fnT Tryz.f31) (by kernel_rfl) conT3_ok (inl:=[]) (LT:=ytree_live) (NT:=ytree_nils) rfl fun n0=>?_
 rw [ytree_E]
 by_cases h1:120<t.length
 · exact bif_pos (by omega) (hk _ _ (tree_large h1))
 refine bif_neg (by omega) ?_
 by_cases h0:t.length=0
 · exact bif_pos (by omega) (hk _ _ (tree_none h0))
 refine bif_neg (by omega) ?_
 have loop18 : nodesE t t.length=0→oneP t→GoodL Tryz.prog n0 31 (resK Q) (headAt (fnT Tryz.f31) 18) (ytree_s18_0 t (t.length:Int) ((0:Nat):Int)):=fun hz ho =>
  loopN (f:=31) (gn:=fnT Tryz.f31) (n0:=n0) (r:=18) (by kernel_rfl) conT3_ok (inl:=[]) (LT:=ytree_live) (NT:=ytree_nils) (K:=resK Q) (fun i:Nat=>ytree_s18_0 t (t.length:Int) (i:Int)) (fun i=>t.length - i) (fun i=>i≤t.length∧∀ i' j,i' < i→j<t.length→pairW t i' j) (fun i hp ih=>by
   obtain ⟨hi0,hw⟩:=hp
   rw [ytree_s18_0_E]
   by_cases hi:i<t.length
   · refine bif_pos (by omega) (bif_in hi ?_)
     rw [Int.toNat_natCast]
     have inner:=loopN (f:=31) (gn:=fnT Tryz.f31) (n0:=n0) (r:=21) (by kernel_rfl) conT3_ok (inl:=[]) (LT:=ytree_live) (NT:=ytree_nils) (K:=resK Q) (fun j:Nat=>ytree_s21_0 t (i:Int) (t.length:Int) (i:Int) (t.length:Int) (j:Int) (t.getD i nd0).1 (t.getD i nd0).2.1 (t.getD i nd0).2.2.1 (t.getD i nd0).2.2.2.1 (t.getD i nd0).2.2.2.2.1 (t.getD i nd0).2.2.2.2.2) (fun j=>t.length - j) (fun j=>j≤t.length∧∀ j', j' < j→pairW t i j') (fun j hp2 ih2=>by
        obtain ⟨hj0,hw2⟩:=hp2
        rw [ytree_s21_0_E]
        by_cases hj:j<t.length
        · refine bif_pos (by omega) (bif_in (by omega) ?_)
          rw [Int.toNat_natCast,Int.toNat_natCast,wrS hj (by omega)]
          have go:pairW t i j→GoodL Tryz.prog n0 31 (resK Q) (headAt (fnT Tryz.f31) 21) (ytree_s21_0 t (i:Int) (t.length:Int) (i:Int) (t.length:Int) ((j+1:Nat):Int) (t.getD i nd0).1 (t.getD i nd0).2.1 (t.getD i nd0).2.2.1 (t.getD i nd0).2.2.2.1 (t.getD i nd0).2.2.2.2.1 (t.getD i nd0).2.2.2.2.2):=fun hpw=>ih2 (j+1) ⟨by omega,fun j' hj' => by
             by_cases hjj:j' = j
             · rw [hjj]; exact hpw
             · exact hw2 j' (by omega)⟩ (by omega)
          by_cases c1:(t.getD i nd0).1=2
          · refine bif_pos c1 ?_
            by_cases c2:(t.getD j nd0).1=2
            · refine bif_ap c2 ?_
              by_cases c3:(t.getD i nd0).2.1=(t.getD j nd0).2.1
              · refine bif_ap c3 (bif_in hi (bif_ap rfl ?_))
                by_cases c4:(t.getD j nd0).2.2.1=(t.getD i nd0).2.2.1
                · refine bif_ap c4 ?_
                  rw [cond_true]
                  by_cases c5:(kidsOf t i).length=(kidsOf t j).length
                  · refine bif_not (bif_pos (congrArg (fun n:Nat=>(n:Int)) c5) (go fun _ _ _ _=>c5))
                  · refine bif_not (bif_neg (fun h=>c5 (Int.ofNat_inj.1 h)) (hk _ _ (tree_bad h1 h0 hz fun hc=>same_not hi hj (fun hpw=>c5 (hpw c1 c2 c3 c4.symm)) hc.2)))
                · exact bif_an c4 (go fun _ _ _ d=>absurd d.symm c4)
              · exact bif_an c3 (go fun _ _ c _=>absurd c c3)
            · exact bif_an c2 (go fun _ b _ _=>absurd b c2)
          · exact bif_neg c1 (go fun a _ _ _=>absurd a c1)
        · refine bif_neg (by omega) ?_
          rw [wrS hi (by omega)]
          exact ih (i+1) ⟨by omega,fun i' j' hi' hj' => by
             by_cases hii:i' = i
             · rw [hii]; exact hw2 j' (by omega)
             · exact hw i' j' (by omega) hj'⟩ (by omega))
     exact inner 0 ⟨Nat.zero_le _,fun j' hj' => absurd hj' (Nat.not_lt_zero _)⟩
   · exact bif_neg (by omega) (hk _ _ (tree_good h1 h0 hz ho fun i' j hi' hj=>hw i' j (by omega) hj))) 0 ⟨Nat.zero_le _,fun i' j hi' => absurd hi' (Nat.not_lt_zero _)⟩
 have loop13:nodesE t t.length=0→GoodL Tryz.prog n0 31 (resK Q) (headAt (fnT Tryz.f31) 13) (ytree_s13_0 t ((1:Nat):Int)):=fun hz =>
  loopN (f:=31) (gn:=fnT Tryz.f31) (n0:=n0) (r:=13) (by kernel_rfl) conT3_ok (inl:=[]) (LT:=ytree_live) (NT:=ytree_nils) (K:=resK Q) (fun i:Nat=>ytree_s13_0 t (i:Int)) (fun i=>t.length - i) (fun i=>(1≤i∧i≤t.length)∧∀ j:Nat,1≤j→j<i→(pars t (j:Int)).length=1) (fun i hp ih=>by
   obtain ⟨⟨hi1,hi0⟩,hw⟩:=hp
   rw [ytree_s13_0_E]
   by_cases hi:i<t.length
   · refine bif_pos (by omega) ⟨⟨by omega,fun j hj=>(node_ok (nodesE_zero.1 hz j hj)).w⟩,?_⟩
     rw [wrS hi (by omega)]
     by_cases c1:(pars t (i:Int)).length=1
     · refine bif_not (bif_pos (by omega) (ih (i+1) ⟨⟨by omega,by omega⟩,fun j hj1 hj2=>?_⟩ (by omega)))
       by_cases hji:j=i
       · rw [hji]; exact c1
       · exact hw j hj1 (by omega)
     · refine bif_not (bif_neg (by omega) (hk _ _ (tree_bad h1 h0 hz fun hc2=>c1 (hc2.1 i hi1 hi))))
   · exact bif_neg (by omega) (loop18 hz fun j hj1 hj2=>hw j hj1 (by omega))) 1 ⟨⟨Nat.le_refl _,by omega⟩,fun j h1 hj=>by omega⟩
 exact loopN (f:=31) (gn:=fnT Tryz.f31) (n0:=n0) (r:=6) (by kernel_rfl) conT3_ok (inl:=[]) (LT:=ytree_live) (NT:=ytree_nils) (K:=resK Q) (fun i:Nat=>ytree_s6_0 t (t.length:Int) (i:Int)) (fun i=>t.length - i) (fun i=>i≤t.length∧nodesE t i=0) (fun i hp ih=>by
  obtain ⟨hi0,hz⟩:=hp
  rw [ytree_s6_0_E]
  by_cases hi:i<t.length
  · refine bif_pos (by omega) ⟨⟨ht,by omega,by omega⟩,?_⟩
    rw [Int.toNat_natCast,wrS hi (by omega)]
    by_cases hn:nodeE t i=0
    · exact bif_not (bif_pos hn (ih (i+1) ⟨by omega,by unfold nodesE; rw [if_pos hz]; exact hn⟩ (by omega)))
    · exact bif_not (bif_neg hn (hk _ _ (tree_node h1 hi hz hn)))
  · have hii:i=t.length:=by omega
    subst hii
    exact bif_neg (by omega) (loop13 hz)) 0 ⟨Nat.zero_le _,rfl⟩
end
section
variable {a b l:List (Int × Int)} {Q:Res}
theorem getD_ext {α:Type} {d:α} {l m:List α} (hl:l.length=m.length) (h:∀ j,j<l.length→l.getD j d=m.getD j d):l=m:=by
 apply List.ext_getElem hl
 intro i h1 h2
 have:=h i h1
 rwa [List.getD_eq_getElem?_getD,List.getD_eq_getElem?_getD,List.getElem?_eq_getElem h1,List.getElem?_eq_getElem h2] at this
theorem pair_bif {x y:Int × Int} {A B:Prop} (h:x=y→B) (h' : x≠y→A):bif !(bif decide (x.1=y.1) then bif decide (x.2=y.2) then true else false else false) then A else B:=by
 by_cases c1:x.1=y.1
 · by_cases c2:x.2=y.2
   · rw [decide_eq_true c1,decide_eq_true c2]; exact h (Prod.ext c1 c2)
   · rw [decide_eq_true c1,decide_eq_false c2]; exact h' fun he=>c2 (by rw [he])
 · rw [decide_eq_false c1]; exact h' fun he=>c1 (by rw [he])
theorem sequal_con (h:sameS a b Q):Con Tryz.prog 82 [.imm eP a, .imm eP b] Q:=by
 obtain ⟨hl,hq⟩:=h
 unfold SmL at hl
 have hk:∀ e H,sameB a b=e→resK Q (.bool e) H:=fun e H h1=>by rw [h1] at hq; exact res_bool hq
 refine conN (gn:=fnT Tryz.f82) (by kernel_rfl) con0_ok (inl:=[]) (LT:=sequal_live) (NT:=sequal_nils) rfl fun n0=>?_
 rw [sequal_E]
 by_cases h0:a.length=b.length
 · refine bif_not (bif_pos (by omega) ?_)
   refine loopN (f:=82) (gn:=fnT Tryz.f82) (n0:=n0) (r:=4) (by kernel_rfl) con0_ok (inl:=[]) (LT:=sequal_live) (NT:=sequal_nils) (K:=resK Q) (fun x:Nat=>sequal_s4_0 a b (a.length:Int) (x:Int)) (fun x=>a.length - x) (fun x=>x≤a.length∧∀ j,j<x→a.getD j p0=b.getD j p0) (fun x hp ih=>?_) 0 ⟨Nat.zero_le _,fun j hj=>absurd hj (Nat.not_lt_zero _)⟩
   obtain ⟨hx0,he⟩:=hp
   rw [sequal_s4_0_E]
   by_cases hx:x<a.length
   · refine bif_pos (by omega) (bif_in hx (bif_in (by omega) ?_))
     rw [Int.toNat_natCast,wrS hx (by omega)]
     refine pair_bif (fun hab=>ih (x+1) ⟨by omega,fun j hj=>?_⟩ (by omega)) fun hab=>hk _ _ (decide_eq_false fun hc=>hab (by rw [hc]))
     by_cases hjx:j=x
     · rw [hjx]; exact hab
     · exact he j (by omega)
   · exact bif_neg (by omega) (hk _ _ (decide_eq_true (getD_ext h0 fun j hj=>he j (by omega))))
 · exact bif_not (bif_neg (by omega) (hk _ _ (decide_eq_false fun hc=>h0 (by rw [hc]))))
theorem xsame_con (h:sameS a b Q):Con Tryz.prog 48 [.imm eP a, .imm eP b] Q:=by
 obtain ⟨hl,hq⟩:=h
 unfold SmL at hl
 have hk:∀ e H,sameB a b=e→resK Q (.bool e) H:=fun e H h1=>by rw [h1] at hq; exact res_bool hq
 refine conN (gn:=fnT Tryz.f48) (by kernel_rfl) con0_ok (inl:=[]) (LT:=xsame_live) (NT:=xsame_nils) rfl fun n0=>?_
 rw [xsame_E]
 by_cases h0:a.length=b.length
 · refine bif_not (bif_pos (by omega) ?_)
   refine loopN (f:=48) (gn:=fnT Tryz.f48) (n0:=n0) (r:=4) (by kernel_rfl) con0_ok (inl:=[]) (LT:=xsame_live) (NT:=xsame_nils) (K:=resK Q) (fun x:Nat=>xsame_s4_0 a b (a.length:Int) (x:Int)) (fun x=>a.length - x) (fun x=>x≤a.length∧∀ j,j<x→a.getD j p0=b.getD j p0) (fun x hp ih=>?_) 0 ⟨Nat.zero_le _,fun j hj=>absurd hj (Nat.not_lt_zero _)⟩
   obtain ⟨hx0,he⟩:=hp
   rw [xsame_s4_0_E]
   by_cases hx:x<a.length
   · refine bif_pos (by omega) (bif_in hx (bif_in (by omega) ?_))
     rw [Int.toNat_natCast,wrS hx (by omega)]
     refine pair_bif (fun hab=>ih (x+1) ⟨by omega,fun j hj=>?_⟩ (by omega)) fun hab=>hk _ _ (decide_eq_false fun hc=>hab (by rw [hc]))
     by_cases hjx:j=x
     · rw [hjx]; exact hab
     · exact he j (by omega)
   · exact bif_neg (by omega) (hk _ _ (decide_eq_true (getD_ext h0 fun j hj=>he j (by omega))))
 · exact bif_not (bif_neg (by omega) (hk _ _ (decide_eq_false fun hc=>h0 (by rw [hc]))))
theorem sclone_con (h:cloneP l Q):Con Tryz.prog 121 [.imm eP l] Q:=by
 obtain ⟨hF,h1,h2⟩:=h
 by_cases hl:l=[]
 · subst hl
   obtain ⟨q1,q2⟩:=h2 rfl
   refine con_empty (xs:=[]) (ys:=[]) fun A k=>?_
   refine conN (gn:=fnT Tryz.f121) (by kernel_rfl) con0_ok (inl:=[]) (LT:=sclonee_live) (NT:=sclonee_nils) rfl fun n0=>?_
   rw [List.nil_append,sclonee_E]
   cases A with
   | none=>exact res_plain q1 rfl rfl
   | some a=>exact res_own rfl q2
 · have hp:0<l.length:=List.length_pos_iff.2 hl
   refine conN (gn:=fnT Tryz.f121) (by kernel_rfl) con0_ok (inl:=[]) (LT:=sclone_live) (NT:=sclone_nils) rfl fun n0=>?_
   rw [sclone_E,Nat.zero_add]
   exact bif_blt hp (bif_t (roomN (by omega) (by decide)) (res_own rfl (h1 hl)))
end
theorem conT4_ok : ∀ g xs Q,conT4 g xs Q→Con Tryz.prog g xs Q:=table_ok fun p hp=>by
 simp only [List.mem_cons,List.not_mem_nil,or_false] at hp
 rcases hp with rfl | rfl | rfl | rfl | rfl | rfl
 · exact c1_ok fun _ _ h=>tcheck_con h
 · exact c1_ok fun _ _ h=>ytree_con h
 · exact c2_ok fun _ _ _ h=>xpar_con h
 · exact c1_ok fun _ _ h=>lweight_con h
 · exact c1_ok fun _ _ h=>sclone_con h
 · exact c2_ok fun _ _ _ h=>sequal_con h
section
variable {t:List Nd} {k p:Int} {Q:Res}
theorem plE_cases (t:List Nd) (p:Int):(treeE t≠0∧plE t p=treeE t)∨(treeE t=0∧(p=0∨p=1)∧plE t p=0)∨(treeE t=0∧¬ (p=0∨p=1)∧plE t p=4):=by
 unfold plE
 by_cases h:treeE t=0
 · rw [if_neg (fun hc=>hc h)]
   by_cases h2:p=0∨p=1
   · rw [if_pos h2]; exact .inr (.inl ⟨h,h2,rfl⟩)
   · rw [if_neg h2]; exact .inr (.inr ⟨h,h2,rfl⟩)
 · rw [if_pos h]; exact .inl ⟨h,rfl⟩
theorem plE_zero (h:plE t p=0):GoodT t∧(p=0∨p=1):=by
 rcases plE_cases t p with ⟨h1,h2⟩ | ⟨h1,h2,_⟩ | ⟨_,_,h3⟩
 · exact absurd (h2.symm.trans h) h1
 · exact ⟨h1,h2⟩
 · rw [h3] at h; cases h
theorem tplayer_con (h:plS t p Q):Con Tryz.prog 46 [.imm eNode t, .int .i64 p] Q:=by
 obtain ⟨ht,hq⟩:=h
 have hk:∀ e H,plE t p=e→resK Q (.int .i64 e) H:=fun e H h1=>by rw [h1] at hq; exact res_int hq
 refine conN (gn:=fnT Tryz.f46) (by kernel_rfl) conT4_ok (inl:=[]) (LT:=tplayer_live) (NT:=tplayer_nils) rfl fun n0=>?_
 rw [tplayer_E]
 refine ⟨ht,?_⟩
 rcases plE_cases t p with ⟨h1,h2⟩ | ⟨h1,h2,h3⟩ | ⟨h1,h2,h3⟩
 · exact bif_not (bif_neg h1 (hk _ _ h2))
 · refine bif_not (bif_pos h1 ?_)
   by_cases p0:p=0
   · exact bif_not (bif_pos p0 (hk _ _ h3))
   · refine bif_not (bif_neg p0 ?_)
     rw [cond_true]
     exact bif_not (bif_pos (by omega) (hk _ _ h3))
 · refine bif_not (bif_pos h1 (bif_not (bif_neg (by omega) ?_)))
   rw [cond_true]
   exact bif_not (bif_neg (by omega) (hk _ _ h3))
theorem lplayer_con (h:plS t p Q):Con Tryz.prog 11 [.imm eNode t, .int .i64 p] Q:=by
 obtain ⟨ht,hq⟩:=h
 have hk:∀ e H,plE t p=e→resK Q (.int .i64 e) H:=fun e H h1=>by rw [h1] at hq; exact res_int hq
 refine conN (gn:=fnT Tryz.f11) (by kernel_rfl) conT4_ok (inl:=[]) (LT:=lplayer_live) (NT:=lplayer_nils) rfl fun n0=>?_
 rw [lplayer_E]
 refine ⟨ht,?_⟩
 rcases plE_cases t p with ⟨h1,h2⟩ | ⟨h1,h2,h3⟩ | ⟨h1,h2,h3⟩
 · exact bif_not (bif_neg h1 (hk _ _ h2))
 · refine bif_not (bif_pos h1 ?_)
   by_cases p0:p=0
   · exact bif_not (bif_pos p0 (hk _ _ h3))
   · refine bif_not (bif_neg p0 ?_)
     rw [cond_true]
     exact bif_not (bif_pos (by omega) (hk _ _ h3))
 · refine bif_not (bif_pos h1 (bif_not (bif_neg (by omega) ?_)))
   rw [cond_true]
   exact bif_not (bif_neg (by omega) (hk _ _ h3))
theorem ltweight_con (h:wtS t Q):Con Tryz.prog 9 [.imm eNode t] Q:=by
 obtain ⟨ht,hq⟩:=h
 have hl:=ht.1
 refine conN (gn:=fnT Tryz.f9) (by kernel_rfl) conT4_ok (inl:=[]) (LT:=ltweight_live) (NT:=ltweight_nils) rfl fun n0=>?_
 rw [ltweight_E]
 exact loopN (f:=9) (gn:=fnT Tryz.f9) (n0:=n0) (r:=3) (by kernel_rfl) conT4_ok (inl:=[]) (LT:=ltweight_live) (NT:=ltweight_nils) (K:=resK Q) (fun y:Int × Nat=>ltweight_s3_0 t y.1 (t.length:Int) (y.2:Int)) (fun y=>t.length - y.2) (fun y=>y.2≤t.length) (fun y hp ih=>by
  obtain ⟨n,x⟩:=y
  simp only at hp
  show execN _ _ _ _ _ _ (ltweight_s3_0 t n (t.length:Int) (x:Int))
  rw [ltweight_s3_0_E]
  by_cases hx:x<t.length
  · have hr:=(ht.2 _ (getD_mem (d:=nd0) hx)).2.1.1
    refine bif_pos (by omega) (bif_in hx ⟨⟨by simp,fun r hr2=>?_⟩,fun m=>?_⟩)
    · rw [List.mem_singleton.1 hr2]; exact hr
    · rw [wrS hx (by omega)]
      exact ih (_,x+1) (by show x+1≤t.length; omega) (by show t.length - (x+1)<t.length - x; omega)
  · exact bif_neg (by omega) (res_int (hq _))) (0,0) (Nat.zero_le _)
theorem xpath_con (h:pathS t k Q):Con Tryz.prog 51 [.imm eNode t, .int .i64 k] Q:=by
 obtain ⟨⟨hg,k0,k1⟩,hq⟩:=h
 have T:=tree_ok hg
 have hn:=T.n120
 obtain ⟨m,rfl⟩:∃ m:Nat,k=(m:Int):=⟨k.toNat,by omega⟩
 rw [Int.toNat_natCast] at hq
 refine con_imm (e:=eP) (l:=path t m) ?_ hq
 refine conN (gn:=fnT Tryz.f51) (by kernel_rfl) conT4_ok (inl:=[]) (LT:=xpath_live) (NT:=xpath_nils) rfl fun n0=>?_
 rw [xpath_E]
 show GoodL _ _ _ _ _ (xpath_s2_1 t (m:Int) (m:Int) [])
 refine loopN (f:=51) (gn:=fnT Tryz.f51) (n0:=n0) (r:=2) (by kernel_rfl) conT4_ok (inl:=[]) (LT:=xpath_live) (NT:=xpath_nils) (K:=resK fun v o=>v = .own 0∧∃ fz,o=[.typed eP (path t m) fz]) (fun y:Nat × List (Int × Int)=>xpath_s2_1 t (m:Int) (y.1:Int) y.2) (fun y=>y.1) (fun y=>y.1<t.length∧y.1+y.2.length≤m∧path t m=path t y.1 ++ y.2) (fun y hp ih=>?_) (m,[]) ⟨by show m<_; omega,by show m+0≤m; omega,by rw [List.append_nil]⟩
 obtain ⟨x,out⟩:=y
 obtain ⟨hx,hl,he⟩:=hp
 simp only at hx hl he
 show execN _ _ _ _ _ _ (xpath_s2_1 t (m:Int) (x:Int) out)
 rw [xpath_s2_1_E]
 by_cases h0:0<x
 · obtain ⟨hs,hp⟩:=T.par_spec (k:=x) (by omega) hx
   have hlt:=T.kid_lt hs
   refine bif_pos (by omega) ⟨T.small,?_⟩
   rw [hp]
   simp only [List.getD_cons_zero,List.getD_cons_succ,List.length_singleton]
   refine bif_pos (by decide) (bif_t (roomN (by omega) (by decide)) ?_)
   refine ih ((par t x).1,[(((par t x).1:Int),((par t x).2:Int))] ++ out) ⟨by show (par t x).1<_; omega,?_,?_⟩ (by show (par t x).1<x; omega)
   · show (par t x).1+([_] ++ out).length≤m
     rw [List.length_append]; simp; omega
   · show path t m=path t (par t x).1 ++ ([_] ++ out)
     rw [he,T.path_par (by omega) hx,List.append_assoc]
 · have hx0:x=0:=by omega
   subst hx0
   refine bif_neg (by omega) ?_
   rw [path_zero,List.nil_append] at he
   rw [he]
   exact res_own rfl ⟨rfl,false,rfl⟩
def Done (t:List Nd) (i c k:Nat):Prop:=k=0∨∃ i' c', KidAt t i' c' k∧(i' < i∨(i' = i∧c' < c))
theorem TreeOk.done {t:List Nd} (T:TreeOk t) {i:Nat} (hi:i<t.length) {c:Nat}:Done t i c i:=by
 by_cases h0:i=0
 · exact .inl h0
 · have hs:=(T.par_spec (k:=i) (by omega) hi).1
   exact .inr ⟨_,_,hs, .inl (T.kid_lt hs).1⟩
theorem TreeOk.done_step {t:List Nd} (T:TreeOk t) {i c k m:Nat} (hm:KidAt t i c m) (h:Done t i (c+1) k):k=m∨Done t i c k:=by
 rcases h with h | ⟨i', c', hk,h⟩
 · exact .inr (.inl h)
 · rcases h with h | ⟨h1,h2⟩
   · exact .inr (.inr ⟨i', c', hk, .inl h⟩)
   · by_cases hc:c' = c
     · subst h1; subst hc
       have e1:=hk.2.2; have e2:=hm.2.2
       exact .inl (by omega)
     · exact .inr (.inr ⟨i', c', hk, .inr ⟨h1,by omega⟩⟩)
theorem done_next {t:List Nd} {i k:Nat} (h:Done t (i+1) 0 k):Done t i (kidsOf t i).length k:=by
 rcases h with h | ⟨i', c', hk,h⟩
 · exact .inl h
 · refine .inr ⟨i', c', hk,?_⟩
   rcases h with h | ⟨_,h⟩
   · by_cases hi:i' = i
     · subst hi; exact .inr ⟨rfl,hk.2.1⟩
     · exact .inl (by omega)
   · omega
theorem TreeOk.done_all {t:List Nd} (T:TreeOk t) {k:Nat} (hk:k<t.length):Done t t.length 0 k:=by
 by_cases h0:k=0
 · exact .inl h0
 · have hs:=(T.par_spec (k:=k) (by omega) hk).1
   exact .inr ⟨_,_,hs, .inl hs.1⟩
theorem done_zero {t:List Nd} {k:Nat} (h:Done t 0 0 k):k=0:=by
 rcases h with h | ⟨i', c', _,h⟩
 · exact h
 · omega
def RowsOk {α:Type} (t:List Nd) (f:Nat→α) (d:α) (i c:Nat) (rows:List α):Prop:=rows.length=t.length∧∀ k,k<t.length→Done t i c k→rows.getD k d=f k
theorem RowsOk.step {α:Type} {t:List Nd} (T:TreeOk t) {f:Nat→α} {d:α} {i c m:Nat} {rows:List α} (h:RowsOk t f d i c rows) (hm:KidAt t i c m):RowsOk t f d i (c+1) (rows.set m (f m)):=⟨by rw [List.length_set]; exact h.1,fun k hk hd=>by
 rw [List.getD_eq_getElem?_getD,List.getElem?_set]
 by_cases hkm:m=k
 · subst hkm
   rw [if_pos rfl,if_pos (by rw [h.1]; exact hk)]; rfl
 · rw [if_neg hkm,← List.getD_eq_getElem?_getD]
   rcases T.done_step hm hd with h1 | h1
   · exact absurd h1.symm hkm
   · exact h.2 k hk h1⟩
theorem RowsOk.next {α:Type} {t:List Nd} {f:Nat→α} {d:α} {i:Nat} {rows:List α} (h:RowsOk t f d i (kidsOf t i).length rows):RowsOk t f d (i+1) 0 rows:=⟨h.1,fun k hk hd=>h.2 k hk (done_next hd)⟩
theorem RowsOk.all {α:Type} {t:List Nd} (T:TreeOk t) {f:Nat→α} {d:α} {rows:List α} (h:RowsOk t f d t.length 0 rows):rows=(List.range t.length).map f:=by
 refine getD_ext (d:=d) (by rw [h.1]; simp) fun k hk=>?_
 rw [h.1] at hk
 rw [h.2 k hk (T.done_all hk),List.getD_eq_getElem?_getD,List.getElem?_map,List.getElem?_range hk]; rfl
theorem TreeOk.kid_at {t:List Nd} (T:TreeOk t) {i c:Nat} (hi:i<t.length) (hc:c<(kidsOf t i).length):∃ m:Nat,(kidsOf t i).getD c 0=(m:Int)∧KidAt t i c m∧i<m∧m<t.length:=by
 have hk:=T.kid_of hi hc
 exact ⟨_,hk.2.2,hk,T.kid_lt hk⟩
theorem tpaths_con (h:pathsS t p Q):Con Tryz.prog 81 [.imm eNode t, .int .i64 p] Q:=by
 obtain ⟨hg,hq⟩:=h
 have T:=tree_ok hg
 have hn:=T.n120
 refine con_imm (e:=eL eP) (l:=ownsL t p) ?_ hq
 refine conN (gn:=fnT Tryz.f81) (by kernel_rfl) conT4_ok (inl:=[]) (LT:=tpaths_live) (NT:=tpaths_nils) rfl fun n0=>?_
 rw [tpaths_E]
 have loop3 := loopN (f:=81) (gn:=fnT Tryz.f81) (n0:=n0) (r:=3) (by kernel_rfl) conT4_ok (inl:=[]) (LT:=tpaths_live) (NT:=tpaths_nils) (K:=resK fun v o=>v = .own 0∧∃ fz,o=[.typed (eL eP) (ownsL t p) fz]) (fun y:Nat × List (List (Int × Int))=>tpaths_s3_0 t p (t.length:Int) (y.1:Int) y.2) (fun y=>t.length - y.1) (fun y=>y.1≤t.length∧RowsOk t (own t p) [] y.1 0 y.2) (fun y hp ih=>by
  obtain ⟨i,rows⟩:=y
  obtain ⟨hi0,hr⟩:=hp
  simp only at hi0 hr
  show execN _ _ _ _ _ _ (tpaths_s3_0 t p (t.length:Int) (i:Int) rows)
  rw [tpaths_s3_0_E]
  by_cases hi:i<t.length
  · have hw:=(T.node i hi).w
    refine bif_pos (by omega) (bif_in hi ?_)
    rw [Int.toNat_natCast]
    have inner:=loopN (f:=81) (gn:=fnT Tryz.f81) (n0:=n0) (r:=6) (by kernel_rfl) conT4_ok (inl:=[]) (LT:=tpaths_live) (NT:=tpaths_nils) (K:=resK fun v o=>v = .own 0∧∃ fz,o=[.typed (eL eP) (ownsL t p) fz]) (fun z:Nat × List (List (Int × Int))=>tpaths_s6_0 t p (i:Int) (t.length:Int) (i:Int) (kidsOf t i) ((kidsOf t i).length:Int) (z.1:Int) z.2 (t.getD i nd0).1 (t.getD i nd0).2.1 (t.getD i nd0).2.2.1 (t.getD i nd0).2.2.2.1 (t.getD i nd0).2.2.2.2.1 (t.getD i nd0).2.2.2.2.2) (fun z=>(kidsOf t i).length - z.1) (fun z=>z.1≤(kidsOf t i).length∧RowsOk t (own t p) [] i z.1 z.2) (fun z hp2 ih2=>by
        obtain ⟨c,rows⟩:=z
        obtain ⟨hc0,hr⟩:=hp2
        simp only at hc0 hr
        have hrl:=hr.1
        show execN _ _ _ _ _ _ (tpaths_s6_0 t p (i:Int) (t.length:Int) (i:Int) (kidsOf t i) ((kidsOf t i).length:Int) (c:Int) rows (t.getD i nd0).1 (t.getD i nd0).2.1 (t.getD i nd0).2.2.1 (t.getD i nd0).2.2.2.1 (t.getD i nd0).2.2.2.2.1 (t.getD i nd0).2.2.2.2.2)
        rw [tpaths_s6_0_E]
        by_cases hc:c<(kidsOf t i).length
        · obtain ⟨m,hm,hkid,him,hml⟩:=T.kid_at hi hc
          have ho:rows.getD i []=own t p i:=hr.2 i hi (T.done hi)
          have hol:=own_len t p i
          have hok:=T.own_kid (p:=p) hkid
          have ih3:=ih2 (c+1,rows.set m (own t p m)) ⟨by show c+1≤_; omega,hr.step T hkid⟩ (by show _ - (c+1)<_ - c; omega)
          refine bif_pos (by omega) (bif_in hc (bif_in (by omega) ?_))
          rw [Int.toNat_natCast,Int.toNat_natCast,hm,Int.toNat_natCast,wrS hc (by omega),ho]
          refine bif_in (by omega) ?_
          by_cases c1:(t.getD i nd0).1=2
          · refine bif_pos c1 ?_
            by_cases c2:(t.getD i nd0).2.1=p
            · rw [if_pos ⟨c1,c2⟩] at hok
              rw [hok] at ih3
              have hR:(rows.set m (own t p i)).getD i []=own t p i:=by
               rw [List.getD_eq_getElem?_getD,List.getElem?_set,if_neg (by omega),← List.getD_eq_getElem?_getD,ho]
              have hRl:(rows.set m (own t p i)).length=t.length:=by rw [List.length_set]; exact hrl
              refine bif_ap c2 (bif_in (by omega) ?_)
              rw [hR,List.set_set,List.set_set]
              have P1:own t p i=[]→GoodL Tryz.prog n0 81 (resK fun v o=>v = .own 0∧∃ fz,o=[.typed (eL eP) (ownsL t p) fz]) (headAt (fnT Tryz.f81) 6) (tpaths_s6_0 t p (i:Int) (t.length:Int) (i:Int) (kidsOf t i) ((kidsOf t i).length:Int) ((c+1:Nat):Int) (rows.set m ([] ++ [((t.getD i nd0).2.2.1,(c:Int))])) (t.getD i nd0).1 (t.getD i nd0).2.1 (t.getD i nd0).2.2.1 (t.getD i nd0).2.2.2.1 (t.getD i nd0).2.2.2.2.1 (t.getD i nd0).2.2.2.2.2):=fun h0=>by
               rw [h0] at ih3; exact ih3
              exact ⟨⟨by omega,fun _=>bif_t (roomN (by simp; omega) (by decide)) (bif_in (by omega) ih3),fun h0=>⟨bif_in (by omega) (P1 h0),bif_in (by omega) (P1 h0)⟩⟩,⟨by omega,fun _=>bif_t (roomN (by simp; omega) (by decide)) (bif_in (by omega) ih3),fun h0=>⟨bif_in (by omega) (P1 h0),bif_in (by omega) (P1 h0)⟩⟩⟩
            · rw [if_neg (fun h=>c2 h.2)] at hok
              rw [hok] at ih3
              exact bif_an c2 ih3
          · rw [if_neg (fun h=>c1 h.1)] at hok
            rw [hok] at ih3
            exact bif_neg c1 ih3
        · have hcc:c=(kidsOf t i).length:=by omega
          subst hcc
          refine bif_neg (by omega) ?_
          rw [wrS hi (by omega)]
          exact ih (i+1,rows) ⟨by show i+1≤_; omega,hr.next⟩ (by show _ - (i+1)<_ - i; omega))
    exact inner (0,rows) ⟨Nat.zero_le _,hr⟩
  · have hii:i=t.length:=by omega
    subst hii
    refine bif_neg (by omega) (res_own rfl ⟨rfl,false,?_⟩)
    rw [hr.all T]; rfl)
 have k1:=makeN (n:=t.length) (b:=24) (by omega) (by decide)
 simp only [Int.toNat_natCast] at k1 ⊢
 refine bif_t k1 ?_
 exact loop3 (0,List.replicate t.length []) ⟨Nat.zero_le _,List.length_replicate,fun k hk hd=>by
  rw [done_zero hd,own_zero,List.getD_eq_getElem?_getD,List.getElem?_replicate,if_pos T.n0]; rfl⟩
theorem conT5_ok : ∀ g xs Q,conT5 g xs Q→Con Tryz.prog g xs Q:=table_ok fun p hp=>by
 simp only [List.mem_cons,List.not_mem_nil,or_false] at hp
 rcases hp with rfl | rfl | rfl | rfl | rfl
 · exact c2_ok fun _ _ _ h=>tplayer_con h
 · exact c2_ok fun _ _ _ h=>xpath_con h
 · exact c2_ok fun _ _ _ h=>tpaths_con h
 · exact c2_ok fun _ _ _ h=>sequal_con h
 · exact c2_ok fun _ _ _ h=>xsame_con h
theorem take_succ' {α:Type} {l:List α} {x:Nat} {d:α} (hx:x<l.length):l.take (x+1)=l.take x ++ [l.getD x d]:=by
 rw [List.take_succ_eq_append_getElem hx,List.getD_eq_getElem?_getD,List.getElem?_eq_getElem hx]; rfl
theorem xown_con (h:ownS t p k Q):Con Tryz.prog 19 [.imm eNode t, .int .i64 p, .int .i64 k] Q:=by
 obtain ⟨⟨hg,k0,k1⟩,hq⟩:=h
 have T:=tree_ok hg
 have hn:=T.n120
 have hpi:=T.path_in (k:=k.toNat) (by omega)
 have hpl:(path t k.toNat).length≤k.toNat:=path_len
 unfold own at hq
 refine con_imm (e:=eP) (l:=(path t k.toNat).filterMap (ownF t p)) ?_ hq
 refine conN (gn:=fnT Tryz.f19) (by kernel_rfl) conT5_ok (inl:=[]) (LT:=xown_live) (NT:=xown_nils) rfl fun n0=>?_
 rw [xown_E]
 refine ⟨⟨hg,k0,k1⟩,?_⟩
 generalize path t k.toNat=l at *
 refine loopN (f:=19) (gn:=fnT Tryz.f19) (n0:=n0) (r:=3) (by kernel_rfl) conT5_ok (inl:=[]) (LT:=xown_live) (NT:=xown_nils) (K:=resK fun v o=>v = .own 0∧∃ fz,o=[.typed eP (l.filterMap (ownF t p)) fz]) (fun x:Nat=>xown_s3_0 t p k l (l.length:Int) (x:Int) ((l.take x).filterMap (ownF t p))) (fun x=>l.length - x) (fun x=>x≤l.length) (fun x hp ih=>?_) 0 (Nat.zero_le _)
 rw [xown_s3_0_E]
 by_cases hx:x<l.length
 · have ih' := ih (x+1) (by omega) (by omega)
   rw [take_succ' (d:=((0:Int),(0:Int))) hx,List.filterMap_append] at ih'
   obtain ⟨i,c,k', e,hkid⟩:=hpi _ (getD_mem (d:=((0:Int),(0:Int))) hx)
   have hi:=hkid.1
   refine bif_pos (by omega) (bif_in hx ?_)
   rw [Int.toNat_natCast,wrS hx (by omega)]
   rw [e] at ih' ⊢
   simp only [List.getD_cons_zero,List.getD_cons_succ,Int.toNat_natCast]
   have eF:[((i:Int),(c:Int))].filterMap (ownF t p)=if (t.getD i nd0).1=2∧(t.getD i nd0).2.1=p then [((t.getD i nd0).2.2.1,(c:Int))] else []:=by
    have e1:ownF t p ((i:Int),(c:Int))=if (t.getD i nd0).1=2∧(t.getD i nd0).2.1=p then some ((t.getD i nd0).2.2.1,(c:Int)) else none:=rfl
    by_cases hc:(t.getD i nd0).1=2∧(t.getD i nd0).2.1=p
    · rw [if_pos hc] at e1 ⊢; simp [e1]
    · rw [if_neg hc] at e1 ⊢; simp [e1]
   rw [eF] at ih'
   have hroom:((l.take x).filterMap (ownF t p)).length≤x:=Nat.le_trans (List.length_filterMap_le _ _) (by rw [List.length_take]; omega)
   refine bif_in hi ?_
   by_cases c1:(t.getD i nd0).1=2
   · refine bif_pos c1 ?_
     by_cases c2:(t.getD i nd0).2.1=p
     · rw [if_pos ⟨c1,c2⟩] at ih'
       exact bif_ap c2 (bif_t (roomN (by simp; omega) (by decide)) ih')
     · rw [if_neg (fun h=>c2 h.2),List.append_nil] at ih'
       exact bif_an c2 ih'
   · rw [if_neg (fun h=>c1 h.1),List.append_nil] at ih'
     exact bif_neg c1 ih'
 · refine bif_neg (by omega) ?_
   rw [List.take_of_length_le (by omega)]
   exact res_own rfl ⟨rfl,false,rfl⟩
theorem conT6_ok : ∀ g xs Q,conT6 g xs Q→Con Tryz.prog g xs Q:=table_ok fun p hp=>by
 simp only [List.mem_cons,List.not_mem_nil,or_false] at hp
 rcases hp with rfl | rfl
 · exact c3_ok fun _ _ _ _ h=>xown_con h
 · exact c2_ok fun _ _ _ h=>xsame_con h
open Classical in
theorem remB_true (h:rem t p):remB t p=true:=decide_eq_true h
open Classical in
theorem remB_false (h:¬ rem t p):remB t p=false:=decide_eq_false h
def remP (t:List Nd) (p:Int) (i j:Nat):Prop:=(t.getD i nd0).1=2→(t.getD j nd0).1=2→(t.getD i nd0).2.1=p→(t.getD j nd0).2.1=p→(t.getD i nd0).2.2.1=(t.getD j nd0).2.2.1→own t p i=own t p j
theorem rem_of (h:∀ i j,i<t.length→j<t.length→remP t p i j):rem t p:=fun i j hi hj a b c=>h i j hi hj a.1 b.1 a.2 b.2 c
theorem rem_lt (h:∀ i j,i<t.length→j<i→remP t p i j):rem t p:=rem_of fun i j hi hj=>by
 rcases Nat.lt_trichotomy i j with hl | hl | hl
 · exact fun a b c d e=>(h j i hj hl b a d c e.symm).symm
 · rw [hl]; exact fun _ _ _ _ _=>rfl
 · exact h i j hi hl
theorem rem_not {i j:Nat} (hi:i<t.length) (hj:j<t.length) (h:¬ remP t p i j):¬ rem t p:=fun hs=>h fun a b c d e=>hs i j hi hj ⟨a,c⟩ ⟨b,d⟩ e
theorem own_sm (hi:k<(t.length:Int)) (hn:t.length≤120):SmL (own t p k.toNat):=by
 have:=own_len t p k.toNat
 unfold SmL; omega
theorem xrem_con (h:remS t p Q):Con Tryz.prog 12 [.imm eNode t, .int .i64 p] Q:=by
 obtain ⟨hg,hq⟩:=h
 have T:=tree_ok hg
 have hn:=T.n120
 have hk:∀ e H,remB t p=e→resK Q (.bool e) H:=fun e H h1=>by rw [h1] at hq; exact res_bool hq
 refine conN (gn:=fnT Tryz.f12) (by kernel_rfl) conT6_ok (inl:=[]) (LT:=xrem_live) (NT:=xrem_nils) rfl fun n0=>?_
 rw [xrem_E]
 exact loopN (f:=12) (gn:=fnT Tryz.f12) (n0:=n0) (r:=2) (by kernel_rfl) conT6_ok (inl:=[]) (LT:=xrem_live) (NT:=xrem_nils) (K:=resK Q) (fun i:Nat=>xrem_s2_0 t p (t.length:Int) (i:Int)) (fun i=>t.length - i) (fun i=>i≤t.length∧∀ i' j,i' < i→j<t.length→remP t p i' j) (fun i hp ih=>by
  obtain ⟨hi0,hw⟩:=hp
  rw [xrem_s2_0_E]
  by_cases hi:i<t.length
  · refine bif_pos (by omega) (bif_in hi ?_)
    rw [Int.toNat_natCast]
    have inner:=loopN (f:=12) (gn:=fnT Tryz.f12) (n0:=n0) (r:=5) (by kernel_rfl) conT6_ok (inl:=[]) (LT:=xrem_live) (NT:=xrem_nils) (K:=resK Q) (fun j:Nat=>xrem_s5_0 t p (i:Int) (t.length:Int) (i:Int) (t.length:Int) (j:Int) (t.getD i nd0).1 (t.getD i nd0).2.1 (t.getD i nd0).2.2.1 (t.getD i nd0).2.2.2.1 (t.getD i nd0).2.2.2.2.1 (t.getD i nd0).2.2.2.2.2) (fun j=>t.length - j) (fun j=>j≤t.length∧∀ j', j' < j→remP t p i j') (fun j hp2 ih2=>by
       obtain ⟨hj0,hw2⟩:=hp2
       rw [xrem_s5_0_E]
       by_cases hj:j<t.length
       · refine bif_pos (by omega) (bif_in (by omega) ?_)
         rw [Int.toNat_natCast,Int.toNat_natCast,wrS hj (by omega)]
         have go:remP t p i j→GoodL Tryz.prog n0 12 (resK Q) (headAt (fnT Tryz.f12) 5) (xrem_s5_0 t p (i:Int) (t.length:Int) (i:Int) (t.length:Int) ((j+1:Nat):Int) (t.getD i nd0).1 (t.getD i nd0).2.1 (t.getD i nd0).2.2.1 (t.getD i nd0).2.2.2.1 (t.getD i nd0).2.2.2.2.1 (t.getD i nd0).2.2.2.2.2):=fun hpw=>ih2 (j+1) ⟨by omega,fun j' hj' => by
          by_cases hjj:j' = j
          · rw [hjj]; exact hpw
          · exact hw2 j' (by omega)⟩ (by omega)
         by_cases c1:(t.getD i nd0).1=2
         · refine bif_pos c1 ?_
           by_cases c2:(t.getD j nd0).1=2
           · refine bif_ap c2 ?_
             by_cases c3:(t.getD i nd0).2.1=p
             · refine bif_ap c3 ?_
               by_cases c4:(t.getD j nd0).2.1=p
               · refine bif_ap c4 ?_
                 by_cases c5:(t.getD i nd0).2.2.1=(t.getD j nd0).2.2.1
                 · refine bif_ap c5 ⟨⟨hg,by omega,by omega⟩,⟨hg,by omega,by omega⟩,own_sm (k:=(i:Int)) (by omega) hn,?_⟩
                   rw [cond_true]
                   by_cases c6:own t p i=own t p j
                   · refine bif_not (bif_t (decide_eq_true c6) (go fun _ _ _ _ _=>c6))
                   · refine bif_not (bif_f (by unfold sameB; rw [decide_eq_false c6]; decide) (hk _ _ (remB_false (rem_not hi hj fun h=>c6 (h c1 c2 c3 c4 c5)))))
                 · exact bif_an c5 (go fun _ _ _ _ e=>absurd e c5)
               · exact bif_an c4 (go fun _ _ _ d _=>absurd d c4)
             · exact bif_an c3 (go fun _ _ c _ _=>absurd c c3)
           · exact bif_an c2 (go fun _ b _ _ _=>absurd b c2)
         · exact bif_neg c1 (go fun a _ _ _ _=>absurd a c1)
       · refine bif_neg (by omega) ?_
         rw [wrS hi (by omega)]
         exact ih (i+1) ⟨by omega,fun i' j' hi' hj' => by
          by_cases hii:i' = i
          · rw [hii]; exact hw2 j' (by omega)
          · exact hw i' j' (by omega) hj'⟩ (by omega))
    exact inner 0 ⟨Nat.zero_le _,fun j' hj' => absurd hj' (Nat.not_lt_zero _)⟩
  · exact bif_neg (by omega) (hk _ _ (remB_true (rem_of fun i' j hi' hj=>hw i' j (by omega) hj)))) 0 ⟨Nat.zero_le _,fun i' j hi' => absurd hi' (Nat.not_lt_zero _)⟩
theorem owns_len (t:List Nd) (p:Int):(ownsL t p).length=t.length:=by unfold ownsL; simp
theorem owns_at {i:Nat} (hi:i<t.length):(ownsL t p).getD i []=own t p i:=by
 unfold ownsL
 rw [List.getD_eq_getElem?_getD,List.getElem?_map,List.getElem?_range hi]; rfl
theorem tfine_con (h:remS t p Q):Con Tryz.prog 47 [.imm eNode t, .int .i64 p] Q:=by
 obtain ⟨hg,hq⟩:=h
 have T:=tree_ok hg
 have hn:=T.n120
 have hol:=owns_len t p
 have hk:∀ e H,remB t p=e→resK Q (.bool e) H:=fun e H h1=>by rw [h1] at hq; exact res_bool hq
 refine conN (gn:=fnT Tryz.f47) (by kernel_rfl) conT5_ok (inl:=[]) (LT:=tfine_live) (NT:=tfine_nils) rfl fun n0=>?_
 rw [tfine_E]
 refine ⟨hg,?_⟩
 exact loopN (f:=47) (gn:=fnT Tryz.f47) (n0:=n0) (r:=3) (by kernel_rfl) conT5_ok (inl:=[]) (LT:=tfine_live) (NT:=tfine_nils) (K:=resK Q) (fun i:Nat=>tfine_s3_0 t p (ownsL t p) (t.length:Int) (i:Int)) (fun i=>t.length - i) (fun i=>i≤t.length∧∀ i' j,i' < i→j<i' → remP t p i' j) (fun i hp ih=>by
  obtain ⟨hi0,hw⟩:=hp
  rw [tfine_s3_0_E]
  by_cases hi:i<t.length
  · refine bif_pos (by omega) (bif_in hi (bif_and (bif_pos (by omega) (bif_pos (by omega) ?_))))
    rw [Int.toNat_natCast]
    have hl:(t.take i).length=i:=by rw [List.length_take]; omega
    have inner:=loopN (f:=47) (gn:=fnT Tryz.f47) (n0:=n0) (r:=6) (by kernel_rfl) conT5_ok (inl:=[]) (LT:=tfine_live) (NT:=tfine_nils) (K:=resK Q) (fun j:Nat=>tfine_s6_0 t p (ownsL t p) (i:Int) (t.length:Int) (i:Int) (t.take i) ((t.take i).length:Int) (j:Int) (t.getD i nd0).1 (t.getD i nd0).2.1 (t.getD i nd0).2.2.1 (t.getD i nd0).2.2.2.1 (t.getD i nd0).2.2.2.2.1 (t.getD i nd0).2.2.2.2.2) (fun j=>i - j) (fun j=>j≤i∧∀ j', j' < j→remP t p i j') (fun j hp2 ih2=>by
       obtain ⟨hj0,hw2⟩:=hp2
       rw [tfine_s6_0_E]
       by_cases hj:j<i
       · refine bif_pos (by omega) (bif_in (by omega) ?_)
         rw [Int.toNat_natCast,Int.toNat_natCast,wrS hj (by omega),take_getD hj]
         have go:remP t p i j→GoodL Tryz.prog n0 47 (resK Q) (headAt (fnT Tryz.f47) 6) (tfine_s6_0 t p (ownsL t p) (i:Int) (t.length:Int) (i:Int) (t.take i) ((t.take i).length:Int) ((j+1:Nat):Int) (t.getD i nd0).1 (t.getD i nd0).2.1 (t.getD i nd0).2.2.1 (t.getD i nd0).2.2.2.1 (t.getD i nd0).2.2.2.2.1 (t.getD i nd0).2.2.2.2.2):=fun hpw=>ih2 (j+1) ⟨by omega,fun j' hj' => by
          by_cases hjj:j' = j
          · rw [hjj]; exact hpw
          · exact hw2 j' (by omega)⟩ (by omega)
         by_cases c1:(t.getD i nd0).1=2
         · refine bif_pos c1 ?_
           by_cases c2:(t.getD j nd0).1=2
           · refine bif_ap c2 ?_
             by_cases c3:(t.getD i nd0).2.1=p
             · refine bif_ap c3 ?_
               by_cases c4:(t.getD j nd0).2.1=p
               · refine bif_ap c4 ?_
                 by_cases c5:(t.getD i nd0).2.2.1=(t.getD j nd0).2.2.1
                 · refine bif_ap c5 (bif_in (by omega) (bif_in (by omega) ?_))
                   rw [owns_at hi,owns_at (by omega)]
                   refine ⟨own_sm (k:=(i:Int)) (by omega) hn,?_⟩
                   rw [cond_true]
                   by_cases c6:own t p i=own t p j
                   · refine bif_not (bif_t (decide_eq_true c6) (go fun _ _ _ _ _=>c6))
                   · refine bif_not (bif_f (by unfold sameB; rw [decide_eq_false c6]; decide) (hk _ _ (remB_false (rem_not hi (by omega) fun h=>c6 (h c1 c2 c3 c4 c5)))))
                 · exact bif_an c5 (go fun _ _ _ _ e=>absurd e c5)
               · exact bif_an c4 (go fun _ _ _ d _=>absurd d c4)
             · exact bif_an c3 (go fun _ _ c _ _=>absurd c c3)
           · exact bif_an c2 (go fun _ b _ _ _=>absurd b c2)
         · exact bif_neg c1 (go fun a _ _ _ _=>absurd a c1)
       · refine bif_neg (by omega) ?_
         rw [wrS hi (by omega)]
         exact ih (i+1) ⟨by omega,fun i' j' hi' hj' => by
          by_cases hii:i' = i
          · rw [hii] at hj' ⊢; exact hw2 j' (by omega)
          · exact hw i' j' (by omega) hj'⟩ (by omega))
    exact inner 0 ⟨Nat.zero_le _,fun j' hj' => absurd hj' (Nat.not_lt_zero _)⟩
  · exact bif_neg (by omega) (hk _ _ (remB_true (rem_lt fun i' j hi' hj=>hw i' j (by omega) hj)))) 0 ⟨Nat.zero_le _,fun i' j hi' => absurd hi' (Nat.not_lt_zero _)⟩
theorem conT7_ok : ∀ g xs Q,conT7 g xs Q→Con Tryz.prog g xs Q:=table_ok fun p hp=>by
 simp only [List.mem_cons,List.not_mem_nil,or_false] at hp
 rcases hp with rfl | rfl | rfl | rfl
 · exact c2_ok fun _ _ _ h=>xrem_con h
 · exact c2_ok fun _ _ _ h=>tfine_con h
 · exact c2_ok fun _ _ _ h=>tplayer_con h
 · exact c2_ok fun _ _ _ h=>lplayer_con h
theorem recE_bad (h:plE t p≠0):recE t p=plE t p:=if_pos h
theorem recE_of (h:plE t p=0):recE t p=if remB t p=true then 0 else 10:=if_neg fun hc=>hc h
theorem trec_con (h:recS t p Q):Con Tryz.prog 49 [.imm eNode t, .int .i64 p] Q:=by
 obtain ⟨ht,hq⟩:=h
 have hk:∀ e H,recE t p=e→resK Q (.int .i64 e) H:=fun e H h1=>by rw [h1] at hq; exact res_int hq
 refine conN (gn:=fnT Tryz.f49) (by kernel_rfl) conT7_ok (inl:=[]) (LT:=trec_live) (NT:=trec_nils) rfl fun n0=>?_
 rw [trec_E]
 refine ⟨ht,?_⟩
 by_cases h1:plE t p=0
 · refine bif_not (bif_pos h1 ⟨(plE_zero h1).1,bif_not ?_⟩)
   by_cases h2:remB t p=true
   · exact bif_t h2 (hk _ _ (by rw [recE_of h1,if_pos h2]))
   · exact bif_f h2 (hk _ _ (by rw [recE_of h1,if_neg h2]))
 · exact bif_not (bif_neg h1 (hk _ _ (recE_bad h1)))
theorem lrec_con (h:recS t p Q):Con Tryz.prog 15 [.imm eNode t, .int .i64 p] Q:=by
 obtain ⟨ht,hq⟩:=h
 have hk:∀ e H,recE t p=e→resK Q (.int .i64 e) H:=fun e H h1=>by rw [h1] at hq; exact res_int hq
 refine conN (gn:=fnT Tryz.f15) (by kernel_rfl) conT7_ok (inl:=[]) (LT:=lrec_live) (NT:=lrec_nils) rfl fun n0=>?_
 rw [lrec_E]
 refine ⟨ht,?_⟩
 by_cases h1:plE t p=0
 · refine bif_not (bif_pos h1 ⟨(plE_zero h1).1,bif_not ?_⟩)
   by_cases h2:remB t p=true
   · exact bif_t h2 (hk _ _ (by rw [recE_of h1,if_pos h2]))
   · exact bif_f h2 (hk _ _ (by rw [recE_of h1,if_neg h2]))
 · exact bif_not (bif_neg h1 (hk _ _ (recE_bad h1)))
theorem recE_zero (h:recE t p=0):plE t p=0∧remB t p=true:=by
 by_cases h1:plE t p=0
 · rw [recE_of h1] at h
   by_cases h2:remB t p=true
   · exact ⟨h1,h2⟩
   · rw [if_neg h2] at h; cases h
 · rw [recE_bad h1] at h; exact absurd h h1
end
end
section
def getImm (e:ETy):AV→Option (List e.D)
 | .imm e' l=>castRow e e' l
 | _=>none
def getAdr : AV→Option (List AV)
 | .adr cs=>some cs
 | _=>none
def getFn (g:Nat):AV→Option (List AV)
 | .fn g' cs=>if g' = g then some cs else none
 | _=>none
def getNodeC (cs:List AV):Option Nd:=match cs with
 | [a,b,c,d,e,f]=>(match getInt .i64 a with
   | some a=>(match getInt .i64 b with
     | some b=>(match getInt .i64 c with
       | some c=>(match getImm eI d with
         | some d=>(match getImm eS e with
           | some e=>(match asS f with | some f=>some (a,b,c,d,e,f) | none=>none)
           | none=>none)
         | none=>none)
       | none=>none)
     | none=>none)
   | none=>none)
 | _=>none
def cellsN (x:Nd):List AV:=[.int .i64 x.1, .int .i64 x.2.1, .int .i64 x.2.2.1, .imm eI x.2.2.2.1, .imm eS x.2.2.2.2.1, .str x.2.2.2.2.2]
def getOneC (cs:List AV):Option Int:=match cs with
 | [a]=>getInt .i64 a
 | _=>none
theorem getInt_eq {k:IntKind} {x:AV} {n:Int} (h:getInt k x=some n):x = .int k n:=by
 unfold getInt at h
 split at h
 · split at h
   · rename_i hk; cases h; rw [of_decide_eq_true hk]
   · cases h
 · cases h
theorem getImm_eq {e:ETy} {x:AV} {l:List e.D} (h:getImm e x=some l):x = .imm e l:=by
 unfold getImm at h
 split at h
 · obtain ⟨he,hr⟩:=castRow_eq h
   subst he; subst hr; rfl
 · cases h
theorem asS_eq {x:AV} {s:ByteArray} (h:asS x=some s):x = .str s:=by
 unfold asS at h
 split at h
 · cases h; rfl
 · cases h
theorem getAdr_eq {x:AV} {cs:List AV} (h:getAdr x=some cs):x = .adr cs:=by
 unfold getAdr at h
 split at h
 · cases h; rfl
 · cases h
theorem getFn_eq {g:Nat} {x:AV} {cs:List AV} (h:getFn g x=some cs):x = .fn g cs:=by
 unfold getFn at h
 split at h
 · split at h
   · rename_i hg; cases h; rw [hg]
   · cases h
 · cases h
theorem getOneC_eq {cs:List AV} {n:Int} (h:getOneC cs=some n):cs=[.int .i64 n]:=by
 unfold getOneC at h
 split at h
 · rw [getInt_eq h]
 · cases h
theorem getNodeC_eq {cs:List AV} {x:Nd} (h:getNodeC cs=some x):cs=cellsN x:=by
 unfold getNodeC at h
 split at h
 · split at h
   · rename_i h1
     split at h
     · rename_i h2
       split at h
       · rename_i h3
         split at h
         · rename_i h4
           split at h
           · rename_i h5
             split at h
             · rename_i h6
               cases h
               rw [getInt_eq h1,getInt_eq h2,getInt_eq h3,getImm_eq h4,getImm_eq h5,asS_eq h6]; rfl
             · cases h
           · cases h
         · cases h
       · cases h
     · cases h
   · cases h
 · cases h
def getNodeCl (g:Nat) (x:AV):Option Nd:=match getFn g x with
 | some cs=>(match cs with
   | [c]=>(match getAdr c with | some cs=>getNodeC cs | none=>none)
   | _=>none)
 | none=>none
def getOneCl (g:Nat) (x:AV):Option Int:=match getFn g x with
 | some cs=>(match cs with
   | [c]=>(match getAdr c with | some cs=>getOneC cs | none=>none)
   | _=>none)
 | none=>none
def getTwoCl (g:Nat) (x:AV):Option (Int × Int):=match getFn g x with
 | some cs=>(match cs with
   | [c,d]=>(match getAdr c with
     | some cs=>(match getOneC cs with
       | some p=>(match getAdr d with
         | some ds=>(match getOneC ds with | some f=>some (p,f) | none=>none)
         | none=>none)
       | none=>none)
     | none=>none)
   | _=>none)
 | none=>none
def vNodeCl (g:Nat):View Nd:=⟨getNodeCl g,fun x => .fn g [.adr (cellsN x)],fun {x a} h {c w v} hx=>by
 unfold getNodeCl at h
 split at h
 · rename_i h1
   split at h
   · split at h
     · rename_i h2
       have h3:=getNodeC_eq h
       rw [getFn_eq h1,getAdr_eq h2,h3] at hx
       exact hx
     · cases h
   · cases h
 · cases h⟩
def vOneCl (g:Nat):View Int:=⟨getOneCl g,fun n => .fn g [.adr [.int .i64 n]],fun {x a} h {c w v} hx=>by
 unfold getOneCl at h
 split at h
 · rename_i h1
   split at h
   · split at h
     · rename_i h2
       have h3:=getOneC_eq h
       rw [getFn_eq h1,getAdr_eq h2,h3] at hx
       exact hx
     · cases h
   · cases h
 · cases h⟩
def vTwoCl (g:Nat):View (Int × Int):=⟨getTwoCl g,fun p => .fn g [.adr [.int .i64 p.1], .adr [.int .i64 p.2]],fun {x a} h {c w v} hx=>by
 unfold getTwoCl at h
 split at h
 · rename_i h1
   split at h
   · split at h
     · rename_i h2
       split at h
       · rename_i h3
         split at h
         · rename_i h4
           split at h
           · rename_i h5
             cases h
             rw [getFn_eq h1,getAdr_eq h2,getOneC_eq h3,getAdr_eq h4,getOneC_eq h5] at hx
             exact hx
           · cases h
         · cases h
       · cases h
     · cases h
   · cases h
 · cases h⟩
def placeI {α:Type} (p:α→Bool) (l:List α):Int:=match l.findIdx? p with | some i=>(i:Int) | none => -1
def ofSet (p f:Int) (x:Nd):Bool:=decide (x.1=2) && decide (x.2.1=p) && decide (x.2.2.1=f)
def idxNode (t:List Nd) (p f:Int):Int:=placeI (ofSet p f) t
def idxSq (l:List Sq) (f:Int):Int:=placeI (fun s=>decide (s.1=f)) l
def idxCh (s:List Ch) (f:Int):Int:=placeI (fun c=>decide (c.1=f)) s
def SmA {α:Type} (l:List α):Prop:=l.length≤1000000000000000
def idxNodeS (t:List Nd) (pf:Int × Int) (Q:Res):Prop:=SmA t∧Q (.int .i64 (idxNode t pf.1 pf.2)) []
def idxSqS (l:List Sq) (x:Nd) (Q:Res):Prop:=SmA l∧Q (.int .i64 (idxSq l x.2.2.1)) []
def idxChS (s:List Ch) (f:Int) (Q:Res):Prop:=SmA s∧Q (.int .i64 (idxCh s f)) []
def oddAt (s:List Ch) (f c:Int):ByteArray:=((s.getD (idxCh s f).toNat ch0).2).getD c.toNat b0
def OddOk (s:List Ch) (f c:Int):Prop:=SmA s∧0≤idxCh s f∧idxCh s f<s.length∧0≤c∧c<(s.getD (idxCh s f).toNat ch0).2.length∧ratErr (oddAt s f c)=0
def oddS (s:List Ch) (f c:Int) (Q:Res):Prop:=OddOk s f c∧∀ z,QV z (ratOf (oddAt s f c))→Q (qa z) []
noncomputable def wN (l:List Sq) (s:List Ch):Nat→List Rat
 | 0=>[]
 | n+1=>wN l s n ++ [if n=0 then 1 else (wN l s n).getD (l.getD n q0).2.2.toNat 0 * ratOf (oddAt s (l.getD n q0).1 (l.getD n q0).2.1)]
noncomputable def wF (l:List Sq) (s:List Ch) (j:Nat):Rat:=(wN l s (j+1)).getD j 0
def WOk (l:List Sq) (s:List Ch):Prop:=0<l.length∧l.length≤1000∧∀ j,1≤j→j<l.length→OddOk s (l.getD j q0).1 (l.getD j q0).2.1∧0≤(l.getD j q0).2.2∧(l.getD j q0).2.2<(j:Int)
def weightsS (l:List Sq) (s:List Ch) (Q:Res):Prop:=WOk l s∧∀ zs:List QT,QF zs l.length (wF l s)→Q (.own 0) [.typed eQ zs false]
noncomputable def planE (t:List Nd) (p:Int) (s:List Ch):Int:=if recE t p≠0 then recE t p else if stratE t p s≠0 then stratE t p s else vecE (seqL t p).length (wF (seqL t p) s)
noncomputable def planV (t:List Nd) (p:Int) (s:List Ch):List ByteArray:=if planE t p s=0 then textsOf (seqL t p).length (wF (seqL t p) s) else []
def planS (t:List Nd) (p:Int) (s:List Ch) (Q:Res):Prop:=(TxT t∧TxC s)∧Q (.tup [.imm eS (planV t p s), .int .i64 (planE t p s)]) []
def sameV (a b:List ByteArray) (Q:Res):Prop:=SmA a∧Q (.bool (decide (a=b))) []
noncomputable def conU1 : FuncId→List AV→Res→Prop:=tableC [(91,c2 vN (vTwoCl 92) idxNodeS)]
noncomputable def conU2 : FuncId→List AV→Res→Prop:=tableC [(83,c2 vSq (vNodeCl 84) idxSqS)]
noncomputable def conU3 : FuncId→List AV→Res→Prop:=tableC [(122,c2 vCh (vOneCl 123) idxChS),(70,c1 vS inS)]
noncomputable def conU4 : FuncId→List AV→Res→Prop:=tableC [(57,c3 vN vI vI widthS),(19,c3 vN vI vI ownS),(48,c2 vP vP sameS)]
noncomputable def conU4w : FuncId→List AV→Res→Prop:=tableC [(87,c3 vCh vI vI oddS),(86,c1 vI intQ),(69,c2 vQ vQ mulQ)]
noncomputable def conU5 : FuncId→List AV→Res→Prop:=tableC [(57,c3 vN vI vI widthS),(56,c2 vN vI infosS),(58,c1 vLS oddsT),(59,c2 vN vI setsS),(60,c1 vLS oddsT)]
noncomputable def conU6 : FuncId→List AV→Res→Prop:=tableC [(49,c2 vN vI recS),(24,c3 vN vI vCh stratS),(50,c2 vN vI listS),(54,c2 vSq vCh weightsS),(55,c1 vLQ outVS),(88,c1 vLQ outVS),(45,c1 vT wghtS)]
noncomputable def conU0 : FuncId→List AV→Res→Prop:=tableC [(88,c1 vLQ outVS)]
noncomputable def conU7 : FuncId→List AV→Res→Prop:=tableC [(85,c2 vLS (vCl 53) long12S)]
noncomputable def conU8 : FuncId→List AV→Res→Prop:=tableC [(85,c2 vLS (vCl 61) long12S)]
def trueT (Q:Res):Prop:=Q (.bool true) []
noncomputable def conU9 : FuncId→List AV→Res→Prop:=tableC [(8,c0 trueT),(9,c1 vN wtS),(20,c1 vCh cwtS),(15,c2 vN vI recS),(16,c2 vN vI xseqS),(27,c2 vLS vLS sameV),(21,c1 vN mildS),(25,c1 (vRow (eL eCh)) tameS),(22,c3 vN vI vCh planS),(23,c3 vN vI vCh stratS),(24,c3 vN vI vCh stratS),(26,c2 vS vS xmul)]
end
section
section
variable {α:Type} {q:α→Bool} {l m:List α} {d:α} {j:Nat}
theorem getD_app : (l ++ m).getD j d=if j<l.length then l.getD j d else m.getD (j - l.length) d:=by
 rw [List.getD_eq_getElem?_getD,List.getD_eq_getElem?_getD,List.getD_eq_getElem?_getD]
 by_cases h:j<l.length
 · rw [if_pos h,List.getElem?_append_left h]
 · rw [if_neg h,List.getElem?_append_right (by omega)]
theorem placeI_cases (q:α→Bool) (l:List α) (d:α):(∃ j:Nat,placeI q l=(j:Int)∧j<l.length∧q (l.getD j d)=true∧∀ i,i<j→q (l.getD i d)=false)∨(placeI q l = -1∧∀ i,i<l.length→q (l.getD i d)=false):=by
 unfold placeI
 have gd:∀ i (h:i<l.length),l.getD i d=l[i]:=fun i h=>by rw [List.getD_eq_getElem?_getD,List.getElem?_eq_getElem h]; rfl
 cases h:l.findIdx? q with
 | none =>
   refine .inr ⟨rfl,fun i hi=>?_⟩
   have:=List.findIdx?_eq_none_iff.1 h (l.getD i d) (getD_mem hi)
   simpa using this
 | some i =>
   obtain ⟨h1,h2,h3⟩:=List.findIdx?_eq_some_iff_getElem.1 h
   refine .inl ⟨i,rfl,h1,by rw [gd i h1]; exact h2,fun k hk=>?_⟩
   rw [gd k (by omega)]
   have:=h3 k hk
   simpa using this
theorem placeI_of (hj:j<l.length) (h:q (l.getD j d)=true) (h' : ∀ i,i<j→q (l.getD i d)=false):placeI q l=(j:Int):=by
 rcases placeI_cases q l d with ⟨k,e,hk,h1,h2⟩ | ⟨e,h1⟩
 · rcases Nat.lt_trichotomy j k with hl | hl | hl
   · rw [h2 j hl] at h; cases h
   · rw [e,hl]
   · rw [h' k hl] at h1; cases h1
 · rw [h1 j hj] at h; cases h
theorem placeI_none (d:α) (h:∀ i,i<l.length→q (l.getD i d)=false):placeI q l = -1:=by
 rcases placeI_cases q l d with ⟨k,e,hk,h1,h2⟩ | ⟨e,h1⟩
 · rw [h k hk] at h1; cases h1
 · exact e
end
theorem TreeOk.own_mine {t:List Nd} (T:TreeOk t) {p:Int} {i c k:Nat} (hm:mine t p i) (h:KidAt t i c k):own t p k=own t p i ++ [(infoOf t i,(c:Int))]:=by
 rw [T.own_kid h]; exact if_pos hm
theorem TreeOk.own_other {t:List Nd} (T:TreeOk t) {p:Int} {i c k:Nat} (hm:¬ mine t p i) (h:KidAt t i c k):own t p k=own t p i:=by
 rw [T.own_kid h]; exact if_neg hm
theorem newS_len (f:Int) (b w:Nat):(newS f b w).length=w:=by unfold newS; simp
theorem newW_len (f:Int) (o:List (Int × Int)) (w:Nat):(newW f o w).length=w:=by unfold newW; simp
theorem newS_at {f:Int} {b w c:Nat} (h:c<w):(newS f b w).getD c q0=(f,((c:Int),(b:Int))):=by
 unfold newS
 rw [List.getD_eq_getElem?_getD,List.getElem?_map,List.getElem?_range h]; rfl
theorem newW_at {f:Int} {o:List (Int × Int)} {w c:Nat} (h:c<w):(newW f o w).getD c []=o ++ [(f,(c:Int))]:=by
 unfold newW
 rw [List.getD_eq_getElem?_getD,List.getElem?_map,List.getElem?_range h]; rfl
theorem known_iff {l:List Sq} {f:Int}:knownB l f=true↔∃ j,j<l.length∧(l.getD j q0).1=f:=by
 unfold knownB
 rw [List.any_eq_true]
 constructor
 · rintro ⟨s,hs,h⟩
   obtain ⟨i,hi,rfl⟩:=List.getElem_of_mem hs
   exact ⟨i,hi,by rw [List.getD_eq_getElem?_getD,List.getElem?_eq_getElem hi]; exact of_decide_eq_true h⟩
 · rintro ⟨j,hj,h⟩
   exact ⟨_,getD_mem hj,decide_eq_true h⟩
structure SeqInv (t:List Nd) (p:Int) (i:Nat) (L:List Sq) (W:List (List (Int × Int))):Prop where
 len:W.length=L.length
 pos:0<L.length
 big:L.length≤1+6 * i
 s0:L.getD 0 q0=(-1, -1, -1)
 w0:W.getD 0 []=[]
 at_:∀ j,1≤j→j<L.length→∃ m c:Nat,m<i∧mine t p m∧c<(kidsOf t m).length∧(L.getD j q0).1=infoOf t m∧(L.getD j q0).2.1=(c:Int)∧W.getD j []=own t p m ++ [(infoOf t m,(c:Int))]∧∃ b:Nat,(L.getD j q0).2.2=(b:Int)∧b<j∧W.getD b []=own t p m
 one:∀ j k,j<L.length→k<L.length→(L.getD j q0).1=(L.getD k q0).1→(L.getD j q0).2.1=(L.getD k q0).2.1→j=k
 blk:∀ m,m<i→mine t p m→∃ j0,(∀ j,j<j0→(L.getD j q0).1≠infoOf t m)∧∀ c,c<(kidsOf t m).length→j0+c<L.length∧(L.getD (j0+c) q0).1=infoOf t m∧(L.getD (j0+c) q0).2.1=(c:Int)
 has:∀ k,k<t.length→Done t i 0 k→∃ j,j<L.length∧W.getD j []=own t p k
theorem SeqInv.inj {t:List Nd} {p:Int} {i:Nat} {L:List Sq} {W:List (List (Int × Int))} (h:SeqInv t p i L W) {j k:Nat} (hj:j<L.length) (hk:k<L.length) (e:W.getD j []=W.getD k []):j=k:=by
 have key:∀ j,1≤j→j<L.length→∃ o,W.getD j []=o ++ [((L.getD j q0).1,(L.getD j q0).2.1)]:=fun j h1 h2=>by
  obtain ⟨m,c,_,_,_,e1,e2,e3,_⟩:=h.at_ j h1 h2
  exact ⟨_,by rw [e1,e2]; exact e3⟩
 by_cases hj0:j=0
 · by_cases hk0:k=0
   · omega
   · obtain ⟨o,ho⟩:=key k (by omega) hk
     rw [hj0,h.w0,ho] at e
     exact absurd e.symm (by simp)
 · obtain ⟨o,ho⟩:=key j (by omega) hj
   by_cases hk0:k=0
   · rw [hk0,h.w0,ho] at e
     exact absurd e (by simp)
   · obtain ⟨o', ho'⟩:=key k (by omega) hk
     rw [ho,ho'] at e
     have e2:=(List.append_inj' e rfl).2
     simp only [List.cons.injEq,Prod.mk.injEq,and_true] at e2
     exact h.one j k hj hk e2.1 e2.2
theorem SeqInv.first {t:List Nd} {p:Int} {i:Nat} {L:List Sq} {W:List (List (Int × Int))} (h:SeqInv t p i L W) {j:Nat} (hj:j<L.length) {o:List (Int × Int)} (e:W.getD j []=o):firstW W o=(j:Int):=by
 refine placeI_of (q:=fun w=>decide (w=o)) (d:=[]) (by rw [h.len]; exact hj) (decide_eq_true e) fun k hk=>decide_eq_false fun hc=>?_
 have:=h.inj hj (show k<L.length by omega) (e.trans hc.symm)
 omega
theorem SeqInv.last {t:List Nd} {p:Int} {i:Nat} {L:List Sq} {W:List (List (Int × Int))} (h:SeqInv t p i L W) {j:Nat} {o:List (Int × Int)} (e:W.getD j []=o):∀ n,j<n→n≤L.length→lastW W o n=j
 | 0,hn,_=>absurd hn (Nat.not_lt_zero _)
 | n+1,hn,hl=>by
   unfold lastW
   by_cases hj:j=n
   · subst hj; rw [if_pos e]
   · rw [if_neg (fun hc=>hj (h.inj (by omega) (by omega) (e.trans hc.symm)))]
     exact h.last e n (by omega) (by omega)
theorem seq_inv {t:List Nd} {p:Int} (T:TreeOk t) (hr:rem t p):∀ i,i≤t.length→SeqInv t p i (seqN t p i).1 (seqN t p i).2
 | 0,_=>by
   refine ⟨rfl,show 0<1 from Nat.zero_lt_one,show 1≤1+6 * 0 from by decide,rfl,rfl,fun j h1 h2=>?_,fun j k h1 h2 _ _=>?_,fun m hm=>absurd hm (Nat.not_lt_zero _),fun k hk hd=>⟨0,show 0<1 from Nat.zero_lt_one,?_⟩⟩
   · have:(seqN t p 0).1.length=1:=rfl
     omega
   · have:(seqN t p 0).1.length=1:=rfl
     omega
   · rw [done_zero hd]; rfl
 | i + 1, hi => by
   have I:=seq_inv T hr i (by omega)
   have hil:i<t.length:=by omega
   have N:=T.node i hil
   -- children of node i
   have kid:∀ k,k<t.length→Done t (i+1) 0 k→Done t i 0 k∨∃ c,KidAt t i c k:=fun k hk hd=>by
     rcases hd with h | ⟨i', c', hk', h⟩
     · exact .inl (.inl h)
     · by_cases he:i' = i
       · subst he; exact .inr ⟨c', hk'⟩
       · exact .inl (.inr ⟨i', c', hk', .inl (by omega)⟩)
   obtain ⟨ji,hji,hjw⟩:=I.has i hil (T.done hil)
   by_cases hm:mine t p i
   · have hinf:=N.who hm.1
     by_cases hk:knownB (seqN t p i).1 (infoOf t i)=false
     · -- a new set
       have e:seqN t p (i+1)=((seqN t p i).1 ++ newS (infoOf t i) (lastW (seqN t p i).2 (own t p i) (seqN t p i).2.length) (kidsOf t i).length,(seqN t p i).2 ++ newW (infoOf t i) (own t p i) (kidsOf t i).length):=by
        rw [seqN,if_pos ⟨hm,hk⟩]
       have hl:lastW (seqN t p i).2 (own t p i) (seqN t p i).2.length=ji:=I.last hjw _ (by rw [I.len]; exact hji) (by rw [I.len]; exact Nat.le_refl _)
       rw [hl] at e
       rw [e]
       clear hl e
       generalize (seqN t p i).1=L at *
       generalize (seqN t p i).2=W at *
       show SeqInv t p (i+1) (L ++ newS (infoOf t i) ji (kidsOf t i).length) (W ++ newW (infoOf t i) (own t p i) (kidsOf t i).length)
       have hnew:∀ j,j<L.length→(L.getD j q0).1≠infoOf t i:=fun j hj hc=>by
        have:=known_iff.2 ⟨j,hj,hc⟩
        rw [hk] at this; cases this
       have hlen:(L ++ newS (infoOf t i) ji (kidsOf t i).length).length=L.length+(kidsOf t i).length:=by rw [List.length_append,newS_len]
       have lo:∀ j,j<L.length→(L ++ newS (infoOf t i) ji (kidsOf t i).length).getD j q0=L.getD j q0:=fun j hj=>by rw [getD_app,if_pos hj]
       have lw:∀ j,j<L.length→(W ++ newW (infoOf t i) (own t p i) (kidsOf t i).length).getD j []=W.getD j []:=fun j hj=>by rw [getD_app,if_pos (by rw [I.len]; exact hj)]
       have ho:∀ c,c<(kidsOf t i).length→(L ++ newS (infoOf t i) ji (kidsOf t i).length).getD (L.length+c) q0=(infoOf t i,((c:Int),(ji:Int))):=fun c hc=>by
        rw [getD_app,if_neg (by omega),Nat.add_sub_cancel_left,newS_at hc]
       have hw:∀ c,c<(kidsOf t i).length→(W ++ newW (infoOf t i) (own t p i) (kidsOf t i).length).getD (L.length+c) []=own t p i ++ [(infoOf t i,(c:Int))]:=fun c hc=>by
        rw [getD_app,if_neg (by rw [I.len]; omega),I.len,Nat.add_sub_cancel_left,newW_at hc]
       refine ⟨by rw [List.length_append,List.length_append,newS_len,newW_len,I.len],by rw [hlen]; have:=I.pos; omega,by rw [hlen]; have:=I.big; have:=N.w; omega,by rw [lo 0 I.pos]; exact I.s0,by rw [lw 0 I.pos]; exact I.w0,fun j h1 h2=>?_,fun j k hj hk e1 e2=>?_,fun m hmi hmm=>?_,fun k hkl hd=>?_⟩
       · by_cases hj:j<L.length
         · rw [lo j hj,lw j hj]
           obtain ⟨m,c,a1,a2,a3,a4,a5,a6,b,b1,b2,b3⟩:=I.at_ j h1 hj
           exact ⟨m,c,by omega,a2,a3,a4,a5,a6,b,b1,b2,by rw [lw b (by omega)]; exact b3⟩
         · obtain ⟨c,rfl⟩:∃ c,j=L.length+c:=⟨j - L.length,by omega⟩
           have hc:c<(kidsOf t i).length:=by omega
           rw [ho c hc,hw c hc]
           exact ⟨i,c,by omega,hm,hc,rfl,rfl,rfl,ji,rfl,by omega,by rw [lw ji hji]; exact hjw⟩
       · by_cases hj1:j<L.length
         · by_cases hk1:k<L.length
           · rw [lo j hj1,lo k hk1] at e1 e2
             exact I.one j k hj1 hk1 e1 e2
           · obtain ⟨c,rfl⟩:∃ c,k=L.length+c:=⟨k - L.length,by omega⟩
             rw [lo j hj1,ho c (by omega)] at e1
             exact absurd e1 (hnew j hj1)
         · obtain ⟨c,rfl⟩:∃ c,j=L.length+c:=⟨j - L.length,by omega⟩
           by_cases hk1:k<L.length
           · rw [lo k hk1,ho c (by omega)] at e1
             exact absurd e1.symm (hnew k hk1)
           · obtain ⟨c', rfl⟩:∃ c,k=L.length+c:=⟨k - L.length,by omega⟩
             rw [ho c (by omega),ho c' (by omega)] at e2
             have e2' : (c:Int)=(c' : Int):=e2
             omega
       · by_cases hmi' : m=i
         · subst hmi'
           refine ⟨L.length,fun j hj=>by rw [lo j hj]; exact hnew j hj,fun c hc=>⟨by omega,by rw [ho c hc],by rw [ho c hc]⟩⟩
         · obtain ⟨j0,g1,g2⟩:=I.blk m (by omega) hmm
           have hml:0<(kidsOf t m).length:=((T.node m (by omega)).who hmm.1).2.2.2.2
           have hj0:=(g2 0 hml).1
           refine ⟨j0,fun j hj=>by rw [lo j (by omega)]; exact g1 j hj,fun c hc=>?_⟩
           obtain ⟨g3,g4,g5⟩:=g2 c hc
           exact ⟨by omega,by rw [lo _ g3]; exact g4,by rw [lo _ g3]; exact g5⟩
       · rcases kid k hkl hd with h | ⟨c,h⟩
         · obtain ⟨j,hj,hjo⟩:=I.has k hkl h
           exact ⟨j,by omega,by rw [lw j hj]; exact hjo⟩
         · refine ⟨L.length+c,by rw [hlen]; have:=h.2.1; omega,?_⟩
           rw [hw c h.2.1,T.own_mine hm h]
     · -- known
       have hk' : knownB (seqN t p i).1 (infoOf t i)=true:=by cases h:knownB (seqN t p i).1 (infoOf t i) with
        | true=>rfl
        | false=>exact absurd h hk
       have e:seqN t p (i+1)=seqN t p i:=by
        rw [seqN,if_neg (fun h=>hk h.2)]
       rw [e]
       generalize (seqN t p i).1=L at *
       generalize (seqN t p i).2=W at *
       obtain ⟨j,hj,hjf⟩:=known_iff.1 hk'
       have hj1:1≤j:=by
        rcases Nat.eq_zero_or_pos j with h | h
        · rw [h,I.s0] at hjf
          have:(-1:Int)=infoOf t i:=hjf
          unfold infoOf at this; omega
        · exact h
       obtain ⟨m,c,a1,a2,a3,a4,_⟩:=I.at_ j hj1 hj
       have hmi:infoOf t m=infoOf t i:=a4.symm.trans hjf
       have hown:own t p m=own t p i:=hr m i (by omega) hil a2 hm hmi
       have hwd:(kidsOf t m).length=(kidsOf t i).length:=T.same m i (by omega) hil a2.1 hm.1 (a2.2.trans hm.2.symm) hmi
       have blki:∃ j0,(∀ j,j<j0→(L.getD j q0).1≠infoOf t i)∧∀ c,c<(kidsOf t i).length→j0+c<L.length∧(L.getD (j0+c) q0).1=infoOf t i∧(L.getD (j0+c) q0).2.1=(c:Int):=by
        obtain ⟨j0,g1,g2⟩:=I.blk m a1 a2
        rw [hmi] at g1 g2
        rw [hwd] at g2
        exact ⟨j0,g1,g2⟩
       refine ⟨I.len,I.pos,by have:=I.big; omega,I.s0,I.w0,fun j h1 h2=>by
        obtain ⟨m,c,a1,a2⟩:=I.at_ j h1 h2
        exact ⟨m,c,by omega,a2⟩,I.one,fun m' hm' hmm=>?_,fun k hkl hd=>?_⟩
       · by_cases he:m' = i
         · subst he; exact blki
         · exact I.blk m' (by omega) hmm
       · rcases kid k hkl hd with h | ⟨c,h⟩
         · exact I.has k hkl h
         · obtain ⟨j0,_,g2⟩:=blki
           obtain ⟨g3,g4,g5⟩:=g2 c h.2.1
           have hge:1≤j0+c:=by
             rcases Nat.eq_zero_or_pos (j0+c) with h0 | h0
             · rw [h0,I.s0] at g4
               have:(-1:Int)=infoOf t i:=g4
               unfold infoOf at this; omega
             · exact h0
           obtain ⟨m2,c2,b1,b2,b3,b4,b5,b6,_⟩:=I.at_ _ hge g3
           have hi2:infoOf t m2=infoOf t i:=b4.symm.trans g4
           have hc2:(c2:Int)=(c:Int):=b5.symm.trans g5
           refine ⟨j0+c,g3,?_⟩
           rw [b6,hr m2 i (by omega) hil b2 hm hi2,hi2,hc2,T.own_mine hm h]
   · have e:seqN t p (i+1)=seqN t p i:=by
       rw [seqN,if_neg (fun h=>hm h.1)]
     rw [e]
     refine ⟨I.len,I.pos,by have:=I.big; omega,I.s0,I.w0,fun j h1 h2=>by
      obtain ⟨m,c,a1,a2⟩:=I.at_ j h1 h2
      exact ⟨m,c,by omega,a2⟩,I.one,fun m' hm' hmm=>?_,fun k hkl hd=>?_⟩
     · by_cases he:m' = i
       · subst he; exact absurd hmm hm
       · exact I.blk m' (by omega) hmm
     · rcases kid k hkl hd with h | ⟨c,h⟩
       · exact I.has k hkl h
       · refine ⟨ji,hji,?_⟩
         rw [hjw,T.own_other hm h]
open Classical in
theorem rem_of_B {t:List Nd} {p:Int} (h:remB t p=true):rem t p:=by
 unfold remB at h
 exact of_decide_eq_true h
theorem seq_all {t:List Nd} {p:Int} (hg:GoodT t) (h:remB t p=true):SeqInv t p t.length (seqL t p) (waysL t p):=seq_inv (tree_ok hg) (rem_of_B h) _ (Nat.le_refl _)
theorem seq_mono (t:List Nd) (p:Int) (i:Nat):∀ n,i≤n→(∃ l,(seqN t p n).1=(seqN t p i).1 ++ l)∧∃ w,(seqN t p n).2=(seqN t p i).2 ++ w
 | 0,h=>by
   have:i=0:=by omega
   subst this
   exact ⟨⟨[],by rw [List.append_nil]⟩,[],by rw [List.append_nil]⟩
 | n+1,h=>by
   by_cases hn:i=n+1
   · subst hn; exact ⟨⟨[],by rw [List.append_nil]⟩,[],by rw [List.append_nil]⟩
   · obtain ⟨⟨l,hl⟩,w,hw⟩:=seq_mono t p i n (by omega)
     rw [seqN]
     split
     · exact ⟨⟨l ++ _,by rw [hl,List.append_assoc]⟩,w ++ _,by rw [hw,List.append_assoc]⟩
     · exact ⟨⟨l,hl⟩,w,hw⟩
noncomputable def atF (t:List Nd) (p:Int) (k:Nat):Int:=firstW (waysL t p) (own t p k)
theorem atF_of {t:List Nd} {p:Int} (hg:GoodT t) (h:remB t p=true) {i:Nat} (hi:i≤t.length) {j k:Nat} (hj:j<(seqN t p i).1.length) (e:(seqN t p i).2.getD j []=own t p k):atF t p k=(j:Int):=by
 have I:=seq_inv (tree_ok hg) (rem_of_B h) i hi
 have J:=seq_all hg h
 obtain ⟨⟨l,hl⟩,w,hw⟩:=seq_mono t p i t.length hi
 have hL:(seqL t p)=(seqN t p i).1 ++ l:=hl
 have hW:(waysL t p)=(seqN t p i).2 ++ w:=hw
 refine J.first ?_ ?_
 · rw [hL,List.length_append]; omega
 · rw [hW,getD_app,if_pos (by rw [I.len]; exact hj)]; exact e
section
variable {t:List Nd} {p f:Int}
def inSet (t:List Nd) (p f:Int) (i:Nat):Prop:=mine t p i∧infoOf t i=f
theorem widthN_none : ∀ {n:Nat},(∀ i,i<n→¬ inSet t p f i)→widthN t p f n=0
 | 0,_=>rfl
 | n+1,h=>by
   unfold widthN
   rw [if_neg (fun hc=>h n (by omega) ⟨⟨hc.2.1,hc.2.2.1⟩,hc.2.2.2⟩)]
   exact widthN_none fun i hi=>h i (by omega)
theorem TreeOk.widthN_some (T:TreeOk t):∀ {n:Nat},n≤t.length→∀ {i:Nat},i<n→inSet t p f i→widthN t p f n=(kidsOf t i).length
 | 0,_,i,hi,_=>absurd hi (Nat.not_lt_zero _)
 | n + 1,hn,i,hi,hs=>by
   have sm:∀ {a b:Nat},a<t.length→b<t.length→inSet t p f a→inSet t p f b→(kidsOf t a).length=(kidsOf t b).length:=fun {a b} ha hb h1 h2=>T.same a b ha hb h1.1.1 h2.1.1 (h1.1.2.trans h2.1.2.symm) (h1.2.trans h2.2.symm)
   unfold widthN
   by_cases hex:∃ j,j<n∧inSet t p f j
   · obtain ⟨j,hj,hjs⟩:=hex
     have e:=T.widthN_some (n:=n) (by omega) hj hjs
     have hp:=((T.node j (by omega)).who hjs.1.1).2.2.2.2
     rw [if_neg (fun hc=>by omega),e]
     exact sm (by omega) (by omega) hjs hs
   · have hin:i=n:=by
       by_cases h:i=n
       · exact h
       · exact absurd ⟨i,by omega,hs⟩ hex
     subst hin
     rw [if_pos ⟨widthN_none fun j hj hc=>hex ⟨j,hj,hc⟩,hs.1.1,hs.1.2,hs.2⟩]
theorem TreeOk.width_of (T:TreeOk t) {i:Nat} (hi:i<t.length) (hs:inSet t p f i):widthOf t p f=(kidsOf t i).length:=T.widthN_some (Nat.le_refl _) hi hs
theorem TreeOk.width_pos (T:TreeOk t):0<widthOf t p f↔∃ i,i<t.length∧inSet t p f i:=by
 constructor
 · intro h
   by_cases hex:∃ j,j<t.length∧inSet t p f j
   · exact hex
   · have:widthOf t p f=0:=widthN_none fun j hj hc=>hex ⟨j,hj,hc⟩
     omega
 · rintro ⟨i,hi,hs⟩
   rw [T.width_of hi hs]
   exact ((T.node i hi).who hs.1.1).2.2.2.2
theorem ofSet_iff {i:Nat}:ofSet p f (t.getD i nd0)=true↔inSet t p f i:=by
 unfold ofSet inSet mine infoOf
 rw [Bool.and_eq_true,Bool.and_eq_true,decide_eq_true_iff,decide_eq_true_iff,decide_eq_true_iff]
theorem TreeOk.idx_width (T:TreeOk t):(idxNode t p f = -1∧widthOf t p f=0)∨∃ i:Nat,idxNode t p f=(i:Int)∧i<t.length∧widthOf t p f=(kidsOf t i).length∧0<widthOf t p f:=by
 rcases placeI_cases (ofSet p f) t nd0 with ⟨i,e,hi,h1,_⟩ | ⟨e,h1⟩
 · have hs:=ofSet_iff.1 h1
   refine .inr ⟨i,e,hi,T.width_of hi hs,T.width_pos.2 ⟨i,hi,hs⟩⟩
 · exact .inl ⟨e,widthN_none fun i hi hc=>by have:=h1 i hi; rw [ofSet_iff.2 hc] at this; cases this⟩
theorem infosN_len : ∀ n,(infosN t p n).length≤n
 | 0=>Nat.le_refl _
 | n+1=>by
   have:=infosN_len n
   unfold infosN
   split
   · rw [List.length_append]; simp; omega
   · omega
theorem mem_infosN {f:Int}:∀ {n:Nat},f∈infosN t p n↔∃ k:Nat,k<n∧f=(k:Int)∧0<widthOf t p (k:Int)
 | 0=>by simp [infosN]
 | n+1=>by
   unfold infosN
   constructor
   · intro h
     split at h
     · rename_i hw
       rcases List.mem_append.1 h with h | h
       · obtain ⟨k,h1,h2⟩:=mem_infosN.1 h; exact ⟨k,by omega,h2⟩
       · exact ⟨n,by omega,List.mem_singleton.1 h,hw⟩
     · obtain ⟨k,h1,h2⟩:=mem_infosN.1 h; exact ⟨k,by omega,h2⟩
   · rintro ⟨k,h1,h2,h3⟩
     by_cases hk:k=n
     · subst hk; rw [if_pos h3,h2]; exact List.mem_append.2 (.inr (List.mem_singleton.2 rfl))
     · have:f∈infosN t p n:=mem_infosN.2 ⟨k,by omega,h2,h3⟩
       split
       · exact List.mem_append.2 (.inl this)
       · exact this
theorem infosN_inc : ∀ n,(infosN t p n).Pairwise (· < ·)
 | 0=>List.Pairwise.nil
 | n+1=>by
   have ih:=infosN_inc n
   unfold infosN
   split
   · refine List.pairwise_append.2 ⟨ih,List.pairwise_singleton _ _,fun a ha b hb=>?_⟩
     obtain ⟨k,h1,h2,_⟩:=mem_infosN.1 ha
     rw [h2,List.mem_singleton.1 hb]; omega
   · exact ih
theorem infos_len : (infosL t p).length≤10:=infosN_len 10
theorem infos_lt {i j:Nat} (h:i<j) (hj:j<(infosL t p).length):(infosL t p).getD i 0<(infosL t p).getD j 0:=by
 have hp:(infosL t p).Pairwise (· < ·):=infosN_inc 10
 generalize infosL t p=l at *
 have:=List.pairwise_iff_getElem.1 hp i j (by omega) hj h
 rw [List.getD_eq_getElem?_getD,List.getD_eq_getElem?_getD,List.getElem?_eq_getElem (show i<l.length by omega),List.getElem?_eq_getElem hj]
 exact this
theorem infos_inj {i j:Nat} (hi:i<(infosL t p).length) (hj:j<(infosL t p).length) (h:(infosL t p).getD i 0=(infosL t p).getD j 0):i=j:=by
 rcases Nat.lt_trichotomy i j with hl | hl | hl
 · have:=infos_lt hl hj; omega
 · exact hl
 · have:=infos_lt hl hi; omega
theorem widths_len : (widthsL t p).length=(infosL t p).length:=by unfold widthsL; simp
theorem widths_at {i:Nat} (hi:i<(infosL t p).length):(widthsL t p).getD i 0=(widthOf t p ((infosL t p).getD i 0):Int):=by
 unfold widthsL
 rw [List.getD_eq_getElem?_getD,List.getD_eq_getElem?_getD,List.getElem?_map,List.getElem?_eq_getElem hi]; rfl
theorem TreeOk.infos_at (T:TreeOk t) {m:Nat} (hm:m<t.length) (h:mine t p m):∃ i,i<(infosL t p).length∧(infosL t p).getD i 0=infoOf t m:=by
 have hw:=((T.node m hm).who h.1)
 have hmem:infoOf t m∈infosL t p:=mem_infosN.2 ⟨(infoOf t m).toNat,by unfold infoOf; omega,by unfold infoOf; omega,T.width_pos.2 ⟨m,hm,h,by unfold infoOf; omega⟩⟩
 obtain ⟨i,hi,e⟩:=List.getElem_of_mem hmem
 exact ⟨i,hi,by rw [List.getD_eq_getElem?_getD,List.getElem?_eq_getElem hi]; exact e⟩
end
section
variable {t:List Nd} {p:Int} {s:List Ch}
theorem chsE_zero : ∀ {n:Nat},chsE t p s n=0↔∀ i,i<n→chE t p s i=0
 | 0=>⟨fun _ i hi=>absurd hi (Nat.not_lt_zero _),fun _=>rfl⟩
 | n+1=>by
   unfold chsE
   constructor
   · intro h
     split at h
     · rename_i h0
       intro i hi
       by_cases hin:i=n
       · rw [hin]; exact h
       · exact chsE_zero.1 h0 i (by omega)
     · rename_i h0; exact absurd h h0
   · intro h
     rw [if_pos (chsE_zero.2 fun i hi=>h i (by omega))]
     exact h n (by omega)
theorem chsE_bad {n:Nat} (h0:chsE t p s n=0) (h1:chE t p s n≠0):∀ m,n<m→chsE t p s m=chE t p s n
 | 0,h=>absurd h (Nat.not_lt_zero _)
 | m+1,h=>by
   unfold chsE
   by_cases hm:m=n
   · rw [hm,if_pos h0]
   · have ih:=chsE_bad h0 h1 m (by omega)
     rw [if_neg (by rw [ih]; exact h1),ih]
theorem strat_len (h:s.length≠(infosL t p).length):stratE t p s=3:=if_pos h
theorem strat_of (h:s.length=(infosL t p).length):stratE t p s=chsE t p s s.length:=if_neg fun hc=>hc h
structure StratOk (t:List Nd) (p:Int) (s:List Ch):Prop where
 len:s.length=(infosL t p).length
 at_:∀ i,i<s.length→(s.getD i ch0).1=(infosL t p).getD i 0∧(s.getD i ch0).2.length=widthOf t p ((infosL t p).getD i 0)∧oddsE (s.getD i ch0).2=0
theorem strat_ok (h:stratE t p s=0):StratOk t p s:=by
 by_cases hl:s.length=(infosL t p).length
 · rw [strat_of hl] at h
   refine ⟨hl,fun i hi=>?_⟩
   have e:=chsE_zero.1 h i hi
   unfold chE at e
   split at e
   · cases e
   · rename_i h1
     exact ⟨Decidable.not_not.1 fun hc=>h1 (.inl hc),Decidable.not_not.1 fun hc=>h1 (.inr hc),e⟩
 · rw [strat_len hl] at h; cases h
theorem odds_zero {l:List ByteArray} (h:oddsE l=0):l.length≤256∧ratErrs l=0:=by
 by_cases h1:256<l.length
 · rw [odds_large h1] at h; cases h
 · by_cases h2:ratErrs l=0
   · exact ⟨by omega,h2⟩
   · rw [odds_errs h1 h2] at h; exact absurd h h2
theorem StratOk.idx (S:StratOk t p s) {i:Nat} (hi:i<s.length) {f:Int} (hf:(infosL t p).getD i 0=f):idxCh s f=(i:Int):=by
 refine placeI_of (q:=fun c:Ch=>decide (c.1=f)) (d:=ch0) hi (decide_eq_true ((S.at_ i hi).1.trans hf)) fun j hj=>decide_eq_false fun hc=>?_
 have hji:j<s.length:=by omega
 have:=infos_inj (t:=t) (p:=p) (by rw [← S.len]; exact hji) (by rw [← S.len]; exact hi) (((S.at_ j hji).1.symm.trans hc).trans hf.symm)
 omega
theorem StratOk.odd (S:StratOk t p s) (T:TreeOk t) {m c:Nat} (hm:m<t.length) (h:mine t p m) (hc:c<(kidsOf t m).length):OddOk s (infoOf t m) (c:Int):=by
 obtain ⟨i,hi,e⟩:=T.infos_at hm h
 rw [← S.len] at hi
 have e2:=S.idx hi e
 obtain ⟨a1,a2,a3⟩:=S.at_ i hi
 rw [e,T.width_of hm ⟨h,rfl⟩] at a2
 have hle:=infos_len (t:=t) (p:=p)
 have hsl:=S.len
 refine ⟨by unfold SmA; omega,by rw [e2]; omega,by rw [e2]; omega,by omega,by rw [e2,Int.toNat_natCast]; omega,?_⟩
 unfold oddAt
 rw [e2,Int.toNat_natCast,Int.toNat_natCast]
 exact errs_all (odds_zero a3).2 _ (getD_mem (by omega))
end
section
variable {l:List Sq} {s:List Ch}
theorem wN_len : ∀ n,(wN l s n).length=n
 | 0=>rfl
 | n+1=>by unfold wN; rw [List.length_append,wN_len n]; rfl
theorem wN_at {j:Nat}:∀ n,j<n→(wN l s n).getD j 0=wF l s j
 | 0,h=>absurd h (Nat.not_lt_zero _)
 | n+1,h=>by
   by_cases hj:j=n
   · subst hj; rfl
   · unfold wN
     rw [getD_app,if_pos (by rw [wN_len]; omega)]
     exact wN_at n (by omega)
theorem wF_zero : wF l s 0=1:=rfl
theorem wF_succ {j:Nat} (h1:1≤j) (h2:(l.getD j q0).2.2<(j:Int)) (h3:0≤(l.getD j q0).2.2):wF l s j=wF l s (l.getD j q0).2.2.toNat * ratOf (oddAt s (l.getD j q0).1 (l.getD j q0).2.1):=by
 show (wN l s (j+1)).getD j 0=_
 unfold wN
 rw [getD_app,if_neg (by rw [wN_len]; omega),wN_len,Nat.sub_self,if_neg (by omega),wN_at j (by omega)]; rfl
theorem sz_w (h:WOk l s) {k:Nat} (hk:∀ j,1≤j→j<l.length→Sz k (ratOf (oddAt s (l.getD j q0).1 (l.getD j q0).2.1))):∀ j,j<l.length→Sz (j * k+20) (wF l s j):=by
 intro j
 induction j using Nat.strongRecOn with
 | ind j ih =>
   intro hj
   by_cases h0:j=0
   · subst h0
     rw [wF_zero]
     exact (sz_int 1 (by decide)).mono (by omega)
   · obtain ⟨_,b1,b2⟩:=h.2.2 j (by omega) hj
     rw [wF_succ (by omega) b2 b1]
     refine (szS_mul (ih _ (by omega) (by omega)) (hk j (by omega) hj)).mono ?_
     have:(l.getD j q0).2.2.toNat+1≤j:=by omega
     have:=Nat.mul_le_mul_right k this
     rw [Nat.add_mul] at this
     omega
theorem odd_sz {f c:Int} (h:OddOk s f c):oddAt s f c=ratText (ratOf (oddAt s f c))∧Sz 2000 (ratOf (oddAt s f c)):=rat_ok h.2.2.2.2.2
theorem WOk.sz (h:WOk l s) {j:Nat} (hj:j<l.length):Sz 3000000 (wF l s j):=by
 have h1:=h.2.1
 have h2:=sz_w h (k:=2000) (fun i h1 h2=>(odd_sz (h.2.2 i h1 h2).1).2) j hj
 exact h2.mono (by omega)
theorem w_ok {t:List Nd} {p:Int} (hg:GoodT t) (h:remB t p=true) (S:StratOk t p s):WOk (seqL t p) s:=by
 have T:=tree_ok hg
 have I:=seq_all hg h
 refine ⟨I.pos,by have:=I.big; have:=T.n120; omega,fun j h1 h2=>?_⟩
 obtain ⟨m,c,a1,a2,a3,a4,a5,a6,b,b1,b2,b3⟩:=I.at_ j h1 h2
 rw [a4,a5,b1]
 exact ⟨S.odd T a1 a2 a3,by omega,by omega⟩
end
end
end Go.Proofs.YtnnkjpcipldnfaaGreatDoor.Lib
end
section
set_option linter.unusedSimpArgs false
set_option linter.unusedVariables false
namespace Go.Proofs.YtnnkjpcipldnfaaGreatDoor.Mach
open Go Go.Proofs.YtnnkjpcipldnfaaGreatDoor Go.Proofs.YtnnkjpcipldnfaaGreatDoor.Lib
section
set_option maxRecDepth 1000000
def inode_live : List (Nat × List Nat):=[(2,[0,1,7,8])]
def inode_nils : List (Nat × ETy):=[]
noncomputable def inode_s2_0 (t:List Nd) (p f x0 x1:Int):St:=stOf 19 [(0,AV.imm eNode t),(1,AV.fn 92 [AV.adr [AV.int .i64 p],AV.adr [AV.int .i64 f]]),(7,AV.int .i64 x0),(8,AV.int .i64 x1)] []
theorem inode_E (t:List Nd) (p f:Int) (n0:Nat) (K:AV→List HObj→Prop) :
 execN tab (mixE tab con0 [92] 400) (maskN inode_live inode_nils (GoodL Tryz.prog n0 91 K)) (finK tab (fnT Tryz.f91).res K) 400 [.code (fnT Tryz.f91).body] ⟨initEnv (fnT Tryz.f91).n [AV.imm eNode t,AV.fn 92 [AV.adr [AV.int .i64 p],AV.adr [AV.int .i64 f]]],[]⟩ =
 (GoodL Tryz.prog n0 91 K (headAt (fnT Tryz.f91) 2) (inode_s2_0 t p f (↑t.length:Int) 0)):=by kernel_rfl
theorem inode_s2_0_E (t:List Nd) (p f x0 x1:Int) (n0:Nat) (K:AV→List HObj→Prop) :
 execN tab (mixE tab con0 [92] 400) (maskN inode_live inode_nils (GoodL Tryz.prog n0 91 K)) (finK tab (fnT Tryz.f91).res K) 400 (roundAt (fnT Tryz.f91) 2) (inode_s2_0 t p f x0 x1) =
 (bif decide (x1<x0) then bif decide (0≤x1) && decide (x1<(↑t.length:Int)) then bif decide ((t.getD x1.toNat (0,0,0,[],[],ByteArray.empty)).1=2) then bif bif true then decide ((t.getD x1.toNat (0,0,0,[],[],ByteArray.empty)).2.1=p) else false then bif bif true then decide ((t.getD x1.toNat (0,0,0,[],[],ByteArray.empty)).2.2.1=f) else false then K (AV.int .i64 x1) [bxN (t.getD x1.toNat (0,0,0,[],[],ByteArray.empty))] else GoodL Tryz.prog n0 91 K (headAt (fnT Tryz.f91) 2) (inode_s2_0 t p f x0 (IntKind.i64.wrap (x1+1))) else GoodL Tryz.prog n0 91 K (headAt (fnT Tryz.f91) 2) (inode_s2_0 t p f x0 (IntKind.i64.wrap (x1+1))) else GoodL Tryz.prog n0 91 K (headAt (fnT Tryz.f91) 2) (inode_s2_0 t p f x0 (IntKind.i64.wrap (x1+1))) else False else K (AV.int .i64 (-1)) []):=by kernel_rfl
def iseq_live : List (Nat × List Nat):=[(2,[0,1,7,8])]
def iseq_nils : List (Nat × ETy):=[]
noncomputable def iseq_s2_0 (l:List (Int × Int × Int)) (k w f:Int) (n:List Int) (o:List ByteArray) (y:ByteArray) (x0 x1:Int):St:=stOf 19 [(0,AV.imm eSq l),(1,AV.fn 84 [AV.adr [AV.int .i64 k,AV.int .i64 w,AV.int .i64 f,AV.imm eI n,AV.imm eS o,AV.str y]]),(7,AV.int .i64 x0),(8,AV.int .i64 x1)] []
theorem iseq_E (l:List (Int × Int × Int)) (k w f:Int) (n:List Int) (o:List ByteArray) (y:ByteArray) (n0:Nat) (K:AV→List HObj→Prop) :
 execN tab (mixE tab con0 [84] 400) (maskN iseq_live iseq_nils (GoodL Tryz.prog n0 83 K)) (finK tab (fnT Tryz.f83).res K) 400 [.code (fnT Tryz.f83).body] ⟨initEnv (fnT Tryz.f83).n [AV.imm eSq l,AV.fn 84 [AV.adr [AV.int .i64 k,AV.int .i64 w,AV.int .i64 f,AV.imm eI n,AV.imm eS o,AV.str y]]],[]⟩ =
 (GoodL Tryz.prog n0 83 K (headAt (fnT Tryz.f83) 2) (iseq_s2_0 l k w f n o y (↑l.length:Int) 0)):=by kernel_rfl
theorem iseq_s2_0_E (l:List (Int × Int × Int)) (k w f:Int) (n:List Int) (o:List ByteArray) (y:ByteArray) (x0 x1:Int) (n0:Nat) (K:AV→List HObj→Prop) :
 execN tab (mixE tab con0 [84] 400) (maskN iseq_live iseq_nils (GoodL Tryz.prog n0 83 K)) (finK tab (fnT Tryz.f83).res K) 400 (roundAt (fnT Tryz.f83) 2) (iseq_s2_0 l k w f n o y x0 x1) =
 (bif decide (x1<x0) then bif decide (0≤x1) && decide (x1<(↑l.length:Int)) then bif decide ((l.getD x1.toNat (0,0,0)).1=f) then K (AV.int .i64 x1) [HObj.box [AV.int .i64 (l.getD x1.toNat (0,0,0)).1,AV.int .i64 (l.getD x1.toNat (0,0,0)).2.1,AV.int .i64 (l.getD x1.toNat (0,0,0)).2.2]] else GoodL Tryz.prog n0 83 K (headAt (fnT Tryz.f83) 2) (iseq_s2_0 l k w f n o y x0 (IntKind.i64.wrap (x1+1))) else False else K (AV.int .i64 (-1)) []):=by kernel_rfl
def icho_live : List (Nat × List Nat):=[(2,[0,1,7,8])]
def icho_nils : List (Nat × ETy):=[]
noncomputable def icho_s2_0 (s:List (Int × List ByteArray)) (f x0 x1:Int):St:=stOf 19 [(0,AV.imm eCh s),(1,AV.fn 123 [AV.adr [AV.int .i64 f]]),(7,AV.int .i64 x0),(8,AV.int .i64 x1)] []
theorem icho_E (s:List (Int × List ByteArray)) (f:Int) (n0:Nat) (K:AV→List HObj→Prop) :
 execN tab (mixE tab con0 [123] 400) (maskN icho_live icho_nils (GoodL Tryz.prog n0 122 K)) (finK tab (fnT Tryz.f122).res K) 400 [.code (fnT Tryz.f122).body] ⟨initEnv (fnT Tryz.f122).n [AV.imm eCh s,AV.fn 123 [AV.adr [AV.int .i64 f]]],[]⟩ =
 (GoodL Tryz.prog n0 122 K (headAt (fnT Tryz.f122) 2) (icho_s2_0 s f (↑s.length:Int) 0)):=by kernel_rfl
theorem icho_s2_0_E (s:List (Int × List ByteArray)) (f x0 x1:Int) (n0:Nat) (K:AV→List HObj→Prop) :
 execN tab (mixE tab con0 [123] 400) (maskN icho_live icho_nils (GoodL Tryz.prog n0 122 K)) (finK tab (fnT Tryz.f122).res K) 400 (roundAt (fnT Tryz.f122) 2) (icho_s2_0 s f x0 x1) =
 (bif decide (x1<x0) then bif decide (0≤x1) && decide (x1<(↑s.length:Int)) then bif decide ((s.getD x1.toNat (0,[])).1=f) then K (AV.int .i64 x1) [HObj.box [AV.int .i64 (s.getD x1.toNat (0,[])).1,AV.imm eS (s.getD x1.toNat (0,[])).2]] else GoodL Tryz.prog n0 122 K (headAt (fnT Tryz.f122) 2) (icho_s2_0 s f x0 (IntKind.i64.wrap (x1+1))) else False else K (AV.int .i64 (-1)) []):=by kernel_rfl
def imild_live : List (Nat × List Nat):=[(2,[0,1,7,8])]
def imild_nils : List (Nat × ETy):=[]
noncomputable def imild_s2_0 (l:List ByteArray) (x0 x1:Int):St:=stOf 19 [(0,AV.imm eS l),(1,AV.fn 53 []),(7,AV.int .i64 x0),(8,AV.int .i64 x1)] []
theorem imild_E (l:List ByteArray) (n0:Nat) (K:AV→List HObj→Prop) :
 execN tab (mixE tab con0 [53] 400) (maskN imild_live imild_nils (GoodL Tryz.prog n0 85 K)) (finK tab (fnT Tryz.f85).res K) 400 [.code (fnT Tryz.f85).body] ⟨initEnv (fnT Tryz.f85).n [AV.imm eS l,AV.fn 53 []],[]⟩ =
 (GoodL Tryz.prog n0 85 K (headAt (fnT Tryz.f85) 2) (imild_s2_0 l (↑l.length:Int) 0)):=by kernel_rfl
theorem imild_s2_0_E (l:List ByteArray) (x0 x1:Int) (n0:Nat) (K:AV→List HObj→Prop) :
 execN tab (mixE tab con0 [53] 400) (maskN imild_live imild_nils (GoodL Tryz.prog n0 85 K)) (finK tab (fnT Tryz.f85).res K) 400 (roundAt (fnT Tryz.f85) 2) (imild_s2_0 l x0 x1) =
 (bif decide (x1<x0) then bif decide (0≤x1) && decide (x1<(↑l.length:Int)) then bif decide ((↑(ByteArray.size (l.getD x1.toNat ByteArray.empty)):Int) > 12) then K (AV.int .i64 x1) [] else GoodL Tryz.prog n0 85 K (headAt (fnT Tryz.f85) 2) (imild_s2_0 l x0 (IntKind.i64.wrap (x1+1))) else False else K (AV.int .i64 (-1)) []):=by kernel_rfl
def itame_live : List (Nat × List Nat):=[(2,[0,1,7,8])]
def itame_nils : List (Nat × ETy):=[]
noncomputable def itame_s2_0 (l:List ByteArray) (x0 x1:Int):St:=stOf 19 [(0,AV.imm eS l),(1,AV.fn 61 []),(7,AV.int .i64 x0),(8,AV.int .i64 x1)] []
theorem itame_E (l:List ByteArray) (n0:Nat) (K:AV→List HObj→Prop) :
 execN tab (mixE tab con0 [61] 400) (maskN itame_live itame_nils (GoodL Tryz.prog n0 85 K)) (finK tab (fnT Tryz.f85).res K) 400 [.code (fnT Tryz.f85).body] ⟨initEnv (fnT Tryz.f85).n [AV.imm eS l,AV.fn 61 []],[]⟩ =
 (GoodL Tryz.prog n0 85 K (headAt (fnT Tryz.f85) 2) (itame_s2_0 l (↑l.length:Int) 0)):=by kernel_rfl
theorem itame_s2_0_E (l:List ByteArray) (x0 x1:Int) (n0:Nat) (K:AV→List HObj→Prop) :
 execN tab (mixE tab con0 [61] 400) (maskN itame_live itame_nils (GoodL Tryz.prog n0 85 K)) (finK tab (fnT Tryz.f85).res K) 400 (roundAt (fnT Tryz.f85) 2) (itame_s2_0 l x0 x1) =
 (bif decide (x1<x0) then bif decide (0≤x1) && decide (x1<(↑l.length:Int)) then bif decide ((↑(ByteArray.size (l.getD x1.toNat ByteArray.empty)):Int) > 12) then K (AV.int .i64 x1) [] else GoodL Tryz.prog n0 85 K (headAt (fnT Tryz.f85) 2) (itame_s2_0 l x0 (IntKind.i64.wrap (x1+1))) else False else K (AV.int .i64 (-1)) []):=by kernel_rfl
def tsets_live : List (Nat × List Nat):=[(3,[0,3,6,7,10])]
def tsets_nils : List (Nat × ETy):=[(6,eI),(7,eI)]
noncomputable def tsets_s3_0 (t:List Nd) (p x0:Int) (x1 x2:List Int):St:=stOf 34 [(0,AV.imm eNode t),(3,AV.ptr 0 0),(6,AV.own 1),(7,AV.own 2),(10,AV.int .i64 x0)] [HObj.box [AV.int .i64 p],HObj.typed eI x1 false,HObj.typed eI x2 false]
theorem tsets_E (t:List Nd) (p:Int) (n0:Nat) (K:AV→List HObj→Prop) :
 execN tab (mixE tab conU1 [] 400) (maskN tsets_live tsets_nils (GoodL Tryz.prog n0 59 K)) (finK tab (fnT Tryz.f59).res K) 400 [.code (fnT Tryz.f59).body] ⟨initEnv (fnT Tryz.f59).n [AV.imm eNode t,AV.int .i64 p],[]⟩ =
 (GoodL Tryz.prog n0 59 K (headAt (fnT Tryz.f59) 3) (tsets_s3_0 t p 0 [] [])):=by kernel_rfl
theorem tsets_s3_0_E (t:List Nd) (p x0:Int) (x1 x2:List Int) (n0:Nat) (K:AV→List HObj→Prop) :
 execN tab (mixE tab conU1 [] 400) (maskN tsets_live tsets_nils (GoodL Tryz.prog n0 59 K)) (finK tab (fnT Tryz.f59).res K) 400 (roundAt (fnT Tryz.f59) 3) (tsets_s3_0 t p x0 x1 x2) =
 (bif decide (x0<10) then SmA t∧bif decide (idxNode t p x0 ≥ 0) then bif decide (0≤idxNode t p x0) && decide (idxNode t p x0<(↑t.length:Int)) then (bif bif (x1.length+[x0].length).ble 9223372036854775807 then ((x1.length+[x0].length) * 8).ble 140737488355328 else false then bif bif (x2.length+[(↑(List.length (t.getD (idxNode t p x0).toNat (0,0,0,[],[],ByteArray.empty)).2.2.2.1):Int)].length).ble 9223372036854775807 then ((x2.length+[(↑(List.length (t.getD (idxNode t p x0).toNat (0,0,0,[],[],ByteArray.empty)).2.2.2.1):Int)].length) * 8).ble 140737488355328 else false then GoodL Tryz.prog n0 59 K (headAt (fnT Tryz.f59) 3) (tsets_s3_0 t p (IntKind.i64.wrap (x0+1)) (x1 ++ [x0]) (x2 ++ [(↑(List.length (t.getD (idxNode t p x0).toNat (0,0,0,[],[],ByteArray.empty)).2.2.2.1):Int)])) else False else False)∧(bif bif (x1.length+[x0].length).ble 9223372036854775807 then ((x1.length+[x0].length) * 8).ble 140737488355328 else false then bif bif (x2.length+[(↑(List.length (t.getD (idxNode t p x0).toNat (0,0,0,[],[],ByteArray.empty)).2.2.2.1):Int)].length).ble 9223372036854775807 then ((x2.length+[(↑(List.length (t.getD (idxNode t p x0).toNat (0,0,0,[],[],ByteArray.empty)).2.2.2.1):Int)].length) * 8).ble 140737488355328 else false then GoodL Tryz.prog n0 59 K (headAt (fnT Tryz.f59) 3) (tsets_s3_0 t p (IntKind.i64.wrap (x0+1)) (x1 ++ [x0]) (x2 ++ [(↑(List.length (t.getD (idxNode t p x0).toNat (0,0,0,[],[],ByteArray.empty)).2.2.2.1):Int)])) else False else False)∧bif bif (x1.length+[x0].length).ble 9223372036854775807 then ((x1.length+[x0].length) * 8).ble 140737488355328 else false then bif bif (x2.length+[(↑(List.length (t.getD (idxNode t p x0).toNat (0,0,0,[],[],ByteArray.empty)).2.2.2.1):Int)].length).ble 9223372036854775807 then ((x2.length+[(↑(List.length (t.getD (idxNode t p x0).toNat (0,0,0,[],[],ByteArray.empty)).2.2.2.1):Int)].length) * 8).ble 140737488355328 else false then GoodL Tryz.prog n0 59 K (headAt (fnT Tryz.f59) 3) (tsets_s3_0 t p (IntKind.i64.wrap (x0+1)) (x1 ++ [x0]) (x2 ++ [(↑(List.length (t.getD (idxNode t p x0).toNat (0,0,0,[],[],ByteArray.empty)).2.2.2.1):Int)])) else False else False else False else GoodL Tryz.prog n0 59 K (headAt (fnT Tryz.f59) 3) (tsets_s3_0 t p (IntKind.i64.wrap (x0+1)) x1 x2) else K (AV.tup [AV.own 1,AV.own 2]) [HObj.box [AV.int .i64 p],HObj.typed eI x1 false,HObj.typed eI x2 false]):=by kernel_rfl
def tlist_live : List (Nat × List Nat):=[(4,[1,6,7,20,21,22]),(13,[1,6,7,8,9,10,11,20,21,22,46,47]),(18,[1,6,7,8,10,11,20,21,22,63,64,65])]
def tlist_nils : List (Nat × ETy):=[(6,eSq),(7,eI),(20,eNode),(63,eI)]
noncomputable def tlist_s4_0 (t:List Nd) (p x0 x1:Int) (x2:List (Int × Int × Int)) (x3:List Int):St:=stOf 88 [(1,AV.int .i64 p),(6,AV.own 0),(7,AV.own 1),(20,AV.imm eNode t),(21,AV.int .i64 x0),(22,AV.int .i64 x1)] [HObj.typed eSq x2 false,HObj.typed eI x3 false]
noncomputable def tlist_s13_0 (t:List Nd) (p x0:Int) (x1:Bool) (x2 x3 x4 x5 x6:Int) (x7:List (Int × Int × Int)) (x8:List Int) (x9 x10 x11:Int) (x12:List Int) (x13:List ByteArray) (x14:ByteArray):St:=stOf 88 [(1,AV.int .i64 p),(6,AV.own 0),(7,AV.own 1),(8,AV.int .i64 x0),(9,AV.ptr 2 0),(10,AV.bool x1),(11,AV.int .i64 x2),(20,AV.imm eNode t),(21,AV.int .i64 x3),(22,AV.int .i64 x4),(46,AV.int .i64 x5),(47,AV.int .i64 x6)] [HObj.typed eSq x7 false,HObj.typed eI x8 false,bx6 x9 x10 x11 x12 x13 x14]
noncomputable def tlist_s18_0 (t:List Nd) (p x0:Int) (x1:Bool) (x2 x3 x4:Int) (x5:List Int) (x6 x7:Int) (x8:List (Int × Int × Int)) (x9:List Int):St:=stOf 88 [(1,AV.int .i64 p),(6,AV.own 0),(7,AV.own 1),(8,AV.int .i64 x0),(10,AV.bool x1),(11,AV.int .i64 x2),(20,AV.imm eNode t),(21,AV.int .i64 x3),(22,AV.int .i64 x4),(63,AV.imm eI x5),(64,AV.int .i64 x6),(65,AV.int .i64 x7)] [HObj.typed eSq x8 false,HObj.typed eI x9 false]
noncomputable def tlist_s18_1 (t:List Nd) (p x0 x1 x2 x3:Int) (x4:List Int) (x5 x6:Int) (x7:List (Int × Int × Int)) (x8:List Int):St:=stOf 88 [(1,AV.int .i64 p),(6,AV.own 0),(7,AV.own 1),(8,AV.int .i64 x0),(10,AV.bool false),(11,AV.int .i64 x1),(20,AV.imm eNode t),(21,AV.int .i64 x2),(22,AV.int .i64 x3),(63,AV.imm eI x4),(64,AV.int .i64 x5),(65,AV.int .i64 x6)] [HObj.typed eSq x7 false,HObj.typed eI x8 false]
theorem tlist_E (t:List Nd) (p:Int) (n0:Nat) (K:AV→List HObj→Prop) :
 execN tab (mixE tab conU2 [] 400) (maskN tlist_live tlist_nils (GoodL Tryz.prog n0 50 K)) (finK tab (fnT Tryz.f50).res K) 400 [.code (fnT Tryz.f50).body] ⟨initEnv (fnT Tryz.f50).n [AV.imm eNode t,AV.int .i64 p],[]⟩ =
 (bif decide (0≤(↑t.length:Int)) && decide ((↑t.length:Int)≤(↑t.length:Int)) && bif (↑t.length:Int).toNat.ble 9223372036854775807 then ((↑t.length:Int).toNat * 8).ble 281474976710656 else false then GoodL Tryz.prog n0 50 K (headAt (fnT Tryz.f50) 4) (tlist_s4_0 t p (↑t.length:Int) 0 [(-1, -1, -1)] (List.replicate (↑t.length:Int).toNat 0)) else False):=by kernel_rfl
theorem tlist_s4_0_E (t:List Nd) (p x0 x1:Int) (x2:List (Int × Int × Int)) (x3:List Int) (n0:Nat) (K:AV→List HObj→Prop) :
 execN tab (mixE tab conU2 [] 400) (maskN tlist_live tlist_nils (GoodL Tryz.prog n0 50 K)) (finK tab (fnT Tryz.f50).res K) 400 (roundAt (fnT Tryz.f50) 4) (tlist_s4_0 t p x0 x1 x2 x3) =
 (bif decide (x1<x0) then bif decide (0≤x1) && decide (x1<(↑t.length:Int)) then bif decide ((t.getD x1.toNat (0,0,0,[],[],ByteArray.empty)).1=2) then bif bif true then decide ((t.getD x1.toNat (0,0,0,[],[],ByteArray.empty)).2.1=p) else false then SmA x2∧bif decide (idxSq x2 (t.getD x1.toNat (0,0,0,[],[],ByteArray.empty)).2.2.1<0) then GoodL Tryz.prog n0 50 K (headAt (fnT Tryz.f50) 13) (tlist_s13_0 t p x1 (bif true then decide ((t.getD x1.toNat (0,0,0,[],[],ByteArray.empty)).2.1=p) else false) (↑x2.length:Int) x0 x1 (↑(List.length (t.getD x1.toNat (0,0,0,[],[],ByteArray.empty)).2.2.2.1):Int) 0 x2 x3 (t.getD x1.toNat (0,0,0,[],[],ByteArray.empty)).1 (t.getD x1.toNat (0,0,0,[],[],ByteArray.empty)).2.1 (t.getD x1.toNat (0,0,0,[],[],ByteArray.empty)).2.2.1 (t.getD x1.toNat (0,0,0,[],[],ByteArray.empty)).2.2.2.1 (t.getD x1.toNat (0,0,0,[],[],ByteArray.empty)).2.2.2.2.1 (t.getD x1.toNat (0,0,0,[],[],ByteArray.empty)).2.2.2.2.2) else GoodL Tryz.prog n0 50 K (headAt (fnT Tryz.f50) 18) (tlist_s18_0 t p x1 (bif true then decide ((t.getD x1.toNat (0,0,0,[],[],ByteArray.empty)).2.1=p) else false) (idxSq x2 (t.getD x1.toNat (0,0,0,[],[],ByteArray.empty)).2.2.1) x0 x1 (t.getD x1.toNat (0,0,0,[],[],ByteArray.empty)).2.2.2.1 (↑(List.length (t.getD x1.toNat (0,0,0,[],[],ByteArray.empty)).2.2.2.1):Int) 0 x2 x3) else GoodL Tryz.prog n0 50 K (headAt (fnT Tryz.f50) 18) (tlist_s18_0 t p x1 (bif true then decide ((t.getD x1.toNat (0,0,0,[],[],ByteArray.empty)).2.1=p) else false) (-1) x0 x1 (t.getD x1.toNat (0,0,0,[],[],ByteArray.empty)).2.2.2.1 (↑(List.length (t.getD x1.toNat (0,0,0,[],[],ByteArray.empty)).2.2.2.1):Int) 0 x2 x3) else GoodL Tryz.prog n0 50 K (headAt (fnT Tryz.f50) 18) (tlist_s18_1 t p x1 (-1) x0 x1 (t.getD x1.toNat (0,0,0,[],[],ByteArray.empty)).2.2.2.1 (↑(List.length (t.getD x1.toNat (0,0,0,[],[],ByteArray.empty)).2.2.2.1):Int) 0 x2 x3) else False else K (AV.tup [AV.own 0,AV.own 1]) [HObj.typed eSq x2 false,HObj.typed eI x3 false]):=by kernel_rfl
theorem tlist_s13_0_E (t:List Nd) (p x0:Int) (x1:Bool) (x2 x3 x4 x5 x6:Int) (x7:List (Int × Int × Int)) (x8:List Int) (x9 x10 x11:Int) (x12:List Int) (x13:List ByteArray) (x14:ByteArray) (n0:Nat) (K:AV→List HObj→Prop) :
 execN tab (mixE tab conU2 [] 400) (maskN tlist_live tlist_nils (GoodL Tryz.prog n0 50 K)) (finK tab (fnT Tryz.f50).res K) 400 (roundAt (fnT Tryz.f50) 13) (tlist_s13_0 t p x0 x1 x2 x3 x4 x5 x6 x7 x8 x9 x10 x11 x12 x13 x14) =
 (bif decide (x6<x5) then bif decide (0≤x0) && decide (x0<(↑x8.length:Int)) then bif bif (x7.length+[(x11,x6,x8.getD x0.toNat 0)].length).ble 9223372036854775807 then ((x7.length+[(x11,x6,x8.getD x0.toNat 0)].length) * 24).ble 140737488355328 else false then GoodL Tryz.prog n0 50 K (headAt (fnT Tryz.f50) 13) (tlist_s13_0 t p x0 x1 x2 x3 x4 x5 (IntKind.i64.wrap (x6+1)) (x7 ++ [(x11,x6,x8.getD x0.toNat 0)]) x8 x9 x10 x11 x12 x13 x14) else False else False else GoodL Tryz.prog n0 50 K (headAt (fnT Tryz.f50) 18) (tlist_s18_0 t p x0 x1 x2 x3 x4 x12 (↑x12.length:Int) 0 x7 x8)):=by kernel_rfl
theorem tlist_s18_0_E (t:List Nd) (p x0:Int) (x1:Bool) (x2 x3 x4:Int) (x5:List Int) (x6 x7:Int) (x8:List (Int × Int × Int)) (x9:List Int) (n0:Nat) (K:AV→List HObj→Prop) :
 execN tab (mixE tab conU2 [] 400) (maskN tlist_live tlist_nils (GoodL Tryz.prog n0 50 K)) (finK tab (fnT Tryz.f50).res K) 400 (roundAt (fnT Tryz.f50) 18) (tlist_s18_0 t p x0 x1 x2 x3 x4 x5 x6 x7 x8 x9) =
 (bif decide (x7<x6) then bif decide (0≤x7) && decide (x7<(↑x5.length:Int)) then bif decide (0≤x0) && decide (x0<(↑x9.length:Int)) then bif decide (0≤x5.getD x7.toNat 0) && decide (x5.getD x7.toNat 0<(↑x9.length:Int)) then bif x1 then bif decide (0≤x5.getD x7.toNat 0) && decide (x5.getD x7.toNat 0<(↑(x9.set (Int.toNat (x5.getD x7.toNat 0)) (x9.getD x0.toNat 0)).length:Int)) then GoodL Tryz.prog n0 50 K (headAt (fnT Tryz.f50) 18) (tlist_s18_0 t p x0 x1 x2 x3 x4 x5 x6 (IntKind.i64.wrap (x7+1)) x8 ((x9.set (Int.toNat (x5.getD x7.toNat 0)) (x9.getD x0.toNat 0)).set (Int.toNat (x5.getD x7.toNat 0)) (IntKind.i64.wrap (x2+x7)))) else False else GoodL Tryz.prog n0 50 K (headAt (fnT Tryz.f50) 18) (tlist_s18_0 t p x0 x1 x2 x3 x4 x5 x6 (IntKind.i64.wrap (x7+1)) x8 (x9.set (Int.toNat (x5.getD x7.toNat 0)) (x9.getD x0.toNat 0))) else False else False else False else GoodL Tryz.prog n0 50 K (headAt (fnT Tryz.f50) 4) (tlist_s4_0 t p x3 (IntKind.i64.wrap (x4+1)) x8 x9)):=by kernel_rfl
def todd_live : List (Nat × List Nat):=[]
def todd_nils : List (Nat × ETy):=[]
theorem todd_E (s:List (Int × List ByteArray)) (f c:Int) (n0:Nat) (K:AV→List HObj→Prop) :
 execN tab (mixE tab conU3 [] 400) (maskN todd_live todd_nils (GoodL Tryz.prog n0 87 K)) (finK tab (fnT Tryz.f87).res K) 400 [.code (fnT Tryz.f87).body] ⟨initEnv (fnT Tryz.f87).n [AV.imm eCh s,AV.int .i64 f,AV.int .i64 c],[]⟩ =
 (SmA s∧bif decide (0≤idxCh s f) && decide (idxCh s f<(↑s.length:Int)) then bif decide (0≤c) && decide (c<(↑(List.length (s.getD (idxCh s f).toNat (0,[])).2):Int)) then ∃ q,List.getD (s.getD (idxCh s f).toNat (0,[])).2 c.toNat ByteArray.empty=Sem.ratText q∧Sz 4000000000 q∧∀ (z:Bool × List Int × List Int),Sem.QV z q→K (AV.agg [AV.bool z.1,AV.imm eW z.2.1,AV.imm eW z.2.2]) [HObj.box [AV.int .i64 f],HObj.box [AV.bool z.1,AV.imm eW z.2.1,AV.imm eW z.2.2]] else False else False):=by kernel_rfl
def xwidth_live : List (Nat × List Nat):=[(2,[1,2,9,10,11])]
def xwidth_nils : List (Nat × ETy):=[(9,eNode)]
noncomputable def xwidth_s2_0 (t:List Nd) (p f x0 x1:Int):St:=stOf 34 [(1,AV.int .i64 p),(2,AV.int .i64 f),(9,AV.imm eNode t),(10,AV.int .i64 x0),(11,AV.int .i64 x1)] []
theorem xwidth_E (t:List Nd) (p f:Int) (n0:Nat) (K:AV→List HObj→Prop) :
 execN tab (mixE tab con0 [] 400) (maskN xwidth_live xwidth_nils (GoodL Tryz.prog n0 57 K)) (finK tab (fnT Tryz.f57).res K) 400 [.code (fnT Tryz.f57).body] ⟨initEnv (fnT Tryz.f57).n [AV.imm eNode t,AV.int .i64 p,AV.int .i64 f],[]⟩ =
 (GoodL Tryz.prog n0 57 K (headAt (fnT Tryz.f57) 2) (xwidth_s2_0 t p f (↑t.length:Int) 0)):=by kernel_rfl
theorem xwidth_s2_0_E (t:List Nd) (p f x0 x1:Int) (n0:Nat) (K:AV→List HObj→Prop) :
 execN tab (mixE tab con0 [] 400) (maskN xwidth_live xwidth_nils (GoodL Tryz.prog n0 57 K)) (finK tab (fnT Tryz.f57).res K) 400 (roundAt (fnT Tryz.f57) 2) (xwidth_s2_0 t p f x0 x1) =
 (bif decide (x1<x0) then bif decide (0≤x1) && decide (x1<(↑t.length:Int)) then bif decide ((t.getD x1.toNat (0,0,0,[],[],ByteArray.empty)).1=2) then bif bif true then decide ((t.getD x1.toNat (0,0,0,[],[],ByteArray.empty)).2.1=p) else false then bif bif true then decide ((t.getD x1.toNat (0,0,0,[],[],ByteArray.empty)).2.2.1=f) else false then K (AV.int .i64 (↑(List.length (t.getD x1.toNat (0,0,0,[],[],ByteArray.empty)).2.2.2.1):Int)) [bxN (t.getD x1.toNat (0,0,0,[],[],ByteArray.empty))] else GoodL Tryz.prog n0 57 K (headAt (fnT Tryz.f57) 2) (xwidth_s2_0 t p f x0 (IntKind.i64.wrap (x1+1))) else GoodL Tryz.prog n0 57 K (headAt (fnT Tryz.f57) 2) (xwidth_s2_0 t p f x0 (IntKind.i64.wrap (x1+1))) else GoodL Tryz.prog n0 57 K (headAt (fnT Tryz.f57) 2) (xwidth_s2_0 t p f x0 (IntKind.i64.wrap (x1+1))) else False else K (AV.int .i64 0) []):=by kernel_rfl
def xinfos_live : List (Nat × List Nat):=[(3,[0,1,5,7])]
def xinfos_nils : List (Nat × ETy):=[(5,eI)]
noncomputable def xinfos_s3_0 (t:List Nd) (p x0:Int) (x1:List Int):St:=stOf 21 [(0,AV.imm eNode t),(1,AV.int .i64 p),(5,AV.own 0),(7,AV.int .i64 x0)] [HObj.typed eI x1 false]
theorem xinfos_E (t:List Nd) (p:Int) (n0:Nat) (K:AV→List HObj→Prop) :
 execN tab (mixE tab conU4 [] 400) (maskN xinfos_live xinfos_nils (GoodL Tryz.prog n0 56 K)) (finK tab (fnT Tryz.f56).res K) 400 [.code (fnT Tryz.f56).body] ⟨initEnv (fnT Tryz.f56).n [AV.imm eNode t,AV.int .i64 p],[]⟩ =
 (GoodL Tryz.prog n0 56 K (headAt (fnT Tryz.f56) 3) (xinfos_s3_0 t p 0 [])):=by kernel_rfl
theorem xinfos_s3_0_E (t:List Nd) (p x0:Int) (x1:List Int) (n0:Nat) (K:AV→List HObj→Prop) :
 execN tab (mixE tab conU4 [] 400) (maskN xinfos_live xinfos_nils (GoodL Tryz.prog n0 56 K)) (finK tab (fnT Tryz.f56).res K) 400 (roundAt (fnT Tryz.f56) 3) (xinfos_s3_0 t p x0 x1) =
 (bif decide (x0<10) then GoodT t∧bif decide ((↑(widthOf t p x0):Int) > 0) then bif bif (x1.length+[x0].length).ble 9223372036854775807 then ((x1.length+[x0].length) * 8).ble 140737488355328 else false then GoodL Tryz.prog n0 56 K (headAt (fnT Tryz.f56) 3) (xinfos_s3_0 t p (IntKind.i64.wrap (x0+1)) (x1 ++ [x0])) else False else GoodL Tryz.prog n0 56 K (headAt (fnT Tryz.f56) 3) (xinfos_s3_0 t p (IntKind.i64.wrap (x0+1)) x1) else K (AV.own 0) [HObj.typed eI x1 false]):=by kernel_rfl
def xseq_live : List (Nat × List Nat):=[(4,[0,1,6,7,21,22,23]),(9,[0,1,6,7,8,9,10,21,22,23,37,38,39]),(17,[0,1,6,7,9,13,14,21,22,23,57,58,59]),(23,[0,1,6,7,9,13,14,21,22,23,71,72])]
def xseq_nils : List (Nat × ETy):=[(6,eSq),(7,ETy.one (CTy.slice eP)),(21,eNode),(37,eSq),(13,eP),(57,ETy.one (CTy.slice eP))]
noncomputable def xseq_s4_0 (t:List Nd) (p x0 x1:Int) (x2:List (Int × Int × Int)) (x3:List (List (Int × Int))):St:=stOf 99 [(0,AV.imm eNode t),(1,AV.int .i64 p),(6,AV.own 0),(7,AV.own 1),(21,AV.imm eNode t),(22,AV.int .i64 x0),(23,AV.int .i64 x1)] [HObj.typed eSq x2 false,HObj.typed (ETy.one (CTy.slice eP)) x3 false]
noncomputable def xseq_s9_0 (t:List Nd) (p x0 x1 x2 x3 x4:Int) (x5:List (Int × Int × Int)) (x6:List (List (Int × Int))) (x7 x8 x9:Int) (x10:List Int) (x11:List ByteArray) (x12:ByteArray):St:=stOf 99 [(0,AV.imm eNode t),(1,AV.int .i64 p),(6,AV.own 0),(7,AV.own 1),(8,AV.int .i64 x0),(9,AV.ptr 2 0),(10,AV.bool false),(21,AV.imm eNode t),(22,AV.int .i64 x1),(23,AV.int .i64 x2),(37,AV.own 0),(38,AV.int .i64 x3),(39,AV.int .i64 x4)] [HObj.typed eSq x5 false,HObj.typed (ETy.one (CTy.slice eP)) x6 false,bx6 x7 x8 x9 x10 x11 x12]
noncomputable def xseq_s9_1 (t:List Nd) (p x0:Int) (x1:Bool) (x2 x3 x4 x5:Int) (x6:List (Int × Int × Int)) (x7:List (List (Int × Int))) (x8 x9 x10:Int) (x11:List Int) (x12:List ByteArray) (x13:ByteArray):St:=stOf 99 [(0,AV.imm eNode t),(1,AV.int .i64 p),(6,AV.own 0),(7,AV.own 1),(8,AV.int .i64 x0),(9,AV.ptr 2 0),(10,AV.bool x1),(21,AV.imm eNode t),(22,AV.int .i64 x2),(23,AV.int .i64 x3),(37,AV.own 0),(38,AV.int .i64 x4),(39,AV.int .i64 x5)] [HObj.typed eSq x6 false,HObj.typed (ETy.one (CTy.slice eP)) x7 false,bx6 x8 x9 x10 x11 x12 x13]
noncomputable def xseq_s17_0 (t:List Nd) (p:Int) (x0:List (Int × Int)) (x1 x2 x3 x4 x5:Int) (x6:List (Int × Int × Int)) (x7:List (List (Int × Int))) (x8 x9 x10:Int) (x11:List Int) (x12:List ByteArray) (x13:ByteArray):St:=stOf 99 [(0,AV.imm eNode t),(1,AV.int .i64 p),(6,AV.own 0),(7,AV.own 1),(9,AV.ptr 2 0),(13,AV.imm eP x0),(14,AV.int .i64 x1),(21,AV.imm eNode t),(22,AV.int .i64 x2),(23,AV.int .i64 x3),(57,AV.own 1),(58,AV.int .i64 x4),(59,AV.int .i64 x5)] [HObj.typed eSq x6 false,HObj.typed (ETy.one (CTy.slice eP)) x7 false,bx6 x8 x9 x10 x11 x12 x13]
noncomputable def xseq_s9_2 (t:List Nd) (p x0 x1 x2 x3 x4:Int) (x5:List (Int × Int × Int)) (x6:List (List (Int × Int))) (x7 x8 x9:Int) (x10:List Int) (x11:List ByteArray) (x12:ByteArray):St:=stOf 99 [(0,AV.imm eNode t),(1,AV.int .i64 p),(6,AV.own 0),(7,AV.own 1),(8,AV.int .i64 x0),(9,AV.ptr 2 0),(10,AV.bool true),(21,AV.imm eNode t),(22,AV.int .i64 x1),(23,AV.int .i64 x2),(37,AV.own 0),(38,AV.int .i64 x3),(39,AV.int .i64 x4)] [HObj.typed eSq x5 false,HObj.typed (ETy.one (CTy.slice eP)) x6 false,bx6 x7 x8 x9 x10 x11 x12]
noncomputable def xseq_s23_0 (t:List Nd) (p:Int) (x0:List (Int × Int)) (x1 x2 x3 x4 x5:Int) (x6:List (Int × Int × Int)) (x7:List (List (Int × Int))) (x8 x9 x10:Int) (x11:List Int) (x12:List ByteArray) (x13:ByteArray):St:=stOf 99 [(0,AV.imm eNode t),(1,AV.int .i64 p),(6,AV.own 0),(7,AV.own 1),(9,AV.ptr 2 0),(13,AV.imm eP x0),(14,AV.int .i64 x1),(21,AV.imm eNode t),(22,AV.int .i64 x2),(23,AV.int .i64 x3),(71,AV.int .i64 x4),(72,AV.int .i64 x5)] [HObj.typed eSq x6 false,HObj.typed (ETy.one (CTy.slice eP)) x7 false,bx6 x8 x9 x10 x11 x12 x13]
theorem xseq_E (t:List Nd) (p:Int) (n0:Nat) (K:AV→List HObj→Prop) :
 execN tab (mixE tab conU4 [] 400) (maskN xseq_live xseq_nils (GoodL Tryz.prog n0 16 K)) (finK tab (fnT Tryz.f16).res K) 400 [.code (fnT Tryz.f16).body] ⟨initEnv (fnT Tryz.f16).n [AV.imm eNode t,AV.int .i64 p],[]⟩ =
 (GoodL Tryz.prog n0 16 K (headAt (fnT Tryz.f16) 4) (xseq_s4_0 t p (↑t.length:Int) 0 [(-1, -1, -1)] [[]])):=by kernel_rfl
theorem xseq_s4_0_E (t:List Nd) (p x0 x1:Int) (x2:List (Int × Int × Int)) (x3:List (List (Int × Int))) (n0:Nat) (K:AV→List HObj→Prop) :
 execN tab (mixE tab conU4 [] 400) (maskN xseq_live xseq_nils (GoodL Tryz.prog n0 16 K)) (finK tab (fnT Tryz.f16).res K) 400 (roundAt (fnT Tryz.f16) 4) (xseq_s4_0 t p x0 x1 x2 x3) =
 (bif decide (x1<x0) then bif decide (0≤x1) && decide (x1<(↑t.length:Int)) then bif !decide ((t.getD x1.toNat (0,0,0,[],[],ByteArray.empty)).1=2) then GoodL Tryz.prog n0 16 K (headAt (fnT Tryz.f16) 4) (xseq_s4_0 t p x0 (IntKind.i64.wrap (x1+1)) x2 x3) else bif bif false then true else !decide ((t.getD x1.toNat (0,0,0,[],[],ByteArray.empty)).2.1=p) then GoodL Tryz.prog n0 16 K (headAt (fnT Tryz.f16) 4) (xseq_s4_0 t p x0 (IntKind.i64.wrap (x1+1)) x2 x3) else GoodL Tryz.prog n0 16 K (headAt (fnT Tryz.f16) 9) (xseq_s9_0 t p x1 x0 x1 (↑x2.length:Int) 0 x2 x3 (t.getD x1.toNat (0,0,0,[],[],ByteArray.empty)).1 (t.getD x1.toNat (0,0,0,[],[],ByteArray.empty)).2.1 (t.getD x1.toNat (0,0,0,[],[],ByteArray.empty)).2.2.1 (t.getD x1.toNat (0,0,0,[],[],ByteArray.empty)).2.2.2.1 (t.getD x1.toNat (0,0,0,[],[],ByteArray.empty)).2.2.2.2.1 (t.getD x1.toNat (0,0,0,[],[],ByteArray.empty)).2.2.2.2.2) else False else K (AV.tup [AV.own 0,AV.own 1]) [HObj.typed eSq x2 false,HObj.typed (ETy.one (CTy.slice eP)) x3 false]):=by kernel_rfl
theorem xseq_s9_1_E (t:List Nd) (p x0:Int) (x1:Bool) (x2 x3 x4 x5:Int) (x6:List (Int × Int × Int)) (x7:List (List (Int × Int))) (x8 x9 x10:Int) (x11:List Int) (x12:List ByteArray) (x13:ByteArray) (n0:Nat) (K:AV→List HObj→Prop) :
 execN tab (mixE tab conU4 [] 400) (maskN xseq_live xseq_nils (GoodL Tryz.prog n0 16 K)) (finK tab (fnT Tryz.f16).res K) 400 (roundAt (fnT Tryz.f16) 9) (xseq_s9_1 t p x0 x1 x2 x3 x4 x5 x6 x7 x8 x9 x10 x11 x12 x13) =
 (bif decide (x5<x4) then bif decide (0≤x5) && decide (x5<(↑x6.length:Int)) then bif x1 then GoodL Tryz.prog n0 16 K (headAt (fnT Tryz.f16) 9) (xseq_s9_2 t p x0 x2 x3 x4 (IntKind.i64.wrap (x5+1)) x6 x7 x8 x9 x10 x11 x12 x13) else GoodL Tryz.prog n0 16 K (headAt (fnT Tryz.f16) 9) (xseq_s9_1 t p x0 (bif false then true else decide ((x6.getD x5.toNat (0,0,0)).1=x10)) x2 x3 x4 (IntKind.i64.wrap (x5+1)) x6 x7 x8 x9 x10 x11 x12 x13) else False else bif x1 then GoodL Tryz.prog n0 16 K (headAt (fnT Tryz.f16) 4) (xseq_s4_0 t p x2 (IntKind.i64.wrap (x3+1)) x6 x7) else (GoodT t∧InT x0 t)∧GoodL Tryz.prog n0 16 K (headAt (fnT Tryz.f16) 17) (xseq_s17_0 t p (own t p x0.toNat) 0 x2 x3 (↑x7.length:Int) 0 x6 x7 x8 x9 x10 x11 x12 x13)):=by kernel_rfl
theorem xseq_s17_0_E (t:List Nd) (p:Int) (x0:List (Int × Int)) (x1 x2 x3 x4 x5:Int) (x6:List (Int × Int × Int)) (x7:List (List (Int × Int))) (x8 x9 x10:Int) (x11:List Int) (x12:List ByteArray) (x13:ByteArray) (n0:Nat) (K:AV→List HObj→Prop) :
 execN tab (mixE tab conU4 [] 400) (maskN xseq_live xseq_nils (GoodL Tryz.prog n0 16 K)) (finK tab (fnT Tryz.f16).res K) 400 (roundAt (fnT Tryz.f16) 17) (xseq_s17_0 t p x0 x1 x2 x3 x4 x5 x6 x7 x8 x9 x10 x11 x12 x13) =
 (bif decide (x5<x4) then bif decide (0≤x5) && decide (x5<(↑x7.length:Int)) then SmL (x7.getD x5.toNat [])∧bif sameB (x7.getD x5.toNat []) x0 then GoodL Tryz.prog n0 16 K (headAt (fnT Tryz.f16) 17) (xseq_s17_0 t p x0 x5 x2 x3 x4 (IntKind.i64.wrap (x5+1)) x6 x7 x8 x9 x10 x11 x12 x13) else GoodL Tryz.prog n0 16 K (headAt (fnT Tryz.f16) 17) (xseq_s17_0 t p x0 x1 x2 x3 x4 (IntKind.i64.wrap (x5+1)) x6 x7 x8 x9 x10 x11 x12 x13) else False else GoodL Tryz.prog n0 16 K (headAt (fnT Tryz.f16) 23) (xseq_s23_0 t p x0 x1 x2 x3 (↑x11.length:Int) 0 x6 x7 x8 x9 x10 x11 x12 x13)):=by kernel_rfl
theorem xseq_s23_0_E (t:List Nd) (p:Int) (x0:List (Int × Int)) (x1 x2 x3 x4 x5:Int) (x6:List (Int × Int × Int)) (x7:List (List (Int × Int))) (x8 x9 x10:Int) (x11:List Int) (x12:List ByteArray) (x13:ByteArray) (n0:Nat) (K:AV→List HObj→Prop) :
 execN tab (mixE tab conU4 [] 400) (maskN xseq_live xseq_nils (GoodL Tryz.prog n0 16 K)) (finK tab (fnT Tryz.f16).res K) 400 (roundAt (fnT Tryz.f16) 23) (xseq_s23_0 t p x0 x1 x2 x3 x4 x5 x6 x7 x8 x9 x10 x11 x12 x13) =
 (bif decide (x5<x4) then bif bif (x6.length+[(x10,x5,x1)].length).ble 9223372036854775807 then ((x6.length+[(x10,x5,x1)].length) * 24).ble 140737488355328 else false then (bif bif (0+x0.length).ble 9223372036854775807 then ((0+x0.length) * 16).ble 140737488355328 else false then bif bif (([] ++ x0).length+[(x10,x5)].length).ble 9223372036854775807 then ((([] ++ x0).length+[(x10,x5)].length) * 16).ble 140737488355328 else false then bif bif (x7.length+[[] ++ x0 ++ [(x10,x5)]].length).ble 9223372036854775807 then ((x7.length+[[] ++ x0 ++ [(x10,x5)]].length) * 24).ble 140737488355328 else false then GoodL Tryz.prog n0 16 K (headAt (fnT Tryz.f16) 23) (xseq_s23_0 t p x0 x1 x2 x3 x4 (IntKind.i64.wrap (x5+1)) (x6 ++ [(x10,x5,x1)]) (x7 ++ [[] ++ x0 ++ [(x10,x5)]]) x8 x9 x10 x11 x12 x13) else False else False else False)∧(bif bif (0+x0.length).ble 9223372036854775807 then ((0+x0.length) * 16).ble 140737488355328 else false then bif bif (([] ++ x0).length+[(x10,x5)].length).ble 9223372036854775807 then ((([] ++ x0).length+[(x10,x5)].length) * 16).ble 140737488355328 else false then bif bif (x7.length+[[] ++ x0 ++ [(x10,x5)]].length).ble 9223372036854775807 then ((x7.length+[[] ++ x0 ++ [(x10,x5)]].length) * 24).ble 140737488355328 else false then GoodL Tryz.prog n0 16 K (headAt (fnT Tryz.f16) 23) (xseq_s23_0 t p x0 x1 x2 x3 x4 (IntKind.i64.wrap (x5+1)) (x6 ++ [(x10,x5,x1)]) (x7 ++ [[] ++ x0 ++ [(x10,x5)]]) x8 x9 x10 x11 x12 x13) else False else False else False)∧bif bif (0+x0.length).ble 9223372036854775807 then ((0+x0.length) * 16).ble 140737488355328 else false then bif bif (([] ++ x0).length+[(x10,x5)].length).ble 9223372036854775807 then ((([] ++ x0).length+[(x10,x5)].length) * 16).ble 140737488355328 else false then bif bif (x7.length+[[] ++ x0 ++ [(x10,x5)]].length).ble 9223372036854775807 then ((x7.length+[[] ++ x0 ++ [(x10,x5)]].length) * 24).ble 140737488355328 else false then GoodL Tryz.prog n0 16 K (headAt (fnT Tryz.f16) 23) (xseq_s23_0 t p x0 x1 x2 x3 x4 (IntKind.i64.wrap (x5+1)) (x6 ++ [(x10,x5,x1)]) (x7 ++ [[] ++ x0 ++ [(x10,x5)]]) x8 x9 x10 x11 x12 x13) else False else False else False else False else GoodL Tryz.prog n0 16 K (headAt (fnT Tryz.f16) 4) (xseq_s4_0 t p x2 (IntKind.i64.wrap (x3+1)) x6 x7)):=by kernel_rfl
def tweights_live : List (Nat × List Nat):=[(3,[1,5,11,12,13])]
def tweights_nils : List (Nat × ETy):=[(5,eQ),(11,eSq)]
noncomputable def tweights_s3_0 (l:List (Int × Int × Int)) (s:List (Int × List ByteArray)) (x0:List (Int × Int × Int)) (x1 x2:Int) (x3:List (Bool × List Int × List Int)):St:=stOf 34 [(1,AV.imm eCh s),(5,AV.own 0),(11,AV.imm eSq x0),(12,AV.int .i64 x1),(13,AV.int .i64 x2)] [HObj.typed eQ x3 false]
theorem tweights_E (l:List (Int × Int × Int)) (s:List (Int × List ByteArray)) (n0:Nat) (K:AV→List HObj→Prop) :
 execN tab (mixE tab conU4w [] 400) (maskN tweights_live tweights_nils (GoodL Tryz.prog n0 54 K)) (finK tab (fnT Tryz.f54).res K) 400 [.code (fnT Tryz.f54).body] ⟨initEnv (fnT Tryz.f54).n [AV.imm eSq l,AV.imm eCh s],[]⟩ =
 (I64m 1∧∀ (r:Bool × List Int × List Int),Sem.QV r (↑1:Rat)→bif decide (1≤(↑l.length:Int)) && decide ((↑l.length:Int)≤(↑l.length:Int)) then GoodL Tryz.prog n0 54 K (headAt (fnT Tryz.f54) 3) (tweights_s3_0 l s (List.drop 1 (List.take (↑l.length:Int).toNat l)) (↑(List.drop 1 (List.take (↑l.length:Int).toNat l)).length:Int) 0 [(r.1,r.2.1,r.2.2)]) else False):=by kernel_rfl
theorem tweights_s3_0_E (l:List (Int × Int × Int)) (s:List (Int × List ByteArray)) (x0:List (Int × Int × Int)) (x1 x2:Int) (x3:List (Bool × List Int × List Int)) (n0:Nat) (K:AV→List HObj→Prop) :
 execN tab (mixE tab conU4w [] 400) (maskN tweights_live tweights_nils (GoodL Tryz.prog n0 54 K)) (finK tab (fnT Tryz.f54).res K) 400 (roundAt (fnT Tryz.f54) 3) (tweights_s3_0 l s x0 x1 x2 x3) =
 (bif decide (x2<x1) then bif decide (0≤x2) && decide (x2<(↑x0.length:Int)) then bif decide (0≤(x0.getD x2.toNat (0,0,0)).2.2) && decide ((x0.getD x2.toNat (0,0,0)).2.2<(↑x3.length:Int)) then OddOk s (x0.getD x2.toNat (0,0,0)).1 (x0.getD x2.toNat (0,0,0)).2.1∧∀ (z:Bool × List Int × List Int),Sem.QV z (ratOf (oddAt s (x0.getD x2.toNat (0,0,0)).1 (x0.getD x2.toNat (0,0,0)).2.1))→∃ x y,Sem.QV ((x3.getD (Int.toNat (x0.getD x2.toNat (0,0,0)).2.2) (false,[],[])).1,(x3.getD (Int.toNat (x0.getD x2.toNat (0,0,0)).2.2) (false,[],[])).2.1,(x3.getD (Int.toNat (x0.getD x2.toNat (0,0,0)).2.2) (false,[],[])).2.2) x∧Sem.QV (z.1,z.2.1,z.2.2) y∧Sz 4000000000 x∧Sz 4000000000 y∧∀ (r:Bool × List Int × List Int),Sem.QV r (x * y)→bif bif (x3.length+[(r.1,r.2.1,r.2.2)].length).ble 9223372036854775807 then ((x3.length+[(r.1,r.2.1,r.2.2)].length) * 56).ble 140737488355328 else false then GoodL Tryz.prog n0 54 K (headAt (fnT Tryz.f54) 3) (tweights_s3_0 l s x0 x1 (IntKind.i64.wrap (x2+1)) (x3 ++ [(r.1,r.2.1,r.2.2)])) else False else False else False else K (AV.own 0) [HObj.typed eQ x3 false]):=by kernel_rfl
def xstrat_live : List (Nat × List Nat):=[(5,[0,1,7,19,20,21])]
def xstrat_nils : List (Nat × ETy):=[(7,eI),(19,eCh)]
noncomputable def xstrat_s5_0 (t:List Nd) (p:Int) (s:List (Int × List ByteArray)) (x0:List Int) (x1 x2:Int):St:=stOf 53 [(0,AV.imm eNode t),(1,AV.int .i64 p),(7,AV.imm eI x0),(19,AV.imm eCh s),(20,AV.int .i64 x1),(21,AV.int .i64 x2)] []
theorem xstrat_E (t:List Nd) (p:Int) (s:List (Int × List ByteArray)) (n0:Nat) (K:AV→List HObj→Prop) :
 execN tab (mixE tab conU5 [] 400) (maskN xstrat_live xstrat_nils (GoodL Tryz.prog n0 23 K)) (finK tab (fnT Tryz.f23).res K) 400 [.code (fnT Tryz.f23).body] ⟨initEnv (fnT Tryz.f23).n [AV.imm eNode t,AV.int .i64 p,AV.imm eCh s],[]⟩ =
 (GoodT t∧bif !decide ((↑(infosL t p).length:Int)=(↑s.length:Int)) then K (AV.int .i64 3) [] else GoodL Tryz.prog n0 23 K (headAt (fnT Tryz.f23) 5) (xstrat_s5_0 t p s (infosL t p) (↑s.length:Int) 0)):=by kernel_rfl
theorem xstrat_s5_0_E (t:List Nd) (p:Int) (s:List (Int × List ByteArray)) (x0:List Int) (x1 x2:Int) (n0:Nat) (K:AV→List HObj→Prop) :
 execN tab (mixE tab conU5 [] 400) (maskN xstrat_live xstrat_nils (GoodL Tryz.prog n0 23 K)) (finK tab (fnT Tryz.f23).res K) 400 (roundAt (fnT Tryz.f23) 5) (xstrat_s5_0 t p s x0 x1 x2) =
 (bif decide (x2<x1) then bif decide (0≤x2) && decide (x2<(↑s.length:Int)) then bif decide (0≤x2) && decide (x2<(↑x0.length:Int)) then bif !decide ((s.getD x2.toNat (0,[])).1=x0.getD x2.toNat 0) then K (AV.int .i64 3) [HObj.box [AV.int .i64 (s.getD x2.toNat (0,[])).1,AV.imm eS (s.getD x2.toNat (0,[])).2]] else bif decide (0≤x2) && decide (x2<(↑x0.length:Int)) then GoodT t∧bif bif false then true else !decide ((↑(List.length (s.getD x2.toNat (0,[])).2):Int)=(↑(widthOf t p (x0.getD x2.toNat 0)):Int)) then K (AV.int .i64 3) [HObj.box [AV.int .i64 (s.getD x2.toNat (0,[])).1,AV.imm eS (s.getD x2.toNat (0,[])).2]] else TxL (s.getD x2.toNat (0,[])).2∧bif !decide (oddsE (s.getD x2.toNat (0,[])).2=0) then K (AV.int .i64 (oddsE (s.getD x2.toNat (0,[])).2)) [HObj.box [AV.int .i64 (s.getD x2.toNat (0,[])).1,AV.imm eS (s.getD x2.toNat (0,[])).2]] else GoodL Tryz.prog n0 23 K (headAt (fnT Tryz.f23) 5) (xstrat_s5_0 t p s x0 x1 (IntKind.i64.wrap (x2+1))) else False else False else False else K (AV.int .i64 0) []):=by kernel_rfl
def tstrat_live : List (Nat × List Nat):=[(5,[7,8,23,24,25])]
def tstrat_nils : List (Nat × ETy):=[(7,eI),(8,eI),(23,eCh)]
noncomputable def tstrat_s5_0 (t:List Nd) (p:Int) (s:List (Int × List ByteArray)) (x0 x1:List Int) (x2 x3:Int):St:=stOf 54 [(7,AV.imm eI x0),(8,AV.imm eI x1),(23,AV.imm eCh s),(24,AV.int .i64 x2),(25,AV.int .i64 x3)] []
theorem tstrat_E (t:List Nd) (p:Int) (s:List (Int × List ByteArray)) (n0:Nat) (K:AV→List HObj→Prop) :
 execN tab (mixE tab conU5 [] 400) (maskN tstrat_live tstrat_nils (GoodL Tryz.prog n0 24 K)) (finK tab (fnT Tryz.f24).res K) 400 [.code (fnT Tryz.f24).body] ⟨initEnv (fnT Tryz.f24).n [AV.imm eNode t,AV.int .i64 p,AV.imm eCh s],[]⟩ =
 (GoodT t∧bif !decide ((↑s.length:Int)=(↑(infosL t p).length:Int)) then K (AV.int .i64 3) [] else GoodL Tryz.prog n0 24 K (headAt (fnT Tryz.f24) 5) (tstrat_s5_0 t p s (infosL t p) (widthsL t p) (↑s.length:Int) 0)):=by kernel_rfl
theorem tstrat_s5_0_E (t:List Nd) (p:Int) (s:List (Int × List ByteArray)) (x0 x1:List Int) (x2 x3:Int) (n0:Nat) (K:AV→List HObj→Prop) :
 execN tab (mixE tab conU5 [] 400) (maskN tstrat_live tstrat_nils (GoodL Tryz.prog n0 24 K)) (finK tab (fnT Tryz.f24).res K) 400 (roundAt (fnT Tryz.f24) 5) (tstrat_s5_0 t p s x0 x1 x2 x3) =
 (bif decide (x3<x2) then bif decide (0≤x3) && decide (x3<(↑s.length:Int)) then bif decide (0≤x3) && decide (x3<(↑x0.length:Int)) then bif !decide ((s.getD x3.toNat (0,[])).1=x0.getD x3.toNat 0) then K (AV.int .i64 3) [HObj.box [AV.int .i64 (s.getD x3.toNat (0,[])).1,AV.imm eS (s.getD x3.toNat (0,[])).2]] else bif decide (0≤x3) && decide (x3<(↑x1.length:Int)) then bif bif false then true else !decide ((↑(List.length (s.getD x3.toNat (0,[])).2):Int)=x1.getD x3.toNat 0) then K (AV.int .i64 3) [HObj.box [AV.int .i64 (s.getD x3.toNat (0,[])).1,AV.imm eS (s.getD x3.toNat (0,[])).2]] else TxL (s.getD x3.toNat (0,[])).2∧bif !decide (oddsE (s.getD x3.toNat (0,[])).2=0) then K (AV.int .i64 (oddsE (s.getD x3.toNat (0,[])).2)) [HObj.box [AV.int .i64 (s.getD x3.toNat (0,[])).1,AV.imm eS (s.getD x3.toNat (0,[])).2]] else GoodL Tryz.prog n0 24 K (headAt (fnT Tryz.f24) 5) (tstrat_s5_0 t p s x0 x1 x2 (IntKind.i64.wrap (x3+1))) else False else False else False else K (AV.int .i64 0) []):=by kernel_rfl
def ttold_live : List (Nat × List Nat):=[]
def ttold_nils : List (Nat × ETy):=[]
theorem ttold_E (zs:List (Bool × List Int × List Int)) (n0:Nat) (K:AV→List HObj→Prop) :
 execN tab (mixE tab conU0 [] 400) (maskN ttold_live ttold_nils (GoodL Tryz.prog n0 55 K)) (finK tab (fnT Tryz.f55).res K) 400 [.code (fnT Tryz.f55).body] ⟨initEnv (fnT Tryz.f55).n [AV.imm eQ zs],[]⟩ =
 (∃ n f,QF zs n f∧TxN n∧SzF 9000000000 n f∧K (AV.tup [AV.imm eS (vecV n f),AV.int .i64 (vecE n f)]) []):=by kernel_rfl
def tplan_live : List (Nat × List Nat):=[]
def tplan_nils : List (Nat × ETy):=[]
theorem tplan_E (t:List Nd) (p:Int) (s:List (Int × List ByteArray)) (n0:Nat) (K:AV→List HObj→Prop) :
 execN tab (mixE tab conU6 [] 400) (maskN tplan_live tplan_nils (GoodL Tryz.prog n0 22 K)) (finK tab (fnT Tryz.f22).res K) 400 [.code (fnT Tryz.f22).body] ⟨initEnv (fnT Tryz.f22).n [AV.imm eNode t,AV.int .i64 p,AV.imm eCh s],[]⟩ =
 (TxT t∧bif !decide (recE t p=0) then K (AV.tup [AV.nils,AV.int .i64 (recE t p)]) [] else (GoodT t∧TxC s)∧bif !decide (stratE t p s=0) then K (AV.tup [AV.nils,AV.int .i64 (stratE t p s)]) [] else (GoodT t∧remB t p=true)∧WOk (seqL t p) s∧∀ (zs:List QT),QF zs (seqL t p).length (wF (seqL t p) s)→∃ n f,QF zs n f∧TxN n∧SzF 9000000000 n f∧K (AV.tup [AV.imm eS (vecV n f),AV.int .i64 (vecE n f)]) [HObj.typed eQ zs true]):=by kernel_rfl
def lcweight_live : List (Nat × List Nat):=[(3,[3,6,7,8])]
def lcweight_nils : List (Nat × ETy):=[(6,eCh)]
noncomputable def lcweight_s3_0 (s:List (Int × List ByteArray)) (x0 x1 x2:Int):St:=stOf 20 [(3,AV.int .i64 x0),(6,AV.imm eCh s),(7,AV.int .i64 x1),(8,AV.int .i64 x2)] []
theorem lcweight_E (s:List (Int × List ByteArray)) (n0:Nat) (K:AV→List HObj→Prop) :
 execN tab (mixE tab conU6 [] 400) (maskN lcweight_live lcweight_nils (GoodL Tryz.prog n0 20 K)) (finK tab (fnT Tryz.f20).res K) 400 [.code (fnT Tryz.f20).body] ⟨initEnv (fnT Tryz.f20).n [AV.imm eCh s],[]⟩ =
 (GoodL Tryz.prog n0 20 K (headAt (fnT Tryz.f20) 3) (lcweight_s3_0 s 0 (↑s.length:Int) 0)):=by kernel_rfl
theorem lcweight_s3_0_E (s:List (Int × List ByteArray)) (x0 x1 x2:Int) (n0:Nat) (K:AV→List HObj→Prop) :
 execN tab (mixE tab conU6 [] 400) (maskN lcweight_live lcweight_nils (GoodL Tryz.prog n0 20 K)) (finK tab (fnT Tryz.f20).res K) 400 (roundAt (fnT Tryz.f20) 3) (lcweight_s3_0 s x0 x1 x2) =
 (bif decide (x2<x1) then bif decide (0≤x2) && decide (x2<(↑s.length:Int)) then ([(s.getD x2.toNat (0,[])).2].length≤1000000000000000∧∀ (r:List ByteArray),r∈[(s.getD x2.toNat (0,[])).2]→r.length≤1000000000000000)∧∀ (n:Int),GoodL Tryz.prog n0 20 K (headAt (fnT Tryz.f20) 3) (lcweight_s3_0 s (IntKind.i64.wrap (x0+n)) x1 (IntKind.i64.wrap (x2+1))) else False else K (AV.int .i64 x0) []):=by kernel_rfl
def lmild_live : List (Nat × List Nat):=[(2,[0,5,6,7])]
def lmild_nils : List (Nat × ETy):=[(5,eNode)]
noncomputable def lmild_s2_0 (t:List Nd) (x0 x1:Int):St:=stOf 24 [(0,AV.imm eNode t),(5,AV.imm eNode t),(6,AV.int .i64 x0),(7,AV.int .i64 x1)] []
theorem lmild_E (t:List Nd) (n0:Nat) (K:AV→List HObj→Prop) :
 execN tab (mixE tab conU7 [52] 400) (maskN lmild_live lmild_nils (GoodL Tryz.prog n0 21 K)) (finK tab (fnT Tryz.f21).res K) 400 [.code (fnT Tryz.f21).body] ⟨initEnv (fnT Tryz.f21).n [AV.imm eNode t],[]⟩ =
 (GoodL Tryz.prog n0 21 K (headAt (fnT Tryz.f21) 2) (lmild_s2_0 t (↑t.length:Int) 0)):=by kernel_rfl
theorem lmild_s2_0_E (t:List Nd) (x0 x1:Int) (n0:Nat) (K:AV→List HObj→Prop) :
 execN tab (mixE tab conU7 [52] 400) (maskN lmild_live lmild_nils (GoodL Tryz.prog n0 21 K)) (finK tab (fnT Tryz.f21).res K) 400 (roundAt (fnT Tryz.f21) 2) (lmild_s2_0 t x0 x1) =
 (bif decide (x1<x0) then bif decide (0≤x1) && decide (x1<(↑t.length:Int)) then bif decide ((↑(ByteArray.size (t.getD x1.toNat (0,0,0,[],[],ByteArray.empty)).2.2.2.2.2):Int) > 12) then K (AV.bool false) [bxN (t.getD x1.toNat (0,0,0,[],[],ByteArray.empty))] else List.length (t.getD x1.toNat (0,0,0,[],[],ByteArray.empty)).2.2.2.2.1≤1000000000000000∧bif bif false then true else decide (longI 12 (t.getD x1.toNat (0,0,0,[],[],ByteArray.empty)).2.2.2.2.1 ≥ 0) then K (AV.bool false) [bxN (t.getD x1.toNat (0,0,0,[],[],ByteArray.empty))] else GoodL Tryz.prog n0 21 K (headAt (fnT Tryz.f21) 2) (lmild_s2_0 t x0 (IntKind.i64.wrap (x1+1))) else False else K (AV.bool (decide ((↑t.length:Int)≤40))) []):=by kernel_rfl
def ltame_live : List (Nat × List Nat):=[(2,[7,8,9]),(5,[7,8,9,13,14,15])]
def ltame_nils : List (Nat × ETy):=[(7,ETy.one (CTy.slice eCh)),(13,eCh)]
noncomputable def ltame_s2_0 (ss:List (List (Int × List ByteArray))) (x0 x1:Int):St:=stOf 24 [(7,AV.imm (ETy.one (CTy.slice eCh)) ss),(8,AV.int .i64 x0),(9,AV.int .i64 x1)] []
noncomputable def ltame_s5_0 (ss:List (List (Int × List ByteArray))) (x0 x1:Int) (x2:List (Int × List ByteArray)) (x3 x4:Int):St:=stOf 24 [(7,AV.imm (ETy.one (CTy.slice eCh)) ss),(8,AV.int .i64 x0),(9,AV.int .i64 x1),(13,AV.imm eCh x2),(14,AV.int .i64 x3),(15,AV.int .i64 x4)] []
theorem ltame_E (ss:List (List (Int × List ByteArray))) (n0:Nat) (K:AV→List HObj→Prop) :
 execN tab (mixE tab conU8 [52] 400) (maskN ltame_live ltame_nils (GoodL Tryz.prog n0 25 K)) (finK tab (fnT Tryz.f25).res K) 400 [.code (fnT Tryz.f25).body] ⟨initEnv (fnT Tryz.f25).n [AV.imm (ETy.one (CTy.slice eCh)) ss],[]⟩ =
 (GoodL Tryz.prog n0 25 K (headAt (fnT Tryz.f25) 2) (ltame_s2_0 ss (↑ss.length:Int) 0)):=by kernel_rfl
theorem ltame_s2_0_E (ss:List (List (Int × List ByteArray))) (x0 x1:Int) (n0:Nat) (K:AV→List HObj→Prop) :
 execN tab (mixE tab conU8 [52] 400) (maskN ltame_live ltame_nils (GoodL Tryz.prog n0 25 K)) (finK tab (fnT Tryz.f25).res K) 400 (roundAt (fnT Tryz.f25) 2) (ltame_s2_0 ss x0 x1) =
 (bif decide (x1<x0) then bif decide (0≤x1) && decide (x1<(↑ss.length:Int)) then GoodL Tryz.prog n0 25 K (headAt (fnT Tryz.f25) 5) (ltame_s5_0 ss x0 x1 (ss.getD x1.toNat []) (↑(List.length (ss.getD x1.toNat [])):Int) 0) else False else K (AV.bool true) []):=by kernel_rfl
theorem ltame_s5_0_E (ss:List (List (Int × List ByteArray))) (x0 x1:Int) (x2:List (Int × List ByteArray)) (x3 x4:Int) (n0:Nat) (K:AV→List HObj→Prop) :
 execN tab (mixE tab conU8 [52] 400) (maskN ltame_live ltame_nils (GoodL Tryz.prog n0 25 K)) (finK tab (fnT Tryz.f25).res K) 400 (roundAt (fnT Tryz.f25) 5) (ltame_s5_0 ss x0 x1 x2 x3 x4) =
 (bif decide (x4<x3) then bif decide (0≤x4) && decide (x4<(↑x2.length:Int)) then List.length (x2.getD x4.toNat (0,[])).2≤1000000000000000∧bif decide (longI 12 (x2.getD x4.toNat (0,[])).2 ≥ 0) then K (AV.bool false) [HObj.box [AV.int .i64 (x2.getD x4.toNat (0,[])).1,AV.imm eS (x2.getD x4.toNat (0,[])).2]] else GoodL Tryz.prog n0 25 K (headAt (fnT Tryz.f25) 5) (ltame_s5_0 ss x0 x1 x2 x3 (IntKind.i64.wrap (x4+1))) else False else GoodL Tryz.prog n0 25 K (headAt (fnT Tryz.f25) 2) (ltame_s2_0 ss x0 (IntKind.i64.wrap (x1+1)))):=by kernel_rfl
def eqv_live : List (Nat × List Nat):=[(4,[0,1,12,13])]
def eqv_nils : List (Nat × ETy):=[]
noncomputable def eqv_s4_0 (a b:List ByteArray) (x0 x1:Int):St:=stOf 26 [(0,AV.imm eS a),(1,AV.imm eS b),(12,AV.int .i64 x0),(13,AV.int .i64 x1)] []
theorem eqv_E (a b:List ByteArray) (n0:Nat) (K:AV→List HObj→Prop) :
 execN tab (mixE tab con0 [] 400) (maskN eqv_live eqv_nils (GoodL Tryz.prog n0 27 K)) (finK tab (fnT Tryz.f27).res K) 400 [.code (fnT Tryz.f27).body] ⟨initEnv (fnT Tryz.f27).n [AV.imm eS a,AV.imm eS b],[]⟩ =
 (bif !decide ((↑a.length:Int)=(↑b.length:Int)) then K (AV.bool false) [] else GoodL Tryz.prog n0 27 K (headAt (fnT Tryz.f27) 4) (eqv_s4_0 a b (↑a.length:Int) 0)):=by kernel_rfl
theorem eqv_s4_0_E (a b:List ByteArray) (x0 x1:Int) (n0:Nat) (K:AV→List HObj→Prop) :
 execN tab (mixE tab con0 [] 400) (maskN eqv_live eqv_nils (GoodL Tryz.prog n0 27 K)) (finK tab (fnT Tryz.f27).res K) 400 (roundAt (fnT Tryz.f27) 4) (eqv_s4_0 a b x0 x1) =
 (bif decide (x1<x0) then bif decide (0≤x1) && decide (x1<(↑a.length:Int)) then bif decide (0≤x1) && decide (x1<(↑b.length:Int)) then bif !ByteArray.toList (a.getD x1.toNat ByteArray.empty) == ByteArray.toList (b.getD x1.toNat ByteArray.empty) then K (AV.bool false) [] else GoodL Tryz.prog n0 27 K (headAt (fnT Tryz.f27) 4) (eqv_s4_0 a b x0 (IntKind.i64.wrap (x1+1))) else False else False else K (AV.bool true) []):=by kernel_rfl
end
end Go.Proofs.YtnnkjpcipldnfaaGreatDoor.Mach
end
section
set_option linter.unusedSimpArgs false
set_option linter.unusedVariables false
namespace Go.Proofs.YtnnkjpcipldnfaaGreatDoor.Lib
open Go Go.Proofs.YtnnkjpcipldnfaaGreatDoor.Mach Go.Proofs.YtnnkjpcipldnfaaGreatDoorW.PrintWords Go.Proofs.YtnnkjpcipldnfaaGreatDoor.Sem Go.Proofs.YtnnkjpcipldnfaaGreatDoor.Pure
section
def outLL (e e' : ETy) (l:List e.D) (l' : List e'.D):Res:=fun v o=>v = .tup [.own 0, .own 1]∧∃ fz fz', o=[.typed e l fz, .typed e' l' fz']
theorem outLL_seal {e e' : ETy} {l:List e.D} {l' : List e'.D} {P:Program} {g:FuncId} {args:List AV} {Q:Res} (h:Con P g args (outLL e e' l l')) (hQ:Q (.tup [.imm e l, .imm e' l']) []):Con P g args Q :=
 h.sealTo fun v o hv=>by
  obtain ⟨rfl,fz,fz', rfl⟩:=hv
  exact ⟨_,⟨_,rfl, .cons ⟨e,l,fz,rfl,rfl⟩ (.cons ⟨e', l', fz', rfl,rfl⟩ .nil)⟩,hQ⟩
theorem outLL_own {e e' : ETy} {l:List e.D} {l' : List e'.D} {fz fz' : Bool} {i j:Nat} {H:List HObj} (hij:i≠j) (h1:objAt H i = .typed e l fz) (h2:objAt H j = .typed e' l' fz'):resK (outLL e e' l l') (.tup [.own i, .own j]) H :=
 ⟨.tup [.own 0, .own 1],[.typed e l fz, .typed e' l' fz'],⟨rfl,fz,fz', rfl⟩,rfl,rfl,[i,j],rfl,by simp [hij],fun k id hk=>by
  match k,hk with
  | 0,hk=>cases hk; exact congrArg some h1.symm
  | 1,hk=>cases hk; exact congrArg some h2.symm,rfl⟩
section
variable {t:List Nd} {p f c:Int} {Q:Res}
theorem inode_con {pf:Int × Int} (h:idxNodeS t pf Q):Con Tryz.prog 91 [.imm eNode t, .fn 92 [.adr [.int .i64 pf.1], .adr [.int .i64 pf.2]]] Q:=by
 obtain ⟨p,f⟩:=pf
 obtain ⟨hl,hq⟩:=h
 unfold SmA at hl
 simp only at hq
 have hk:∀ e H,idxNode t p f=e→resK Q (.int .i64 e) H:=fun e H h1=>by rw [h1] at hq; exact res_int hq
 refine conN (gn:=fnT Tryz.f91) (by kernel_rfl) con0_ok (inl:=[92]) (LT:=inode_live) (NT:=inode_nils) rfl fun n0=>?_
 rw [inode_E]
 refine loopN (f:=91) (gn:=fnT Tryz.f91) (n0:=n0) (r:=2) (by kernel_rfl) con0_ok (inl:=[92]) (LT:=inode_live) (NT:=inode_nils) (K:=resK Q) (fun x:Nat=>inode_s2_0 t p f (t.length:Int) (x:Int)) (fun x=>t.length - x) (fun x=>x≤t.length∧∀ i,i<x→ofSet p f (t.getD i nd0)=false) (fun x hp ih=>?_) 0 ⟨Nat.zero_le _,fun j hj=>absurd hj (Nat.not_lt_zero _)⟩
 obtain ⟨hx0,hn⟩:=hp
 rw [inode_s2_0_E]
 by_cases hx:x<t.length
 · refine bif_pos (by omega) (bif_in hx ?_)
   rw [Int.toNat_natCast,wrS hx (by omega)]
   have go:¬ inSet t p f x→GoodL Tryz.prog n0 91 (resK Q) (headAt (fnT Tryz.f91) 2) (inode_s2_0 t p f (t.length:Int) ((x+1:Nat):Int)):=fun hno=>ih (x+1) ⟨by omega,fun i hi=>by
    by_cases hix:i=x
    · rw [hix]
      cases hb:ofSet p f (t.getD x nd0) with
      | false=>rfl
      | true=>exact absurd (ofSet_iff.1 hb) hno
    · exact hn i (by omega)⟩ (by omega)
   by_cases c1:(t.getD x nd0).1=2
   · refine bif_pos c1 ?_
     by_cases c2:(t.getD x nd0).2.1=p
     · refine bif_ap c2 ?_
       by_cases c3:(t.getD x nd0).2.2.1=f
       · exact bif_ap c3 (hk _ _ (placeI_of hx (ofSet_iff.2 ⟨⟨c1,c2⟩,c3⟩) hn))
       · exact bif_an c3 (go fun h=>c3 h.2)
     · exact bif_an c2 (go fun h=>c2 h.1.2)
   · exact bif_neg c1 (go fun h=>c1 h.1.1)
 · exact bif_neg (by omega) (hk _ _ (placeI_none nd0 fun i hi=>hn i (by omega)))
theorem iseq_con {l:List Sq} {x:Nd} (h:idxSqS l x Q):Con Tryz.prog 83 [.imm eSq l, .fn 84 [.adr (cellsN x)]] Q:=by
 obtain ⟨kd,pl,f,nx,od,py⟩:=x
 obtain ⟨hl,hq⟩:=h
 unfold SmA at hl
 simp only at hq
 have hk:∀ e H,idxSq l f=e→resK Q (.int .i64 e) H:=fun e H h1=>by rw [h1] at hq; exact res_int hq
 show Con Tryz.prog 83 [.imm eSq l, .fn 84 [.adr [.int .i64 kd, .int .i64 pl, .int .i64 f, .imm eI nx, .imm eS od, .str py]]] Q
 refine conN (gn:=fnT Tryz.f83) (by kernel_rfl) con0_ok (inl:=[84]) (LT:=iseq_live) (NT:=iseq_nils) rfl fun n0=>?_
 rw [iseq_E]
 refine loopN (f:=83) (gn:=fnT Tryz.f83) (n0:=n0) (r:=2) (by kernel_rfl) con0_ok (inl:=[84]) (LT:=iseq_live) (NT:=iseq_nils) (K:=resK Q) (fun x:Nat=>iseq_s2_0 l kd pl f nx od py (l.length:Int) (x:Int)) (fun x=>l.length - x) (fun x=>x≤l.length∧∀ i,i<x→decide ((l.getD i q0).1=f)=false) (fun x hp ih=>?_) 0 ⟨Nat.zero_le _,fun j hj=>absurd hj (Nat.not_lt_zero _)⟩
 obtain ⟨hx0,hn⟩:=hp
 rw [iseq_s2_0_E]
 by_cases hx:x<l.length
 · refine bif_pos (by omega) (bif_in hx ?_)
   rw [Int.toNat_natCast,wrS hx (by omega)]
   by_cases c1:(l.getD x q0).1=f
   · exact bif_pos c1 (hk _ _ (placeI_of (q:=fun s:Sq=>decide (s.1=f)) hx (decide_eq_true c1) hn))
   · refine bif_neg c1 (ih (x+1) ⟨by omega,fun i hi=>?_⟩ (by omega))
     by_cases hix:i=x
     · rw [hix]; exact decide_eq_false c1
     · exact hn i (by omega)
 · exact bif_neg (by omega) (hk _ _ (placeI_none q0 fun i hi=>hn i (by omega)))
theorem icho_con {s:List Ch} (h:idxChS s f Q):Con Tryz.prog 122 [.imm eCh s, .fn 123 [.adr [.int .i64 f]]] Q:=by
 obtain ⟨hl,hq⟩:=h
 unfold SmA at hl
 have hk:∀ e H,idxCh s f=e→resK Q (.int .i64 e) H:=fun e H h1=>by rw [h1] at hq; exact res_int hq
 refine conN (gn:=fnT Tryz.f122) (by kernel_rfl) con0_ok (inl:=[123]) (LT:=icho_live) (NT:=icho_nils) rfl fun n0=>?_
 rw [icho_E]
 refine loopN (f:=122) (gn:=fnT Tryz.f122) (n0:=n0) (r:=2) (by kernel_rfl) con0_ok (inl:=[123]) (LT:=icho_live) (NT:=icho_nils) (K:=resK Q) (fun x:Nat=>icho_s2_0 s f (s.length:Int) (x:Int)) (fun x=>s.length - x) (fun x=>x≤s.length∧∀ i,i<x→decide ((s.getD i ch0).1=f)=false) (fun x hp ih=>?_) 0 ⟨Nat.zero_le _,fun j hj=>absurd hj (Nat.not_lt_zero _)⟩
 obtain ⟨hx0,hn⟩:=hp
 rw [icho_s2_0_E]
 by_cases hx:x<s.length
 · refine bif_pos (by omega) (bif_in hx ?_)
   rw [Int.toNat_natCast,wrS hx (by omega)]
   by_cases c1:(s.getD x ch0).1=f
   · exact bif_pos c1 (hk _ _ (placeI_of (q:=fun c:Ch=>decide (c.1=f)) hx (decide_eq_true c1) hn))
   · refine bif_neg c1 (ih (x+1) ⟨by omega,fun i hi=>?_⟩ (by omega))
     by_cases hix:i=x
     · rw [hix]; exact decide_eq_false c1
     · exact hn i (by omega)
 · exact bif_neg (by omega) (hk _ _ (placeI_none ch0 fun i hi=>hn i (by omega)))
theorem imild_con {l:List ByteArray} (h:long12S l () Q):Con Tryz.prog 85 [.imm eS l, .fn 53 []] Q:=by
 obtain ⟨hl,hq⟩:=h
 have hk:∀ e H,longI 12 l=e→resK Q (.int .i64 e) H:=fun e H h1=>by rw [h1] at hq; exact res_int hq
 refine conN (gn:=fnT Tryz.f85) (by kernel_rfl) con0_ok (inl:=[53]) (LT:=imild_live) (NT:=imild_nils) rfl fun n0=>?_
 rw [imild_E]
 refine loopN (f:=85) (gn:=fnT Tryz.f85) (n0:=n0) (r:=2) (by kernel_rfl) con0_ok (inl:=[53]) (LT:=imild_live) (NT:=imild_nils) (K:=resK Q) (fun x:Nat=>imild_s2_0 l (l.length:Int) (x:Int)) (fun x=>l.length - x) (fun x=>x≤l.length∧∀ i,i<x→decide (12<(l.getD i b0).size)=false) (fun x hp ih=>?_) 0 ⟨Nat.zero_le _,fun j hj=>absurd hj (Nat.not_lt_zero _)⟩
 obtain ⟨hx0,hn⟩:=hp
 rw [imild_s2_0_E]
 by_cases hx:x<l.length
 · refine bif_pos (by omega) (bif_in hx ?_)
   rw [Int.toNat_natCast,wrS hx (by omega)]
   by_cases c1:12<(l.getD x ByteArray.empty).size
   · exact bif_pos (by omega) (hk _ _ (placeI_of (q:=fun s:ByteArray=>decide (12<s.size)) hx (decide_eq_true c1) hn))
   · refine bif_neg (by omega) (ih (x+1) ⟨by omega,fun i hi=>?_⟩ (by omega))
     by_cases hix:i=x
     · rw [hix]; exact decide_eq_false c1
     · exact hn i (by omega)
 · exact bif_neg (by omega) (hk _ _ (placeI_none b0 fun i hi=>hn i (by omega)))
theorem itame_con {l:List ByteArray} (h:long12S l () Q):Con Tryz.prog 85 [.imm eS l, .fn 61 []] Q:=by
 obtain ⟨hl,hq⟩:=h
 have hk:∀ e H,longI 12 l=e→resK Q (.int .i64 e) H:=fun e H h1=>by rw [h1] at hq; exact res_int hq
 refine conN (gn:=fnT Tryz.f85) (by kernel_rfl) con0_ok (inl:=[61]) (LT:=itame_live) (NT:=itame_nils) rfl fun n0=>?_
 rw [itame_E]
 refine loopN (f:=85) (gn:=fnT Tryz.f85) (n0:=n0) (r:=2) (by kernel_rfl) con0_ok (inl:=[61]) (LT:=itame_live) (NT:=itame_nils) (K:=resK Q) (fun x:Nat=>itame_s2_0 l (l.length:Int) (x:Int)) (fun x=>l.length - x) (fun x=>x≤l.length∧∀ i,i<x→decide (12<(l.getD i b0).size)=false) (fun x hp ih=>?_) 0 ⟨Nat.zero_le _,fun j hj=>absurd hj (Nat.not_lt_zero _)⟩
 obtain ⟨hx0,hn⟩:=hp
 rw [itame_s2_0_E]
 by_cases hx:x<l.length
 · refine bif_pos (by omega) (bif_in hx ?_)
   rw [Int.toNat_natCast,wrS hx (by omega)]
   by_cases c1:12<(l.getD x ByteArray.empty).size
   · exact bif_pos (by omega) (hk _ _ (placeI_of (q:=fun s:ByteArray=>decide (12<s.size)) hx (decide_eq_true c1) hn))
   · refine bif_neg (by omega) (ih (x+1) ⟨by omega,fun i hi=>?_⟩ (by omega))
     by_cases hix:i=x
     · rw [hix]; exact decide_eq_false c1
     · exact hn i (by omega)
 · exact bif_neg (by omega) (hk _ _ (placeI_none b0 fun i hi=>hn i (by omega)))
end
theorem conU1_ok : ∀ g xs Q,conU1 g xs Q→Con Tryz.prog g xs Q:=table_ok fun p hp=>by
 simp only [List.mem_cons,List.not_mem_nil,or_false] at hp
 rcases hp with rfl
 exact c2_ok fun _ _ _ h=>inode_con h
theorem conU2_ok : ∀ g xs Q,conU2 g xs Q→Con Tryz.prog g xs Q:=table_ok fun p hp=>by
 simp only [List.mem_cons,List.not_mem_nil,or_false] at hp
 rcases hp with rfl
 exact c2_ok fun _ _ _ h=>iseq_con h
theorem conU3_ok : ∀ g xs Q,conU3 g xs Q→Con Tryz.prog g xs Q:=table_ok fun p hp=>by
 simp only [List.mem_cons,List.not_mem_nil,or_false] at hp
 rcases hp with rfl | rfl
 · exact c2_ok fun _ _ _ h=>icho_con h
 · exact c1_ok fun _ _ h=>in_con h
section
variable {t:List Nd} {p f c:Int} {s:List Ch} {Q:Res}
theorem tsets_con (h:setsS t p Q):Con Tryz.prog 59 [.imm eNode t, .int .i64 p] Q:=by
 obtain ⟨hg,hq⟩:=h
 have T:=tree_ok hg
 have hn:=T.n120
 refine outLL_seal (e:=eI) (e' := eI) (l:=infosL t p) (l' := widthsL t p) ?_ hq
 refine conN (gn:=fnT Tryz.f59) (by kernel_rfl) conU1_ok (inl:=[]) (LT:=tsets_live) (NT:=tsets_nils) rfl fun n0=>?_
 rw [tsets_E]
 refine loopN (f:=59) (gn:=fnT Tryz.f59) (n0:=n0) (r:=3) (by kernel_rfl) conU1_ok (inl:=[]) (LT:=tsets_live) (NT:=tsets_nils) (K:=resK (outLL eI eI (infosL t p) (widthsL t p))) (fun x:Nat=>tsets_s3_0 t p (x:Int) (infosN t p x) ((infosN t p x).map fun f=>(widthOf t p f:Int))) (fun x=>10 - x) (fun x=>x≤10) (fun x hx0 ih=>?_) 0 (Nat.zero_le _)
 rw [tsets_s3_0_E]
 by_cases hx:x<10
 · have hil:=infosN_len (t:=t) (p:=p) x
   have ih' := ih (x+1) (by omega) (by omega)
   rw [show infosN t p (x+1)=if 0<widthOf t p (x:Int) then infosN t p x ++ [(x:Int)] else infosN t p x from rfl] at ih'
   refine bif_pos (by omega) ⟨by unfold SmA; omega,?_⟩
   rw [wrS hx (by omega)]
   rcases T.idx_width (p:=p) (f:=(x:Int)) with ⟨e1,e2⟩ | ⟨i,e1,hi,e2,e3⟩
   · rw [if_neg (by omega)] at ih'
     rw [e1]
     exact bif_neg (by decide) ih'
   · rw [if_pos e3,List.map_append] at ih'
     rw [e1]
     refine bif_pos (by omega) (bif_in hi ?_)
     rw [Int.toNat_natCast]
     have e4:(((t.getD i nd0).2.2.2.1.length:Nat):Int)=(widthOf t p (x:Int):Int):=by rw [e2]; rfl
     have A:bif (bif ((infosN t p x).length+[(x:Int)].length).ble 9223372036854775807 then (((infosN t p x).length+[(x:Int)].length) * 8).ble 140737488355328 else false) then bif (bif (((infosN t p x).map fun f=>(widthOf t p f:Int)).length+[(widthOf t p (x:Int):Int)].length).ble 9223372036854775807 then ((((infosN t p x).map fun f=>(widthOf t p f:Int)).length+[(widthOf t p (x:Int):Int)].length) * 8).ble 140737488355328 else false) then GoodL Tryz.prog n0 59 (resK (outLL eI eI (infosL t p) (widthsL t p))) (headAt (fnT Tryz.f59) 3) (tsets_s3_0 t p ((x+1:Nat):Int) (infosN t p x ++ [(x:Int)]) (((infosN t p x).map fun f=>(widthOf t p f:Int)) ++ [(widthOf t p (x:Int):Int)])) else False else False :=
        bif_t (roomN (by simp; omega) (by decide)) (bif_t (roomN (by simp; omega) (by decide)) ih')
     rw [← e4] at A
     exact ⟨A,A,A⟩
 · have hxx:x=10:=by omega
   subst hxx
   exact bif_neg (by decide) (outLL_own (by decide) rfl rfl)
theorem todd_con (h:oddS s f c Q):Con Tryz.prog 87 [.imm eCh s, .int .i64 f, .int .i64 c] Q:=by
 obtain ⟨ho,hq⟩:=h
 obtain ⟨a1,a2⟩:=odd_sz ho
 obtain ⟨h0,h1,h2,h3,h4,_⟩:=ho
 refine conN (gn:=fnT Tryz.f87) (by kernel_rfl) conU3_ok (inl:=[]) (LT:=todd_live) (NT:=todd_nils) rfl fun n0=>?_
 rw [todd_E]
 exact ⟨h0,bif_and (bif_pos h1 (bif_pos h2 (bif_and (bif_pos h3 (bif_pos h4 ⟨_,a1,a2.mono (by decide),fun z hz=>res_plain (hq z hz) rfl rfl⟩)))))⟩
theorem xwidth_con (h:widthS t p f Q):Con Tryz.prog 57 [.imm eNode t, .int .i64 p, .int .i64 f] Q:=by
 obtain ⟨hg,hq⟩:=h
 have T:=tree_ok hg
 have hn:=T.n120
 have hk:∀ (e:Nat) H,widthOf t p f=e→resK Q (.int .i64 (e:Int)) H:=fun e H h1=>by rw [h1] at hq; exact res_int hq
 refine conN (gn:=fnT Tryz.f57) (by kernel_rfl) con0_ok (inl:=[]) (LT:=xwidth_live) (NT:=xwidth_nils) rfl fun n0=>?_
 rw [xwidth_E]
 refine loopN (f:=57) (gn:=fnT Tryz.f57) (n0:=n0) (r:=2) (by kernel_rfl) con0_ok (inl:=[]) (LT:=xwidth_live) (NT:=xwidth_nils) (K:=resK Q) (fun x:Nat=>xwidth_s2_0 t p f (t.length:Int) (x:Int)) (fun x=>t.length - x) (fun x=>x≤t.length∧∀ i,i<x→¬ inSet t p f i) (fun x hp ih=>?_) 0 ⟨Nat.zero_le _,fun j hj=>absurd hj (Nat.not_lt_zero _)⟩
 obtain ⟨hx0,hno⟩:=hp
 rw [xwidth_s2_0_E]
 by_cases hx:x<t.length
 · refine bif_pos (by omega) (bif_in hx ?_)
   rw [Int.toNat_natCast,wrS hx (by omega)]
   have go:¬ inSet t p f x→GoodL Tryz.prog n0 57 (resK Q) (headAt (fnT Tryz.f57) 2) (xwidth_s2_0 t p f (t.length:Int) ((x+1:Nat):Int)):=fun hn2=>ih (x+1) ⟨by omega,fun i hi=>by
    by_cases hix:i=x
    · rw [hix]; exact hn2
    · exact hno i (by omega)⟩ (by omega)
   by_cases c1:(t.getD x nd0).1=2
   · refine bif_pos c1 ?_
     by_cases c2:(t.getD x nd0).2.1=p
     · refine bif_ap c2 ?_
       by_cases c3:(t.getD x nd0).2.2.1=f
       · exact bif_ap c3 (hk _ _ (T.width_of hx ⟨⟨c1,c2⟩,c3⟩))
       · exact bif_an c3 (go fun h=>c3 h.2)
     · exact bif_an c2 (go fun h=>c2 h.1.2)
   · exact bif_neg c1 (go fun h=>c1 h.1.1)
 · exact bif_neg (by omega) (hk 0 _ (widthN_none fun i hi=>hno i (by omega)))
end
theorem conU4_ok : ∀ g xs Q,conU4 g xs Q→Con Tryz.prog g xs Q:=table_ok fun p hp=>by
 simp only [List.mem_cons,List.not_mem_nil,or_false] at hp
 rcases hp with rfl | rfl | rfl
 · exact c3_ok fun _ _ _ _ h=>xwidth_con h
 · exact c3_ok fun _ _ _ _ h=>xown_con h
 · exact c2_ok fun _ _ _ h=>xsame_con h
theorem conU4w_ok : ∀ g xs Q,conU4w g xs Q→Con Tryz.prog g xs Q:=table_ok fun p hp=>by
 simp only [List.mem_cons,List.not_mem_nil,or_false] at hp
 rcases hp with rfl | rfl | rfl
 · exact c3_ok fun _ _ _ _ h=>todd_con h
 · exact c1_ok fun _ _ h=>int_con h
 · exact c2_ok fun _ _ _ h=>mul_con h
section
variable {t:List Nd} {p f c:Int} {s:List Ch} {l:List Sq} {Q:Res}
theorem xinfos_con (h:infosS t p Q):Con Tryz.prog 56 [.imm eNode t, .int .i64 p] Q:=by
 obtain ⟨hg,hq⟩:=h
 refine con_imm (e:=eI) (l:=infosL t p) ?_ hq
 refine conN (gn:=fnT Tryz.f56) (by kernel_rfl) conU4_ok (inl:=[]) (LT:=xinfos_live) (NT:=xinfos_nils) rfl fun n0=>?_
 rw [xinfos_E]
 refine loopN (f:=56) (gn:=fnT Tryz.f56) (n0:=n0) (r:=3) (by kernel_rfl) conU4_ok (inl:=[]) (LT:=xinfos_live) (NT:=xinfos_nils) (K:=resK fun v o=>v = .own 0∧∃ fz,o=[.typed eI (infosL t p) fz]) (fun x:Nat=>xinfos_s3_0 t p (x:Int) (infosN t p x)) (fun x=>10 - x) (fun x=>x≤10) (fun x hx0 ih=>?_) 0 (Nat.zero_le _)
 rw [xinfos_s3_0_E]
 by_cases hx:x<10
 · have hil:=infosN_len (t:=t) (p:=p) x
   have ih' := ih (x+1) (by omega) (by omega)
   rw [show infosN t p (x+1)=if 0<widthOf t p (x:Int) then infosN t p x ++ [(x:Int)] else infosN t p x from rfl] at ih'
   refine bif_pos (by omega) ⟨hg,?_⟩
   rw [wrS hx (by omega)]
   by_cases hw:0<widthOf t p (x:Int)
   · rw [if_pos hw] at ih'
     exact bif_pos (by omega) (bif_t (roomN (by simp; omega) (by decide)) ih')
   · rw [if_neg hw] at ih'
     exact bif_neg (by omega) ih'
 · have hxx:x=10:=by omega
   subst hxx
   exact bif_neg (by decide) (res_own rfl ⟨rfl,false,rfl⟩)
theorem idxSq_of {j:Nat} (hj:j<l.length) (h:(l.getD j q0).1=f) (h' : ∀ i,i<j→(l.getD i q0).1≠f):idxSq l f=(j:Int):=placeI_of (q:=fun s:Sq=>decide (s.1=f)) (d:=q0) hj (decide_eq_true h) fun i hi=>decide_eq_false (h' i hi)
theorem idxSq_known : idxSq l f<0↔knownB l f=false:=by
 rcases placeI_cases (fun s:Sq=>decide (s.1=f)) l q0 with ⟨j,e,hj,h1,_⟩ | ⟨e,h1⟩
 · have hk:=known_iff.2 ⟨j,hj,of_decide_eq_true h1⟩
   have e' : idxSq l f=(j:Int):=e
   rw [hk,e']
   constructor
   · intro h; omega
   · intro h; cases h
 · have e' : idxSq l f = -1:=e
   rw [e']
   refine ⟨fun _=>?_,fun _=>by decide⟩
   cases hk:knownB l f with
   | false=>rfl
   | true =>
     obtain ⟨j,hj,hjf⟩:=known_iff.1 hk
     exact absurd hjf (of_decide_eq_false (h1 j hj))
theorem blk_at (hg:GoodT t) (h:remB t p=true) {i:Nat} (hi:i<t.length) (hm:mine t p i):∃ j0:Nat,j0≤721∧idxSq (seqN t p (i+1)).1 (infoOf t i)=(j0:Int)∧∀ c k,KidAt t i c k→atF t p k=((j0+c:Nat):Int):=by
 have T:=tree_ok hg
 have hn:=T.n120
 have I:=seq_inv T (rem_of_B h) (i+1) (by omega)
 obtain ⟨j0,g1,g2⟩:=I.blk i (by omega) hm
 have hw:=((T.node i hi).who hm.1)
 have hlt:=(g2 0 hw.2.2.2.2).1
 have hb:=I.big
 refine ⟨j0,by omega,idxSq_of (by omega) (g2 0 hw.2.2.2.2).2.1 g1,fun c k hk=>?_⟩
 obtain ⟨g3,g4,g5⟩:=g2 c hk.2.1
 have hge:1≤j0+c:=by
  rcases Nat.eq_zero_or_pos (j0+c) with h0 | h0
  · rw [h0,I.s0] at g4
    have:(-1:Int)=infoOf t i:=g4
    unfold infoOf at this; omega
  · exact h0
 obtain ⟨m2,c2,b1,b2,b3,b4,b5,b6,_⟩:=I.at_ _ hge g3
 have hi2:infoOf t m2=infoOf t i:=b4.symm.trans g4
 have hc2:(c2:Int)=(c:Int):=b5.symm.trans g5
 refine atF_of hg h (i:=i+1) (by omega) g3 ?_
 rw [b6,rem_of_B h m2 i (by omega) hi b2 hm hi2,hi2,hc2,T.own_mine hm hk]
theorem newS_succ (f:Int) (b c:Nat):newS f b (c+1)=newS f b c ++ [(f,((c:Int),(b:Int)))]:=by
 unfold newS; rw [List.range_succ,List.map_append]; rfl
theorem newW_succ (f:Int) (o:List (Int × Int)) (c:Nat):newW f o (c+1)=newW f o c ++ [o ++ [(f,(c:Int))]]:=by
 unfold newW; rw [List.range_succ,List.map_append]; rfl
theorem seqN_new {i:Nat} (hm:mine t p i) (hk:knownB (seqN t p i).1 (infoOf t i)=false):seqN t p (i+1)=((seqN t p i).1 ++ newS (infoOf t i) (lastW (seqN t p i).2 (own t p i) (seqN t p i).2.length) (kidsOf t i).length,(seqN t p i).2 ++ newW (infoOf t i) (own t p i) (kidsOf t i).length):=by
 rw [seqN,if_pos ⟨hm,hk⟩]
theorem seqN_old {i:Nat} (h:¬ (mine t p i∧knownB (seqN t p i).1 (infoOf t i)=false)):seqN t p (i+1)=seqN t p i:=by
 rw [seqN,if_neg h]
theorem tlist_con (h:listS t p Q):Con Tryz.prog 50 [.imm eNode t, .int .i64 p] Q:=by
 obtain ⟨⟨hg,hrb⟩,hq⟩:=h
 have T:=tree_ok hg
 have hn:=T.n120
 have hr:=rem_of_B hrb
 refine outLL_seal (e:=eSq) (e' := eI) (l:=seqL t p) (l' := atL t p) ?_ hq
 refine conN (gn:=fnT Tryz.f50) (by kernel_rfl) conU2_ok (inl:=[]) (LT:=tlist_live) (NT:=tlist_nils) rfl fun n0=>?_
 rw [tlist_E]
 have loop4 := loopN (f:=50) (gn:=fnT Tryz.f50) (n0:=n0) (r:=4) (by kernel_rfl) conU2_ok (inl:=[]) (LT:=tlist_live) (NT:=tlist_nils) (K:=resK (outLL eSq eI (seqL t p) (atL t p))) (fun y:Nat × List Int=>tlist_s4_0 t p (t.length:Int) (y.1:Int) (seqN t p y.1).1 y.2) (fun y=>t.length - y.1) (fun y=>y.1≤t.length∧RowsOk t (atF t p) 0 y.1 0 y.2) (fun y hp ih=>by
  obtain ⟨i,rows⟩:=y
  obtain ⟨hi0,hrow⟩:=hp
  simp only at hi0 hrow
  show execN _ _ _ _ _ _ (tlist_s4_0 t p (t.length:Int) (i:Int) (seqN t p i).1 rows)
  rw [tlist_s4_0_E]
  by_cases hi:i<t.length
  · have hw := (T.node i hi).w
    have I:=seq_inv T hr i (by omega)
    have hbig:=I.big
    have hati:=hrow.2 i hi (T.done hi)
    -- the children
    have loop18:∀ (b:Bool) (first:Nat),first≤721→(b=true→mine t p i∧∀ c k,KidAt t i c k→atF t p k=((first+c:Nat):Int))→(b=false→¬ mine t p i)→∀ fi:Int,(b=true→fi=(first:Int))→GoodL Tryz.prog n0 50 (resK (outLL eSq eI (seqL t p) (atL t p))) (headAt (fnT Tryz.f50) 18) (tlist_s18_0 t p (i:Int) b fi (t.length:Int) (i:Int) (kidsOf t i) ((kidsOf t i).length:Int) ((0:Nat):Int) (seqN t p (i+1)).1 rows):=fun b first hf hbt hbf fi hfi =>
        loopN (f:=50) (gn:=fnT Tryz.f50) (n0:=n0) (r:=18) (by kernel_rfl) conU2_ok (inl:=[]) (LT:=tlist_live) (NT:=tlist_nils) (K:=resK (outLL eSq eI (seqL t p) (atL t p))) (fun z:Nat × List Int=>tlist_s18_0 t p (i:Int) b fi (t.length:Int) (i:Int) (kidsOf t i) ((kidsOf t i).length:Int) (z.1:Int) (seqN t p (i+1)).1 z.2) (fun z=>(kidsOf t i).length - z.1) (fun z=>z.1≤(kidsOf t i).length∧RowsOk t (atF t p) 0 i z.1 z.2) (fun z hp2 ih2=>by
         obtain ⟨c,rows⟩:=z
         obtain ⟨hc0,hrow⟩:=hp2
         simp only at hc0 hrow
         have hrl:=hrow.1
         have hati:=hrow.2 i hi (T.done hi)
         show execN _ _ _ _ _ _ (tlist_s18_0 t p (i:Int) b fi (t.length:Int) (i:Int) (kidsOf t i) ((kidsOf t i).length:Int) (c:Int) (seqN t p (i+1)).1 rows)
         rw [tlist_s18_0_E]
         by_cases hc:c<(kidsOf t i).length
         · obtain ⟨m,hm,hkid,him,hml⟩:=T.kid_at hi hc
           have ih3:=ih2 (c+1,rows.set m (atF t p m)) ⟨by show c+1≤_; omega,hrow.step T hkid⟩ (by show _ - (c+1)<_ - c; omega)
           refine bif_pos (by omega) (bif_in hc (bif_in (by omega) ?_))
           rw [Int.toNat_natCast,Int.toNat_natCast,hm,Int.toNat_natCast,wrS hc (by omega),hati]
           refine bif_in (by omega) ?_
           cases b with
           | true =>
             obtain ⟨hmi,hfc⟩:=hbt rfl
             rw [hfc c m hkid] at ih3
             have hfc2:fi+(c:Int)=((first+c:Nat):Int):=by rw [hfi rfl]; omega
             refine bif_tt (bif_in (by rw [List.length_set]; omega) ?_)
             rw [List.set_set,hfc2,wr (n:=((first+c:Nat):Int)) (by omega) (by omega)]
             exact ih3
           | false =>
             have e:atF t p m=atF t p i:=by unfold atF; rw [T.own_other (hbf rfl) hkid]
             rw [e] at ih3
             exact bif_ff ih3
         · have hcc:c=(kidsOf t i).length:=by omega
           subst hcc
           refine bif_neg (by omega) ?_
           rw [wrS hi (by omega)]
           exact ih (i+1,rows) ⟨by show i+1≤_; omega,hrow.next⟩ (by show _ - (i+1)<_ - i; omega)) (0,rows) ⟨Nat.zero_le _,hrow⟩
    refine bif_pos (by omega) (bif_in hi ?_)
    rw [Int.toNat_natCast,← show nd0=(0,0,0,[],[],ByteArray.empty) from rfl]
    by_cases c1:(t.getD i nd0).1=2
    · refine bif_pos c1 ?_
      by_cases c2:(t.getD i nd0).2.1=p
      · have hm:mine t p i:=⟨c1,c2⟩
        obtain ⟨j0,b0', b1,b2⟩:=blk_at hg hrb hi hm
        refine bif_ap c2 ⟨by unfold SmA; omega,?_⟩
        have hb:(bif true then decide ((t.getD i nd0).2.1=p) else false)=true:=by rw [cond_true]; exact decide_eq_true c2
        rw [hb]
        by_cases hk:knownB (seqN t p i).1 (infoOf t i)=false
        · refine bif_pos (idxSq_known.2 hk) ?_
          have en:=seqN_new hm hk
          obtain ⟨ji,hji,hjw⟩:=I.has i hi (T.done hi)
          have hl:lastW (seqN t p i).2 (own t p i) (seqN t p i).2.length=ji:=I.last hjw _ (by rw [I.len]; exact hji) (by rw [I.len]; exact Nat.le_refl _)
          have hat:atF t p i=(ji:Int):=atF_of hg hrb (by omega) hji hjw
          rw [hl] at en
          have ej:j0=(seqN t p i).1.length:=by
            have hwp:=((T.node i hi).who hm.1).2.2.2.2
            have e2:idxSq (seqN t p (i+1)).1 (infoOf t i)=((seqN t p i).1.length:Int):=by
               rw [en]
               refine idxSq_of (by rw [List.length_append,newS_len]; omega) ?_ fun j hj hc=>?_
               · rw [getD_app,if_neg (by omega),Nat.sub_self,newS_at hwp]
               · rw [getD_app,if_pos hj] at hc
                 have:=known_iff.2 ⟨j,hj,hc⟩
                 rw [hk] at this; cases this
            omega
          have l18:=loop18 true j0 b0' (fun _=>⟨hm,b2⟩) (fun h=>by cases h) (j0:Int) (fun _=>rfl)
          rw [en,ej] at l18
          have main:=loopN (f:=50) (gn:=fnT Tryz.f50) (n0:=n0) (r:=13) (by kernel_rfl) conU2_ok (inl:=[]) (LT:=tlist_live) (NT:=tlist_nils) (K:=resK (outLL eSq eI (seqL t p) (atL t p))) (fun c:Nat=>tlist_s13_0 t p (i:Int) true ((seqN t p i).1.length:Int) (t.length:Int) (i:Int) ((kidsOf t i).length:Int) (c:Int) ((seqN t p i).1 ++ newS (infoOf t i) ji c) rows (t.getD i nd0).1 (t.getD i nd0).2.1 (t.getD i nd0).2.2.1 (t.getD i nd0).2.2.2.1 (t.getD i nd0).2.2.2.2.1 (t.getD i nd0).2.2.2.2.2) (fun c=>(kidsOf t i).length - c) (fun c=>c≤(kidsOf t i).length) (fun c hc0 ih2=>by
            rw [tlist_s13_0_E]
            by_cases hc:c<(kidsOf t i).length
            · have ih3:=ih2 (c+1) (by omega) (by omega)
              rw [newS_succ,← List.append_assoc] at ih3
              refine bif_pos (by omega) (bif_in (by rw [hrow.1]; exact hi) ?_)
              rw [Int.toNat_natCast,hati,hat,wrS hc (by omega)]
              exact bif_t (roomN (by rw [List.length_append,newS_len]; simp; omega) (by decide)) ih3
            · have hcc:c=(kidsOf t i).length:=by omega
              subst hcc
              exact bif_neg (by omega) l18) 0 (Nat.zero_le _)
          rw [show newS (infoOf t i) ji 0=[] from rfl,List.append_nil] at main
          exact main
        · refine bif_neg (fun h=>hk (idxSq_known.1 h)) ?_
          have en:=seqN_old (t:=t) (p:=p) (i:=i) fun h=>hk h.2
          rw [en] at b1
          have l18:=loop18 true j0 b0' (fun _=>⟨hm,b2⟩) (fun h=>by cases h) (j0:Int) (fun _=>rfl)
          rw [en] at l18
          have b1' : idxSq (seqN t p i).1 (t.getD i nd0).2.2.1=(j0:Int):=b1
          rw [b1']
          exact l18
      · refine bif_an c2 ?_
        have hb:(bif true then decide ((t.getD i nd0).2.1=p) else false)=false:=by rw [cond_true]; exact decide_eq_false c2
        rw [hb]
        have en:=seqN_old (t:=t) (p:=p) (i:=i) fun h=>c2 h.1.2
        have l18:=loop18 false 0 (by omega) (fun h=>by cases h) (fun _ h=>c2 h.2) (-1) (fun h=>by cases h)
        rw [en] at l18
        exact l18
    · refine bif_neg c1 ?_
      have en:=seqN_old (t:=t) (p:=p) (i:=i) fun h=>c1 h.1.1
      have l18:=loop18 false 0 (by omega) (fun h=>by cases h) (fun _ h=>c1 h.1) (-1) (fun h=>by cases h)
      rw [en] at l18
      exact l18
  · have hii:i=t.length:=by omega
    subst hii
    refine bif_neg (by omega) ?_
    have e:rows=atL t p:=hrow.all T
    rw [e]
    exact outLL_own (by decide) rfl rfl)
 have k1:=makeN (n:=t.length) (b:=8) (by omega) (by decide)
 simp only [Int.toNat_natCast] at k1 ⊢
 refine bif_t k1 ?_
 exact loop4 (0,List.replicate t.length 0) ⟨Nat.zero_le _,List.length_replicate,fun k hk hd=>by
  rw [done_zero hd,List.getD_eq_getElem?_getD,List.getElem?_replicate,if_pos T.n0]
  exact (atF_of hg hrb (i:=0) (Nat.zero_le _) (j:=0) (show 0<1 from Nat.zero_lt_one) rfl).symm⟩
end
section
variable {t:List Nd} {p f c:Int} {s:List Ch} {l:List Sq} {Q:Res}
theorem way_sm {i j:Nat} {L:List Sq} {W:List (List (Int × Int))} (T:TreeOk t) (hi:i≤t.length) (I:SeqInv t p i L W) (hj:j<L.length):SmL (W.getD j []):=by
 have hn:=T.n120
 unfold SmL
 by_cases h0:j=0
 · subst h0; rw [I.w0]; exact Nat.zero_le _
 · obtain ⟨m,c,a1,a2,a3,a4,a5,a6,_⟩:=I.at_ j (by omega) hj
   have:=own_len t p m
   rw [a6,List.length_append]; simp; omega
theorem known_succ {x:Nat} (hx:x<l.length):knownB (l.take (x+1)) f=(knownB (l.take x) f || decide ((l.getD x q0).1=f)):=by
 unfold knownB
 rw [take_succ' (d:=q0) hx,List.any_append]
 simp
theorem xseq_con (h:xseqS t p Q):Con Tryz.prog 16 [.imm eNode t, .int .i64 p] Q:=by
 obtain ⟨⟨hg,hrb⟩,hq⟩:=h
 have T:=tree_ok hg
 have hn:=T.n120
 have hr:=rem_of_B hrb
 refine outLL_seal (e:=eSq) (e' := eL eP) (l:=seqL t p) (l' := waysL t p) ?_ hq
 refine conN (gn:=fnT Tryz.f16) (by kernel_rfl) conU4_ok (inl:=[]) (LT:=xseq_live) (NT:=xseq_nils) rfl fun n0=>?_
 rw [xseq_E]
 exact loopN (f:=16) (gn:=fnT Tryz.f16) (n0:=n0) (r:=4) (by kernel_rfl) conU4_ok (inl:=[]) (LT:=xseq_live) (NT:=xseq_nils) (K:=resK (outLL eSq (eL eP) (seqL t p) (waysL t p))) (fun i:Nat=>xseq_s4_0 t p (t.length:Int) (i:Int) (seqN t p i).1 (seqN t p i).2) (fun i=>t.length - i) (fun i=>i≤t.length) (fun i hi0 ih=>by
  rw [xseq_s4_0_E]
  by_cases hi:i<t.length
  · have hw := (T.node i hi).w
    have I:=seq_inv T hr i (by omega)
    have hbig:=I.big
    have hlen:=I.len
    have hol:=own_len t p i
    have ih' := ih (i+1) (by omega) (by omega)
    refine bif_pos (by omega) (bif_in hi ?_)
    rw [Int.toNat_natCast,wrS hi (by omega)]
    by_cases c1:(t.getD i nd0).1=2
    · refine bif_not (bif_pos c1 ?_)
      rw [cond_false]
      by_cases c2:(t.getD i nd0).2.1=p
      · refine bif_not (bif_pos c2 ?_)
        have hm:mine t p i:=⟨c1,c2⟩
        generalize hL:(seqN t p i).1=L at *
        generalize hW:(seqN t p i).2=W at *
        -- the new ones
        have loop23:knownB L (infoOf t i)=false→GoodL Tryz.prog n0 16 (resK (outLL eSq (eL eP) (seqL t p) (waysL t p))) (headAt (fnT Tryz.f16) 23) (xseq_s23_0 t p (own t p i) ((lastW W (own t p i) W.length:Nat):Int) (t.length:Int) (i:Int) ((kidsOf t i).length:Int) ((0:Nat):Int) L W (t.getD i nd0).1 (t.getD i nd0).2.1 (t.getD i nd0).2.2.1 (t.getD i nd0).2.2.2.1 (t.getD i nd0).2.2.2.2.1 (t.getD i nd0).2.2.2.2.2):=fun hk=>by
         have en:=seqN_new hm (by rw [hL]; exact hk)
         rw [hL,hW] at en
         rw [en] at ih'
         have main:=loopN (f:=16) (gn:=fnT Tryz.f16) (n0:=n0) (r:=23) (by kernel_rfl) conU4_ok (inl:=[]) (LT:=xseq_live) (NT:=xseq_nils) (K:=resK (outLL eSq (eL eP) (seqL t p) (waysL t p))) (fun c:Nat=>xseq_s23_0 t p (own t p i) ((lastW W (own t p i) W.length:Nat):Int) (t.length:Int) (i:Int) ((kidsOf t i).length:Int) (c:Int) (L ++ newS (infoOf t i) (lastW W (own t p i) W.length) c) (W ++ newW (infoOf t i) (own t p i) c) (t.getD i nd0).1 (t.getD i nd0).2.1 (t.getD i nd0).2.2.1 (t.getD i nd0).2.2.2.1 (t.getD i nd0).2.2.2.2.1 (t.getD i nd0).2.2.2.2.2) (fun c=>(kidsOf t i).length - c) (fun c=>c≤(kidsOf t i).length) (fun c hc0 ih2=>by
            rw [xseq_s23_0_E]
            by_cases hc:c<(kidsOf t i).length
            · have ih3:=ih2 (c+1) (by omega) (by omega)
              rw [newS_succ,newW_succ,← List.append_assoc,← List.append_assoc] at ih3
              refine bif_pos (by omega) (bif_t (roomN (by rw [List.length_append,newS_len]; simp; omega) (by decide)) ?_)
              rw [wrS hc (by omega)]
              have r1:(bif (0+(own t p i).length).ble 9223372036854775807 then ((0+(own t p i).length) * 16).ble 140737488355328 else false)=true:=roomN (by omega) (by decide)
              have r2:(bif (([] ++ own t p i).length+[((t.getD i nd0).2.2.1,(c:Int))].length).ble 9223372036854775807 then ((([] ++ own t p i).length+[((t.getD i nd0).2.2.1,(c:Int))].length) * 16).ble 140737488355328 else false)=true:=roomN (by simp; omega) (by decide)
              have r3:(bif ((W ++ newW (infoOf t i) (own t p i) c).length+[[] ++ own t p i ++ [((t.getD i nd0).2.2.1,(c:Int))]].length).ble 9223372036854775807 then (((W ++ newW (infoOf t i) (own t p i) c).length+[[] ++ own t p i ++ [((t.getD i nd0).2.2.1,(c:Int))]].length) * 24).ble 140737488355328 else false)=true:=roomN (by rw [List.length_append,newW_len]; simp; omega) (by decide)
              exact ⟨bif_t r1 (bif_t r2 (bif_t r3 ih3)),bif_t r1 (bif_t r2 (bif_t r3 ih3)),bif_t r1 (bif_t r2 (bif_t r3 ih3))⟩
            · have hcc:c=(kidsOf t i).length:=by omega
              subst hcc
              refine bif_neg (by omega) ?_
              rw [wrS hi (by omega)]
              exact ih') 0 (Nat.zero_le _)
         rw [show newS (infoOf t i) (lastW W (own t p i) W.length) 0=[] from rfl,show newW (infoOf t i) (own t p i) 0=[] from rfl,List.append_nil,List.append_nil] at main
         exact main
        -- where it goes on
        have loop17:knownB L (infoOf t i)=false→GoodL Tryz.prog n0 16 (resK (outLL eSq (eL eP) (seqL t p) (waysL t p))) (headAt (fnT Tryz.f16) 17) (xseq_s17_0 t p (own t p i) ((0:Nat):Int) (t.length:Int) (i:Int) (W.length:Int) ((0:Nat):Int) L W (t.getD i nd0).1 (t.getD i nd0).2.1 (t.getD i nd0).2.2.1 (t.getD i nd0).2.2.2.1 (t.getD i nd0).2.2.2.2.1 (t.getD i nd0).2.2.2.2.2):=fun hk =>
         loopN (f:=16) (gn:=fnT Tryz.f16) (n0:=n0) (r:=17) (by kernel_rfl) conU4_ok (inl:=[]) (LT:=xseq_live) (NT:=xseq_nils) (K:=resK (outLL eSq (eL eP) (seqL t p) (waysL t p))) (fun k:Nat=>xseq_s17_0 t p (own t p i) ((lastW W (own t p i) k:Nat):Int) (t.length:Int) (i:Int) (W.length:Int) (k:Int) L W (t.getD i nd0).1 (t.getD i nd0).2.1 (t.getD i nd0).2.2.1 (t.getD i nd0).2.2.2.1 (t.getD i nd0).2.2.2.2.1 (t.getD i nd0).2.2.2.2.2) (fun k=>W.length - k) (fun k=>k≤W.length) (fun k hk0 ih2=>by
            rw [xseq_s17_0_E]
            by_cases hkl:k<W.length
            · have ih3:=ih2 (k+1) (by omega) (by omega)
              rw [show lastW W (own t p i) (k+1)=if W.getD k []=own t p i then k else lastW W (own t p i) k from rfl] at ih3
              refine bif_pos (by omega) (bif_in hkl ?_)
              rw [Int.toNat_natCast,wrS hkl (by omega)]
              refine ⟨way_sm T (by omega) I (by omega),?_⟩
              by_cases hc:W.getD k []=own t p i
              · rw [if_pos hc] at ih3
                exact bif_t (decide_eq_true hc) ih3
              · rw [if_neg hc] at ih3
                exact bif_f (by unfold sameB; rw [decide_eq_false hc]; decide) ih3
            · have hkk:k=W.length:=by omega
              subst hkk
              exact bif_neg (by omega) (loop23 hk)) 0 (Nat.zero_le _)
        -- is it known?
        show GoodL _ _ _ _ _ (xseq_s9_1 t p (i:Int) false (t.length:Int) (i:Int) (L.length:Int) ((0:Nat):Int) L W (t.getD i nd0).1 (t.getD i nd0).2.1 (t.getD i nd0).2.2.1 (t.getD i nd0).2.2.2.1 (t.getD i nd0).2.2.2.2.1 (t.getD i nd0).2.2.2.2.2)
        exact loopN (f:=16) (gn:=fnT Tryz.f16) (n0:=n0) (r:=9) (by kernel_rfl) conU4_ok (inl:=[]) (LT:=xseq_live) (NT:=xseq_nils) (K:=resK (outLL eSq (eL eP) (seqL t p) (waysL t p))) (fun x:Nat=>xseq_s9_1 t p (i:Int) (knownB (L.take x) (infoOf t i)) (t.length:Int) (i:Int) (L.length:Int) (x:Int) L W (t.getD i nd0).1 (t.getD i nd0).2.1 (t.getD i nd0).2.2.1 (t.getD i nd0).2.2.2.1 (t.getD i nd0).2.2.2.2.1 (t.getD i nd0).2.2.2.2.2) (fun x=>L.length - x) (fun x=>x≤L.length) (fun x hx0 ih2=>by
         rw [xseq_s9_1_E]
         by_cases hx:x<L.length
         · have ih3:=ih2 (x+1) (by omega) (by omega)
           rw [known_succ hx] at ih3
           refine bif_pos (by omega) (bif_in hx ?_)
           rw [Int.toNat_natCast,wrS hx (by omega)]
           cases hb:knownB (L.take x) (infoOf t i) with
           | true=>rw [hb] at ih3; exact ih3
           | false =>
             rw [hb,Bool.false_or] at ih3
             rw [cond_false,cond_false]
             exact ih3
         · refine bif_neg (by omega) ?_
           rw [List.take_of_length_le (by omega),wrS hi (by omega)]
           by_cases hk:knownB L (infoOf t i)=true
           · have en:=seqN_old (t:=t) (p:=p) (i:=i) fun h=>by rw [hL,hk] at h; cases h.2
             rw [en,hL,hW] at ih'
             exact bif_t hk ih'
           · refine bif_f hk ⟨⟨hg,by omega,by omega⟩,loop17 (by cases h:knownB L (infoOf t i) with
                | false=>rfl
                | true=>exact absurd h hk)⟩) 0 (Nat.zero_le _)
      · refine bif_not (bif_neg c2 ?_)
        rw [seqN_old (t:=t) (p:=p) (i:=i) fun h=>c2 h.1.2] at ih'
        exact ih'
    · refine bif_not (bif_neg c1 ?_)
      rw [seqN_old (t:=t) (p:=p) (i:=i) fun h=>c1 h.1.1] at ih'
      exact ih'
  · have hii:i=t.length:=by omega
    subst hii
    exact bif_neg (by omega) (outLL_own (by decide) rfl rfl)) 0 (Nat.zero_le _)
theorem tweights_con (h:weightsS l s Q):Con Tryz.prog 54 [.imm eSq l, .imm eCh s] Q:=by
 obtain ⟨hw,hq⟩:=h
 obtain ⟨l0,l1,lat⟩:=hw
 have W:WOk l s:=⟨l0,l1,lat⟩
 refine conN (gn:=fnT Tryz.f54) (by kernel_rfl) conU4w_ok (inl:=[]) (LT:=tweights_live) (NT:=tweights_nils) rfl fun n0=>?_
 rw [tweights_E]
 refine ⟨⟨by decide,by decide⟩,fun r hr=>bif_and (bif_pos (by omega) (bif_pos (by omega) ?_))⟩
 rw [Int.toNat_natCast]
 have hdl:(List.drop 1 (List.take l.length l)).length=l.length - 1:=by simp
 have hda:∀ x,(List.drop 1 (List.take l.length l)).getD x q0=l.getD (x+1) q0:=fun x=>by
  rw [List.getD_eq_getElem?_getD,List.getD_eq_getElem?_getD,List.getElem?_drop,List.take_length,Nat.add_comm]
 have one:QF [(r.1,r.2.1,r.2.2)] 1 (wF l s):=⟨rfl,fun i hi=>by
  have:i=0:=by omega
  subst this
  rw [wF_zero]
  exact hr⟩
 generalize List.drop 1 (List.take l.length l)=d at *
 refine loopN (f:=54) (gn:=fnT Tryz.f54) (n0:=n0) (r:=3) (by kernel_rfl) conU4w_ok (inl:=[]) (LT:=tweights_live) (NT:=tweights_nils) (K:=resK Q) (fun y:Nat × List QT=>tweights_s3_0 l s d (d.length:Int) (y.1:Int) y.2) (fun y=>d.length - y.1) (fun y=>y.1≤d.length∧QF y.2 (y.1+1) (wF l s)) (fun y hp ih=>?_) (0,[(r.1,r.2.1,r.2.2)]) ⟨Nat.zero_le _,one⟩
 obtain ⟨x,zs⟩:=y
 obtain ⟨hx0,hz⟩:=hp
 simp only at hx0 hz
 have hzl:=hz.len
 show execN _ _ _ _ _ _ (tweights_s3_0 l s d (d.length:Int) (x:Int) zs)
 rw [tweights_s3_0_E]
 by_cases hx:x<d.length
 · obtain ⟨o1,o2,o3⟩:=lat (x+1) (by omega) (by omega)
   have hxx:d.getD x (0,0,0)=l.getD (x+1) q0:=hda x
   refine bif_pos (by omega) (bif_in hx ?_)
   rw [Int.toNat_natCast,hxx,wrS hx (by omega)]
   obtain ⟨b,hb⟩:∃ b:Nat,(l.getD (x+1) q0).2.2=(b:Int):=⟨(l.getD (x+1) q0).2.2.toNat,by omega⟩
   have ws:=wF_succ (l:=l) (s:=s) (j:=x+1) (by omega) o3 o2
   rw [hb] at o3 ws ⊢
   rw [Int.toNat_natCast] at ws ⊢
   refine bif_in (by omega) ⟨o1,fun z hzq=>⟨_,_,hz.at_ b (by omega),hzq,(W.sz (by omega)).mono (by decide),(odd_sz o1).2.mono (by decide),fun r hr=>bif_t (roomN (len_snoc hzl (by omega)) (by decide)) ?_⟩⟩
   exact ih (x+1,zs ++ [(r.1,r.2.1,r.2.2)]) ⟨by show x+1≤_; omega,hz.push (by rw [ws]; exact hr)⟩ (by show d.length - (x+1)<d.length - x; omega)
 · have hxx:x+1=l.length:=by omega
   rw [hxx] at hz
   exact bif_neg (by omega) (res_own rfl (hq zs hz))
end
end
section
theorem conU5_ok : ∀ g xs Q,conU5 g xs Q→Con Tryz.prog g xs Q:=table_ok fun p hp=>by
 simp only [List.mem_cons,List.not_mem_nil,or_false] at hp
 rcases hp with rfl | rfl | rfl | rfl | rfl
 · exact c3_ok fun _ _ _ _ h=>xwidth_con h
 · exact c2_ok fun _ _ _ h=>xinfos_con h
 · exact c1_ok fun _ _ h=>xodds_con h
 · exact c2_ok fun _ _ _ h=>tsets_con h
 · exact c1_ok fun _ _ h=>odds_con h
section
variable {t:List Nd} {p f c:Int} {s:List Ch} {Q:Res}
theorem chE_info {i:Nat} (h:(s.getD i ch0).1≠(infosL t p).getD i 0):chE t p s i=3:=if_pos (.inl h)
theorem chE_width {i:Nat} (h:(s.getD i ch0).2.length≠widthOf t p ((infosL t p).getD i 0)):chE t p s i=3:=if_pos (.inr h)
theorem chE_odds {i:Nat} (h:(s.getD i ch0).1=(infosL t p).getD i 0) (h2:(s.getD i ch0).2.length=widthOf t p ((infosL t p).getD i 0)):chE t p s i=oddsE (s.getD i ch0).2:=if_neg (by rintro (h3 | h3); exact h3 h; exact h3 h2)
theorem strat_bad {i:Nat} (hl:s.length=(infosL t p).length) (hi:i<s.length) (h0:chsE t p s i=0) (h1:chE t p s i≠0):stratE t p s=chE t p s i:=by
 rw [strat_of hl]; exact chsE_bad h0 h1 _ hi
theorem chsE_succ {i:Nat} (h0:chsE t p s i=0) (h1:chE t p s i=0):chsE t p s (i+1)=0:=by unfold chsE; rw [if_pos h0]; exact h1
theorem xstrat_con (h:stratS t p s Q):Con Tryz.prog 23 [.imm eNode t, .int .i64 p, .imm eCh s] Q:=by
 obtain ⟨⟨hg,hs⟩,hq⟩:=h
 have hle:=infos_len (t:=t) (p:=p)
 have hk:∀ e H,stratE t p s=e→resK Q (.int .i64 e) H:=fun e H h1=>by rw [h1] at hq; exact res_int hq
 refine conN (gn:=fnT Tryz.f23) (by kernel_rfl) conU5_ok (inl:=[]) (LT:=xstrat_live) (NT:=xstrat_nils) rfl fun n0=>?_
 rw [xstrat_E]
 refine ⟨hg,?_⟩
 by_cases hl:s.length=(infosL t p).length
 · refine bif_not (bif_pos (by omega) ?_)
   refine loopN (f:=23) (gn:=fnT Tryz.f23) (n0:=n0) (r:=5) (by kernel_rfl) conU5_ok (inl:=[]) (LT:=xstrat_live) (NT:=xstrat_nils) (K:=resK Q) (fun i:Nat=>xstrat_s5_0 t p s (infosL t p) (s.length:Int) (i:Int)) (fun i=>s.length - i) (fun i=>i≤s.length∧chsE t p s i=0) (fun i hp ih=>?_) 0 ⟨Nat.zero_le _,rfl⟩
   obtain ⟨hi0,hz⟩:=hp
   rw [xstrat_s5_0_E]
   by_cases hi:i<s.length
   · refine bif_pos (by omega) (bif_in hi (bif_in (by omega) ?_))
     rw [Int.toNat_natCast,wrS hi (by omega)]
     have hx:=hs.2 _ (getD_mem (d:=ch0) hi)
     by_cases c1:(s.getD i ch0).1=(infosL t p).getD i 0
     · refine bif_not (bif_pos c1 (bif_in (by omega) ⟨hg,?_⟩))
       rw [cond_false]
       by_cases c2:(s.getD i ch0).2.length=widthOf t p ((infosL t p).getD i 0)
       · refine bif_not (bif_pos (congrArg (fun n:Nat=>(n:Int)) c2) ⟨hx,?_⟩)
         have e:=chE_odds (t:=t) (p:=p) c1 c2
         by_cases c3:oddsE (s.getD i ch0).2=0
         · exact bif_not (bif_pos c3 (ih (i+1) ⟨by omega,chsE_succ hz (e.trans c3)⟩ (by omega)))
         · exact bif_not (bif_neg c3 (hk _ _ ((strat_bad hl hi hz (by rw [e]; exact c3)).trans e)))
       · have e:=chE_width (t:=t) (p:=p) c2
         exact bif_not (bif_neg (fun h=>c2 (Int.ofNat_inj.1 h)) (hk _ _ ((strat_bad hl hi hz (by rw [e]; decide)).trans e)))
     · have e:=chE_info (t:=t) (p:=p) c1
       exact bif_not (bif_neg c1 (hk _ _ ((strat_bad hl hi hz (by rw [e]; decide)).trans e)))
   · have hii:i=s.length:=by omega
     subst hii
     exact bif_neg (by omega) (hk _ _ ((strat_of hl).trans hz))
 · exact bif_not (bif_neg (by omega) (hk _ _ (strat_len hl)))
theorem tstrat_con (h:stratS t p s Q):Con Tryz.prog 24 [.imm eNode t, .int .i64 p, .imm eCh s] Q:=by
 obtain ⟨⟨hg,hs⟩,hq⟩:=h
 have hle:=infos_len (t:=t) (p:=p)
 have hwl:=widths_len (t:=t) (p:=p)
 have hk:∀ e H,stratE t p s=e→resK Q (.int .i64 e) H:=fun e H h1=>by rw [h1] at hq; exact res_int hq
 refine conN (gn:=fnT Tryz.f24) (by kernel_rfl) conU5_ok (inl:=[]) (LT:=tstrat_live) (NT:=tstrat_nils) rfl fun n0=>?_
 rw [tstrat_E]
 refine ⟨hg,?_⟩
 by_cases hl:s.length=(infosL t p).length
 · refine bif_not (bif_pos (by omega) ?_)
   refine loopN (f:=24) (gn:=fnT Tryz.f24) (n0:=n0) (r:=5) (by kernel_rfl) conU5_ok (inl:=[]) (LT:=tstrat_live) (NT:=tstrat_nils) (K:=resK Q) (fun i:Nat=>tstrat_s5_0 t p s (infosL t p) (widthsL t p) (s.length:Int) (i:Int)) (fun i=>s.length - i) (fun i=>i≤s.length∧chsE t p s i=0) (fun i hp ih=>?_) 0 ⟨Nat.zero_le _,rfl⟩
   obtain ⟨hi0,hz⟩:=hp
   rw [tstrat_s5_0_E]
   by_cases hi:i<s.length
   · refine bif_pos (by omega) (bif_in hi (bif_in (by omega) ?_))
     rw [Int.toNat_natCast,wrS hi (by omega)]
     have hx:=hs.2 _ (getD_mem (d:=ch0) hi)
     by_cases c1:(s.getD i ch0).1=(infosL t p).getD i 0
     · refine bif_not (bif_pos c1 (bif_in (by omega) ?_))
       rw [cond_false,widths_at (by omega)]
       by_cases c2:(s.getD i ch0).2.length=widthOf t p ((infosL t p).getD i 0)
       · refine bif_not (bif_pos (congrArg (fun n:Nat=>(n:Int)) c2) ⟨hx,?_⟩)
         have e:=chE_odds (t:=t) (p:=p) c1 c2
         by_cases c3:oddsE (s.getD i ch0).2=0
         · exact bif_not (bif_pos c3 (ih (i+1) ⟨by omega,chsE_succ hz (e.trans c3)⟩ (by omega)))
         · exact bif_not (bif_neg c3 (hk _ _ ((strat_bad hl hi hz (by rw [e]; exact c3)).trans e)))
       · have e:=chE_width (t:=t) (p:=p) c2
         exact bif_not (bif_neg (fun h=>c2 (Int.ofNat_inj.1 h)) (hk _ _ ((strat_bad hl hi hz (by rw [e]; decide)).trans e)))
     · have e:=chE_info (t:=t) (p:=p) c1
       exact bif_not (bif_neg c1 (hk _ _ ((strat_bad hl hi hz (by rw [e]; decide)).trans e)))
   · have hii:i=s.length:=by omega
     subst hii
     exact bif_neg (by omega) (hk _ _ ((strat_of hl).trans hz))
 · exact bif_not (bif_neg (by omega) (hk _ _ (strat_len hl)))
theorem seal_imm1 {e:ETy} {l:List e.D} {k:IntKind} {n:Int} {objs:List HObj}:sealV objs (.tup [.imm e l, .int k n]) (.tup [.imm e l, .int k n]):=⟨_,rfl, .cons rfl (.cons rfl .nil)⟩
def outM (e:ETy) (l:List e.D) (n:Int):Res:=fun v o=>v = .tup [.imm e l, .int .i64 n]∨(l=[]∧v = .tup [.nils, .int .i64 n])
theorem outM_seal {e:ETy} {l:List e.D} {n:Int} {P:Program} {g:FuncId} {args:List AV} {Q:Res} (h:Con P g args (outM e l n)) (hQ:Q (.tup [.imm e l, .int .i64 n]) []):Con P g args Q :=
 h.sealTo fun v o hv=>by
  rcases hv with rfl | ⟨rfl,rfl⟩
  · exact ⟨_,seal_imm1,hQ⟩
  · exact ⟨_,seal_nil1,hQ⟩
theorem conU0_ok : ∀ g xs Q,conU0 g xs Q→Con Tryz.prog g xs Q:=table_ok fun p hp=>by
 simp only [List.mem_cons,List.not_mem_nil,or_false] at hp
 rcases hp with rfl
 exact c1_ok fun _ _ h=>out_conV h
theorem ttold_con {zs:List QT} (h:outVS zs Q):Con Tryz.prog 55 [.imm eQ zs] Q:=by
 obtain ⟨n,g,h1,h2,h3,hq⟩:=h
 refine conN (gn:=fnT Tryz.f55) (by kernel_rfl) conU0_ok (inl:=[]) (LT:=ttold_live) (NT:=ttold_nils) rfl fun n0=>?_
 rw [ttold_E]
 exact ⟨n,g,h1,h2,h3,res_plain hq rfl rfl⟩
end
theorem conU6_ok : ∀ g xs Q,conU6 g xs Q→Con Tryz.prog g xs Q:=table_ok fun p hp=>by
 simp only [List.mem_cons,List.not_mem_nil,or_false] at hp
 rcases hp with rfl | rfl | rfl | rfl | rfl | rfl | rfl
 · exact c2_ok fun _ _ _ h=>trec_con h
 · exact c3_ok fun _ _ _ _ h=>tstrat_con h
 · exact c2_ok fun _ _ _ h=>tlist_con h
 · exact c2_ok fun _ _ _ h=>tweights_con h
 · exact c1_ok fun _ _ h=>ttold_con h
 · exact c1_ok fun _ _ h=>out_conV h
 · exact c1_ok fun _ _ h=>lweight_con h
theorem conU7_ok : ∀ g xs Q,conU7 g xs Q→Con Tryz.prog g xs Q:=table_ok fun p hp=>by
 simp only [List.mem_cons,List.not_mem_nil,or_false] at hp
 rcases hp with rfl
 exact c2_ok fun _ _ _ h=>imild_con h
theorem conU8_ok : ∀ g xs Q,conU8 g xs Q→Con Tryz.prog g xs Q:=table_ok fun p hp=>by
 simp only [List.mem_cons,List.not_mem_nil,or_false] at hp
 rcases hp with rfl
 exact c2_ok fun _ _ _ h=>itame_con h
section
variable {t:List Nd} {p f c:Int} {s:List Ch} {Q:Res}
theorem planE_rec (h:recE t p≠0):planE t p s=recE t p:=if_pos h
theorem planE_str (h:recE t p=0) (h2:stratE t p s≠0):planE t p s=stratE t p s:=by unfold planE; rw [if_neg (fun hc=>hc h),if_pos h2]
theorem planE_of (h:recE t p=0) (h2:stratE t p s=0):planE t p s=vecE (seqL t p).length (wF (seqL t p) s):=by unfold planE; rw [if_neg (fun hc=>hc h),if_neg (fun hc=>hc h2)]
theorem planV_bad (h:planE t p s≠0):planV t p s=[]:=if_neg h
theorem tplan_con (h:planS t p s Q):Con Tryz.prog 22 [.imm eNode t, .int .i64 p, .imm eCh s] Q:=by
 obtain ⟨⟨ht,hs⟩,hq⟩:=h
 refine outM_seal (e:=eS) (l:=planV t p s) (n:=planE t p s) ?_ hq
 have bad:∀ (e:Int) H,planE t p s=e→e≠0→resK (outM eS (planV t p s) (planE t p s)) (.tup [.nils, .int .i64 e]) H:=fun e H h1 h2=>by
  rw [h1]
  exact res_plain (Or.inr ⟨planV_bad (by rw [h1]; exact h2),rfl⟩) rfl rfl
 refine conN (gn:=fnT Tryz.f22) (by kernel_rfl) conU6_ok (inl:=[]) (LT:=tplan_live) (NT:=tplan_nils) rfl fun n0=>?_
 rw [tplan_E]
 refine ⟨ht,?_⟩
 by_cases h1:recE t p=0
 · obtain ⟨h2,h3⟩:=recE_zero h1
   have hg:=(plE_zero h2).1
   refine bif_not (bif_pos h1 ⟨⟨hg,hs⟩,?_⟩)
   by_cases h4:stratE t p s=0
   · have W:=w_ok hg h3 (strat_ok h4)
     have hE:=planE_of h1 h4
     have hb:=W.2.1
     refine bif_not (bif_pos h4 ⟨⟨hg,h3⟩,W,fun zs hz=>⟨_,_,hz,by unfold TxN; omega,fun i hi=>(W.sz hi).mono (by decide),res_plain (Or.inl ?_) rfl rfl⟩⟩)
     rw [hE]
     have hV:planV t p s=vecV (seqL t p).length (wF (seqL t p) s):=by unfold planV vecV; rw [hE]
     rw [hV]
   · exact bif_not (bif_neg h4 (bad _ _ (planE_str h1 h4) h4))
 · exact bif_not (bif_neg h1 (bad _ _ (planE_rec h1) h1))
theorem lcweight_con (h:cwtS s Q):Con Tryz.prog 20 [.imm eCh s] Q:=by
 obtain ⟨ht,hq⟩:=h
 have hl:=ht.1
 refine conN (gn:=fnT Tryz.f20) (by kernel_rfl) conU6_ok (inl:=[]) (LT:=lcweight_live) (NT:=lcweight_nils) rfl fun n0=>?_
 rw [lcweight_E]
 exact loopN (f:=20) (gn:=fnT Tryz.f20) (n0:=n0) (r:=3) (by kernel_rfl) conU6_ok (inl:=[]) (LT:=lcweight_live) (NT:=lcweight_nils) (K:=resK Q) (fun y:Int × Nat=>lcweight_s3_0 s y.1 (s.length:Int) (y.2:Int)) (fun y=>s.length - y.2) (fun y=>y.2≤s.length) (fun y hp ih=>by
  obtain ⟨n,x⟩:=y
  simp only at hp
  show execN _ _ _ _ _ _ (lcweight_s3_0 s n (s.length:Int) (x:Int))
  rw [lcweight_s3_0_E]
  by_cases hx:x<s.length
  · have hr:=(ht.2 _ (getD_mem (d:=ch0) hx)).1
    refine bif_pos (by omega) (bif_in hx ⟨⟨by simp,fun r hr2=>?_⟩,fun m=>?_⟩)
    · rw [List.mem_singleton.1 hr2]; exact hr
    · rw [wrS hx (by omega)]
      exact ih (_,x+1) (by show x+1≤s.length; omega) (by show s.length - (x+1)<s.length - x; omega)
  · exact bif_neg (by omega) (res_int (hq _))) (0,0) (Nat.zero_le _)
theorem lmild_con (h:mildS t Q):Con Tryz.prog 21 [.imm eNode t] Q:=by
 obtain ⟨ht,hq⟩:=h
 have hl:=ht.1
 have hk:∀ e H,mildB t=e→resK Q (.bool e) H:=fun e H h1=>by rw [h1] at hq; exact res_bool hq
 unfold mildB at hk
 refine conN (gn:=fnT Tryz.f21) (by kernel_rfl) conU7_ok (inl:=[52]) (LT:=lmild_live) (NT:=lmild_nils) rfl fun n0=>?_
 rw [lmild_E]
 refine loopN (f:=21) (gn:=fnT Tryz.f21) (n0:=n0) (r:=2) (by kernel_rfl) conU7_ok (inl:=[52]) (LT:=lmild_live) (NT:=lmild_nils) (K:=resK Q) (fun x:Nat=>lmild_s2_0 t (t.length:Int) (x:Int)) (fun x=>t.length - x) (fun x=>x≤t.length∧t.all mildN=(t.drop x).all mildN) (fun x hp ih=>?_) 0 ⟨Nat.zero_le _,by rw [List.drop_zero]⟩
 obtain ⟨hx0,he⟩:=hp
 rw [lmild_s2_0_E]
 by_cases hx:x<t.length
 · have hX:=(ht.2 _ (getD_mem (d:=nd0) hx)).2.1.1
   rw [drop_get (d:=nd0) hx,List.all_cons] at he
   refine bif_pos (by omega) (bif_in hx ?_)
   rw [Int.toNat_natCast,wrS hx (by omega)]
   have e0:mildN (t.getD x nd0)=(decide ((t.getD x nd0).2.2.2.2.2.size≤12) && decide (longI 12 (t.getD x nd0).2.2.2.2.1<0)):=rfl
   by_cases c1:12<(t.getD x nd0).2.2.2.2.2.size
   · refine bif_pos (by show ((t.getD x nd0).2.2.2.2.2.size:Int) > 12; omega) (hk _ _ ?_)
     rw [he,e0,decide_eq_false (by omega)]; rfl
   · refine bif_neg (by show ¬ ((t.getD x nd0).2.2.2.2.2.size:Int) > 12; omega) ⟨hX,?_⟩
     rw [cond_false]
     by_cases c2:longI 12 (t.getD x nd0).2.2.2.2.1<0
     · refine bif_neg (by show ¬ longI 12 (t.getD x nd0).2.2.2.2.1 ≥ 0; omega) (ih (x+1) ⟨by omega,?_⟩ (by omega))
       rw [he,e0,decide_eq_true (by omega),decide_eq_true c2]; rfl
     · refine bif_pos (by show longI 12 (t.getD x nd0).2.2.2.2.1 ≥ 0; omega) (hk _ _ ?_)
       rw [he,e0,decide_eq_false c2,Bool.and_false]; rfl
 · rw [List.drop_eq_nil_of_le (by omega)] at he
   refine bif_neg (by omega) (hk _ _ ?_)
   rw [he]
   show (true && decide (t.length≤40))=_
   rw [Bool.true_and]
   exact decide_eq_decide.2 (by omega)
theorem ltame_con {ss:List (List Ch)} (h:tameS ss Q):Con Tryz.prog 25 [.imm (eL eCh) ss] Q:=by
 obtain ⟨⟨hl,hs⟩,hq⟩:=h
 have hk:∀ e H,tameB ss=e→resK Q (.bool e) H:=fun e H h1=>by rw [h1] at hq; exact res_bool hq
 unfold tameB at hk
 refine conN (gn:=fnT Tryz.f25) (by kernel_rfl) conU8_ok (inl:=[52]) (LT:=ltame_live) (NT:=ltame_nils) rfl fun n0=>?_
 rw [ltame_E]
 refine loopN (f:=25) (gn:=fnT Tryz.f25) (n0:=n0) (r:=2) (by kernel_rfl) conU8_ok (inl:=[52]) (LT:=ltame_live) (NT:=ltame_nils) (K:=resK Q) (fun x:Nat=>ltame_s2_0 ss (ss.length:Int) (x:Int)) (fun x=>ss.length - x) (fun x=>x≤ss.length∧(ss.all fun s=>s.all fun c=>decide (longI 12 c.2<0))=((ss.drop x).all fun s=>s.all fun c=>decide (longI 12 c.2<0))) (fun x hp ih=>?_) 0 ⟨Nat.zero_le _,by rw [List.drop_zero]⟩
 obtain ⟨hx0,he⟩:=hp
 rw [ltame_s2_0_E]
 by_cases hx:x<ss.length
 · have hX:=hs _ (getD_mem (d:=[]) hx)
   rw [drop_get (d:=[]) hx,List.all_cons] at he
   refine bif_pos (by omega) (bif_in hx ?_)
   rw [Int.toNat_natCast]
   generalize ss.getD x []=s at *
   have hsl:=hX.1
   refine loopN (f:=25) (gn:=fnT Tryz.f25) (n0:=n0) (r:=5) (by kernel_rfl) conU8_ok (inl:=[52]) (LT:=ltame_live) (NT:=ltame_nils) (K:=resK Q) (fun y:Nat=>ltame_s5_0 ss (ss.length:Int) (x:Int) s (s.length:Int) (y:Int)) (fun y=>s.length - y) (fun y=>y≤s.length∧(s.all fun c=>decide (longI 12 c.2<0))=((s.drop y).all fun c=>decide (longI 12 c.2<0))) (fun y hp2 ih2=>?_) 0 ⟨Nat.zero_le _,by rw [List.drop_zero]⟩
   obtain ⟨hy0,he2⟩:=hp2
   rw [ltame_s5_0_E]
   by_cases hy:y<s.length
   · have hY:=(hX.2 _ (getD_mem (d:=ch0) hy)).1
     rw [drop_get (d:=ch0) hy,List.all_cons] at he2
     refine bif_pos (by omega) (bif_in hy ⟨by rw [Int.toNat_natCast]; exact hY,?_⟩)
     rw [Int.toNat_natCast,wrS hy (by omega)]
     by_cases c2:longI 12 (s.getD y ch0).2<0
     · refine bif_neg (by show ¬ longI 12 (s.getD y ch0).2 ≥ 0; omega) (ih2 (y+1) ⟨by omega,?_⟩ (by omega))
       rw [he2,decide_eq_true c2]; rfl
     · refine bif_pos (by show longI 12 (s.getD y ch0).2 ≥ 0; omega) (hk _ _ ?_)
       rw [he,he2,decide_eq_false c2]; rfl
   · rw [List.drop_eq_nil_of_le (by omega)] at he2
     refine bif_neg (by omega) ?_
     rw [wrS hx (by omega)]
     exact ih (x+1) ⟨by omega,by rw [he,he2]; rfl⟩ (by omega)
 · rw [List.drop_eq_nil_of_le (by omega)] at he
   exact bif_neg (by omega) (hk _ _ he)
theorem eqv_con {a b:List ByteArray} (h:sameV a b Q):Con Tryz.prog 27 [.imm eS a, .imm eS b] Q:=by
 obtain ⟨hl,hq⟩:=h
 unfold SmA at hl
 have hk:∀ e H,decide (a=b)=e→resK Q (.bool e) H:=fun e H h1=>by rw [h1] at hq; exact res_bool hq
 refine conN (gn:=fnT Tryz.f27) (by kernel_rfl) con0_ok (inl:=[]) (LT:=eqv_live) (NT:=eqv_nils) rfl fun n0=>?_
 rw [eqv_E]
 by_cases h0:a.length=b.length
 · refine bif_not (bif_pos (by omega) ?_)
   refine loopN (f:=27) (gn:=fnT Tryz.f27) (n0:=n0) (r:=4) (by kernel_rfl) con0_ok (inl:=[]) (LT:=eqv_live) (NT:=eqv_nils) (K:=resK Q) (fun x:Nat=>eqv_s4_0 a b (a.length:Int) (x:Int)) (fun x=>a.length - x) (fun x=>x≤a.length∧∀ j,j<x→a.getD j b0=b.getD j b0) (fun x hp ih=>?_) 0 ⟨Nat.zero_le _,fun j hj=>absurd hj (Nat.not_lt_zero _)⟩
   obtain ⟨hx0,he⟩:=hp
   rw [eqv_s4_0_E]
   by_cases hx:x<a.length
   · refine bif_pos (by omega) (bif_in hx (bif_in (by omega) ?_))
     rw [Int.toNat_natCast,wrS hx (by omega)]
     by_cases hab:a.getD x b0=b.getD x b0
     · refine bif_not (bif_eqL (by rw [hab]) (ih (x+1) ⟨by omega,fun j hj=>?_⟩ (by omega)))
       by_cases hjx:j=x
       · rw [hjx]; exact hab
       · exact he j (by omega)
     · exact bif_not (bif_neL (ne_toList hab) (hk _ _ (decide_eq_false fun hc=>hab (by rw [hc]))))
   · exact bif_neg (by omega) (hk _ _ (decide_eq_true (getD_ext h0 fun j hj=>he j (by omega))))
 · exact bif_not (bif_neg (by omega) (hk _ _ (decide_eq_false fun hc=>h0 (by rw [hc]))))
end
end
end Go.Proofs.YtnnkjpcipldnfaaGreatDoor.Lib
end
section
set_option linter.unusedSimpArgs false
set_option linter.unusedVariables false
namespace Go.Proofs.YtnnkjpcipldnfaaGreatDoor.Mach
open Go Go.Proofs.YtnnkjpcipldnfaaGreatDoor Go.Proofs.YtnnkjpcipldnfaaGreatDoor.Lib
section
set_option maxRecDepth 1000000
def wplans_live : List (Nat × List Nat):=[(20,[2,7,8,12,73,74,75]),(24,[2,7,8,12,15,73,74,75,79,80,81]),(27,[2,7,8,12,15,17,73,74,75,79,80,81,85,86,87])]
def wplans_nils : List (Nat × ETy):=[(7,eS),(12,eS),(73,ETy.one (CTy.slice eP)),(79,eP),(85,eCh)]
noncomputable def wplans_s20_0 (t:List Nd) (p:Int) (s:List (Int × List ByteArray)) (x0:List ByteArray) (x1:Int) (x2:List (List (Int × Int))) (x3 x4:Int) (x5:List ByteArray):St:=stOf 118 [(2,AV.imm eCh s),(7,AV.imm eS x0),(8,AV.int .i64 x1),(12,AV.own 0),(73,AV.imm (ETy.one (CTy.slice eP)) x2),(74,AV.int .i64 x3),(75,AV.int .i64 x4)] [HObj.typed eS x5 false]
noncomputable def wplans_s24_0 (t:List Nd) (p:Int) (s:List (Int × List ByteArray)) (x0:List ByteArray) (x1:Int) (x2:ByteArray) (x3:List (List (Int × Int))) (x4 x5:Int) (x6:List (Int × Int)) (x7 x8:Int) (x9:List ByteArray):St:=stOf 118 [(2,AV.imm eCh s),(7,AV.imm eS x0),(8,AV.int .i64 x1),(12,AV.own 0),(15,AV.str x2),(73,AV.imm (ETy.one (CTy.slice eP)) x3),(74,AV.int .i64 x4),(75,AV.int .i64 x5),(79,AV.imm eP x6),(80,AV.int .i64 x7),(81,AV.int .i64 x8)] [HObj.typed eS x9 false]
noncomputable def wplans_s27_0 (t:List Nd) (p:Int) (s:List (Int × List ByteArray)) (x0:List ByteArray) (x1:Int) (x2:ByteArray) (x3:List (List (Int × Int))) (x4 x5:Int) (x6:List (Int × Int)) (x7 x8 x9 x10:Int) (x11:List ByteArray) (x12:List Int):St:=stOf 118 [(2,AV.imm eCh s),(7,AV.imm eS x0),(8,AV.int .i64 x1),(12,AV.own 0),(15,AV.str x2),(17,AV.parr 1),(73,AV.imm (ETy.one (CTy.slice eP)) x3),(74,AV.int .i64 x4),(75,AV.int .i64 x5),(79,AV.imm eP x6),(80,AV.int .i64 x7),(81,AV.int .i64 x8),(85,AV.imm eCh s),(86,AV.int .i64 x9),(87,AV.int .i64 x10)] [HObj.typed eS x11 false,HObj.typed eI x12 false]
theorem wplans_E (t:List Nd) (p:Int) (s:List (Int × List ByteArray)) (n0:Nat) (K:AV→List HObj→Prop) :
 execN tab (mixE tab conU9 [] 400) (maskN wplans_live wplans_nils (GoodL Tryz.prog n0 5 K)) (finK tab (fnT Tryz.f5).res K) 400 [.code (fnT Tryz.f5).body] ⟨initEnv (fnT Tryz.f5).n [AV.imm eNode t,AV.int .i64 p,AV.imm eCh s],[]⟩ =
 (TxT t∧∀ (n:Int),TxC s∧∀ (n_1:Int),bif decide (IntKind.i64.wrap (n+n_1) > 6000) then K (AV.bool true) [] else TxT t∧bif !mildB t then K (AV.bool true) [] else (TxT t∧TxC s)∧TxT t∧bif decide (recE t p=0) then (GoodT t∧TxC s)∧(GoodT t∧TxC s)∧bif !decide (stratE t p s=stratE t p s) then K (AV.bool false) [] else bif !decide (stratE t p s=0) then bif decide (planE t p s=stratE t p s) then K (AV.bool (bif true then decide ((↑(planV t p s).length:Int)=0) else false)) [] else K (AV.bool false) [] else ([s].length≤1000000∧∀ (s_1:List Ch),s_1∈[s]→TxC s_1)∧bif !tameB [s] then K (AV.bool true) [HObj.typed (ETy.one (CTy.slice eCh)) [s] false] else (GoodT t∧remB t p=true)∧GoodL Tryz.prog n0 5 K (headAt (fnT Tryz.f5) 20) (wplans_s20_0 t p s (planV t p s) (planE t p s) (waysL t p) (↑(waysL t p).length:Int) 0 []) else bif !decide (recE t p=0) then bif decide (planE t p s=recE t p) then K (AV.bool (bif true then decide ((↑(planV t p s).length:Int)=0) else false)) [] else K (AV.bool false) [] else ([s].length≤1000000∧∀ (s_1:List Ch),s_1∈[s]→TxC s_1)∧bif !tameB [s] then K (AV.bool true) [HObj.typed (ETy.one (CTy.slice eCh)) [s] false] else (GoodT t∧remB t p=true)∧GoodL Tryz.prog n0 5 K (headAt (fnT Tryz.f5) 20) (wplans_s20_0 t p s (planV t p s) (planE t p s) (waysL t p) (↑(waysL t p).length:Int) 0 [])):=by kernel_rfl
theorem wplans_s20_0_E (t:List Nd) (p:Int) (s:List (Int × List ByteArray)) (x0:List ByteArray) (x1:Int) (x2:List (List (Int × Int))) (x3 x4:Int) (x5:List ByteArray) (n0:Nat) (K:AV→List HObj→Prop) :
 execN tab (mixE tab conU9 [] 400) (maskN wplans_live wplans_nils (GoodL Tryz.prog n0 5 K)) (finK tab (fnT Tryz.f5).res K) 400 (roundAt (fnT Tryz.f5) 20) (wplans_s20_0 t p s x0 x1 x2 x3 x4 x5) =
 (bif decide (x4<x3) then bif decide (0≤x4) && decide (x4<(↑x2.length:Int)) then GoodL Tryz.prog n0 5 K (headAt (fnT Tryz.f5) 24) (wplans_s24_0 t p s x0 x1 (ByteArray.mk #[49]) x2 x3 x4 (x2.getD x4.toNat []) (↑(List.length (x2.getD x4.toNat [])):Int) 0 x5) else False else bif decide (x1=0) then SmA x0∧K (AV.bool (bif true then decide (x0=x5) else false)) [HObj.typed eS x5 false] else K (AV.bool false) [HObj.typed eS x5 false]):=by kernel_rfl
theorem wplans_s24_0_E (t:List Nd) (p:Int) (s:List (Int × List ByteArray)) (x0:List ByteArray) (x1:Int) (x2:ByteArray) (x3:List (List (Int × Int))) (x4 x5:Int) (x6:List (Int × Int)) (x7 x8:Int) (x9:List ByteArray) (n0:Nat) (K:AV→List HObj→Prop) :
 execN tab (mixE tab conU9 [] 400) (maskN wplans_live wplans_nils (GoodL Tryz.prog n0 5 K)) (finK tab (fnT Tryz.f5).res K) 400 (roundAt (fnT Tryz.f5) 24) (wplans_s24_0 t p s x0 x1 x2 x3 x4 x5 x6 x7 x8 x9) =
 (bif decide (x8<x7) then bif decide (0≤x8) && decide (x8<(↑x6.length:Int)) then GoodL Tryz.prog n0 5 K (headAt (fnT Tryz.f5) 27) (wplans_s27_0 t p s x0 x1 x2 x3 x4 x5 x6 x7 x8 (↑s.length:Int) 0 x9 [(x6.getD x8.toNat (0,0)).1,(x6.getD x8.toNat (0,0)).2]) else False else bif bif (x9.length+[x2].length).ble 9223372036854775807 then ((x9.length+[x2].length) * 16).ble 140737488355328 else false then GoodL Tryz.prog n0 5 K (headAt (fnT Tryz.f5) 20) (wplans_s20_0 t p s x0 x1 x3 x4 (IntKind.i64.wrap (x5+1)) (x9 ++ [x2])) else False):=by kernel_rfl
theorem wplans_s27_0_E (t:List Nd) (p:Int) (s:List (Int × List ByteArray)) (x0:List ByteArray) (x1:Int) (x2:ByteArray) (x3:List (List (Int × Int))) (x4 x5:Int) (x6:List (Int × Int)) (x7 x8 x9 x10:Int) (x11:List ByteArray) (x12:List Int) (n0:Nat) (K:AV→List HObj→Prop) :
 execN tab (mixE tab conU9 [] 400) (maskN wplans_live wplans_nils (GoodL Tryz.prog n0 5 K)) (finK tab (fnT Tryz.f5).res K) 400 (roundAt (fnT Tryz.f5) 27) (wplans_s27_0 t p s x0 x1 x2 x3 x4 x5 x6 x7 x8 x9 x10 x11 x12) =
 (bif decide (x10<x9) then bif decide (0≤x10) && decide (x10<(↑s.length:Int)) then bif Nat.beq 2 x12.length && decide (0<(↑x12.length:Int)) then bif decide ((s.getD x10.toNat (0,[])).1=x12.getD 0 0) then bif Nat.beq 2 x12.length && decide (1<(↑x12.length:Int)) then bif decide (0≤x12.getD 1 0) && decide (x12.getD 1 0<(↑(List.length (s.getD x10.toNat (0,[])).2):Int)) then ∃ x y,x2=Sem.ratText x∧List.getD (s.getD x10.toNat (0,[])).2 (Int.toNat (x12.getD 1 0)) ByteArray.empty=Sem.ratText y∧Sz 4000000000 x∧Sz 4000000000 y∧GoodL Tryz.prog n0 5 K (headAt (fnT Tryz.f5) 27) (wplans_s27_0 t p s x0 x1 (Sem.ratText (x * y)) x3 x4 x5 x6 x7 x8 x9 (IntKind.i64.wrap (x10+1)) x11 x12) else False else False else GoodL Tryz.prog n0 5 K (headAt (fnT Tryz.f5) 27) (wplans_s27_0 t p s x0 x1 x2 x3 x4 x5 x6 x7 x8 x9 (IntKind.i64.wrap (x10+1)) x11 x12) else False else False else GoodL Tryz.prog n0 5 K (headAt (fnT Tryz.f5) 24) (wplans_s24_0 t p s x0 x1 x2 x3 x4 x5 x6 x7 (IntKind.i64.wrap (x8+1)) x11)):=by kernel_rfl
end
section
def clone0_k : Known:=⟨121,[.imm eP []], .own 0,[.typed eP [] false]⟩
theorem clone0_ok : KnownOk Tryz.prog clone0_k :=
 (sclone_con (l:=[]) (Q:=fun v o=>(v = .nils∧o=[])∨(v = .own 0∧o=[.typed eP [] false])) ⟨Nat.zero_le _,fun h=>absurd rfl h,fun _=>⟨.inl ⟨rfl,rfl⟩, .inr ⟨rfl,rfl⟩⟩⟩).lift (e:=eP) fun v o h=>by
  rcases h with ⟨rfl,rfl⟩ | ⟨rfl,rfl⟩
  · exact .inr ⟨rfl,rfl,rfl,rfl⟩
  · exact .inl ⟨rfl,rfl⟩
def ku_C : List Known:=[clone0_k]
theorem ku_C_ok : ∀ x∈ku_C,KnownOk Tryz.prog x:=fun x hx=>by
 simp only [ku_C,List.mem_cons,List.not_mem_nil,or_false] at hx
 rcases hx with rfl
 exact clone0_ok
end
section
def kuo0_a : List AV:=[.imm (.one .str) [⟨#[49,47,50]⟩,⟨#[49,47,50]⟩]]
def kuo0_v : AV := .int .i64 0
def kuo0_w : AV := .int .i64 0
def kuo0_o : List HObj:=[]
def kuo0_k : Known:=⟨60,kuo0_a,kuo0_v,kuo0_o⟩
def kuo0_A : Prop:=(kuo0_w,kuo0_o)=(kuo0_w,kuo0_o)
theorem kuo0_A_ok : kuo0_A:=rfl
def kuo0_G : Prop:=comes tab [] 1500 60 kuo0_a [] kuo0_w kuo0_o
set_option maxRecDepth 1000000 in
theorem kuo0_c : Hold kuo0_G:=⟨Eq.mpr (by kernel_rfl:kuo0_G=kuo0_A) kuo0_A_ok⟩
theorem kuo0_ok : KnownOk Tryz.prog kuo0_k :=
 known_of3 (L:=[]) (k:=1500) (g:=60) (args:=kuo0_a) (ids:=[]) (v:=kuo0_v) (v0:=kuo0_w) (objs:=kuo0_o) (G:=kuo0_G) (fun x hx=>by cases hx) (by kernel_rfl) kuo0_c (by kernel_rfl) (by kernel_rfl) (by kernel_rfl) (by kernel_rfl) (by kernel_rfl)
def kux0_a : List AV:=[.imm (.more (.int .i64) (.more (.int .i64) (.more (.int .i64) (.more (.slice (.one (.int .i64))) (.more (.slice (.one .str)) (.one .str)))))) [((2:Int),(0:Int),(0:Int),[(1:Int),(2:Int)],[],⟨#[]⟩),((2:Int),(1:Int),(3:Int),[(3:Int),(4:Int)],[],⟨#[]⟩),((2:Int),(1:Int),(3:Int),[(5:Int),(6:Int)],[],⟨#[]⟩),((0:Int),(0:Int),(0:Int),[],[],⟨#[45,49]⟩),((0:Int),(0:Int),(0:Int),[],[],⟨#[49]⟩),((0:Int),(0:Int),(0:Int),[],[],⟨#[49]⟩),((0:Int),(0:Int),(0:Int),[],[],⟨#[45,49]⟩)]]
def kux0_v : AV := .int .i64 0
def kux0_w : AV := .int .i64 0
def kux0_o : List HObj:=[]
def kux0_k : Known:=⟨74,kux0_a,kux0_v,kux0_o⟩
def kux0_A : Prop:=(kux0_w,kux0_o)=(kux0_w,kux0_o)
theorem kux0_A_ok : kux0_A:=rfl
def kux0_G : Prop:=comes tab [] 1500 74 kux0_a [] kux0_w kux0_o
set_option maxRecDepth 1000000 in
theorem kux0_c : Hold kux0_G:=⟨Eq.mpr (by kernel_rfl:kux0_G=kux0_A) kux0_A_ok⟩
theorem kux0_ok : KnownOk Tryz.prog kux0_k :=
 known_of3 (L:=[]) (k:=1500) (g:=74) (args:=kux0_a) (ids:=[]) (v:=kux0_v) (v0:=kux0_w) (objs:=kux0_o) (G:=kux0_G) (fun x hx=>by cases hx) (by kernel_rfl) kux0_c (by kernel_rfl) (by kernel_rfl) (by kernel_rfl) (by kernel_rfl) (by kernel_rfl)
end
section
def ku_D : List Known:=[clone0_k,kuo0_k,kux0_k]
theorem ku_D_ok : ∀ x∈ku_D,KnownOk Tryz.prog x:=fun x hx=>by
 simp only [ku_D,List.mem_cons,List.not_mem_nil,or_false] at hx
 rcases hx with rfl | rfl | rfl
 · exact clone0_ok
 · exact kuo0_ok
 · exact kux0_ok
end
section
def kuf0_a : List AV:=[.imm (.more (.int .i64) (.more (.int .i64) (.more (.int .i64) (.more (.slice (.one (.int .i64))) (.more (.slice (.one .str)) (.one .str)))))) [((2:Int),(0:Int),(0:Int),[(1:Int),(2:Int)],[],⟨#[]⟩),((2:Int),(1:Int),(3:Int),[(3:Int),(4:Int)],[],⟨#[]⟩),((2:Int),(1:Int),(3:Int),[(5:Int),(6:Int)],[],⟨#[]⟩),((0:Int),(0:Int),(0:Int),[],[],⟨#[45,49]⟩),((0:Int),(0:Int),(0:Int),[],[],⟨#[49]⟩),((0:Int),(0:Int),(0:Int),[],[],⟨#[49]⟩),((0:Int),(0:Int),(0:Int),[],[],⟨#[45,49]⟩)], .int .i64 (1)]
def kuf0_v : AV := .int .i64 0
def kuf0_w : AV := .int .i64 0
def kuf0_o : List HObj:=[]
def kuf0_k : Known:=⟨49,kuf0_a,kuf0_v,kuf0_o⟩
def kuf0_A : Prop:=(kuf0_w,kuf0_o)=(kuf0_w,kuf0_o)
theorem kuf0_A_ok : kuf0_A:=rfl
def kuf0_G : Prop:=comes tab ku_D 1500 49 kuf0_a [] kuf0_w kuf0_o
set_option maxRecDepth 1000000 in
theorem kuf0_c : Hold kuf0_G:=⟨Eq.mpr (by kernel_rfl:kuf0_G=((((kuf0_A∧kuf0_A)∧(kuf0_A∧kuf0_A))∧((kuf0_A∧kuf0_A)∧(kuf0_A∧kuf0_A)))∧(((kuf0_A∧kuf0_A)∧(kuf0_A∧kuf0_A))∧((kuf0_A∧kuf0_A)∧(kuf0_A∧kuf0_A))))) ⟨⟨⟨⟨kuf0_A_ok,kuf0_A_ok⟩,⟨kuf0_A_ok,kuf0_A_ok⟩⟩,⟨⟨kuf0_A_ok,kuf0_A_ok⟩,⟨kuf0_A_ok,kuf0_A_ok⟩⟩⟩,⟨⟨⟨kuf0_A_ok,kuf0_A_ok⟩,⟨kuf0_A_ok,kuf0_A_ok⟩⟩,⟨⟨kuf0_A_ok,kuf0_A_ok⟩,⟨kuf0_A_ok,kuf0_A_ok⟩⟩⟩⟩⟩
theorem kuf0_ok : KnownOk Tryz.prog kuf0_k :=
 known_of3 (L:=ku_D) (k:=1500) (g:=49) (args:=kuf0_a) (ids:=[]) (v:=kuf0_v) (v0:=kuf0_w) (objs:=kuf0_o) (G:=kuf0_G) ku_D_ok (by kernel_rfl) kuf0_c (by kernel_rfl) (by kernel_rfl) (by kernel_rfl) (by kernel_rfl) (by kernel_rfl)
def kul0_a : List AV:=[.imm (.more (.int .i64) (.more (.int .i64) (.more (.int .i64) (.more (.slice (.one (.int .i64))) (.more (.slice (.one .str)) (.one .str)))))) [((2:Int),(0:Int),(0:Int),[(1:Int),(2:Int)],[],⟨#[]⟩),((2:Int),(1:Int),(3:Int),[(3:Int),(4:Int)],[],⟨#[]⟩),((2:Int),(1:Int),(3:Int),[(5:Int),(6:Int)],[],⟨#[]⟩),((0:Int),(0:Int),(0:Int),[],[],⟨#[45,49]⟩),((0:Int),(0:Int),(0:Int),[],[],⟨#[49]⟩),((0:Int),(0:Int),(0:Int),[],[],⟨#[49]⟩),((0:Int),(0:Int),(0:Int),[],[],⟨#[45,49]⟩)], .int .i64 (1)]
def kul0_v : AV := .tup [.own 0, .own 1]
def kul0_w : AV := .tup [.own 8, .own 1]
def kul0_o : List HObj:=[.typed (.more (.int .i64) (.more (.int .i64) (.one (.int .i64)))) [(((-1):Int),(((-1):Int),((-1):Int))),((3:Int),((0:Int),(0:Int))),((3:Int),((1:Int),(0:Int)))] false, .typed (.one (.int .i64)) [(0:Int),(0:Int),(0:Int),(1:Int),(2:Int),(1:Int),(2:Int)] false]
def kul0_k : Known:=⟨50,kul0_a,kul0_v,kul0_o⟩
def kul0_A : Prop:=(kul0_w,kul0_o)=(kul0_w,kul0_o)
theorem kul0_A_ok : kul0_A:=rfl
def kul0_G : Prop:=comes tab ku_D 1500 50 kul0_a [8,1] kul0_w kul0_o
set_option maxRecDepth 1000000 in
theorem kul0_c : Hold kul0_G:=⟨Eq.mpr (by kernel_rfl:kul0_G=kul0_A) kul0_A_ok⟩
theorem kul0_ok : KnownOk Tryz.prog kul0_k :=
 known_of3 (L:=ku_D) (k:=1500) (g:=50) (args:=kul0_a) (ids:=[8,1]) (v:=kul0_v) (v0:=kul0_w) (objs:=kul0_o) (G:=kul0_G) ku_D_ok (by kernel_rfl) kul0_c (by kernel_rfl) (by kernel_rfl) (by kernel_rfl) (by kernel_rfl) (by kernel_rfl)
def kua0_a : List AV:=[.imm (.more (.int .i64) (.more (.int .i64) (.more (.int .i64) (.more (.slice (.one (.int .i64))) (.more (.slice (.one .str)) (.one .str)))))) [((2:Int),(0:Int),(0:Int),[(1:Int),(2:Int)],[],⟨#[]⟩),((2:Int),(1:Int),(3:Int),[(3:Int),(4:Int)],[],⟨#[]⟩),((2:Int),(1:Int),(3:Int),[(5:Int),(6:Int)],[],⟨#[]⟩),((0:Int),(0:Int),(0:Int),[],[],⟨#[45,49]⟩),((0:Int),(0:Int),(0:Int),[],[],⟨#[49]⟩),((0:Int),(0:Int),(0:Int),[],[],⟨#[49]⟩),((0:Int),(0:Int),(0:Int),[],[],⟨#[45,49]⟩)], .int .i64 (0)]
def kua0_v : AV := .tup [.bool true, .int .i64 0]
def kua0_w : AV := .tup [.bool true, .int .i64 0]
def kua0_o : List HObj:=[]
def kua0_k : Known:=⟨10,kua0_a,kua0_v,kua0_o⟩
def kua0_A : Prop:=(kua0_w,kua0_o)=(kua0_w,kua0_o)
theorem kua0_A_ok : kua0_A:=rfl
def kua0_G : Prop:=comes tab ku_C 1500 10 kua0_a [] kua0_w kua0_o
set_option maxRecDepth 1000000 in
theorem kua0_c : Hold kua0_G:=⟨Eq.mpr (by kernel_rfl:kua0_G=((kua0_A∧kua0_A)∧(kua0_A∧kua0_A))) ⟨⟨kua0_A_ok,kua0_A_ok⟩,⟨kua0_A_ok,kua0_A_ok⟩⟩⟩
theorem kua0_ok : KnownOk Tryz.prog kua0_k :=
 known_of3 (L:=ku_C) (k:=1500) (g:=10) (args:=kua0_a) (ids:=[]) (v:=kua0_v) (v0:=kua0_w) (objs:=kua0_o) (G:=kua0_G) ku_C_ok (by kernel_rfl) kua0_c (by kernel_rfl) (by kernel_rfl) (by kernel_rfl) (by kernel_rfl) (by kernel_rfl)
end
section
def ku_E : List Known:=[clone0_k,kuo0_k,kux0_k,kuf0_k,kul0_k,kua0_k]
theorem ku_E_ok : ∀ x∈ku_E,KnownOk Tryz.prog x:=fun x hx=>by
 simp only [ku_E,List.mem_cons,List.not_mem_nil,or_false] at hx
 rcases hx with rfl | rfl | rfl | rfl | rfl | rfl
 · exact clone0_ok
 · exact kuo0_ok
 · exact kux0_ok
 · exact kuf0_ok
 · exact kul0_ok
 · exact kua0_ok
end
section
def kub0_a : List AV:=[.imm (.more (.int .i64) (.more (.int .i64) (.more (.int .i64) (.more (.slice (.one (.int .i64))) (.more (.slice (.one .str)) (.one .str)))))) [((2:Int),(0:Int),(0:Int),[(1:Int),(2:Int)],[],⟨#[]⟩),((2:Int),(1:Int),(3:Int),[(3:Int),(4:Int)],[],⟨#[]⟩),((2:Int),(1:Int),(3:Int),[(5:Int),(6:Int)],[],⟨#[]⟩),((0:Int),(0:Int),(0:Int),[],[],⟨#[45,49]⟩),((0:Int),(0:Int),(0:Int),[],[],⟨#[49]⟩),((0:Int),(0:Int),(0:Int),[],[],⟨#[49]⟩),((0:Int),(0:Int),(0:Int),[],[],⟨#[45,49]⟩)], .int .i64 (1)]
def kub0_v : AV := .tup [.own 0, .int .i64 0]
def kub0_w : AV := .tup [.own 0, .int .i64 0]
def kub0_o : List HObj:=[.typed (.more (.int .i64) (.more (.int .i64) (.one (.int .i64)))) [(((-1):Int),(((-1):Int),((-1):Int))),((3:Int),((0:Int),(0:Int))),((3:Int),((1:Int),(0:Int)))] false]
def kub0_k : Known:=⟨13,kub0_a,kub0_v,kub0_o⟩
def kub0_A : Prop:=(kub0_w,kub0_o)=(kub0_w,kub0_o)
theorem kub0_A_ok : kub0_A:=rfl
def kub0_G : Prop:=comes tab ku_E 1500 13 kub0_a [0] kub0_w kub0_o
set_option maxRecDepth 1000000 in
theorem kub0_c : Hold kub0_G:=⟨Eq.mpr (by kernel_rfl:kub0_G=kub0_A) kub0_A_ok⟩
theorem kub0_ok : KnownOk Tryz.prog kub0_k :=
 known_of3 (L:=ku_E) (k:=1500) (g:=13) (args:=kub0_a) (ids:=[0]) (v:=kub0_v) (v0:=kub0_w) (objs:=kub0_o) (G:=kub0_G) ku_E_ok (by kernel_rfl) kub0_c (by kernel_rfl) (by kernel_rfl) (by kernel_rfl) (by kernel_rfl) (by kernel_rfl)
def kuc0_a : List AV:=[.imm (.more (.int .i64) (.more (.int .i64) (.more (.int .i64) (.more (.slice (.one (.int .i64))) (.more (.slice (.one .str)) (.one .str)))))) [((2:Int),(0:Int),(0:Int),[(1:Int),(2:Int)],[],⟨#[]⟩),((2:Int),(1:Int),(3:Int),[(3:Int),(4:Int)],[],⟨#[]⟩),((2:Int),(1:Int),(3:Int),[(5:Int),(6:Int)],[],⟨#[]⟩),((0:Int),(0:Int),(0:Int),[],[],⟨#[45,49]⟩),((0:Int),(0:Int),(0:Int),[],[],⟨#[49]⟩),((0:Int),(0:Int),(0:Int),[],[],⟨#[49]⟩),((0:Int),(0:Int),(0:Int),[],[],⟨#[45,49]⟩)], .int .i64 (1)]
def kuc0_v : AV := .tup [.own 0, .int .i64 0]
def kuc0_w : AV := .tup [.own 1, .int .i64 0]
def kuc0_o : List HObj:=[.typed (.one (.int .i64)) [(0:Int),(0:Int),(0:Int),(1:Int),(2:Int),(1:Int),(2:Int)] false]
def kuc0_k : Known:=⟨14,kuc0_a,kuc0_v,kuc0_o⟩
def kuc0_A : Prop:=(kuc0_w,kuc0_o)=(kuc0_w,kuc0_o)
theorem kuc0_A_ok : kuc0_A:=rfl
def kuc0_G : Prop:=comes tab ku_E 1500 14 kuc0_a [1] kuc0_w kuc0_o
set_option maxRecDepth 1000000 in
theorem kuc0_c : Hold kuc0_G:=⟨Eq.mpr (by kernel_rfl:kuc0_G=kuc0_A) kuc0_A_ok⟩
theorem kuc0_ok : KnownOk Tryz.prog kuc0_k :=
 known_of3 (L:=ku_E) (k:=1500) (g:=14) (args:=kuc0_a) (ids:=[1]) (v:=kuc0_v) (v0:=kuc0_w) (objs:=kuc0_o) (G:=kuc0_G) ku_E_ok (by kernel_rfl) kuc0_c (by kernel_rfl) (by kernel_rfl) (by kernel_rfl) (by kernel_rfl) (by kernel_rfl)
def kud0_a : List AV:=[.imm (.more (.int .i64) (.more (.int .i64) (.more (.int .i64) (.more (.slice (.one (.int .i64))) (.more (.slice (.one .str)) (.one .str)))))) [((2:Int),(0:Int),(0:Int),[(1:Int),(2:Int)],[],⟨#[]⟩),((2:Int),(1:Int),(3:Int),[(3:Int),(4:Int)],[],⟨#[]⟩),((2:Int),(1:Int),(3:Int),[(5:Int),(6:Int)],[],⟨#[]⟩),((0:Int),(0:Int),(0:Int),[],[],⟨#[45,49]⟩),((0:Int),(0:Int),(0:Int),[],[],⟨#[49]⟩),((0:Int),(0:Int),(0:Int),[],[],⟨#[49]⟩),((0:Int),(0:Int),(0:Int),[],[],⟨#[45,49]⟩)], .int .i64 (1), .imm (.more (.int .i64) (.one (.slice (.one .str)))) [((3:Int),[⟨#[49,47,50]⟩,⟨#[49,47,50]⟩])]]
def kud0_v : AV := .tup [.own 0, .int .i64 0]
def kud0_w : AV := .tup [.own 194, .int .i64 0]
def kud0_o : List HObj:=[.typed (.one .str) [⟨#[49]⟩,⟨#[49,47,50]⟩,⟨#[49,47,50]⟩] false]
def kud0_k : Known:=⟨22,kud0_a,kud0_v,kud0_o⟩
def kud0_A : Prop:=(kud0_w,kud0_o)=(kud0_w,kud0_o)
theorem kud0_A_ok : kud0_A:=rfl
def kud0_G : Prop:=comes tab ku_E 1500 22 kud0_a [194] kud0_w kud0_o
set_option maxRecDepth 1000000 in
theorem kud0_c : Hold kud0_G:=⟨Eq.mpr (by kernel_rfl:kud0_G=(kud0_A∧(kud0_A∧kud0_A))) ⟨kud0_A_ok,⟨kud0_A_ok,kud0_A_ok⟩⟩⟩
theorem kud0_ok : KnownOk Tryz.prog kud0_k :=
 known_of3 (L:=ku_E) (k:=1500) (g:=22) (args:=kud0_a) (ids:=[194]) (v:=kud0_v) (v0:=kud0_w) (objs:=kud0_o) (G:=kud0_G) ku_E_ok (by kernel_rfl) kud0_c (by kernel_rfl) (by kernel_rfl) (by kernel_rfl) (by kernel_rfl) (by kernel_rfl)
def kue0_a : List AV:=[.imm (.more (.int .i64) (.more (.int .i64) (.more (.int .i64) (.more (.slice (.one (.int .i64))) (.more (.slice (.one .str)) (.one .str)))))) [((2:Int),(0:Int),(0:Int),[(1:Int),(2:Int)],[],⟨#[]⟩),((2:Int),(1:Int),(3:Int),[(3:Int),(4:Int)],[],⟨#[]⟩),((2:Int),(1:Int),(3:Int),[(5:Int),(6:Int)],[],⟨#[]⟩),((0:Int),(0:Int),(0:Int),[],[],⟨#[45,49]⟩),((0:Int),(0:Int),(0:Int),[],[],⟨#[49]⟩),((0:Int),(0:Int),(0:Int),[],[],⟨#[49]⟩),((0:Int),(0:Int),(0:Int),[],[],⟨#[45,49]⟩)], .int .i64 (1), .nils]
def kue0_v : AV := .int .i64 3
def kue0_w : AV := .int .i64 3
def kue0_o : List HObj:=[]
def kue0_k : Known:=⟨24,kue0_a,kue0_v,kue0_o⟩
def kue0_A : Prop:=(kue0_w,kue0_o)=(kue0_w,kue0_o)
theorem kue0_A_ok : kue0_A:=rfl
def kue0_G : Prop:=comes tab ku_E 1500 24 kue0_a [] kue0_w kue0_o
set_option maxRecDepth 1000000 in
theorem kue0_c : Hold kue0_G:=⟨Eq.mpr (by kernel_rfl:kue0_G=(kue0_A∧(kue0_A∧kue0_A))) ⟨kue0_A_ok,⟨kue0_A_ok,kue0_A_ok⟩⟩⟩
theorem kue0_ok : KnownOk Tryz.prog kue0_k :=
 known_of3 (L:=ku_E) (k:=1500) (g:=24) (args:=kue0_a) (ids:=[]) (v:=kue0_v) (v0:=kue0_w) (objs:=kue0_o) (G:=kue0_G) ku_E_ok (by kernel_rfl) kue0_c (by kernel_rfl) (by kernel_rfl) (by kernel_rfl) (by kernel_rfl) (by kernel_rfl)
end
section
def ku_F : List Known:=[kua0_k,kub0_k,kuc0_k,kud0_k,kue0_k]
theorem ku_F_ok : ∀ x∈ku_F,KnownOk Tryz.prog x:=fun x hx=>by
 simp only [ku_F,List.mem_cons,List.not_mem_nil,or_false] at hx
 rcases hx with rfl | rfl | rfl | rfl | rfl
 · exact kua0_ok
 · exact kub0_ok
 · exact kuc0_ok
 · exact kud0_ok
 · exact kue0_ok
end
section
def kuz0_a : List AV:=[]
def kuz0_v : AV := .bool true
def kuz0_w : AV := .bool true
def kuz0_o : List HObj:=[]
def kuz0_k : Known:=⟨8,kuz0_a,kuz0_v,kuz0_o⟩
def kuz0_A : Prop:=(kuz0_w,kuz0_o)=(kuz0_w,kuz0_o)
theorem kuz0_A_ok : kuz0_A:=rfl
def kuz0_G : Prop:=comes tab ku_F 1500 8 kuz0_a [] kuz0_w kuz0_o
set_option maxRecDepth 1000000 in
theorem kuz0_c : Hold kuz0_G:=⟨Eq.mpr (by kernel_rfl:kuz0_G=kuz0_A) kuz0_A_ok⟩
theorem kuz0_ok : KnownOk Tryz.prog kuz0_k :=
 known_of3 (L:=ku_F) (k:=1500) (g:=8) (args:=kuz0_a) (ids:=[]) (v:=kuz0_v) (v0:=kuz0_w) (objs:=kuz0_o) (G:=kuz0_G) ku_F_ok (by kernel_rfl) kuz0_c (by kernel_rfl) (by kernel_rfl) (by kernel_rfl) (by kernel_rfl) (by kernel_rfl)
end
end Go.Proofs.YtnnkjpcipldnfaaGreatDoor.Mach
end
section
set_option linter.unusedSimpArgs false
set_option linter.unusedVariables false
namespace Go.Proofs.YtnnkjpcipldnfaaGreatDoor.Lib
open Go Go.Proofs.YtnnkjpcipldnfaaGreatDoor.Mach
section
theorem recallFact_con {Q:Res} (h:trueT Q):Con Tryz.prog 8 [] Q:=Con.mono kuz0_ok fun v objs h' => by
 obtain ⟨h1,h2⟩:=h'
 rw [h1,h2]
 exact h
end
end Go.Proofs.YtnnkjpcipldnfaaGreatDoor.Lib
end
