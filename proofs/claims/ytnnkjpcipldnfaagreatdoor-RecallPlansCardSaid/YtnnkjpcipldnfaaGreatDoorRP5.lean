/- Texts of this session, put together. -/
import Derived.Test.YtnnkjpcipldnfaaGreatDoorRP4
section
set_option linter.unusedSimpArgs false
set_option linter.unusedVariables false
namespace Go.Proofs.YtnnkjpcipldnfaaGreatDoor.Lib
open Go Go.Proofs.YtnnkjpcipldnfaaGreatDoor.Mach Go.Proofs.YtnnkjpcipldnfaaGreatDoorW.PrintWords Go.Proofs.YtnnkjpcipldnfaaGreatDoor.Sem Go.Proofs.YtnnkjpcipldnfaaGreatDoor.Pure
section
theorem toList_eq_iff {s t:ByteArray}:s.toList=t.toList↔s=t:=⟨str_ext,fun h=>h ▸ rfl⟩
theorem nat_dig (n:Nat):∀ x∈(natText n).data.toList,48≤x.toNat∧x.toNat≤57:=fun x hx=>by
 have:=natText_asc n (x.toNat:Int) (by unfold bytesOf; exact List.mem_map.2 ⟨x,hx,rfl⟩)
 omega
theorem app_empty (s:ByteArray):s ++ ⟨#[]⟩=s:=by apply ByteArray.ext; simp [ByteArray.data_append]
theorem empty_app (s:ByteArray):⟨#[]⟩ ++ s=s:=by apply ByteArray.ext; simp [ByteArray.data_append]
theorem pre_dash (s:ByteArray):preB (⟨#[45]⟩ ++ s)=true∧preR (⟨#[45]⟩ ++ s)=s:=by
 have h1:preB (⟨#[45]⟩ ++ s)=true:=by
  unfold preB
  rw [decide_eq_true (by rw [ByteArray.size_append,show (ByteArray.mk #[45]).size=1 from rfl]; omega)]
  have:(⟨#[45]⟩ ++ s:ByteArray).extract 0 1=⟨#[45]⟩:=app_left ⟨#[45]⟩ s
  rw [this]; simp
 refine ⟨h1,?_⟩
 unfold preR
 rw [h1]
 exact app_right ⟨#[45]⟩ s
theorem pre_not {s:ByteArray} {c:UInt8} {r:List UInt8} (h:s.data.toList=c :: r) (hc:c≠45):preB s=false∧preR s=s:=by
 have h1:preB s=false:=by
  unfold preB
  have hl:s.data.toList.length=s.size:=by rw [Array.length_toList]; rfl
  rw [h] at hl
  rw [decide_eq_true (by simp only [List.length_cons] at hl; omega)]
  refine beq_eq_false_iff_ne.2 fun he=>?_
  rw [ByteArray.toList_eq,ByteArray.toList_eq,ByteArray.data_extract] at he
  have:(s.data.extract 0 1).toList=[c]:=by
   rw [Array.toList_extract,List.extract_eq_take_drop,h]; rfl
  rw [this] at he
  exact hc (by simpa using he)
 refine ⟨h1,?_⟩
 unfold preR
 rw [h1]; rfl
theorem cut_none {s:ByteArray} (h:∀ x∈s.data.toList,x≠47):cutI s=false∧cutA s=s:=by
 have h1:cutI s=false:=by
  unfold cutI
  rw [firstIdx_no h]; rfl
 refine ⟨h1,?_⟩
 unfold cutA
 rw [h1]; rfl
theorem cut_at {a b:ByteArray} (h:∀ x∈a.data.toList,x≠47):cutI (a ++ (⟨#[47]⟩ ++ b))=true∧cutA (a ++ (⟨#[47]⟩ ++ b))=a∧cutB (a ++ (⟨#[47]⟩ ++ b))=b:=by
 have hi:=firstIdx_app (b:=b) h
 have h1:cutI (a ++ (⟨#[47]⟩ ++ b))=true:=by
  unfold cutI
  rw [hi]
  exact decide_eq_true (by omega)
 refine ⟨h1,?_,?_⟩
 · unfold cutA
   rw [h1,hi]
   exact app_left a _
 · unfold cutB
   rw [h1,hi]
   have e:a ++ (⟨#[47]⟩ ++ b)=(a ++ ⟨#[47]⟩) ++ b:=(ByteArray.append_assoc).symm
   have e2:((a.size:Int)).toNat+1=(a ++ ⟨#[47]⟩:ByteArray).size:=by rw [ByteArray.size_append,show (ByteArray.mk #[47]).size=1 from rfl]; omega
   rw [e,e2]
   exact app_right _ _
theorem nat_cons (n:Nat):∃ c r,(natText n).data.toList=c :: r∧c≠45:=by
 have h:=dg_pos n
 have hl:(natText n).data.toList.length=dg n:=by rw [Array.length_toList]; rfl
 match hd:(natText n).data.toList with
 | []=>rw [hd] at hl; simp at hl; omega
 | c :: r =>
   refine ⟨c,r,rfl,fun hc=>?_⟩
   have:=nat_dig n c (by rw [hd]; simp)
   rw [hc] at this
   exact absurd this (by decide)
theorem nat47 (n:Nat):∀ x∈(natText n).data.toList,x≠47:=fun x hx hc=>by
 have:=nat_dig n x hx
 rw [hc] at this
 exact absurd this (by decide)
theorem rt_parts (neg:Bool) (u v:Nat):preB (rt neg u v)=neg∧cutA (preR (rt neg u v))=natText u∧cutI (preR (rt neg u v))=decide (v≠1)∧(v≠1→cutB (preR (rt neg u v))=natText v):=by
 have key:preB (rt neg u v)=neg∧preR (rt neg u v)=natText u ++ (if v=1 then ⟨#[]⟩ else ⟨#[47]⟩ ++ natText v):=by
  unfold rt
  cases neg with
  | true=>rw [cond_true,ByteArray.append_assoc]; exact pre_dash _
  | false =>
    rw [cond_false,empty_app]
    obtain ⟨c,r,h1,h2⟩:=nat_cons u
    exact pre_not (c:=c) (r:=r ++ (if v=1 then (⟨#[]⟩:ByteArray) else ⟨#[47]⟩ ++ natText v).data.toList) (by rw [show ∀ a b:ByteArray,(a ++ b).data=a.data ++ b.data from fun a b=>ByteArray.data_append,Array.toList_append,h1]; rfl) h2
 refine ⟨key.1,?_⟩
 rw [key.2]
 by_cases hv:v=1
 · rw [if_pos hv,app_empty,(cut_none (nat47 u)).1,(cut_none (nat47 u)).2]
   exact ⟨rfl,(decide_eq_false (by simpa using hv)).symm,fun h=>absurd hv h⟩
 · rw [if_neg hv]
   obtain ⟨c1,c2,c3⟩:=cut_at (b:=natText v) (nat47 u)
   rw [c1,c2,c3]
   exact ⟨rfl,(decide_eq_true hv).symm,fun _=>rfl⟩
theorem rt_size (neg:Bool) (u v:Nat):(rt neg u v).size≤dg u+dg v+2∧dg u≤(rt neg u v).size∧dg v≤(rt neg u v).size+1:=by
 unfold rt
 rw [ByteArray.size_append,ByteArray.size_append]
 have e1:(bif neg then (⟨#[45]⟩:ByteArray) else ⟨#[]⟩).size≤1:=by cases neg <;> decide
 have eu:(natText u).size=dg u:=rfl
 have hv1:=dg_pos v
 split
 · rename_i h
   subst h
   rw [dg_one,eu]
   have:(ByteArray.mk #[]).size=0:=rfl
   omega
 · rw [ByteArray.size_append]
   have:(ByteArray.mk #[47]).size=1:=rfl
   have ev:(natText v).size=dg v:=rfl
   omega
theorem text_size (q:Rat):(ratText q).size≤szN q+szD q+2∧szN q≤(ratText q).size∧szD q≤(ratText q).size+1:=rt_size _ _ _
theorem in_con {s:ByteArray} {Q:Res} (h:inS s Q):Con Tryz.prog 70 [.str s] Q:=by
 obtain ⟨q,rfl,sq,hq⟩:=h
 refine con_Q ?_ hq
 refine conN (gn:=fnT Tryz.f70) (by kernel_rfl) conQ1_ok (inl:=[]) (LT:=qin_live) (NT:=qin_nils) rfl fun n0=>?_
 rw [qin_E]
 obtain ⟨p1,p2,p3,p4⟩:=rt_parts (decide (q.num<0)) q.num.natAbs q.den
 have hs:=(text_size q).1
 have hr:(preR (ratText q)).size≤(ratText q).size:=by
  unfold preR
  cases preB (ratText q)
  · exact Nat.le_refl _
  · rw [cond_true,ByteArray.size_extract]; omega
 have e1:=sz_n sq
 have e2:=sz_d sq
 have e3:szN q=dg q.num.natAbs:=rfl
 have e4:szD q=dg q.den:=rfl
 refine ⟨rfl,by omega,rfl,by omega,q.num.natAbs,p2,e1,natI1,?_⟩
 have hd:=den_pos q
 by_cases h1:q.den=1
 · refine bif_f (by rw [show ratText q=rt (decide (q.num<0)) q.num.natAbs q.den from rfl,p3]; simpa using h1) ?_
   rw [show preB (ratText q)=decide (q.num<0) from p1]
   exact res_Q (z:=(decide (q.num<0),_,_)) ⟨rfl,rfl, .inl (show limbsOf 1=limbsOf q.den by rw [h1])⟩
 · refine bif_t (by rw [show ratText q=rt (decide (q.num<0)) q.num.natAbs q.den from rfl,p3]; simpa using h1) ⟨q.den,p4 h1,e2,?_⟩
   rw [show preB (ratText q)=decide (q.num<0) from p1]
   exact res_Q (z:=(decide (q.num<0),_,_)) ⟨rfl,rfl, .inl rfl⟩
theorem out_con {z:QT} {Q:Res} (h:outS z Q):Con Tryz.prog 110 [qa z] Q:=by
 obtain ⟨q,hz,sq,hq⟩:=h
 obtain ⟨b,n,d⟩:=z
 refine conN (gn:=fnT Tryz.f110) (by kernel_rfl) conQ2_ok (inl:=[]) (LT:=qout_live) (NT:=qout_nils) rfl fun n0=>?_
 refine (qout_E b n d n0 _).symm ▸ ?_
 have hk:∀ r H,ratText q=r→resK Q (.str r) H:=fun r H h=>by rw [h] at hq; exact res_plain hq rfl rfl
 by_cases h0:q=0
 · refine bif_pos ((qv_len hz).2 h0) (hk _ _ (by rw [h0]; exact ratText_zero))
 · refine bif_neg (fun h=>h0 ((qv_len hz).1 h)) ⟨_,qv_nlen hz,sz_n sq,?_⟩
   have e1:=sz_n sq
   have e2:=sz_d sq
   have eu:(natText q.num.natAbs).size=dg q.num.natAbs:=rfl
   have ev:(natText q.den).size=dg q.den:=rfl
   have e47:(⟨#[47]⟩ ++ natText q.den:ByteArray).size=1+dg q.den:=ByteArray.size_append
   have e45:(⟨#[45]⟩ ++ natText q.num.natAbs:ByteArray).size=1+dg q.num.natAbs:=ByteArray.size_append
   have hb:b=decide (q.num<0):=hz.neg
   have hr:ratText q=rt b q.num.natAbs q.den:=by rw [hb]; rfl
   cases b with
   | true =>
     refine bif_tt (bif_pos (by omega) ⟨q,hz,q.den,rfl,e2,?_⟩)
     by_cases h1:q.den=1
     · refine bif_not (bif_t (by rw [beq_iff_eq,toList_eq_iff,h1]; exact natText_one) (hk _ _ ?_))
       rw [hr]; unfold rt
       rw [if_pos h1,app_empty]; rfl
     · refine bif_not (bif_f (by rw [beq_iff_eq,toList_eq_iff]; exact fun h=>h1 (natText_inj (h.trans natText_one.symm))) (bif_pos (by omega) (bif_pos (by omega) (hk _ _ ?_))))
       rw [hr]; unfold rt
       rw [if_neg h1]; rfl
   | false =>
     refine bif_ff ⟨q,hz,q.den,rfl,e2,?_⟩
     by_cases h1:q.den=1
     · refine bif_not (bif_t (by rw [beq_iff_eq,toList_eq_iff,h1]; exact natText_one) (hk _ _ ?_))
       rw [hr]; unfold rt
       rw [if_pos h1,app_empty]; exact empty_app _
     · refine bif_not (bif_f (by rw [beq_iff_eq,toList_eq_iff]; exact fun h=>h1 (natText_inj (h.trans natText_one.symm))) (bif_pos (by omega) (bif_pos (by omega) (hk _ _ ?_))))
       rw [hr]; unfold rt
       rw [if_neg h1,cond_false,empty_app]
theorem fits_con {z:QT} {Q:Res} (h:fitS z Q):Con Tryz.prog 109 [qa z] Q:=by
 obtain ⟨q,hz,sq,hq⟩:=h
 obtain ⟨b,n,d⟩:=z
 refine conN (gn:=fnT Tryz.f109) (by kernel_rfl) conQ2_ok (inl:=[]) (LT:=qfits_live) (NT:=qfits_nils) rfl fun n0=>?_
 refine (qfits_E b n d n0 _).symm ▸ ?_
 have e1:=sz_n sq
 have e2:=sz_d sq
 unfold fitV at hq
 have hN:szN q=dg q.num.natAbs:=rfl
 have hD:szD q=dg q.den:=rfl
 rw [hN,hD] at hq
 refine ⟨_,qv_nlen hz,e1,?_⟩
 by_cases h1:dg q.num.natAbs > 2000
 · rw [if_pos (.inl h1)] at hq
   exact bif_pos (by omega) (res_plain hq rfl rfl)
 · refine bif_neg (by omega) ?_
   have key:∃ m,d=limbsOf m∧dg m≤9000000000∧(dg m > 2000↔dg q.den > 2000):=by
    rcases hz.den with hd | ⟨hd,hd1⟩
    · exact ⟨_,hd,e2,Iff.rfl⟩
    · refine ⟨0,hd.trans limbsOf_zero.symm,by rw [dg_zero]; decide,?_⟩
      rw [hd1,dg_zero,dg_one]
   obtain ⟨m,hm1,hm2,hm3⟩:=key
   refine ⟨m,hm1,hm2,?_⟩
   by_cases h2:dg q.den > 2000
   · rw [if_pos (.inr h2)] at hq
     exact bif_t (decide_eq_true (by have:=hm3.2 h2; omega)) (res_plain hq rfl rfl)
   · rw [if_neg (by rintro (h | h) <;> omega)] at hq
     exact bif_f (fun h=>h2 (hm3.1 (by have:=of_decide_eq_true h; omega))) (res_plain hq rfl rfl)
end
section
theorem conQ3_ok : ∀ g xs Q,conQ3 g xs Q→Con Tryz.prog g xs Q:=table_ok fun p hp=>by
 simp only [List.mem_cons,List.not_mem_nil,or_false] at hp
 rcases hp with rfl | rfl | rfl | rfl | rfl
 · exact c2_ok fun _ _ _ h=>add_con h
 · exact c1_ok fun _ _ h=>neg_con h
 · exact c1_ok fun _ _ h=>sign_con h
 · exact c1_ok fun _ _ h=>out_con h
 · exact c1_ok fun _ _ h=>fits_con h
theorem sz_neg {k:Nat} {q:Rat} (h:Sz k q):Sz k (-q):=by
 refine ⟨?_,?_⟩
 · show dg (-q).num.natAbs≤k
   rw [Rat.neg_num,Int.natAbs_neg]; exact h.1
 · show dg (-q).den≤k
   rw [Rat.neg_den]; exact h.2
theorem sub_con {z w:QT} {Q:Res} (h:subQ z w Q):Con Tryz.prog 136 [qa z,qa w] Q:=by
 obtain ⟨x,y,hz,hw,sx,sy,hq⟩:=h
 refine con_Q ?_ hq
 obtain ⟨b,n,d⟩:=z
 obtain ⟨b', n', d'⟩:=w
 refine conN (gn:=fnT Tryz.f136) (by kernel_rfl) conQ3_ok (inl:=[]) (LT:=qsub_live) (NT:=qsub_nils) rfl fun n0=>?_
 refine (qsub_E b n d b' n' d' n0 _).symm ▸ ?_
 refine ⟨y,hw,fun r hr=>⟨x, -y,hz,hr,sx,sz_neg sy,fun r hr=>?_⟩⟩
 rw [Rat.sub_eq_add_neg]
 exact res_Q hr
theorem conQ3b_ok : ∀ g xs Q,conQ3b g xs Q→Con Tryz.prog g xs Q:=table_ok fun p hp=>by
 simp only [List.mem_cons,List.not_mem_nil,or_false] at hp
 rcases hp with rfl | rfl
 · exact c2_ok fun _ _ _ h=>sub_con h
 · exact c1_ok fun _ _ h=>sign_con h
theorem cmp_con {z w:QT} {Q:Res} (h:cmpQ z w Q):Con Tryz.prog 118 [qa z,qa w] Q:=by
 obtain ⟨x,y,hz,hw,sx,sy,hq⟩:=h
 obtain ⟨b,n,d⟩:=z
 obtain ⟨b', n', d'⟩:=w
 refine conN (gn:=fnT Tryz.f118) (by kernel_rfl) conQ3b_ok (inl:=[]) (LT:=qcmp_live) (NT:=qcmp_nils) rfl fun n0=>?_
 refine (qcmp_E b n d b' n' d' n0 _).symm ▸ ?_
 exact ⟨x,y,hz,hw,sx,sy,fun r hr=>⟨x - y,hr,res_plain hq rfl rfl⟩⟩
theorem told_con {z:QT} {Q:Res} (h:toldS z Q):Con Tryz.prog 71 [qa z] Q:=by
 obtain ⟨q,hz,sq,hq⟩:=h
 obtain ⟨b,n,d⟩:=z
 refine conN (gn:=fnT Tryz.f71) (by kernel_rfl) conQ3_ok (inl:=[]) (LT:=qtold_live) (NT:=qtold_nils) rfl fun n0=>?_
 refine (qtold_E b n d n0 _).symm ▸ ?_
 refine ⟨q,hz,sq,?_⟩
 unfold toldV at hq
 by_cases h0:fitV q=0
 · rw [if_pos h0,h0] at hq
   exact bif_not (bif_pos h0 ⟨q,hz,sq,res_plain hq rfl rfl⟩)
 · rw [if_neg h0] at hq
   exact bif_not (bif_neg h0 (res_plain hq rfl rfl))
theorem dg_word {n:Nat} (h:n<10 ^ 20):dg n≤20:=dg_le (by decide) h
theorem err_zero {s:ByteArray} (h:natErr s=0):∃ n,s=natText n∧dg n≤2000:=by
 rcases natErr_cases s with ⟨n,hn,he⟩ | ⟨he,_⟩
 · refine ⟨n,hn,?_⟩
   rw [he] at h
   split at h
   · cases h
   · omega
 · rw [he] at h; cases h
theorem err_text {n:Nat} (h:dg n≤2000):natErr (natText n)=0:=by rw [natErr_text,if_neg (by omega)]
theorem preR_le (s:ByteArray):(preR s).size≤s.size:=by
 unfold preR
 cases preB s
 · exact Nat.le_refl _
 · rw [cond_true,ByteArray.size_extract]; omega
theorem cutA_le (s:ByteArray):(cutA s).size≤s.size:=by
 unfold cutA
 have:=firstIdx_lt s 47
 cases cutI s
 · exact Nat.le_refl _
 · rw [cond_true,ByteArray.size_extract]; omega
theorem cutB_le (s:ByteArray):(cutB s).size≤s.size:=by
 unfold cutB
 cases cutI s
 · exact Nat.zero_le _
 · rw [cond_true,ByteArray.size_extract]; omega
theorem bif_dup {p c:Bool} {A T:Prop} (h1:p=true→c=true→A) (h2:¬ (p=true∧c=true)→T):bif p then (bif c then A else T) else T:=by
 cases p with
 | false=>exact h2 (by simp)
 | true =>
   cases c with
   | true=>exact h1 rfl rfl
   | false=>exact h2 (by simp)
theorem bytes48 {a:ByteArray}:(a.toList == (ByteArray.mk #[48]).toList)=true↔a=zeroS:=by rw [beq_iff_eq,toList_eq_iff]
theorem bytes49 {a:ByteArray}:(a.toList == (ByteArray.mk #[49]).toList)=true↔a=⟨#[49]⟩:=by rw [beq_iff_eq,toList_eq_iff]
theorem rcheck_con {s:ByteArray} {Q:Res} (h:rcheckS s Q):Con Tryz.prog 134 [.str s] Q:=by
 obtain ⟨hs,hq⟩:=h
 unfold Tx at hs
 refine conN (gn:=fnT Tryz.f134) (by kernel_rfl) conQ1_ok (inl:=[]) (LT:=qcheck_live) (NT:=qcheck_nils) rfl fun n0=>?_
 rw [qcheck_E]
 have r1:=preR_le s
 have r2:=cutA_le (preR s)
 have r3:=cutB_le (preR s)
 have hk:∀ v,ratErr s=v→resK Q (.int .i64 v) []:=fun v h=>by rw [h] at hq; exact res_plain hq rfl rfl
 refine ⟨rfl,by omega,rfl,by omega,by omega,?_⟩
 unfold ratErr at hk
 generalize cutA (preR s)=a at *
 generalize cutB (preR s)=b at *
 cases hI:cutI (preR s) with
 | true =>
   refine bif_tt ⟨by omega,?_⟩
   simp only [hI,true_and] at hk
   by_cases h1:natErr a=5
   · exact bif_pos h1 (hk 5 (if_pos (.inl h1)))
   refine bif_neg h1 ?_
   by_cases h2:natErr b=5
   · exact bif_t (decide_eq_true h2) (hk 5 (if_pos (.inr (.inl h2))))
   refine bif_f (fun h=>h2 (of_decide_eq_true h)) ?_
   refine bif_dup (fun hp hc=>hk 5 (if_pos (.inr (.inr ⟨hp,bytes48.1 hc⟩)))) fun hpc=>?_
   have h3:¬ (natErr a=5∨natErr b=5∨(preB s=true∧a=zeroS)):=by
    rintro (h | h | h)
    · exact h1 h
    · exact h2 h
    · exact hpc ⟨h.1,bytes48.2 h.2⟩
   rw [if_neg h3] at hk
   by_cases e1:natErr a=0
   · refine bif_not (bif_pos e1 ?_)
     by_cases e2:natErr b=0
     · refine bif_f (by simp [e2]) (bif_tt ?_)
       rw [if_neg (by rintro (h | h) <;> exact h (by assumption))] at hk
       by_cases f1:b=zeroS
       · exact bif_t (bytes48.2 f1) (hk 3 (if_pos (.inl f1)))
       refine bif_f (fun h=>f1 (bytes48.1 h)) ?_
       by_cases f2:b=⟨#[49]⟩
       · exact bif_t (bytes49.2 f2) (hk 3 (if_pos (.inr (.inl f2))))
       refine bif_f (fun h=>f2 (bytes49.1 h)) ?_
       obtain ⟨u,rfl,hu⟩:=err_zero e1
       obtain ⟨v,rfl,hv⟩:=err_zero e2
       have hv0:0<v:=Nat.pos_of_ne_zero fun h=>f1 (by rw [h]; exact natText_zero)
       have hgb:dg (Nat.gcd u v)≤9000000000:=Nat.le_trans (dg_mono (Nat.le_of_dvd hv0 (Nat.gcd_dvd_right u v))) (by omega)
       rw [numOf_text,numOf_text] at hk
       refine ⟨u,rfl,by unfold Bd; omega,v,rfl,by unfold Bd; omega,_,_,rfl,rfl,by omega,by omega,natI1,_,_,rfl,rfl,hgb,?_⟩
       by_cases f3:Nat.gcd u v=1
       · refine bif_f (by simp [f3,cmp_eq.2]; exact cmp_eq.2 rfl) (hk 0 (if_neg ?_))
         rintro (h | h | h)
         · exact f1 h
         · exact f2 h
         · exact h f3
       · refine bif_t ?_ (hk 3 (if_pos (.inr (.inr f3))))
         have:¬ cmpI ((Nat.gcd u v:Nat):Int) ((1:Nat):Int)=0:=fun h=>f3 (cmp_eq.1 h).symm
         simp only [cond_true,cond_false,Bool.not_eq_true', decide_eq_false_iff_not]
         exact this
     · exact bif_t (by simp [e2]) (hk 2 (if_pos (.inr e2)))
   · exact bif_not (bif_neg e1 (hk 2 (if_pos (.inl e1))))
 | false =>
   refine bif_ff ?_
   simp only [hI,Bool.false_eq_true,false_and,or_false,false_or] at hk
   by_cases h1:natErr a=5
   · exact bif_pos h1 (hk 5 (if_pos (.inl h1)))
   refine bif_neg h1 ?_
   refine bif_dup (fun hp hc=>hk 5 (if_pos (.inr ⟨hp,bytes48.1 hc⟩))) fun hpc=>?_
   have h3:¬ (natErr a=5∨(preB s=true∧a=zeroS)):=by
    rintro (h | h)
    · exact h1 h
    · exact hpc ⟨h.1,bytes48.2 h.2⟩
   rw [if_neg h3] at hk
   by_cases e1:natErr a=0
   · refine bif_not (bif_pos e1 (bif_ff ?_))
     exact hk 0 (by rw [if_neg (by simpa using e1)]; simp)
   · exact bif_not (bif_neg e1 (hk 2 (if_pos e1)))
end
end Go.Proofs.YtnnkjpcipldnfaaGreatDoor.Lib
end
section
set_option linter.unusedSimpArgs false
set_option linter.unusedVariables false
namespace Go.Proofs.YtnnkjpcipldnfaaGreatDoor.Mach
open Go Go.Proofs.YtnnkjpcipldnfaaGreatDoor Go.Proofs.YtnnkjpcipldnfaaGreatDoor.Lib
section
set_option maxRecDepth 1000000
def xparts_live : List (Nat × List Nat):=[(6,[5,6,16,17])]
def xparts_nils : List (Nat × ETy):=[]
noncomputable def xparts_s6_0 (s x0:ByteArray) (x1:Bool) (x2 x3:Int):St:=stOf 35 [(5,AV.str x0),(6,AV.bool x1),(16,AV.int .i64 x2),(17,AV.int .i64 x3)] []
noncomputable def xparts_s6_1 (s:ByteArray) (x0:Bool) (x1 x2:Int):St:=stOf 35 [(5,AV.str s),(6,AV.bool x0),(16,AV.int .i64 x1),(17,AV.int .i64 x2)] []
theorem xparts_E (s:ByteArray) (n0:Nat) (K:AV→List HObj→Prop) :
 execN tab (mixE tab con0 [] 400) (maskN xparts_live xparts_nils (GoodL Tryz.prog n0 62 K)) (finK tab (fnT Tryz.f62).res K) 400 [.code (fnT Tryz.f62).body] ⟨initEnv (fnT Tryz.f62).n [AV.str s],[]⟩ =
 (bif decide (0<(↑s.size:Int)) then bif decide ((↑(s.data.toList.getD 0 0).toNat:Int)=45) then bif decide (1≤(↑s.size:Int)) && decide ((↑s.size:Int)≤(↑s.size:Int)) then GoodL Tryz.prog n0 62 K (headAt (fnT Tryz.f62) 6) (xparts_s6_0 s (s.extract 1 (↑s.size:Int).toNat) (decide ((↑(s.data.toList.getD 0 0).toNat:Int)=45)) (↑(s.extract 1 (↑s.size:Int).toNat).size:Int) 0) else False else GoodL Tryz.prog n0 62 K (headAt (fnT Tryz.f62) 6) (xparts_s6_1 s (decide ((↑(s.data.toList.getD 0 0).toNat:Int)=45)) (↑s.size:Int) 0) else False):=by kernel_rfl
theorem xparts_s6_0_E (s x0:ByteArray) (x1:Bool) (x2 x3:Int) (n0:Nat) (K:AV→List HObj→Prop) :
 execN tab (mixE tab con0 [] 400) (maskN xparts_live xparts_nils (GoodL Tryz.prog n0 62 K)) (finK tab (fnT Tryz.f62).res K) 400 (roundAt (fnT Tryz.f62) 6) (xparts_s6_0 s x0 x1 x2 x3) =
 (bif decide (x3<x2) then bif decide (0≤x3) && decide (x3<(↑x0.size:Int)) then bif decide ((↑(x0.data.toList.getD x3.toNat 0).toNat:Int)=47) then bif decide (0≤x3) && decide (x3≤(↑x0.size:Int)) then bif decide (0≤IntKind.i64.wrap (x3+1)) && decide (IntKind.i64.wrap (x3+1)≤(↑x0.size:Int)) && decide ((↑x0.size:Int)≤(↑x0.size:Int)) then K (AV.tup [AV.bool x1,AV.str (x0.extract 0 x3.toNat),AV.str (x0.extract (IntKind.i64.wrap (x3+1)).toNat (↑x0.size:Int).toNat)]) [] else False else False else GoodL Tryz.prog n0 62 K (headAt (fnT Tryz.f62) 6) (xparts_s6_0 s x0 x1 x2 (IntKind.i64.wrap (x3+1))) else False else K (AV.tup [AV.bool x1,AV.str x0,AV.str (ByteArray.mk #[49])]) []):=by kernel_rfl
theorem xparts_s6_1_E (s:ByteArray) (x0:Bool) (x1 x2:Int) (n0:Nat) (K:AV→List HObj→Prop) :
 execN tab (mixE tab con0 [] 400) (maskN xparts_live xparts_nils (GoodL Tryz.prog n0 62 K)) (finK tab (fnT Tryz.f62).res K) 400 (roundAt (fnT Tryz.f62) 6) (xparts_s6_1 s x0 x1 x2) =
 (bif decide (x2<x1) then bif decide (0≤x2) && decide (x2<(↑s.size:Int)) then bif decide ((↑(s.data.toList.getD x2.toNat 0).toNat:Int)=47) then bif decide (0≤x2) && decide (x2≤(↑s.size:Int)) then bif decide (0≤IntKind.i64.wrap (x2+1)) && decide (IntKind.i64.wrap (x2+1)≤(↑s.size:Int)) && decide ((↑s.size:Int)≤(↑s.size:Int)) then K (AV.tup [AV.bool x0,AV.str (s.extract 0 x2.toNat),AV.str (s.extract (IntKind.i64.wrap (x2+1)).toNat (↑s.size:Int).toNat)]) [] else False else False else GoodL Tryz.prog n0 62 K (headAt (fnT Tryz.f62) 6) (xparts_s6_1 s x0 x1 (IntKind.i64.wrap (x2+1))) else False else K (AV.tup [AV.bool x0,AV.str s,AV.str (ByteArray.mk #[49])]) []):=by kernel_rfl
def xcanon_live : List (Nat × List Nat):=[]
def xcanon_nils : List (Nat × ETy):=[]
theorem xcanon_E (neg:Bool) (n d:ByteArray) (n0:Nat) (K:AV→List HObj→Prop) :
 execN tab (mixE tab conX1 [] 400) (maskN xcanon_live xcanon_nils (GoodL Tryz.prog n0 63 K)) (finK tab (fnT Tryz.f63).res K) 400 [.code (fnT Tryz.f63).body] ⟨initEnv (fnT Tryz.f63).n [AV.bool neg,AV.str n,AV.str d],[]⟩ =
 (bif n.toList == (ByteArray.mk #[48]).toList then K (AV.str (ByteArray.mk #[48])) [] else ∃ u v,n=Sem.natText u∧d=Sem.natText v∧Sem.dg u≤9000000000∧Sem.dg v≤9000000000∧∃ u_1 v_1,n=Sem.natText u_1∧Sem.natText (u.gcd v)=Sem.natText v_1∧Sem.dg u_1≤9000000000∧Sem.dg v_1≤9000000000∧0<v_1∧∃ u_2 v_2,d=Sem.natText u_2∧Sem.natText (u.gcd v)=Sem.natText v_2∧Sem.dg u_2≤9000000000∧Sem.dg v_2≤9000000000∧0<v_2∧bif neg then bif decide (1+(Sem.natText (u_1 / v_1)).size≤9223372036854775807) then bif (Sem.natText (u_2 / v_2)).toList == (ByteArray.mk #[49]).toList then K (AV.str (ByteArray.mk #[45] ++ Sem.natText (u_1 / v_1))) [] else bif decide ((ByteArray.mk #[45] ++ Sem.natText (u_1 / v_1)).size+1≤9223372036854775807) then bif decide ((ByteArray.mk #[45] ++ Sem.natText (u_1 / v_1) ++ ByteArray.mk #[47]).size+(Sem.natText (u_2 / v_2)).size≤9223372036854775807) then K (AV.str (ByteArray.mk #[45] ++ Sem.natText (u_1 / v_1) ++ ByteArray.mk #[47] ++ Sem.natText (u_2 / v_2))) [] else False else False else False else bif (Sem.natText (u_2 / v_2)).toList == (ByteArray.mk #[49]).toList then K (AV.str (Sem.natText (u_1 / v_1))) [] else bif decide ((Sem.natText (u_1 / v_1)).size+1≤9223372036854775807) then bif decide ((Sem.natText (u_1 / v_1) ++ ByteArray.mk #[47]).size+(Sem.natText (u_2 / v_2)).size≤9223372036854775807) then K (AV.str (Sem.natText (u_1 / v_1) ++ ByteArray.mk #[47] ++ Sem.natText (u_2 / v_2))) [] else False else False):=by kernel_rfl
def xerr_live : List (Nat × List Nat):=[(6,[3,4,5,6,7,24,25])]
def xerr_nils : List (Nat × ETy):=[]
noncomputable def xerr_s6_0 (s x0:ByteArray) (x1:Int) (x2 x3:ByteArray) (x4 x5:Int):St:=stOf 86 [(3,AV.str x0),(4,AV.bool true),(5,AV.int .i64 x1),(6,AV.str x2),(7,AV.str x3),(24,AV.int .i64 x4),(25,AV.int .i64 x5)] []
noncomputable def xerr_s6_1 (s:ByteArray) (x0:Int) (x1:ByteArray) (x2 x3:Int):St:=stOf 86 [(3,AV.str s),(4,AV.bool false),(5,AV.int .i64 x0),(6,AV.str s),(7,AV.str x1),(24,AV.int .i64 x2),(25,AV.int .i64 x3)] []
noncomputable def xerr_s6_2 (s:ByteArray) (x0:Int) (x1 x2:ByteArray) (x3 x4:Int):St:=stOf 86 [(3,AV.str s),(4,AV.bool false),(5,AV.int .i64 x0),(6,AV.str x1),(7,AV.str x2),(24,AV.int .i64 x3),(25,AV.int .i64 x4)] []
theorem xerr_E (s:ByteArray) (n0:Nat) (K:AV→List HObj→Prop) :
 execN tab (mixE tab conX1 [] 400) (maskN xerr_live xerr_nils (GoodL Tryz.prog n0 111 K)) (finK tab (fnT Tryz.f111).res K) 400 [.code (fnT Tryz.f111).body] ⟨initEnv (fnT Tryz.f111).n [AV.str s],[]⟩ =
 (bif decide ((↑s.size:Int) > 0) then bif decide (0<(↑s.size:Int)) then bif bif true then decide ((↑(s.data.toList.getD 0 0).toNat:Int)=45) else false then bif decide (1≤(↑s.size:Int)) && decide ((↑s.size:Int)≤(↑s.size:Int)) then GoodL Tryz.prog n0 111 K (headAt (fnT Tryz.f111) 6) (xerr_s6_0 s (s.extract 1 (↑s.size:Int).toNat) 1 (s.extract 1 (↑s.size:Int).toNat) (ByteArray.mk #[50]) (↑(s.extract 1 (↑s.size:Int).toNat).size:Int) 0) else False else GoodL Tryz.prog n0 111 K (headAt (fnT Tryz.f111) 6) (xerr_s6_1 s 1 (ByteArray.mk #[50]) (↑s.size:Int) 0) else False else GoodL Tryz.prog n0 111 K (headAt (fnT Tryz.f111) 6) (xerr_s6_1 s 1 (ByteArray.mk #[50]) (↑s.size:Int) 0)):=by kernel_rfl
theorem xerr_s6_0_E (s x0:ByteArray) (x1:Int) (x2 x3:ByteArray) (x4 x5:Int) (n0:Nat) (K:AV→List HObj→Prop) :
 execN tab (mixE tab conX1 [] 400) (maskN xerr_live xerr_nils (GoodL Tryz.prog n0 111 K)) (finK tab (fnT Tryz.f111).res K) 400 (roundAt (fnT Tryz.f111) 6) (xerr_s6_0 s x0 x1 x2 x3 x4 x5) =
 (bif decide (x5<x4) then bif decide (0≤x5) && decide (x5<(↑x0.size:Int)) then bif decide ((↑(x0.data.toList.getD x5.toNat 0).toNat:Int)=47) then bif bif true then decide (x1=1) else false then bif decide (0≤x5) && decide (x5≤(↑x0.size:Int)) then bif decide (0≤IntKind.i64.wrap (x5+1)) && decide (IntKind.i64.wrap (x5+1)≤(↑x0.size:Int)) && decide ((↑x0.size:Int)≤(↑x0.size:Int)) then GoodL Tryz.prog n0 111 K (headAt (fnT Tryz.f111) 6) (xerr_s6_0 s x0 2 (x0.extract 0 x5.toNat) (x0.extract (IntKind.i64.wrap (x5+1)).toNat (↑x0.size:Int).toNat) x4 (IntKind.i64.wrap (x5+1))) else False else False else GoodL Tryz.prog n0 111 K (headAt (fnT Tryz.f111) 6) (xerr_s6_0 s x0 x1 x2 x3 x4 (IntKind.i64.wrap (x5+1))) else GoodL Tryz.prog n0 111 K (headAt (fnT Tryz.f111) 6) (xerr_s6_0 s x0 x1 x2 x3 x4 (IntKind.i64.wrap (x5+1))) else False else x2.size≤1000000000000000∧x3.size≤1000000000000000∧bif decide (Pure.natErr x2=5) then K (AV.int .i64 5) [] else bif bif false then true else decide (Pure.natErr x3=5) then K (AV.int .i64 5) [] else bif bif false then true else bif true then x2.toList == (ByteArray.mk #[48]).toList else false then K (AV.int .i64 5) [] else bif !decide (Pure.natErr x2=0) then K (AV.int .i64 2) [] else bif bif false then true else !decide (Pure.natErr x3=0) then K (AV.int .i64 2) [] else bif decide (x1=2) then bif x3.toList == (ByteArray.mk #[48]).toList then K (AV.int .i64 3) [] else bif bif false then true else x3.toList == (ByteArray.mk #[49]).toList then K (AV.int .i64 3) [] else ∃ u v,x2=Sem.natText u∧x3=Sem.natText v∧Sem.dg u≤9000000000∧Sem.dg v≤9000000000∧bif bif true then bif false then true else !(Sem.natText (u.gcd v)).toList == (ByteArray.mk #[49]).toList else false then K (AV.int .i64 3) [] else K (AV.int .i64 0) [] else K (AV.int .i64 0) []):=by kernel_rfl
theorem xerr_s6_1_E (s:ByteArray) (x0:Int) (x1:ByteArray) (x2 x3:Int) (n0:Nat) (K:AV→List HObj→Prop) :
 execN tab (mixE tab conX1 [] 400) (maskN xerr_live xerr_nils (GoodL Tryz.prog n0 111 K)) (finK tab (fnT Tryz.f111).res K) 400 (roundAt (fnT Tryz.f111) 6) (xerr_s6_1 s x0 x1 x2 x3) =
 (bif decide (x3<x2) then bif decide (0≤x3) && decide (x3<(↑s.size:Int)) then bif decide ((↑(s.data.toList.getD x3.toNat 0).toNat:Int)=47) then bif bif true then decide (x0=1) else false then bif decide (0≤x3) && decide (x3≤(↑s.size:Int)) then bif decide (0≤IntKind.i64.wrap (x3+1)) && decide (IntKind.i64.wrap (x3+1)≤(↑s.size:Int)) && decide ((↑s.size:Int)≤(↑s.size:Int)) then GoodL Tryz.prog n0 111 K (headAt (fnT Tryz.f111) 6) (xerr_s6_2 s 2 (s.extract 0 x3.toNat) (s.extract (IntKind.i64.wrap (x3+1)).toNat (↑s.size:Int).toNat) x2 (IntKind.i64.wrap (x3+1))) else False else False else GoodL Tryz.prog n0 111 K (headAt (fnT Tryz.f111) 6) (xerr_s6_1 s x0 x1 x2 (IntKind.i64.wrap (x3+1))) else GoodL Tryz.prog n0 111 K (headAt (fnT Tryz.f111) 6) (xerr_s6_1 s x0 x1 x2 (IntKind.i64.wrap (x3+1))) else False else s.size≤1000000000000000∧x1.size≤1000000000000000∧bif decide (Pure.natErr s=5) then K (AV.int .i64 5) [] else bif bif false then true else decide (Pure.natErr x1=5) then K (AV.int .i64 5) [] else bif !decide (Pure.natErr s=0) then K (AV.int .i64 2) [] else bif bif false then true else !decide (Pure.natErr x1=0) then K (AV.int .i64 2) [] else bif decide (x0=2) then bif x1.toList == (ByteArray.mk #[48]).toList then K (AV.int .i64 3) [] else bif bif false then true else x1.toList == (ByteArray.mk #[49]).toList then K (AV.int .i64 3) [] else ∃ u v,s=Sem.natText u∧x1=Sem.natText v∧Sem.dg u≤9000000000∧Sem.dg v≤9000000000∧bif bif true then bif false then true else !(Sem.natText (u.gcd v)).toList == (ByteArray.mk #[49]).toList else false then K (AV.int .i64 3) [] else K (AV.int .i64 0) [] else K (AV.int .i64 0) []):=by kernel_rfl
theorem xerr_s6_2_E (s:ByteArray) (x0:Int) (x1 x2:ByteArray) (x3 x4:Int) (n0:Nat) (K:AV→List HObj→Prop) :
 execN tab (mixE tab conX1 [] 400) (maskN xerr_live xerr_nils (GoodL Tryz.prog n0 111 K)) (finK tab (fnT Tryz.f111).res K) 400 (roundAt (fnT Tryz.f111) 6) (xerr_s6_2 s x0 x1 x2 x3 x4) =
 (bif decide (x4<x3) then bif decide (0≤x4) && decide (x4<(↑s.size:Int)) then bif decide ((↑(s.data.toList.getD x4.toNat 0).toNat:Int)=47) then bif bif true then decide (x0=1) else false then bif decide (0≤x4) && decide (x4≤(↑s.size:Int)) then bif decide (0≤IntKind.i64.wrap (x4+1)) && decide (IntKind.i64.wrap (x4+1)≤(↑s.size:Int)) && decide ((↑s.size:Int)≤(↑s.size:Int)) then GoodL Tryz.prog n0 111 K (headAt (fnT Tryz.f111) 6) (xerr_s6_2 s 2 (s.extract 0 x4.toNat) (s.extract (IntKind.i64.wrap (x4+1)).toNat (↑s.size:Int).toNat) x3 (IntKind.i64.wrap (x4+1))) else False else False else GoodL Tryz.prog n0 111 K (headAt (fnT Tryz.f111) 6) (xerr_s6_2 s x0 x1 x2 x3 (IntKind.i64.wrap (x4+1))) else GoodL Tryz.prog n0 111 K (headAt (fnT Tryz.f111) 6) (xerr_s6_2 s x0 x1 x2 x3 (IntKind.i64.wrap (x4+1))) else False else x1.size≤1000000000000000∧x2.size≤1000000000000000∧bif decide (Pure.natErr x1=5) then K (AV.int .i64 5) [] else bif bif false then true else decide (Pure.natErr x2=5) then K (AV.int .i64 5) [] else bif !decide (Pure.natErr x1=0) then K (AV.int .i64 2) [] else bif bif false then true else !decide (Pure.natErr x2=0) then K (AV.int .i64 2) [] else bif decide (x0=2) then bif x2.toList == (ByteArray.mk #[48]).toList then K (AV.int .i64 3) [] else bif bif false then true else x2.toList == (ByteArray.mk #[49]).toList then K (AV.int .i64 3) [] else ∃ u v,x1=Sem.natText u∧x2=Sem.natText v∧Sem.dg u≤9000000000∧Sem.dg v≤9000000000∧bif bif true then bif false then true else !(Sem.natText (u.gcd v)).toList == (ByteArray.mk #[49]).toList else false then K (AV.int .i64 3) [] else K (AV.int .i64 0) [] else K (AV.int .i64 0) []):=by kernel_rfl
def xerrs_live : List (Nat × List Nat):=[(2,[6,7,8])]
def xerrs_nils : List (Nat × ETy):=[(6,eS)]
noncomputable def xerrs_s2_0 (l:List ByteArray) (x0 x1:Int):St:=stOf 18 [(6,AV.imm eS l),(7,AV.int .i64 x0),(8,AV.int .i64 x1)] []
theorem xerrs_E (l:List ByteArray) (n0:Nat) (K:AV→List HObj→Prop) :
 execN tab (mixE tab conX3 [] 400) (maskN xerrs_live xerrs_nils (GoodL Tryz.prog n0 89 K)) (finK tab (fnT Tryz.f89).res K) 400 [.code (fnT Tryz.f89).body] ⟨initEnv (fnT Tryz.f89).n [AV.imm eS l],[]⟩ =
 (GoodL Tryz.prog n0 89 K (headAt (fnT Tryz.f89) 2) (xerrs_s2_0 l (↑l.length:Int) 0)):=by kernel_rfl
theorem xerrs_s2_0_E (l:List ByteArray) (x0 x1:Int) (n0:Nat) (K:AV→List HObj→Prop) :
 execN tab (mixE tab conX3 [] 400) (maskN xerrs_live xerrs_nils (GoodL Tryz.prog n0 89 K)) (finK tab (fnT Tryz.f89).res K) 400 (roundAt (fnT Tryz.f89) 2) (xerrs_s2_0 l x0 x1) =
 (bif decide (x1<x0) then bif decide (0≤x1) && decide (x1<(↑l.length:Int)) then Tx (l.getD x1.toNat ByteArray.empty)∧bif !decide (ratErr (l.getD x1.toNat ByteArray.empty)=0) then K (AV.int .i64 (ratErr (l.getD x1.toNat ByteArray.empty))) [] else GoodL Tryz.prog n0 89 K (headAt (fnT Tryz.f89) 2) (xerrs_s2_0 l x0 (IntKind.i64.wrap (x1+1))) else False else K (AV.int .i64 0) []):=by kernel_rfl
def xneg_live : List (Nat × List Nat):=[]
def xneg_nils : List (Nat × ETy):=[]
theorem xneg_E (s:ByteArray) (n0:Nat) (K:AV→List HObj→Prop) :
 execN tab (mixE tab conX2 [] 400) (maskN xneg_live xneg_nils (GoodL Tryz.prog n0 39 K)) (finK tab (fnT Tryz.f39).res K) 400 [.code (fnT Tryz.f39).body] ⟨initEnv (fnT Tryz.f39).n [AV.str s],[]⟩ =
 (∃ q,s=Sem.ratText q∧Sz 9000000000 q∧∃ u v,Sem.natText q.num.natAbs=Sem.natText u∧Sem.natText q.den=Sem.natText v∧0<v∧Sem.dg u≤9000000000∧Sem.dg v≤9000000000∧K (AV.str (Sem.ratText (Sem.mkq (!decide (q.num<0)) u v))) []):=by kernel_rfl
def xadd_live : List (Nat × List Nat):=[]
def xadd_nils : List (Nat × ETy):=[]
theorem xadd_E (s t:ByteArray) (n0:Nat) (K:AV→List HObj→Prop) :
 execN tab (mixE tab conX2 [] 400) (maskN xadd_live xadd_nils (GoodL Tryz.prog n0 75 K)) (finK tab (fnT Tryz.f75).res K) 400 [.code (fnT Tryz.f75).body] ⟨initEnv (fnT Tryz.f75).n [AV.str s,AV.str t],[]⟩ =
 (∃ q,s=Sem.ratText q∧Sz 9000000000 q∧∃ q_1,t=Sem.ratText q_1∧Sz 9000000000 q_1∧∃ u v,Sem.natText q.num.natAbs=Sem.natText u∧Sem.natText q_1.den=Sem.natText v∧Sem.dg u≤5000000000∧Sem.dg v≤5000000000∧∃ u_1 v_1,Sem.natText q_1.num.natAbs=Sem.natText u_1∧Sem.natText q.den=Sem.natText v_1∧Sem.dg u_1≤5000000000∧Sem.dg v_1≤5000000000∧∃ u_2 v_2,Sem.natText q.den=Sem.natText u_2∧Sem.natText q_1.den=Sem.natText v_2∧Sem.dg u_2≤5000000000∧Sem.dg v_2≤5000000000∧bif decide (q.num<0) == decide (q_1.num<0) then ∃ u_3 v_3,Sem.natText (u * v)=Sem.natText u_3∧Sem.natText (u_1 * v_1)=Sem.natText v_3∧Sem.dg u_3≤10000000000∧Sem.dg v_3≤10000000000∧∃ u v,Sem.natText (u_3+v_3)=Sem.natText u∧Sem.natText (u_2 * v_2)=Sem.natText v∧0<v∧Sem.dg u≤9000000000∧Sem.dg v≤9000000000∧K (AV.str (Sem.ratText (Sem.mkq (decide (q.num<0)) u v))) [] else ∃ u_3 v_3,Sem.natText (u * v)=Sem.natText u_3∧Sem.natText (u_1 * v_1)=Sem.natText v_3∧bif decide (Pure.cmpI (↑u_3:Int) (↑v_3:Int)<0) then ∃ u_4 v_4,Sem.natText (u_1 * v_1)=Sem.natText u_4∧Sem.natText (u * v)=Sem.natText v_4∧Sem.dg u_4≤10000000000∧v_4≤u_4∧∃ u v,Sem.natText (u_4 - v_4)=Sem.natText u∧Sem.natText (u_2 * v_2)=Sem.natText v∧0<v∧Sem.dg u≤9000000000∧Sem.dg v≤9000000000∧K (AV.str (Sem.ratText (Sem.mkq (decide (q_1.num<0)) u v))) [] else ∃ u_4 v_4,Sem.natText (u * v)=Sem.natText u_4∧Sem.natText (u_1 * v_1)=Sem.natText v_4∧Sem.dg u_4≤10000000000∧v_4≤u_4∧∃ u v,Sem.natText (u_4 - v_4)=Sem.natText u∧Sem.natText (u_2 * v_2)=Sem.natText v∧0<v∧Sem.dg u≤9000000000∧Sem.dg v≤9000000000∧K (AV.str (Sem.ratText (Sem.mkq (decide (q.num<0)) u v))) []):=by kernel_rfl
def xmul_live : List (Nat × List Nat):=[]
def xmul_nils : List (Nat × ETy):=[]
theorem xmul_E (s t:ByteArray) (n0:Nat) (K:AV→List HObj→Prop) :
 execN tab (mixE tab conX2 [] 400) (maskN xmul_live xmul_nils (GoodL Tryz.prog n0 26 K)) (finK tab (fnT Tryz.f26).res K) 400 [.code (fnT Tryz.f26).body] ⟨initEnv (fnT Tryz.f26).n [AV.str s,AV.str t],[]⟩ =
 (∃ q,s=Sem.ratText q∧Sz 9000000000 q∧∃ q_1,t=Sem.ratText q_1∧Sz 9000000000 q_1∧∃ u v,Sem.natText q.num.natAbs=Sem.natText u∧Sem.natText q_1.num.natAbs=Sem.natText v∧Sem.dg u≤5000000000∧Sem.dg v≤5000000000∧∃ u_1 v_1,Sem.natText q.den=Sem.natText u_1∧Sem.natText q_1.den=Sem.natText v_1∧Sem.dg u_1≤5000000000∧Sem.dg v_1≤5000000000∧∃ u_2 v_2,Sem.natText (u * v)=Sem.natText u_2∧Sem.natText (u_1 * v_1)=Sem.natText v_2∧0<v_2∧Sem.dg u_2≤9000000000∧Sem.dg v_2≤9000000000∧K (AV.str (Sem.ratText (Sem.mkq (!decide (q.num<0) == decide (q_1.num<0)) u_2 v_2))) []):=by kernel_rfl
def xsign_live : List (Nat × List Nat):=[]
def xsign_nils : List (Nat × ETy):=[]
theorem xsign_E (s:ByteArray) (n0:Nat) (K:AV→List HObj→Prop) :
 execN tab (mixE tab conX2 [] 400) (maskN xsign_live xsign_nils (GoodL Tryz.prog n0 77 K)) (finK tab (fnT Tryz.f77).res K) 400 [.code (fnT Tryz.f77).body] ⟨initEnv (fnT Tryz.f77).n [AV.str s],[]⟩ =
 (∃ q,s=Sem.ratText q∧Sz 9000000000 q∧bif (Sem.natText q.num.natAbs).toList == (ByteArray.mk #[48]).toList then K (AV.int .i64 0) [] else bif decide (q.num<0) then K (AV.int .i64 (-1)) [] else K (AV.int .i64 1) []):=by kernel_rfl
end
end Go.Proofs.YtnnkjpcipldnfaaGreatDoor.Mach
end
section
set_option linter.unusedSimpArgs false
set_option linter.unusedVariables false
namespace Go.Proofs.YtnnkjpcipldnfaaGreatDoor.Lib
open Go Go.Proofs.YtnnkjpcipldnfaaGreatDoor.Mach Go.Proofs.YtnnkjpcipldnfaaGreatDoorW.PrintWords Go.Proofs.YtnnkjpcipldnfaaGreatDoor.Sem Go.Proofs.YtnnkjpcipldnfaaGreatDoor.Pure
section
theorem res_str {Q:Res} {s:ByteArray} {H:List HObj} (h:Q (.str s) []):resK Q (.str s) H:=res_plain h rfl rfl
theorem res_int {Q:Res} {k:IntKind} {n:Int} {H:List HObj} (h:Q (.int k n) []):resK Q (.int k n) H:=res_plain h rfl rfl
theorem res_bool {Q:Res} {n:Bool} {H:List HObj} (h:Q (.bool n) []):resK Q (.bool n) H:=res_plain h rfl rfl
theorem getD_at (s:ByteArray) (i:Nat) (h:i<s.size):s[i]! = s.data.toList.getD i 0:=by
 rw [at_get s i h,List.getD_eq_getElem?_getD,List.getD_eq_getElem?_getD,List.getElem?_eq_getElem (by rw [Array.length_toList]; exact h)]
 rfl
theorem fi_at {s:ByteArray} {i:Nat} (hi:i<s.size) (h:s.data.toList.getD i 0=47):0≤firstIdx s 47∧firstIdx s 47≤i:=by
 rw [← getD_at s i hi] at h
 unfold firstIdx
 split
 · rename_i j hj
   obtain ⟨h1,h2,h3⟩:=List.find?_range_eq_some.1 hj
   refine ⟨by omega,?_⟩
   have:j≤i:=Nat.le_of_not_lt fun hl=>by
    have:=h3 i hl
    rw [h] at this
    simp at this
   omega
 · rename_i hn
   have:=(List.find?_eq_none.1 hn) i (by simpa using hi)
   rw [h] at this
   simp at this
theorem fi_ne {s:ByteArray} {i:Nat} (hi:i<s.size) (h:s.data.toList.getD i 0≠47):firstIdx s 47≠i:=by
 rw [← getD_at s i hi] at h
 unfold firstIdx
 split
 · rename_i j hj
   obtain ⟨h1,h2,h3⟩:=List.find?_range_eq_some.1 hj
   intro he
   have:j=i:=by omega
   rw [this] at h1
   exact h (by simpa using h1)
 · omega
theorem b47 {s:ByteArray} {i:Nat}:(((s.data.toList.getD i 0).toNat:Int)=47)↔s.data.toList.getD i 0=47 :=
 ⟨fun h => by have:(s.data.toList.getD i 0).toNat=(47:UInt8).toNat:=by rw [show (47:UInt8).toNat=47 from rfl]; omega
              exact UInt8.toNat_inj.1 this,fun h=>by rw [h]; rfl⟩
theorem b45 {s:ByteArray} (hs:0<s.size):(((s.data.toList.getD 0 0).toNat:Int)=45)↔preB s=true:=by
 unfold preB
 rw [decide_eq_true (show 1≤s.size by omega),cond_true,beq_iff_eq,ByteArray.toList_eq,ByteArray.toList_eq,ByteArray.data_extract,Array.toList_extract,List.extract_eq_take_drop]
 have hl:s.data.toList.length=s.size:=by rw [Array.length_toList]; rfl
 match hd:s.data.toList with
 | []=>rw [hd] at hl; simp at hl; omega
 | c :: r =>
   simp only [List.getD_cons_zero,List.drop_zero,Nat.sub_zero,List.take_succ_cons,List.take_zero,List.cons.injEq,and_true]
   exact ⟨fun h=>UInt8.toNat_inj.1 (by rw [show (45:UInt8).toNat=45 from rfl]; omega),fun h=>by rw [h]; rfl⟩
theorem parts_loop (r:ByteArray) (hr:r.size≤1000000000000) {S:Nat→St} {f:FuncId} {gn:FnT} (hg:find tab.fn f=some gn) {LT:List (Nat × List Nat)} {NT:List (Nat × ETy)} {C:FuncId→List AV→Res→Prop} (hC:∀ g xs Q,C g xs Q→Con Tryz.prog g xs Q) {K:Res} {n0 reg:Nat} {A B:Prop}
 (hE:∀ x:Nat,x≤r.size→(bif decide ((x:Int)<(r.size:Int)) then (bif decide (((r.data.toList.getD x 0).toNat:Int)=47) then (firstIdx r 47=x∧A) else GoodL Tryz.prog n0 f K (headAt gn reg) (S (x+1))) else B)→execN tab (mixE tab C [] 400) (maskN LT NT (GoodL Tryz.prog n0 f K)) (finK tab gn.res K) 400 (roundAt gn reg) (S x))
 (hA:cutI r=true→A) (hB:cutI r=false→B):GoodL Tryz.prog n0 f K (headAt gn reg) (S 0):=by
 refine loopN hg hC (inl:=[]) (LT:=LT) (NT:=NT) (S:=S) (fun x=>r.size - x) (fun x=>x≤r.size∧(firstIdx r 47<0∨(x:Int)≤firstIdx r 47)) (fun x hp ih=>hE x hp.1 ?_) 0 ⟨Nat.zero_le _,by omega⟩
 obtain ⟨hp,hq⟩:=hp
 have hl:=firstIdx_lt r 47
 by_cases hx:x<r.size
 · refine bif_pos (by omega) ?_
   by_cases h47:r.data.toList.getD x 0=47
   · have:=fi_at hx h47
     refine bif_pos (b47.2 h47) ⟨by omega,hA ?_⟩
     unfold cutI
     exact decide_eq_true (by omega)
   · refine bif_neg (fun h=>h47 (b47.1 h)) (ih (x+1) ⟨by omega,?_⟩ (by omega))
     have:=fi_ne hx h47
     omega
 · refine bif_neg (by omega) (hB ?_)
   unfold cutI
   exact decide_eq_false (by omega)
theorem preR_neg {s:ByteArray} (h:preB s=true):preR s=s.extract 1 s.size:=by unfold preR; rw [h]; rfl
theorem preR_pos {s:ByteArray} (h:¬ preB s=true):preR s=s:=by
 unfold preR
 cases hb:preB s
 · rfl
 · exact absurd hb h
theorem cut_parts {r:ByteArray} {x:Nat} (he:firstIdx r 47=x):r.extract 0 x=cutA r∧r.extract (x+1) r.size=cutB r:=by
 have hI:cutI r=true:=by unfold cutI; exact decide_eq_true (by omega)
 unfold cutA cutB
 rw [hI,he,Int.toNat_natCast]
 exact ⟨rfl,rfl⟩
theorem parts_con {s:ByteArray} {Q:Res} (h:partsS s Q):Con Tryz.prog 62 [.str s] Q:=by
 obtain ⟨q,rfl,sq,hq⟩:=h
 refine conN (gn:=fnT Tryz.f62) (by kernel_rfl) con0_ok (inl:=[]) (LT:=xparts_live) (NT:=xparts_nils) rfl fun n0=>?_
 rw [xparts_E]
 obtain ⟨p1,p2,p3,p4⟩:=rt_parts (decide (q.num<0)) q.num.natAbs q.den
 have hs:=text_size q
 have hp:=dg_pos q.num.natAbs
 have e1:=sz_n sq
 have e2:=sz_d sq
 have e3:szN q=dg q.num.natAbs:=rfl
 have e4:szD q=dg q.den:=rfl
 have hr:=preR_le (ratText q)
 change preB (ratText q)=_ at p1
 change cutA (preR (ratText q))=_ at p2
 change cutI (preR (ratText q))=_ at p3
 change q.den≠1→cutB (preR (ratText q))=_ at p4
 generalize ratText q=s at *
 have hA:∀ b r,b=decide (q.num<0)→r=preR s→cutI r=true→resK Q (.tup [.bool b, .str (cutA r), .str (cutB r)]) []:=by
  rintro b r rfl rfl hI
  rw [p3] at hI
  rw [p2,p4 (of_decide_eq_true hI)]
  exact res_plain hq rfl rfl
 have hB:∀ b r,b=decide (q.num<0)→r=preR s→cutI r=false→resK Q (.tup [.bool b, .str r, .str ⟨#[49]⟩]) []:=by
  rintro b r rfl rfl hI
  have ha:cutA (preR s)=preR s:=by unfold cutA; rw [hI]; rfl
  rw [p3] at hI
  have h1:q.den=1:=by simpa using hI
  rw [h1,natText_one] at hq
  rw [← ha,p2]
  exact res_plain hq rfl rfl
 refine bif_pos (by omega) ?_
 by_cases hb:preB s=true
 · refine bif_pos ((b45 (by omega)).2 hb) ?_
   refine bif_and (bif_pos (by omega) (bif_pos (by omega) ?_))
   rw [decide_eq_true ((b45 (by omega)).2 hb),Int.toNat_natCast,← preR_neg hb]
   have hbb:true=decide (q.num<0):=by rw [← p1,hb]
   refine parts_loop (preR s) (by omega) (S:=fun x:Nat=>xparts_s6_0 s (preR s) true ((preR s).size:Int) (x:Int)) (by kernel_rfl) (LT:=xparts_live) (NT:=xparts_nils) con0_ok (fun x hx h=>?_) (hA true (preR s) hbb rfl) (hB true (preR s) hbb rfl)
   rw [xparts_s6_0_E]
   by_cases hlt:x<(preR s).size
   · refine bif_pos (by omega) (bif_and (bif_pos (by omega) (bif_pos (by omega) ?_)))
     rw [decide_eq_true (by omega),cond_true] at h
     rw [Int.toNat_natCast]
     rw [show IntKind.i64.wrap ((x:Int)+1)=((x+1:Nat):Int) by rw [wr (by omega) (by omega)]; omega]
     by_cases h47:(((preR s).data.toList.getD x 0).toNat:Int)=47
     · rw [decide_eq_true h47,cond_true] at h
       refine bif_pos h47 (bif_and (bif_pos (by omega) (bif_pos (by omega) (bif_and (bif_and (bif_pos (by omega) (bif_pos (by omega) (bif_pos (by omega) ?_))))))))
       rw [Int.toNat_natCast,Int.toNat_natCast,(cut_parts h.1).1,(cut_parts h.1).2]
       exact h.2
     · rw [decide_eq_false h47,cond_false] at h
       exact bif_neg h47 h
   · rw [decide_eq_false (by omega),cond_false] at h
     exact bif_neg (by omega) h
 · refine bif_neg (fun h=>hb ((b45 (by omega)).1 h)) ?_
   rw [decide_eq_false (fun h=>hb ((b45 (by omega)).1 h))]
   have hbb:false=decide (q.num<0):=by
    rw [← p1]
    cases hc:preB s
    · rfl
    · exact absurd hc hb
   have hss:=preR_pos hb
   refine parts_loop s (by omega) (S:=fun x:Nat=>xparts_s6_1 s false (s.size:Int) (x:Int)) (by kernel_rfl) (LT:=xparts_live) (NT:=xparts_nils) con0_ok (fun x hx h=>?_) (hA false s hbb hss.symm) (hB false s hbb hss.symm)
   rw [xparts_s6_1_E]
   by_cases hlt:x<(s).size
   · refine bif_pos (by omega) (bif_and (bif_pos (by omega) (bif_pos (by omega) ?_)))
     rw [decide_eq_true (by omega),cond_true] at h
     rw [Int.toNat_natCast]
     rw [show IntKind.i64.wrap ((x:Int)+1)=((x+1:Nat):Int) by rw [wr (by omega) (by omega)]; omega]
     by_cases h47:(((s).data.toList.getD x 0).toNat:Int)=47
     · rw [decide_eq_true h47,cond_true] at h
       refine bif_pos h47 (bif_and (bif_pos (by omega) (bif_pos (by omega) (bif_and (bif_and (bif_pos (by omega) (bif_pos (by omega) (bif_pos (by omega) ?_))))))))
       rw [Int.toNat_natCast,Int.toNat_natCast,(cut_parts h.1).1,(cut_parts h.1).2]
       exact h.2
     · rw [decide_eq_false h47,cond_false] at h
       exact bif_neg h47 h
   · rw [decide_eq_false (by omega),cond_false] at h
     exact bif_neg (by omega) h
theorem conX1_ok : ∀ g xs Q,conX1 g xs Q→Con Tryz.prog g xs Q:=table_ok fun p hp=>by
 simp only [List.mem_cons,List.not_mem_nil,or_false] at hp
 rcases hp with rfl | rfl | rfl | rfl | rfl | rfl | rfl
 · exact c1_ok fun _ _ h=>rerr_conS h
 · exact c2_ok fun _ _ _ h=>rcmp_conS h
 · exact c2_ok fun _ _ _ h=>radd_conS h
 · exact c2_ok fun _ _ _ h=>rsub_conS h
 · exact c2_ok fun _ _ _ h=>rmul_conS h
 · exact c2_ok fun _ _ _ h=>rdiv_conS h
 · exact c2_ok fun _ _ _ h=>rgcd_conS h
theorem is0 {n:Nat}:((natText n).toList == (ByteArray.mk #[48]).toList)=true↔n=0:=by
 rw [bytes48]
 exact ⟨fun h=>natText_inj (h.trans natText_zero.symm),fun h=>by rw [h]; exact natText_zero⟩
theorem is1 {n:Nat}:((natText n).toList == (ByteArray.mk #[49]).toList)=true↔n=1:=by
 rw [bytes49]
 exact ⟨fun h=>natText_inj (h.trans natText_one.symm),fun h=>by rw [h]; exact natText_one⟩
theorem canon_con {neg:Bool} {n d:ByteArray} {Q:Res} (h:canonS neg n d Q):Con Tryz.prog 63 [.bool neg, .str n, .str d] Q:=by
 obtain ⟨u,v,rfl,rfl,hv,hbu,hbv,hq⟩:=h
 refine conN (gn:=fnT Tryz.f63) (by kernel_rfl) conX1_ok (inl:=[]) (LT:=xcanon_live) (NT:=xcanon_nils) rfl fun n0=>?_
 rw [xcanon_E]
 have hk:∀ r,ratText (mkq neg u v)=r→resK Q (.str r) []:=fun r h=>by rw [h] at hq; exact res_str hq
 by_cases h0:u=0
 · exact bif_t (is0.2 h0) (hk _ (by rw [h0,mkq_zero]; exact ratText_zero))
 refine bif_f (fun h=>h0 (is0.1 h)) ?_
 have hg:0<Nat.gcd u v:=Nat.gcd_pos_of_pos_right u hv
 have hgb:dg (Nat.gcd u v)≤9000000000:=Nat.le_trans (dg_mono (Nat.le_of_dvd hv (Nat.gcd_dvd_right u v))) hbv
 have hr:=ratText_mkq (neg:=neg) hv (show 0<u by omega)
 rw [hr] at hk
 have s1:dg (u / Nat.gcd u v)≤9000000000:=Nat.le_trans (dg_mono (Nat.div_le_self _ _)) hbu
 have s2:dg (v / Nat.gcd u v)≤9000000000:=Nat.le_trans (dg_mono (Nat.div_le_self _ _)) hbv
 refine ⟨u,v,rfl,rfl,hbu,hbv,_,_,rfl,rfl,hbu,hgb,hg,_,_,rfl,rfl,hbv,hgb,hg,?_⟩
 generalize u / Nat.gcd u v=x at *
 generalize v / Nat.gcd u v=y at *
 have ex:(natText x).size=dg x:=rfl
 have ey:(natText y).size=dg y:=rfl
 have e45:(⟨#[45]⟩ ++ natText x:ByteArray).size=1+dg x:=ByteArray.size_append
 have e47:(natText x ++ ⟨#[47]⟩:ByteArray).size=dg x+1:=ByteArray.size_append
 have e457:(⟨#[45]⟩ ++ natText x ++ ⟨#[47]⟩:ByteArray).size=1+dg x+1:=by rw [ByteArray.size_append,e45]; rfl
 unfold rt at hk
 cases neg with
 | true =>
   refine bif_tt (bif_pos (by omega) ?_)
   by_cases h1:y=1
   · rw [if_pos h1,app_empty] at hk
     exact bif_t (is1.2 h1) (hk _ rfl)
   · rw [if_neg h1,← ByteArray.append_assoc] at hk
     exact bif_f (fun h=>h1 (is1.1 h)) (bif_pos (by omega) (bif_pos (by omega) (hk _ rfl)))
 | false =>
   refine bif_ff ?_
   by_cases h1:y=1
   · rw [if_pos h1,app_empty,cond_false,empty_app] at hk
     exact bif_t (is1.2 h1) (hk _ rfl)
   · rw [if_neg h1,← ByteArray.append_assoc,cond_false,empty_app] at hk
     exact bif_f (fun h=>h1 (is1.1 h)) (bif_pos (by omega) (bif_pos (by omega) (hk _ rfl)))
theorem conX2_ok : ∀ g xs Q,conX2 g xs Q→Con Tryz.prog g xs Q:=table_ok fun p hp=>by
 simp only [List.mem_cons,List.not_mem_nil,or_false] at hp
 rcases hp with rfl | rfl | rfl | rfl | rfl | rfl | rfl | rfl
 · exact c2_ok fun _ _ _ h=>rcmp_conS h
 · exact c2_ok fun _ _ _ h=>radd_conS h
 · exact c2_ok fun _ _ _ h=>rsub_conS h
 · exact c2_ok fun _ _ _ h=>rmul_conS h
 · exact c2_ok fun _ _ _ h=>rdiv_conS h
 · exact c2_ok fun _ _ _ h=>rgcd_conS h
 · exact c1_ok fun _ _ h=>parts_con h
 · exact c3_ok fun _ _ _ _ h=>canon_con h
end
section
theorem Sz.mono {k m:Nat} {q:Rat} (h:Sz k q) (hk:k≤m):Sz m q:=⟨Nat.le_trans h.1 hk,Nat.le_trans h.2 hk⟩
theorem self_neg (q:Rat):mkq (!decide (q.num<0)) q.num.natAbs q.den = -q:=by
 rw [← mkq_opp,mkq_self]
theorem xneg_con {s:ByteArray} {Q:Res} (h:xneg s Q):Con Tryz.prog 39 [.str s] Q:=by
 obtain ⟨q,rfl,sq,hq⟩:=h
 refine conN (gn:=fnT Tryz.f39) (by kernel_rfl) conX2_ok (inl:=[]) (LT:=xneg_live) (NT:=xneg_nils) rfl fun n0=>?_
 rw [xneg_E]
 have e1:=sz_n sq
 have e2:=sz_d sq
 rw [← self_neg] at hq
 exact ⟨q,rfl,sq.mono (by decide),_,_,rfl,rfl,den_pos q,by omega,by omega,res_str hq⟩
theorem xadd_con {s t:ByteArray} {Q:Res} (h:xadd s t Q):Con Tryz.prog 75 [.str s, .str t] Q:=by
 obtain ⟨x,y,rfl,rfl,sx,sy,hq⟩:=h
 refine conN (gn:=fnT Tryz.f75) (by kernel_rfl) conX2_ok (inl:=[]) (LT:=xadd_live) (NT:=xadd_nils) rfl fun n0=>?_
 rw [xadd_E]
 have e1:=sz_n sx; have e2:=sz_d sx; have e3:=sz_n sy; have e4:=sz_d sy
 have m1:=dg_mul2 e1 e4
 have m2:=dg_mul2 e3 e2
 have m3:=dg_mul2 e2 e4
 have px:=den_pos x
 have py:=den_pos y
 have hsum:x+y=mkq (decide (x.num<0)) x.num.natAbs x.den+mkq (decide (y.num<0)) y.num.natAbs y.den:=by rw [mkq_self,mkq_self]
 rw [mkq_add _ _ _ _ _ _ px py] at hsum
 refine ⟨x,rfl,sx.mono (by decide),y,rfl,sy.mono (by decide),_,_,rfl,rfl,by omega,by omega,_,_,rfl,rfl,by omega,by omega,_,_,rfl,rfl,by omega,by omega,?_⟩
 by_cases hb:decide (x.num<0)=decide (y.num<0)
 · rw [if_pos hb] at hsum
   rw [hsum] at hq
   refine bif_t (by rw [hb,beq_self_eq_true]) ⟨_,_,rfl,rfl,by omega,by omega,_,_,rfl,rfl,Nat.mul_pos px py,?_,by omega,res_str hq⟩
   have:=dg_add m1 m2; omega
 · rw [if_neg hb] at hsum
   refine bif_f (by simpa using hb) ⟨_,_,rfl,rfl,?_⟩
   by_cases hc:y.num.natAbs * x.den≤x.num.natAbs * y.den
   · rw [if_pos hc] at hsum
     rw [hsum] at hq
     refine bif_neg (fun h=>by have:=cmp_ge.2 hc; omega) ⟨_,_,rfl,rfl,by omega,hc,_,_,rfl,rfl,Nat.mul_pos px py,?_,by omega,res_str hq⟩
     have:=dg_mono (Nat.sub_le (x.num.natAbs * y.den) (y.num.natAbs * x.den)); omega
   · rw [if_neg hc] at hsum
     rw [hsum] at hq
     refine bif_pos (Int.not_le.1 fun h=>hc (cmp_ge.1 h)) ⟨_,_,rfl,rfl,by omega,by omega,_,_,rfl,rfl,Nat.mul_pos px py,?_,by omega,res_str hq⟩
     have:=dg_mono (Nat.sub_le (y.num.natAbs * x.den) (x.num.natAbs * y.den)); omega
theorem xmul_con {s t:ByteArray} {Q:Res} (h:xmul s t Q):Con Tryz.prog 26 [.str s, .str t] Q:=by
 obtain ⟨x,y,rfl,rfl,sx,sy,hq⟩:=h
 refine conN (gn:=fnT Tryz.f26) (by kernel_rfl) conX2_ok (inl:=[]) (LT:=xmul_live) (NT:=xmul_nils) rfl fun n0=>?_
 rw [xmul_E]
 have e1:=sz_n sx; have e2:=sz_d sx; have e3:=sz_n sy; have e4:=sz_d sy
 have m1:=dg_mul2 e1 e3
 have m3:=dg_mul2 e2 e4
 have hprod:x * y=mkq (decide (x.num<0)) x.num.natAbs x.den * mkq (decide (y.num<0)) y.num.natAbs y.den:=by rw [mkq_self,mkq_self]
 rw [mkq_mul] at hprod
 rw [hprod] at hq
 exact ⟨x,rfl,sx.mono (by decide),y,rfl,sy.mono (by decide),_,_,rfl,rfl,by omega,by omega,_,_,rfl,rfl,by omega,by omega,_,_,rfl,rfl,Nat.mul_pos (den_pos x) (den_pos y),by omega,by omega,res_str hq⟩
theorem xsign_con {s:ByteArray} {Q:Res} (h:xsign s Q):Con Tryz.prog 77 [.str s] Q:=by
 obtain ⟨q,rfl,sq,hq⟩:=h
 refine conN (gn:=fnT Tryz.f77) (by kernel_rfl) conX2_ok (inl:=[]) (LT:=xsign_live) (NT:=xsign_nils) rfl fun n0=>?_
 rw [xsign_E]
 unfold sgn at hq
 refine ⟨q,rfl,sq,?_⟩
 by_cases h0:q.num=0
 · rw [if_pos h0] at hq
   exact bif_t (is0.2 (by omega)) (res_int hq)
 · rw [if_neg h0] at hq
   refine bif_f (fun h=>h0 (by have:=is0.1 h; omega)) ?_
   by_cases h1:q.num<0
   · rw [if_pos h1] at hq
     exact bif_pos h1 (res_int hq)
   · rw [if_neg h1] at hq
     exact bif_neg h1 (res_int hq)
end
end Go.Proofs.YtnnkjpcipldnfaaGreatDoor.Lib
end
section
set_option linter.unusedSimpArgs false
set_option linter.unusedVariables false
namespace Go.Proofs.YtnnkjpcipldnfaaGreatDoor.Lib
open Go Go.Proofs.YtnnkjpcipldnfaaGreatDoor.Mach Go.Proofs.YtnnkjpcipldnfaaGreatDoorW.PrintWords Go.Proofs.YtnnkjpcipldnfaaGreatDoor.Sem Go.Proofs.YtnnkjpcipldnfaaGreatDoor.Pure Go.Proofs.YtnnkjpcipldnfaaGreatDoor.NatVal
section
theorem natText_two' : natErr (⟨#[50]⟩:ByteArray)=0:=by
 rw [← natText_two]
 exact err_text (Nat.le_trans (dg_le (k:=1) (by decide) (by decide)) (by decide))
noncomputable def errOf (neg:Bool) (a b:ByteArray) (m:Int):Int :=
 if natErr a=5∨natErr b=5∨(neg=true∧a=zeroS) then 5 else if natErr a≠0∨natErr b≠0 then 2
 else if m=2∧(b=zeroS∨b=⟨#[49]⟩∨Nat.gcd (numOf a) (numOf b)≠1) then 3 else 0
theorem errOf_eq (s:ByteArray):ratErr s=errOf (preB s) (cutA (preR s)) (bif cutI (preR s) then cutB (preR s) else ⟨#[50]⟩) (bif cutI (preR s) then 2 else 1):=by
 unfold ratErr errOf
 cases hI:cutI (preR s) with
 | true=>simp only [true_and,cond_true]
 | false =>
   have:=natText_two'
   simp only [Bool.false_eq_true,false_and,or_false,false_or,cond_false,this]
   simp
section
variable {a b:ByteArray} {m:Int} {neg:Bool} {K:Res}
theorem err_tail (hk:∀ v,errOf neg a b m=v→K (.int .i64 v) []) (hm:m=1∨m=2) (h5:¬ (natErr a=5∨natErr b=5∨(neg=true∧a=zeroS))) :
 bif !decide (natErr a=0) then K (AV.int IntKind.i64 2) [] else bif bif false then true else !decide (natErr b=0) then K (AV.int IntKind.i64 2) [] else bif decide (m=2) then bif b.toList == (ByteArray.mk #[48]).toList then K (AV.int IntKind.i64 3) [] else bif bif false then true else b.toList == (ByteArray.mk #[49]).toList then K (AV.int IntKind.i64 3) [] else ∃ u v,a=Sem.natText u∧b=Sem.natText v∧Sem.dg u≤9000000000∧Sem.dg v≤9000000000∧bif bif true then bif false then true else !(Sem.natText (u.gcd v)).toList == (ByteArray.mk #[49]).toList else false then K (AV.int IntKind.i64 3) [] else K (AV.int IntKind.i64 0) [] else K (AV.int IntKind.i64 0) []:=by
 unfold errOf at hk
 rw [if_neg h5] at hk
 by_cases e1:natErr a=0
 · refine bif_not (bif_pos e1 ?_)
   by_cases e2:natErr b=0
   · refine bif_f (by simp [e2]) ?_
     rw [if_neg (by rintro (h | h) <;> exact h (by assumption))] at hk
     rcases hm with hm | hm
     · exact bif_neg (by omega) (hk 0 (if_neg fun h=>by omega))
     · refine bif_pos hm ?_
       by_cases f1:b=zeroS
       · exact bif_t (bytes48.2 f1) (hk 3 (if_pos ⟨hm, .inl f1⟩))
       refine bif_f (fun h=>f1 (bytes48.1 h)) ?_
       by_cases f2:b=⟨#[49]⟩
       · exact bif_t (bytes49.2 f2) (hk 3 (if_pos ⟨hm, .inr (.inl f2)⟩))
       refine bif_f (fun h=>f2 (bytes49.1 h)) ?_
       obtain ⟨u,rfl,hu⟩:=err_zero e1
       obtain ⟨v,rfl,hv⟩:=err_zero e2
       rw [numOf_text,numOf_text] at hk
       refine ⟨u,v,rfl,rfl,by omega,by omega,?_⟩
       by_cases f3:Nat.gcd u v=1
       · refine bif_f (by rw [cond_true,cond_false,Bool.not_eq_true', ← Bool.not_eq_true]; exact fun h=>h (is1.2 f3)) (hk 0 (if_neg ?_))
         rintro ⟨_,h | h | h⟩
         · exact f1 h
         · exact f2 h
         · exact h f3
       · exact bif_t (by rw [cond_true,cond_false,Bool.not_eq_true', ← Bool.not_eq_true]; exact fun h=>f3 (is1.1 h)) (hk 3 (if_pos ⟨hm, .inr (.inr f3)⟩))
   · exact bif_t (by simp [e2]) (hk 2 (if_pos (.inr e2)))
 · exact bif_not (bif_neg e1 (hk 2 (if_pos (.inl e1))))
end
noncomputable def found (r:ByteArray) (x:Nat):ByteArray × ByteArray × Int:=if 0≤firstIdx r 47∧firstIdx r 47<x then (cutA r,cutB r,2) else (r,⟨#[50]⟩,1)
theorem found_zero (r:ByteArray):found r 0=(r,⟨#[50]⟩,1):=if_neg fun h=>by omega
theorem found_all (r:ByteArray):found r r.size=(cutA r,bif cutI r then cutB r else ⟨#[50]⟩,bif cutI r then 2 else 1):=by
 have:=firstIdx_lt r 47
 unfold found
 cases hI:cutI r with
 | true =>
   rw [if_pos ⟨by unfold cutI at hI; exact of_decide_eq_true hI,this.2⟩]; rfl
 | false =>
   have ha:cutA r=r:=by unfold cutA; rw [hI]; rfl
   rw [if_neg fun h=>by unfold cutI at hI; exact of_decide_eq_false hI h.1,ha]; rfl
theorem found_hit {r:ByteArray} {x:Nat} (hx:x<r.size) (h:r.data.toList.getD x 0=47) (h1:(found r x).2.2=1):found r x=(r,⟨#[50]⟩,1)∧found r (x+1)=(r.extract 0 x,r.extract (x+1) r.size,2):=by
 have hn:¬ (0≤firstIdx r 47∧firstIdx r 47<x):=fun hc=>by
  unfold found at h1
  rw [if_pos hc] at h1
  simp at h1
 have:=fi_at hx h
 refine ⟨if_neg hn,?_⟩
 obtain ⟨c1,c2⟩:=cut_parts (r:=r) (x:=x) (by omega)
 unfold found
 rw [if_pos ⟨this.1,by omega⟩,c1,c2]
theorem found_skip {r:ByteArray} {x:Nat} (hx:x<r.size) (h:r.data.toList.getD x 0≠47∨(found r x).2.2≠1):found r (x+1)=found r x:=by
 unfold found at h ⊢
 by_cases hc:0≤firstIdx r 47∧firstIdx r 47<x
 · rw [if_pos hc,if_pos ⟨hc.1,by omega⟩]
 · rw [if_neg hc] at h ⊢
   rcases h with h | h
   · have:=fi_ne hx h
     rw [if_neg (by omega)]
   · exact absurd rfl h
theorem found_m (r:ByteArray) (x:Nat):(found r x).2.2=1∨(found r x).2.2=2:=by
 unfold found
 split
 · exact .inr rfl
 · exact .inl rfl
theorem found_size (r:ByteArray) (x:Nat):(found r x).1.size≤r.size∧(found r x).2.1.size≤r.size+1:=by
 unfold found
 have h1:=cutA_le r
 have h2:=cutB_le r
 split
 · exact ⟨h1,Nat.le_succ_of_le h2⟩
 · exact ⟨Nat.le_refl _,by show (ByteArray.mk #[50]).size≤_; rw [show (ByteArray.mk #[50]).size=1 from rfl]; omega⟩
theorem wrS {x n:Nat} (h:x<n) (hn:n≤1000000000000000000):IntKind.i64.wrap ((x:Int)+1)=((x+1:Nat):Int):=by rw [wr (by omega) (by omega)]; omega
theorem xerr_con {s:ByteArray} {Q:Res} (h:rcheckS s Q):Con Tryz.prog 111 [.str s] Q:=by
 obtain ⟨hs,hq⟩:=h
 unfold Tx at hs
 refine conN (gn:=fnT Tryz.f111) (by kernel_rfl) conX1_ok (inl:=[]) (LT:=xerr_live) (NT:=xerr_nils) rfl fun n0=>?_
 rw [xerr_E]
 rw [errOf_eq] at hq
 have hk:∀ v,errOf (preB s) (cutA (preR s)) (bif cutI (preR s) then cutB (preR s) else ⟨#[50]⟩) (bif cutI (preR s) then 2 else 1)=v→resK Q (.int .i64 v) []:=fun v h=>by rw [h] at hq; exact res_int hq
 have hr:=preR_le s
 have hsz:∀ x,(found (preR s) x).1.size≤1000000000000000∧(found (preR s) x).2.1.size≤1000000000000000:=fun x=>by
  have:=found_size (preR s) x
  have h2:(found (preR s) x).2.1.size≤1000000000000000:=by
   unfold found
   split
   · exact Nat.le_trans (cutB_le _) (by omega)
   · show (ByteArray.mk #[50]).size≤_; decide
  exact ⟨by omega,h2⟩
 have hm:=found_m (preR s) (preR s).size
 have hall:=found_all (preR s)
 by_cases hb:preB s=true
 · have hs0:0<s.size:=Nat.pos_of_ne_zero fun h=>by
    unfold preB at hb
    rw [h] at hb
    simp at hb
   refine bif_pos (by omega) (bif_pos (by omega) (bif_t (by rw [cond_true]; exact decide_eq_true ((b45 hs0).2 hb)) (bif_and (bif_pos (by omega) (bif_pos (by omega) ?_)))))
   rw [Int.toNat_natCast,← preR_neg hb]
   have go:=loopN (f:=111) (gn:=fnT Tryz.f111) (n0:=n0) (K:=resK Q) (r:=6) (by kernel_rfl) conX1_ok (inl:=[]) (LT:=xerr_live) (NT:=xerr_nils) (fun x:Nat=>xerr_s6_0 s (preR s) (found (preR s) x).2.2 (found (preR s) x).1 (found (preR s) x).2.1 ((preR s).size:Int) (x:Int)) (fun x=>(preR s).size - x) (fun x=>x≤(preR s).size) (fun x hp ih=>by
    rw [xerr_s6_0_E]
    by_cases hx:x<(preR s).size
    · refine bif_pos (by omega) (bif_and (bif_pos (by omega) (bif_pos (by omega) ?_)))
      have ih' := ih (x+1) (by omega) (by omega)
      rw [Int.toNat_natCast,wrS hx (by omega)]
      by_cases h47:(preR s).data.toList.getD x 0=47
      · refine bif_pos (b47.2 h47) ?_
        by_cases h1:(found (preR s) x).2.2=1
        · refine bif_t (by rw [cond_true]; exact decide_eq_true h1) (bif_and (bif_pos (by omega) (bif_pos (by omega) (bif_and (bif_and (bif_pos (by omega) (bif_pos (by omega) (bif_pos (by omega) ?_))))))))
          obtain ⟨f1,f2⟩:=found_hit hx h47 h1
          rw [f2] at ih'
          rw [Int.toNat_natCast,Int.toNat_natCast]
          exact ih'
        · refine bif_f (by rw [cond_true]; exact fun h=>h1 (of_decide_eq_true h)) ?_
          rw [found_skip hx (.inr h1)] at ih'
          exact ih'
      · refine bif_neg (fun h=>h47 (b47.1 h)) ?_
        rw [found_skip hx (.inl h47)] at ih'
        exact ih'
    · refine bif_neg (by omega) ?_
      have hxx:x=(preR s).size:=by omega
      have hz:=hsz x
      rw [hxx] at hz ⊢
      rw [hall] at hm hz ⊢
      refine ⟨hz.1,hz.2,?_⟩
      rw [hb] at hk
      simp only at hm hz ⊢
      generalize cutA (preR s)=a at *
      generalize (bif cutI (preR s) then cutB (preR s) else ⟨#[50]⟩)=b at *
      generalize (bif cutI (preR s) then 2 else 1)=m at *
      by_cases h1:natErr a=5
      · exact bif_pos h1 (hk 5 (if_pos (.inl h1)))
      refine bif_neg h1 ?_
      by_cases h2:natErr b=5
      · exact bif_t (decide_eq_true h2) (hk 5 (if_pos (.inr (.inl h2))))
      refine bif_f (fun h=>h2 (of_decide_eq_true h)) ?_
      by_cases h3:a=zeroS
      · exact bif_t (bytes48.2 h3) (hk 5 (if_pos (.inr (.inr ⟨rfl,h3⟩))))
      refine bif_f (fun h=>h3 (bytes48.1 h)) ?_
      refine err_tail hk hm ?_
      rintro (h | h | ⟨_,h⟩)
      · exact h1 h
      · exact h2 h
      · exact h3 h) 0 (Nat.zero_le _)
   rw [found_zero] at go
   exact go
 · have hss:=preR_pos hb
   have hbf:preB s=false:=by
    cases hc:preB s
    · rfl
    · exact absurd hc hb
   rw [hss] at hall hsz hm hk
   rw [hbf] at hk
   have fin:∀ a b m,found s s.size=(a,b,m)→a.size≤1000000000000000∧b.size≤1000000000000000∧bif decide (Pure.natErr a=5) then resK Q (AV.int IntKind.i64 5) [] else bif bif false then true else decide (Pure.natErr b=5) then resK Q (AV.int IntKind.i64 5) [] else bif !decide (natErr a=0) then resK Q (AV.int IntKind.i64 2) [] else bif bif false then true else !decide (natErr b=0) then resK Q (AV.int IntKind.i64 2) [] else bif decide (m=2) then bif b.toList == (ByteArray.mk #[48]).toList then resK Q (AV.int IntKind.i64 3) [] else bif bif false then true else b.toList == (ByteArray.mk #[49]).toList then resK Q (AV.int IntKind.i64 3) [] else ∃ u v,a=Sem.natText u∧b=Sem.natText v∧Sem.dg u≤9000000000∧Sem.dg v≤9000000000∧bif bif true then bif false then true else !(Sem.natText (u.gcd v)).toList == (ByteArray.mk #[49]).toList else false then resK Q (AV.int IntKind.i64 3) [] else resK Q (AV.int IntKind.i64 0) [] else resK Q (AV.int IntKind.i64 0) []:=fun a b m he=>by
    have hz:=hsz s.size
    rw [he] at hz hm
    rw [hall] at he
    obtain ⟨ha,he⟩:=Prod.mk.inj he
    obtain ⟨hb', hm'⟩:=Prod.mk.inj he
    rw [ha,hb', hm'] at hk
    refine ⟨hz.1,hz.2,?_⟩
    by_cases h1:natErr a=5
    · exact bif_pos h1 (hk 5 (if_pos (.inl h1)))
    refine bif_neg h1 ?_
    by_cases h2:natErr b=5
    · exact bif_t (decide_eq_true h2) (hk 5 (if_pos (.inr (.inl h2))))
    refine bif_f (fun h=>h2 (of_decide_eq_true h)) ?_
    refine err_tail hk hm ?_
    rintro (h | h | ⟨h,_⟩)
    · exact h1 h
    · exact h2 h
    · cases h
   have go2:=loopN (f:=111) (gn:=fnT Tryz.f111) (n0:=n0) (K:=resK Q) (r:=6) (by kernel_rfl) conX1_ok (inl:=[]) (LT:=xerr_live) (NT:=xerr_nils) (fun x:Nat=>xerr_s6_2 s (found s x).2.2 (found s x).1 (found s x).2.1 (s.size:Int) (x:Int)) (fun x=>s.size - x) (fun x=>x≤s.size∧(found s x).2.2=2) (fun x hp ih=>by
    rw [xerr_s6_2_E]
    obtain ⟨hp,h2⟩:=hp
    by_cases hx:x<s.size
    · have h1:¬ (found s x).2.2=1:=by omega
      have hsk:=found_skip hx (.inr h1)
      refine bif_pos (by omega) (bif_and (bif_pos (by omega) (bif_pos (by omega) ?_)))
      have ih' := ih (x+1) ⟨by omega,by rw [hsk]; exact h2⟩ (by omega)
      rw [Int.toNat_natCast,wrS hx (by omega)]
      rw [hsk] at ih'
      by_cases h47:s.data.toList.getD x 0=47
      · exact bif_pos (b47.2 h47) (bif_f (by rw [cond_true]; exact fun h=>h1 (of_decide_eq_true h)) ih')
      · exact bif_neg (fun h=>h47 (b47.1 h)) ih'
    · refine bif_neg (by omega) ?_
      have hxx:x=s.size:=by omega
      subst hxx
      exact fin _ _ _ rfl)
   have go:=loopN (f:=111) (gn:=fnT Tryz.f111) (n0:=n0) (K:=resK Q) (r:=6) (by kernel_rfl) conX1_ok (inl:=[]) (LT:=xerr_live) (NT:=xerr_nils) (fun x:Nat=>xerr_s6_1 s 1 ⟨#[50]⟩ (s.size:Int) (x:Int)) (fun x=>s.size - x) (fun x=>x≤s.size∧found s x=(s,⟨#[50]⟩,1)) (fun x hp ih=>by
    rw [xerr_s6_1_E]
    obtain ⟨hp,h2⟩:=hp
    by_cases hx:x<s.size
    · have h1:(found s x).2.2=1:=by rw [h2]
      refine bif_pos (by omega) (bif_and (bif_pos (by omega) (bif_pos (by omega) ?_)))
      rw [Int.toNat_natCast,wrS hx (by omega)]
      by_cases h47:s.data.toList.getD x 0=47
      · refine bif_pos (b47.2 h47) (bif_t (by rw [cond_true]; rfl) (bif_and (bif_pos (by omega) (bif_pos (by omega) (bif_and (bif_and (bif_pos (by omega) (bif_pos (by omega) (bif_pos (by omega) ?_)))))))))
        obtain ⟨f1,f2⟩:=found_hit hx h47 h1
        have:=go2 (x+1) ⟨by omega,by rw [f2]⟩
        simp only [f2] at this
        rw [Int.toNat_natCast,Int.toNat_natCast]
        exact this
      · exact bif_neg (fun h=>h47 (b47.1 h)) (ih (x+1) ⟨by omega,by rw [found_skip hx (.inl h47)]; exact h2⟩ (by omega))
    · refine bif_neg (by omega) ?_
      have hxx:x=s.size:=by omega
      subst hxx
      exact fin _ _ _ h2) 0 ⟨Nat.zero_le _,found_zero s⟩
   by_cases hs0:0<s.size
   · refine bif_pos (by omega) (bif_pos (by omega) (bif_f (by rw [cond_true]; exact fun h=>hb ((b45 hs0).1 (of_decide_eq_true h))) go))
   · exact bif_neg (by omega) go
end
end Go.Proofs.YtnnkjpcipldnfaaGreatDoor.Lib
end
section
set_option linter.unusedSimpArgs false
set_option linter.unusedVariables false
namespace Go.Proofs.YtnnkjpcipldnfaaGreatDoor.Lib
open Go Go.Proofs.YtnnkjpcipldnfaaGreatDoor.Mach Go.Proofs.YtnnkjpcipldnfaaGreatDoorW.PrintWords Go.Proofs.YtnnkjpcipldnfaaGreatDoor.Sem Go.Proofs.YtnnkjpcipldnfaaGreatDoor.Pure
section
theorem pre_join {s:ByteArray} (h:preB s=true):s=⟨#[45]⟩ ++ preR s:=by
 rw [preR_neg h]
 have hd:=h
 unfold preB at hd
 by_cases h1:1≤s.size
 · rw [decide_eq_true h1,cond_true,beq_iff_eq,toList_eq_iff] at hd
   rw [← hd]
   apply ByteArray.ext
   rw [ByteArray.data_append,ByteArray.data_extract,ByteArray.data_extract,Array.extract_append_extract]
   have:s.size=s.data.size:=rfl
   rw [this,Nat.min_eq_left (by omega),Nat.max_eq_right (by omega),Array.extract_size]
 · rw [decide_eq_false h1] at hd
   cases hd
theorem cut_join {s:ByteArray} (h:cutI s=true):s=cutA s ++ (⟨#[47]⟩ ++ cutB s):=by
 unfold cutA cutB
 rw [h,cond_true,cond_true]
 unfold cutI at h
 have h0:=of_decide_eq_true h
 have hl:=(firstIdx_lt s 47).2
 have hb:s.data.toList.getD (firstIdx s 47).toNat 0=47:=Classical.byContradiction fun hc=>by
  have:=fi_ne (s:=s) (i:=(firstIdx s 47).toNat) (by omega) hc
  omega
 generalize hi:(firstIdx s 47).toNat=i at *
 have hi' : i<s.size:=by omega
 have hz:s.size=s.data.size:=rfl
 have hll:s.data.toList.length=s.size:=by rw [Array.length_toList]; rfl
 apply ByteArray.ext
 apply Array.ext'
 rw [ByteArray.data_append,ByteArray.data_append,ByteArray.data_extract,ByteArray.data_extract,Array.toList_append,Array.toList_append,Array.toList_extract,Array.toList_extract,List.extract_eq_take_drop,List.extract_eq_take_drop,List.drop_zero,Nat.sub_zero]
 rw [List.take_of_length_le (l:=s.data.toList.drop (i+1)) (by rw [List.length_drop]; omega)]
 have:s.data.toList.drop i=47 :: s.data.toList.drop (i+1):=by
  rw [List.drop_eq_getElem_cons (by omega)]
  congr 1
  rw [List.getD_eq_getElem?_getD,List.getElem?_eq_getElem (by omega)] at hb
  exact hb
 show s.data.toList=_ ++ ([47] ++ _)
 rw [List.singleton_append,← this,List.take_append_drop]
theorem ratOf_text (q:Rat):ratOf (ratText q)=q:=by
 obtain ⟨p1,p2,p3,p4⟩:=rt_parts (decide (q.num<0)) q.num.natAbs q.den
 change preB (ratText q)=_ at p1
 change cutA (preR (ratText q))=_ at p2
 change cutI (preR (ratText q))=_ at p3
 change q.den≠1→cutB (preR (ratText q))=_ at p4
 unfold ratOf
 rw [p1,p2,numOf_text]
 by_cases h:q.den=1
 · rw [if_neg (by rw [p3]; simpa using h)]
   rw [← h]; exact mkq_self q
 · rw [if_pos (by rw [p3]; simpa using h),p4 h,numOf_text]
   exact mkq_self q
theorem rat_ok {s:ByteArray} (h:ratErr s=0):s=ratText (ratOf s)∧Sz 2000 (ratOf s):=by
 suffices h:∃ q,s=ratText q∧Sz 2000 q by
  obtain ⟨q,rfl,hs⟩:=h
  rw [ratOf_text]
  exact ⟨rfl,hs⟩
 unfold ratErr at h
 by_cases h1:natErr (cutA (preR s))=5∨(cutI (preR s)=true∧natErr (cutB (preR s))=5)∨(preB s=true∧cutA (preR s)=zeroS)
 · rw [if_pos h1] at h; cases h
 rw [if_neg h1] at h
 by_cases h2:natErr (cutA (preR s))≠0∨(cutI (preR s)=true∧natErr (cutB (preR s))≠0)
 · rw [if_pos h2] at h; cases h
 rw [if_neg h2] at h
 by_cases h3:cutI (preR s)=true∧(cutB (preR s)=zeroS∨cutB (preR s)=⟨#[49]⟩∨Nat.gcd (numOf (cutA (preR s))) (numOf (cutB (preR s)))≠1)
 · rw [if_pos h3] at h; cases h
 obtain ⟨u,hu,hud⟩:=err_zero (Classical.byContradiction fun hc=>h2 (.inl hc))
 have hsj:s=(bif preB s then ⟨#[45]⟩ else ⟨#[]⟩) ++ preR s:=by
  cases hb:preB s with
  | true=>rw [cond_true]; exact pre_join hb
  | false=>rw [cond_false,empty_app]; exact (preR_pos (by rw [hb]; decide)).symm
 have hneg:u=0→preB s=false:=fun h0=>by
  cases hb:preB s with
  | false=>rfl
  | true=>exact absurd (.inr (.inr ⟨hb,by rw [hu,h0,natText_zero]⟩)) h1
 cases hI:cutI (preR s) with
 | true =>
   obtain ⟨v,hv,hvd⟩:=err_zero (Classical.byContradiction fun hc=>h2 (.inr ⟨hI,hc⟩))
   have hv0:v≠0:=fun h0=>h3 ⟨hI, .inl (by rw [hv,h0,natText_zero])⟩
   have hv1:v≠1:=fun h0=>h3 ⟨hI, .inr (.inl (by rw [hv,h0,natText_one]))⟩
   have hg:Nat.gcd u v=1:=Classical.byContradiction fun hc=>h3 ⟨hI, .inr (.inr (by rw [hu,hv,numOf_text,numOf_text]; exact hc))⟩
   have hu0:0<u:=Nat.pos_of_ne_zero fun h0=>by rw [h0,Nat.gcd_zero_left] at hg; exact hv1 hg
   refine ⟨mkq (preB s) u v,?_,?_,?_⟩
   · rw [ratText_mkq (by omega) hu0,hg,Nat.div_one,Nat.div_one]
     unfold rt
     rw [if_neg hv1,ByteArray.append_assoc,← hu,← hv,← cut_join hI]
     exact hsj
   · exact Nat.le_trans (szN_mkq (by omega)) hud
   · exact Nat.le_trans (szD_mkq (by omega)) hvd
 | false =>
   have hA:cutA (preR s)=preR s:=by unfold cutA; rw [hI]; rfl
   refine ⟨mkq (preB s) u 1,?_,?_,?_⟩
   · by_cases hu0:u=0
     · rw [hu0,mkq_zero,ratText_zero,← natText_zero]
       rw [hneg hu0,cond_false,empty_app] at hsj
       rw [hsj,← hA,hu,hu0]
     · rw [ratText_mkq (by omega) (by omega),Nat.gcd_one_right,Nat.div_one,Nat.div_one]
       unfold rt
       rw [if_pos rfl,app_empty,← hu,hA]
       exact hsj
   · exact Nat.le_trans (szN_mkq (by omega)) hud
   · exact Nat.le_trans (szD_mkq (by omega)) (by rw [dg_one]; decide)
end
section
theorem errs_at {l:List ByteArray} {x:Nat} (hx:x<l.length):ratErrs (l.drop x)=if ratErr (l.getD x ByteArray.empty)=0 then ratErrs (l.drop (x+1)) else ratErr (l.getD x ByteArray.empty):=by
 rw [List.drop_eq_getElem_cons hx,List.getD_eq_getElem?_getD,List.getElem?_eq_getElem hx]
 rfl
theorem getD_mem {α:Type} {l:List α} {x:Nat} {d:α} (hx:x<l.length):l.getD x d∈l:=by
 rw [List.getD_eq_getElem?_getD,List.getElem?_eq_getElem hx]
 exact List.getElem_mem hx
theorem conQ4_ok : ∀ g xs Q,conQ4 g xs Q→Con Tryz.prog g xs Q:=table_ok fun p hp=>by
 simp only [List.mem_cons,List.not_mem_nil,or_false] at hp
 rcases hp with rfl
 exact c1_ok fun _ _ h=>rcheck_con h
theorem rchecks_con {l:List ByteArray} {Q:Res} (h:rchecksS l Q):Con Tryz.prog 124 [.imm eS l] Q:=by
 obtain ⟨⟨hl,ht⟩,hq⟩:=h
 refine conN (gn:=fnT Tryz.f124) (by kernel_rfl) conQ4_ok (inl:=[]) (LT:=qchecks_live) (NT:=qchecks_nils) rfl fun n0=>?_
 rw [qchecks_E]
 refine loopN (f:=124) (gn:=fnT Tryz.f124) (n0:=n0) (K:=resK Q) (r:=2) (by kernel_rfl) conQ4_ok (inl:=[]) (LT:=qchecks_live) (NT:=qchecks_nils) (fun x:Nat=>qchecks_s2_0 l (l.length:Int) (x:Int)) (fun x=>l.length - x) (fun x=>x≤l.length∧ratErrs (l.drop x)=ratErrs l) (fun x hp ih=>?_) 0 ⟨Nat.zero_le _,rfl⟩
 obtain ⟨hp,he⟩:=hp
 rw [qchecks_s2_0_E]
 by_cases hx:x<l.length
 · rw [errs_at hx] at he
   refine bif_pos (by omega) (bif_and (bif_pos (by omega) (bif_pos (by omega) ?_)))
   rw [Int.toNat_natCast,wrS hx (by omega)]
   refine ⟨ht _ (getD_mem hx),?_⟩
   by_cases h0:ratErr (l.getD x ByteArray.empty)=0
   · rw [if_pos h0] at he
     exact bif_not (bif_pos h0 (ih (x+1) ⟨by omega,he⟩ (by omega)))
   · rw [if_neg h0] at he
     rw [← he] at hq
     exact bif_not (bif_neg h0 (res_int hq))
 · refine bif_neg (by omega) (res_int ?_)
   rw [List.drop_eq_nil_of_le (by omega)] at he
   rw [← he] at hq
   exact hq
theorem xerrs_con0 {l:List ByteArray} {Q:Res} (h:rchecksS l Q) (hC:∀ g xs Q,conX3 g xs Q→Con Tryz.prog g xs Q):Con Tryz.prog 89 [.imm eS l] Q:=by
 obtain ⟨⟨hl,ht⟩,hq⟩:=h
 refine conN (gn:=fnT Tryz.f89) (by kernel_rfl) hC (inl:=[]) (LT:=xerrs_live) (NT:=xerrs_nils) rfl fun n0=>?_
 rw [xerrs_E]
 refine loopN (f:=89) (gn:=fnT Tryz.f89) (n0:=n0) (K:=resK Q) (r:=2) (by kernel_rfl) hC (inl:=[]) (LT:=xerrs_live) (NT:=xerrs_nils) (fun x:Nat=>xerrs_s2_0 l (l.length:Int) (x:Int)) (fun x=>l.length - x) (fun x=>x≤l.length∧ratErrs (l.drop x)=ratErrs l) (fun x hp ih=>?_) 0 ⟨Nat.zero_le _,rfl⟩
 obtain ⟨hp,he⟩:=hp
 rw [xerrs_s2_0_E]
 by_cases hx:x<l.length
 · rw [errs_at hx] at he
   refine bif_pos (by omega) (bif_and (bif_pos (by omega) (bif_pos (by omega) ?_)))
   rw [Int.toNat_natCast,wrS hx (by omega)]
   refine ⟨ht _ (getD_mem hx),?_⟩
   by_cases h0:ratErr (l.getD x ByteArray.empty)=0
   · rw [if_pos h0] at he
     exact bif_not (bif_pos h0 (ih (x+1) ⟨by omega,he⟩ (by omega)))
   · rw [if_neg h0] at he
     rw [← he] at hq
     exact bif_not (bif_neg h0 (res_int hq))
 · refine bif_neg (by omega) (res_int ?_)
   rw [List.drop_eq_nil_of_le (by omega)] at he
   rw [← he] at hq
   exact hq
theorem conX3_ok : ∀ g xs Q,conX3 g xs Q→Con Tryz.prog g xs Q:=table_ok fun p hp=>by
 simp only [List.mem_cons,List.not_mem_nil,or_false] at hp
 rcases hp with rfl | rfl | rfl
 · exact c1_ok fun _ _ h=>xneg_con h
 · exact c2_ok fun _ _ _ h=>xadd_con h
 · exact c1_ok fun _ _ h=>xerr_con h
theorem xerrs_con {l:List ByteArray} {Q:Res} (h:rchecksS l Q):Con Tryz.prog 89 [.imm eS l] Q:=xerrs_con0 h conX3_ok
theorem sz_add {x y:Rat} (sx:Sz 4000000000 x) (sy:Sz 4000000000 y):Sz 9000000000 (x+y):=by
 have e1:=sz_n sx; have e2:=sz_d sx; have e3:=sz_n sy; have e4:=sz_d sy
 have m1:=dg_mul2 e1 e4
 have m2:=dg_mul2 e3 e2
 have m3:=dg_mul2 e2 e4
 have px:=den_pos x
 have py:=den_pos y
 have hsum:x+y=mkq (decide (x.num<0)) x.num.natAbs x.den+mkq (decide (y.num<0)) y.num.natAbs y.den:=by rw [mkq_self,mkq_self]
 rw [mkq_add _ _ _ _ _ _ px py] at hsum
 have hD:∀ b u,szD (mkq b u (x.den * y.den))≤9000000000:=fun b u=>Nat.le_trans (szD_mkq (Nat.mul_pos px py)) (by omega)
 have hN:∀ b u,dg u≤9000000000→szN (mkq b u (x.den * y.den))≤9000000000:=fun b u h=>Nat.le_trans (szN_mkq (Nat.mul_pos px py)) h
 have a1:=dg_add m1 m2
 have a2:=dg_mono (Nat.sub_le (x.num.natAbs * y.den) (y.num.natAbs * x.den))
 have a3:=dg_mono (Nat.sub_le (y.num.natAbs * x.den) (x.num.natAbs * y.den))
 rw [hsum]
 split
 · exact ⟨hN _ _ (by omega),hD _ _⟩
 · split
   · exact ⟨hN _ _ (by omega),hD _ _⟩
   · exact ⟨hN _ _ (by omega),hD _ _⟩
theorem sz_zero : Sz 1 0:=by
 refine ⟨?_,?_⟩
 · show dg (Rat.num 0).natAbs≤1
   rw [show (Rat.num 0).natAbs=0 from rfl,dg_zero]
   exact Nat.le_refl _
 · show dg (Rat.den 0)≤1
   rw [show Rat.den 0=1 from rfl,dg_one]
   exact Nat.le_refl _
end
section
noncomputable def sumF (q:Rat):List ByteArray→Option Rat
 | []=>some q
 | s :: l=>if fitV (q+ratOf s)=0 then sumF (q+ratOf s) l else none
noncomputable def lisE (l:List ByteArray):Int:=if 256<l.length then 2 else ratErrs l
noncomputable def sumE (l:List ByteArray):Int:=if lisE l=0 then (if (sumF 0 l).isSome then 0 else 2) else lisE l
noncomputable def sumS (l:List ByteArray):ByteArray:=if lisE l=0 then (match sumF 0 l with | some q=>ratText q | none=>⟨#[]⟩) else ⟨#[]⟩
def sumT (l:List ByteArray) (Q:Res):Prop:=TxL l∧Q (.tup [.str (sumS l), .int .i64 (sumE l)]) []
noncomputable def negative (l:List ByteArray):Bool:=l.any fun s=>decide (sgn (ratOf s)<0)
noncomputable def oddsE (l:List ByteArray):Int:=if sumE l≠0 then sumE l else if negative l=true then 4 else if sumS l=⟨#[49]⟩ then 0 else 3
def oddsT (l:List ByteArray) (Q:Res):Prop:=TxL l∧Q (.int .i64 (oddsE l)) []
noncomputable def conL1 : FuncId→List AV→Res→Prop:=tableC [(124,c1 vLS rchecksS),(68,c2 vQ vQ addQ),(94,c1 vQ signS),(118,c2 vQ vQ cmpQ),(70,c1 vS inS),(71,c1 vQ toldS),(109,c1 vQ fitS)]
noncomputable def conL2 : FuncId→List AV→Res→Prop:=tableC [(94,c1 vQ signS),(70,c1 vS inS),(71,c1 vQ toldS),(93,c1 vLS sumT)]
end
end Go.Proofs.YtnnkjpcipldnfaaGreatDoor.Lib
end
section
set_option linter.unusedSimpArgs false
set_option linter.unusedVariables false
namespace Go.Proofs.YtnnkjpcipldnfaaGreatDoor.Mach
open Go Go.Proofs.YtnnkjpcipldnfaaGreatDoor Go.Proofs.YtnnkjpcipldnfaaGreatDoor.Lib
section
set_option maxRecDepth 1000000
def lsum_live : List (Nat × List Nat):=[(8,[5,16,17,18])]
def lsum_nils : List (Nat × ETy):=[(16,eS)]
noncomputable def lsum_s8_0 (l:List ByteArray) (x0 x1:Int):St:=stOf 34 [(5,AV.ptr 0 0),(16,AV.imm eS l),(17,AV.int .i64 x0),(18,AV.int .i64 x1)] [HObj.box [AV.bool false,AV.nils,AV.nils]]
noncomputable def lsum_s8_1 (l:List ByteArray) (x0 x1:Int) (x2:Bool) (x3 x4:List Int):St:=stOf 34 [(5,AV.ptr 0 0),(16,AV.imm eS l),(17,AV.int .i64 x0),(18,AV.int .i64 x1)] [HObj.box [AV.bool x2,AV.imm eW x3,AV.imm eW x4]]
theorem lsum_E (l:List ByteArray) (n0:Nat) (K:AV→List HObj→Prop) :
 execN tab (mixE tab conL1 [] 400) (maskN lsum_live lsum_nils (GoodL Tryz.prog n0 93 K)) (finK tab (fnT Tryz.f93).res K) 400 [.code (fnT Tryz.f93).body] ⟨initEnv (fnT Tryz.f93).n [AV.imm eS l],[]⟩ =
 (bif decide ((↑l.length:Int) > 256) then K (AV.tup [AV.str (ByteArray.mk #[]),AV.int .i64 2]) [] else TxL l∧bif !decide (ratErrs l=0) then K (AV.tup [AV.str (ByteArray.mk #[]),AV.int .i64 (ratErrs l)]) [] else GoodL Tryz.prog n0 93 K (headAt (fnT Tryz.f93) 8) (lsum_s8_0 l (↑l.length:Int) 0)):=by kernel_rfl
theorem lsum_s8_0_E (l:List ByteArray) (x0 x1:Int) (n0:Nat) (K:AV→List HObj→Prop) :
 execN tab (mixE tab conL1 [] 400) (maskN lsum_live lsum_nils (GoodL Tryz.prog n0 93 K)) (finK tab (fnT Tryz.f93).res K) 400 (roundAt (fnT Tryz.f93) 8) (lsum_s8_0 l x0 x1) =
 (bif decide (x1<x0) then bif decide (0≤x1) && decide (x1<(↑l.length:Int)) then ∃ q,l.getD x1.toNat ByteArray.empty=Sem.ratText q∧Sz 4000000000 q∧∀ (z:Bool × List Int × List Int),Sem.QV z q→∃ x y,Sem.QV (false,[],[]) x∧Sem.QV (z.1,z.2.1,z.2.2) y∧Sz 4000000000 x∧Sz 4000000000 y∧∀ (r:Bool × List Int × List Int),Sem.QV r (x+y)→∃ q,Sem.QV (r.1,r.2.1,r.2.2) q∧Sz 9000000000 q∧bif !decide (fitV q=0) then K (AV.tup [AV.str (ByteArray.mk #[]),AV.int .i64 2]) [HObj.box [AV.bool r.1,AV.imm eW r.2.1,AV.imm eW r.2.2]] else GoodL Tryz.prog n0 93 K (headAt (fnT Tryz.f93) 8) (lsum_s8_1 l x0 (IntKind.i64.wrap (x1+1)) r.1 r.2.1 r.2.2) else False else ∃ q,Sem.QV (false,[],[]) q∧Sz 9000000000 q∧K (AV.tup [AV.str (toldV q),AV.int .i64 (fitV q)]) [HObj.box [AV.bool false,AV.nils,AV.nils]]):=by kernel_rfl
theorem lsum_s8_1_E (l:List ByteArray) (x0 x1:Int) (x2:Bool) (x3 x4:List Int) (n0:Nat) (K:AV→List HObj→Prop) :
 execN tab (mixE tab conL1 [] 400) (maskN lsum_live lsum_nils (GoodL Tryz.prog n0 93 K)) (finK tab (fnT Tryz.f93).res K) 400 (roundAt (fnT Tryz.f93) 8) (lsum_s8_1 l x0 x1 x2 x3 x4) =
 (bif decide (x1<x0) then bif decide (0≤x1) && decide (x1<(↑l.length:Int)) then ∃ q,l.getD x1.toNat ByteArray.empty=Sem.ratText q∧Sz 4000000000 q∧∀ (z:Bool × List Int × List Int),Sem.QV z q→∃ x y,Sem.QV (x2,x3,x4) x∧Sem.QV (z.1,z.2.1,z.2.2) y∧Sz 4000000000 x∧Sz 4000000000 y∧∀ (r:Bool × List Int × List Int),Sem.QV r (x+y)→∃ q,Sem.QV (r.1,r.2.1,r.2.2) q∧Sz 9000000000 q∧bif !decide (fitV q=0) then K (AV.tup [AV.str (ByteArray.mk #[]),AV.int .i64 2]) [HObj.box [AV.bool r.1,AV.imm eW r.2.1,AV.imm eW r.2.2]] else GoodL Tryz.prog n0 93 K (headAt (fnT Tryz.f93) 8) (lsum_s8_1 l x0 (IntKind.i64.wrap (x1+1)) r.1 r.2.1 r.2.2) else False else ∃ q,Sem.QV (x2,x3,x4) q∧Sz 9000000000 q∧K (AV.tup [AV.str (toldV q),AV.int .i64 (fitV q)]) [HObj.box [AV.bool x2,AV.imm eW x3,AV.imm eW x4]]):=by kernel_rfl
def lodds_live : List (Nat × List Nat):=[(5,[3,15,16,17])]
def lodds_nils : List (Nat × ETy):=[(15,eS)]
noncomputable def lodds_s5_0 (l:List ByteArray) (x0:ByteArray) (x1 x2:Int):St:=stOf 28 [(3,AV.str x0),(15,AV.imm eS l),(16,AV.int .i64 x1),(17,AV.int .i64 x2)] []
theorem lodds_E (l:List ByteArray) (n0:Nat) (K:AV→List HObj→Prop) :
 execN tab (mixE tab conL2 [] 400) (maskN lodds_live lodds_nils (GoodL Tryz.prog n0 60 K)) (finK tab (fnT Tryz.f60).res K) 400 [.code (fnT Tryz.f60).body] ⟨initEnv (fnT Tryz.f60).n [AV.imm eS l],[]⟩ =
 (TxL l∧bif !decide (sumE l=0) then K (AV.int .i64 (sumE l)) [] else GoodL Tryz.prog n0 60 K (headAt (fnT Tryz.f60) 5) (lodds_s5_0 l (sumS l) (↑l.length:Int) 0)):=by kernel_rfl
theorem lodds_s5_0_E (l:List ByteArray) (x0:ByteArray) (x1 x2:Int) (n0:Nat) (K:AV→List HObj→Prop) :
 execN tab (mixE tab conL2 [] 400) (maskN lodds_live lodds_nils (GoodL Tryz.prog n0 60 K)) (finK tab (fnT Tryz.f60).res K) 400 (roundAt (fnT Tryz.f60) 5) (lodds_s5_0 l x0 x1 x2) =
 (bif decide (x2<x1) then bif decide (0≤x2) && decide (x2<(↑l.length:Int)) then ∃ q,l.getD x2.toNat ByteArray.empty=Sem.ratText q∧Sz 4000000000 q∧∀ (z:Bool × List Int × List Int),Sem.QV z q→∃ q,Sem.QV (z.1,z.2.1,z.2.2) q∧bif decide (Sem.sgn q<0) then K (AV.int .i64 4) [] else GoodL Tryz.prog n0 60 K (headAt (fnT Tryz.f60) 5) (lodds_s5_0 l x0 x1 (IntKind.i64.wrap (x2+1))) else False else bif !x0.toList == (ByteArray.mk #[49]).toList then K (AV.int .i64 3) [] else K (AV.int .i64 0) []):=by kernel_rfl
end
end Go.Proofs.YtnnkjpcipldnfaaGreatDoor.Mach
end
section
set_option linter.unusedSimpArgs false
set_option linter.unusedVariables false
namespace Go.Proofs.YtnnkjpcipldnfaaGreatDoor.Lib
open Go Go.Proofs.YtnnkjpcipldnfaaGreatDoor.Mach Go.Proofs.YtnnkjpcipldnfaaGreatDoorW.PrintWords Go.Proofs.YtnnkjpcipldnfaaGreatDoor.Sem Go.Proofs.YtnnkjpcipldnfaaGreatDoor.Pure
section
theorem seal_tup1 {e:ETy} {l:List e.D} {fz:Bool} {k:IntKind} {n:Int}:sealV [.typed e l fz] (.tup [.own 0, .int k n]) (.tup [.imm e l, .int k n]) :=
 ⟨_,rfl, .cons ⟨e,l,fz,rfl,rfl⟩ (.cons rfl .nil)⟩
theorem seal_nil1 {e:ETy} {k:IntKind} {n:Int} {objs:List HObj}:sealV objs (.tup [.nils, .int k n]) (.tup [.imm e [], .int k n]) :=
 ⟨_,rfl, .cons (Or.inr ⟨e,rfl⟩) (.cons rfl .nil)⟩
def outL (e:ETy) (l:List e.D) (n:Int):Res:=fun v o=>(v = .tup [.own 0, .int .i64 n]∧∃ fz,o=[.typed e l fz])∨(l=[]∧v = .tup [.nils, .int .i64 n])
theorem outL_seal {e:ETy} {l:List e.D} {n:Int} {P:Program} {g:FuncId} {args:List AV} {Q:Res} (h:Con P g args (outL e l n)) (hQ:Q (.tup [.imm e l, .int .i64 n]) []):Con P g args Q :=
 h.sealTo fun v o hv=>by
  rcases hv with ⟨rfl,fz,rfl⟩ | ⟨rfl,rfl⟩
  · exact ⟨_,seal_tup1,hQ⟩
  · exact ⟨_,seal_nil1,hQ⟩
theorem outL_own {e:ETy} {l:List e.D} {fz:Bool} {n:Int} {id:Nat} {H:List HObj} (ho:objAt H id = .typed e l fz):resK (outL e l n) (.tup [.own id, .int .i64 n]) H :=
 ⟨.tup [.own 0, .int .i64 n],[.typed e l fz],Or.inl ⟨rfl,fz,rfl⟩,rfl,rfl,[id],rfl,by simp,fun k i hk=>by
  match k,hk with
  | 0,hk=>cases hk; exact congrArg some ho.symm,rfl⟩
theorem outL_nil {e:ETy} {l:List e.D} {n:Int} {H:List HObj} (h:l=[]):resK (outL e l n) (.tup [.nils, .int .i64 n]) H:=res_plain (Or.inr ⟨h,rfl⟩) rfl rfl
theorem errs_all : ∀ {l:List ByteArray},ratErrs l=0→∀ s∈l,ratErr s=0
 | [],_,s,hs=>absurd hs (by simp)
 | a :: l,h,s,hs=>by
   unfold ratErrs at h
   split at h
   · rename_i h0
     rcases List.mem_cons.1 hs with rfl | hs
     · exact h0
     · exact errs_all h s hs
   · rename_i h0; exact absurd h h0
theorem fit_sz {q:Rat} (h:fitV q=0):Sz 2000 q:=by
 unfold fitV at h
 split at h
 · cases h
 · rename_i h0
   exact ⟨Nat.le_of_not_lt fun hc=>h0 (.inl hc),Nat.le_of_not_lt fun hc=>h0 (.inr hc)⟩
theorem fit_of {q:Rat} (h:Sz 2000 q):fitV q=0:=by
 unfold fitV
 rw [if_neg]
 have:=h.1
 have:=h.2
 rintro (h | h) <;> omega
theorem told_of {q:Rat} (h:Sz 2000 q):toldV q=ratText q:=by
 unfold toldV
 rw [if_pos (fit_of h)]
theorem drop_at {l:List ByteArray} {x:Nat} (hx:x<l.length):l.drop x=l.getD x ByteArray.empty :: l.drop (x+1):=by
 rw [List.drop_eq_getElem_cons hx,List.getD_eq_getElem?_getD,List.getElem?_eq_getElem hx]; rfl
theorem num_at {l:List ByteArray} {x:Nat} (h:ratErrs l=0) (hx:x<l.length):l.getD x ByteArray.empty=ratText (ratOf (l.getD x ByteArray.empty))∧Sz 2000 (ratOf (l.getD x ByteArray.empty)):=rat_ok (errs_all h _ (getD_mem hx))
theorem conL1_ok : ∀ g xs Q,conL1 g xs Q→Con Tryz.prog g xs Q:=table_ok fun p hp=>by
 simp only [List.mem_cons,List.not_mem_nil,or_false] at hp
 rcases hp with rfl | rfl | rfl | rfl | rfl | rfl | rfl
 · exact c1_ok fun _ _ h=>rchecks_con h
 · exact c2_ok fun _ _ _ h=>add_con h
 · exact c1_ok fun _ _ h=>sign_con h
 · exact c2_ok fun _ _ _ h=>cmp_con h
 · exact c1_ok fun _ _ h=>in_con h
 · exact c1_ok fun _ _ h=>told_con h
 · exact c1_ok fun _ _ h=>fits_con h
section
variable {l:List ByteArray} {Q:Res}
theorem sum_con (h:sumT l Q):Con Tryz.prog 93 [.imm eS l] Q:=by
 obtain ⟨ht,hq⟩:=h
 refine conN (gn:=fnT Tryz.f93) (by kernel_rfl) conL1_ok (inl:=[]) (LT:=lsum_live) (NT:=lsum_nils) rfl fun n0=>?_
 rw [lsum_E]
 have hk:∀ s e H,sumS l=s→sumE l=e→resK Q (.tup [.str s, .int .i64 e]) H:=fun s e H h1 h2=>by
  rw [h1,h2] at hq
  exact res_plain hq rfl rfl
 unfold sumS sumE lisE at hk
 by_cases h1:256<l.length
 · simp only [if_pos h1] at hk
   exact bif_pos (by omega) (hk _ _ _ rfl rfl)
 refine bif_neg (by omega) ⟨ht,?_⟩
 simp only [if_neg h1] at hk
 by_cases h0:ratErrs l=0
 · simp only [if_pos h0] at hk
   refine bif_not (bif_pos h0 ?_)
   have step:∀ {x:Nat} {q:Rat},x<l.length→sumF q (l.drop x)=if fitV (q+ratOf (l.getD x ByteArray.empty))=0 then sumF (q+ratOf (l.getD x ByteArray.empty)) (l.drop (x+1)) else none:=fun {x q} hx=>by
    rw [drop_at hx]; rfl
   have main:=loopN (f:=93) (gn:=fnT Tryz.f93) (n0:=n0) (K:=resK Q) (r:=8) (by kernel_rfl) conL1_ok (inl:=[]) (LT:=lsum_live) (NT:=lsum_nils) (fun y:Nat × QT=>lsum_s8_1 l (l.length:Int) (y.1:Int) y.2.1 y.2.2.1 y.2.2.2) (fun y=>l.length - y.1) (fun y=>y.1≤l.length∧∃ q,QV y.2 q∧Sz 2000 q∧sumF q (l.drop y.1)=sumF 0 l) (fun y hp ih=>by
    obtain ⟨x,b,n,d⟩:=y
    obtain ⟨hp,q,hz,sq,he⟩:=hp
    simp only at hp hz he
    show execN _ _ _ _ _ _ (lsum_s8_1 l (l.length:Int) (x:Int) b n d)
    rw [lsum_s8_1_E]
    by_cases hx:x<l.length
    · refine bif_pos (by omega) (bif_and (bif_pos (by omega) (bif_pos (by omega) ?_)))
      rw [Int.toNat_natCast,wrS hx (by omega)]
      obtain ⟨a1,a2⟩:=num_at h0 hx
      rw [step hx] at he
      refine ⟨_,a1,a2.mono (by decide),fun w hw=>⟨q,_,hz,hw,sq.mono (by decide),a2.mono (by decide),fun r hr=>⟨_,hr,sz_add (sq.mono (by decide)) (a2.mono (by decide)),?_⟩⟩⟩
      by_cases hf:fitV (q+ratOf (l.getD x ByteArray.empty))=0
      · rw [if_pos hf] at he
        exact bif_not (bif_pos hf (ih (x+1,r) ⟨by show x+1≤l.length; omega,_,hr,fit_sz hf,he⟩ (by show l.length - (x+1)<l.length - x; omega)))
      · rw [if_neg hf] at he
        rw [← he] at hk
        exact bif_not (bif_neg hf (hk _ _ _ rfl rfl))
    · rw [List.drop_eq_nil_of_le (by omega)] at he
      rw [← he] at hk
      refine bif_neg (by omega) ⟨q,hz,sq.mono (by decide),?_⟩
      rw [told_of sq,fit_of sq]
      exact hk _ _ _ rfl rfl)
   have start:=roundN (f:=93) (gn:=fnT Tryz.f93) (n0:=n0) (K:=resK Q) (r:=8) (st:=lsum_s8_0 l (l.length:Int) 0) (by kernel_rfl) conL1_ok (inl:=[]) (LT:=lsum_live) (NT:=lsum_nils) (by
    rw [lsum_s8_0_E]
    by_cases hx:0<l.length
    · refine bif_pos (by omega) (bif_and (bif_pos (by omega) (bif_pos (by omega) ?_)))
      obtain ⟨a1,a2⟩:=num_at h0 hx
      have he:=step (q:=0) hx
      rw [List.drop_zero] at he
      refine ⟨_,a1,a2.mono (by decide),fun w hw=>⟨0,_,QV.zero,hw,sz_zero.mono (by decide),a2.mono (by decide),fun r hr=>⟨_,hr,sz_add (sz_zero.mono (by decide)) (a2.mono (by decide)),?_⟩⟩⟩
      by_cases hf:fitV (0+ratOf (l.getD 0 ByteArray.empty))=0
      · rw [if_pos hf] at he
        exact bif_not (bif_pos hf (main (1,r) ⟨by show 1≤l.length; omega,_,hr,fit_sz hf,he.symm⟩))
      · rw [if_neg hf] at he
        rw [he] at hk
        exact bif_not (bif_neg hf (hk _ _ _ rfl rfl))
    · have hl:l=[]:=List.length_eq_zero_iff.1 (by omega)
      have he:sumF 0 l=some 0:=by rw [hl]; rfl
      rw [he] at hk
      have s0:Sz 2000 0:=sz_zero.mono (by decide)
      refine bif_neg (by omega) ⟨0,QV.zero,sz_zero.mono (by decide),?_⟩
      rw [told_of s0,fit_of s0]
      exact hk _ _ _ rfl rfl)
   exact start
 · simp only [if_neg h0] at hk
   exact bif_not (bif_neg h0 (hk _ _ _ rfl rfl))
theorem conL2_ok : ∀ g xs Q,conL2 g xs Q→Con Tryz.prog g xs Q:=table_ok fun p hp=>by
 simp only [List.mem_cons,List.not_mem_nil,or_false] at hp
 rcases hp with rfl | rfl | rfl | rfl
 · exact c1_ok fun _ _ h=>sign_con h
 · exact c1_ok fun _ _ h=>in_con h
 · exact c1_ok fun _ _ h=>told_con h
 · exact c1_ok fun _ _ h=>sum_con h
theorem sumE_zero (h:sumE l=0):l.length≤256∧ratErrs l=0∧∃ q,sumF 0 l=some q∧sumS l=ratText q:=by
 unfold sumE lisE at h
 by_cases h1:256<l.length
 · simp only [if_pos h1] at h; cases h
 simp only [if_neg h1] at h
 by_cases h0:ratErrs l=0
 · simp only [if_pos h0] at h
   refine ⟨by omega,h0,?_⟩
   cases hs:sumF 0 l with
   | none=>rw [hs] at h; cases h
   | some q =>
     refine ⟨q,rfl,?_⟩
     unfold sumS lisE
     rw [if_neg h1,if_pos h0,hs]
 · simp only [if_neg h0] at h
   exact absurd h h0
theorem neg_at {x:Nat} (hx:x<l.length) (h:sgn (ratOf (l.getD x ByteArray.empty))<0):negative l=true :=
 List.any_eq_true.2 ⟨_,getD_mem hx,decide_eq_true h⟩
theorem neg_none (h:∀ x,x<l.length→¬ sgn (ratOf (l.getD x ByteArray.empty))<0):negative l=false:=by
 cases hn:negative l with
 | false=>rfl
 | true =>
   obtain ⟨s,hs,hd⟩:=List.any_eq_true.1 hn
   obtain ⟨i,hi,rfl⟩:=List.getElem_of_mem hs
   refine absurd (of_decide_eq_true hd) ?_
   have:=h i hi
   rw [List.getD_eq_getElem?_getD,List.getElem?_eq_getElem hi] at this
   exact this
theorem odds_con (h:oddsT l Q):Con Tryz.prog 60 [.imm eS l] Q:=by
 obtain ⟨ht,hq⟩:=h
 refine conN (gn:=fnT Tryz.f60) (by kernel_rfl) conL2_ok (inl:=[]) (LT:=lodds_live) (NT:=lodds_nils) rfl fun n0=>?_
 rw [lodds_E]
 refine ⟨ht,?_⟩
 have hk:∀ e,oddsE l=e→resK Q (.int .i64 e) []:=fun e h1=>by
  rw [h1] at hq
  exact res_int hq
 unfold oddsE at hk
 by_cases hs:sumE l=0
 · rw [if_neg (fun h=>h hs)] at hk
   refine bif_not (bif_pos hs ?_)
   obtain ⟨hl,h0,p,hp,hps⟩:=sumE_zero hs
   refine loopN (f:=60) (gn:=fnT Tryz.f60) (n0:=n0) (r:=5) (by kernel_rfl) conL2_ok (inl:=[]) (LT:=lodds_live) (NT:=lodds_nils) (fun x:Nat=>lodds_s5_0 l (sumS l) (l.length:Int) (x:Int)) (fun x=>l.length - x) (fun x=>x≤l.length∧∀ y,y<x→¬ sgn (ratOf (l.getD y ByteArray.empty))<0) (fun x hpre ih=>?_) 0 ⟨Nat.zero_le _,fun y hy=>absurd hy (Nat.not_lt_zero _)⟩
   obtain ⟨hxl,hneg⟩:=hpre
   rw [lodds_s5_0_E]
   by_cases hx:x<l.length
   · refine bif_pos (by omega) (bif_and (bif_pos (by omega) (bif_pos (by omega) ?_)))
     rw [Int.toNat_natCast,wrS hx (by omega)]
     obtain ⟨a1,a2⟩:=num_at h0 hx
     refine ⟨_,a1,a2.mono (by decide),fun z hz=>⟨_,hz,?_⟩⟩
     by_cases hc:sgn (ratOf (l.getD x ByteArray.empty))<0
     · rw [if_pos (neg_at hx hc)] at hk
       exact bif_pos hc (hk _ rfl)
     · refine bif_neg hc (ih (x+1) ⟨by omega,fun y hy=>?_⟩ (by omega))
       by_cases hyx:y=x
       · rw [hyx]; exact hc
       · exact hneg y (by omega)
   · have hxx:x=l.length:=by omega
     subst hxx
     rw [neg_none hneg,if_neg (by decide)] at hk
     refine bif_neg (by omega) ?_
     by_cases h1:sumS l=⟨#[49]⟩
     · rw [if_pos h1] at hk
       exact bif_not (bif_t (bytes49.2 h1) (hk _ rfl))
     · rw [if_neg h1] at hk
       exact bif_not (bif_f (fun h=>h1 (bytes49.1 h)) (hk _ rfl))
 · rw [if_pos hs] at hk
   exact bif_not (bif_neg hs (hk _ rfl))
end
end
section
abbrev eQ : ETy := .more .bool (.more (.slice eW) (.one (.slice eW)))
abbrev eP : ETy := .more (.int .i64) (.one (.int .i64))
abbrev z0 : QT:=(false,[],[])
abbrev b0 : ByteArray:=ByteArray.empty
abbrev p0 : Int × Int:=(0,0)
def vLQ : View (List QT):=vRow eQ
def vP : View (List (Int × Int)):=vRow eP
structure QF (zs:List QT) (n:Nat) (f:Nat→Rat):Prop where
 len:zs.length=n
 at_:∀ i,i<n→QV (zs.getD i z0) (f i)
def wide (m:List (List ByteArray)):Nat:=(m.getD 0 []).length
def TxN (n:Nat):Prop:=n≤1000000000000
noncomputable def vecE (n:Nat) (f:Nat→Rat):Int:=if ∀ i,i<n→fitV (f i)=0 then 0 else 2
noncomputable def textsOf (n:Nat) (f:Nat→Rat):List ByteArray:=(List.range n).map fun i=>ratText (f i)
noncomputable def vecV (n:Nat) (f:Nat→Rat):List ByteArray:=if vecE n f=0 then textsOf n f else []
def SzF (k n:Nat) (f:Nat→Rat):Prop:=∀ i,i<n→Sz k (f i)
def outVS (zs:List QT) (Q:Res):Prop:=∃ (n:Nat) (f:Nat→Rat),QF zs n f∧TxN n∧SzF 9000000000 n f∧Q (.tup [.imm eS (vecV n f), .int .i64 (vecE n f)]) []
def wghtS (l:List (List ByteArray)) (Q:Res):Prop:=(l.length≤1000000000000000∧∀ r∈l,r.length≤1000000000000000)∧∀ n:Int,Q (.int .i64 n) []
def getCl (f:Nat):AV→Option Unit
 | .fn g cs=>(match cs with | []=>(if g=f then some () else none) | _=>none)
 | _=>none
def vCl (f:Nat):View Unit:=⟨getCl f,fun _ => .fn f [],fun {x a} h {c w v} hx=>by
 unfold getCl at h
 split at h
 · split at h
   · split at h
     · rename_i hg; subst hg; exact hx
     · cases h
   · cases h
 · cases h⟩
def longI (k:Nat) (l:List ByteArray):Int:=match l.findIdx? fun s=>decide (k<s.size) with | some i=>(i:Int) | none => -1
def long12S (l:List ByteArray) (_:Unit) (Q:Res):Prop:=l.length≤1000000000000000∧Q (.int .i64 (longI 12 l)) []
noncomputable def conM1 : FuncId→List AV→Res→Prop:=tableC [(124,c1 vLS rchecksS),(70,c1 vS inS),(109,c1 vQ fitS),(110,c1 vQ outS),(89,c1 vLS rchecksS),(75,c2 vS vS xadd),(26,c2 vS vS xmul)]
end
end Go.Proofs.YtnnkjpcipldnfaaGreatDoor.Lib
end
section
set_option linter.unusedSimpArgs false
set_option linter.unusedVariables false
namespace Go.Proofs.YtnnkjpcipldnfaaGreatDoor.Mach
open Go Go.Proofs.YtnnkjpcipldnfaaGreatDoor Go.Proofs.YtnnkjpcipldnfaaGreatDoor.Lib
section
set_option maxRecDepth 1000000
def qint_live : List (Nat × List Nat):=[]
def qint_nils : List (Nat × ETy):=[]
theorem qint_E (n:Int) (n0:Nat) (K:AV→List HObj→Prop) :
 execN tab (mixE tab conQ1 [] 400) (maskN qint_live qint_nils (GoodL Tryz.prog n0 86 K)) (finK tab (fnT Tryz.f86).res K) 400 [.code (fnT Tryz.f86).body] ⟨initEnv (fnT Tryz.f86).n [AV.int .i64 n],[]⟩ =
 (bif decide (n<0) then NatI (IntKind.i64.wrap (0 - n))∧NatI 1∧K (AV.agg [AV.bool true,AV.imm eW (Sem.limbsOf (IntKind.i64.wrap (0 - n)).toNat),AV.imm eW (Sem.limbsOf 1)]) [HObj.box [AV.bool true,AV.imm eW (Sem.limbsOf (IntKind.i64.wrap (0 - n)).toNat),AV.imm eW (Sem.limbsOf 1)]] else NatI n∧NatI 1∧K (AV.agg [AV.bool false,AV.imm eW (Sem.limbsOf n.toNat),AV.imm eW (Sem.limbsOf 1)]) [HObj.box [AV.bool false,AV.imm eW (Sem.limbsOf n.toNat),AV.imm eW (Sem.limbsOf 1)]]):=by kernel_rfl
def mout_live : List (Nat × List Nat):=[(3,[4,8,9,10])]
def mout_nils : List (Nat × ETy):=[(4,eS),(8,eQ)]
noncomputable def mout_s3_0 (l:List (Bool × List Int × List Int)) (x0 x1:Int) (x2:List ByteArray):St:=stOf 26 [(4,AV.own 0),(8,AV.imm eQ l),(9,AV.int .i64 x0),(10,AV.int .i64 x1)] [HObj.typed eS x2 false]
theorem mout_E (l:List (Bool × List Int × List Int)) (n0:Nat) (K:AV→List HObj→Prop) :
 execN tab (mixE tab conM1 [] 400) (maskN mout_live mout_nils (GoodL Tryz.prog n0 88 K)) (finK tab (fnT Tryz.f88).res K) 400 [.code (fnT Tryz.f88).body] ⟨initEnv (fnT Tryz.f88).n [AV.imm eQ l],[]⟩ =
 (GoodL Tryz.prog n0 88 K (headAt (fnT Tryz.f88) 3) (mout_s3_0 l (↑l.length:Int) 0 [])):=by kernel_rfl
theorem mout_s3_0_E (l:List (Bool × List Int × List Int)) (x0 x1:Int) (x2:List ByteArray) (n0:Nat) (K:AV→List HObj→Prop) :
 execN tab (mixE tab conM1 [] 400) (maskN mout_live mout_nils (GoodL Tryz.prog n0 88 K)) (finK tab (fnT Tryz.f88).res K) 400 (roundAt (fnT Tryz.f88) 3) (mout_s3_0 l x0 x1 x2) =
 (bif decide (x1<x0) then bif decide (0≤x1) && decide (x1<(↑l.length:Int)) then ∃ q,Sem.QV ((l.getD x1.toNat (false,[],[])).1,(l.getD x1.toNat (false,[],[])).2.1,(l.getD x1.toNat (false,[],[])).2.2) q∧Sz 9000000000 q∧bif !decide (fitV q=0) then K (AV.tup [AV.nils,AV.int .i64 (fitV q)]) [HObj.typed eS x2 false,HObj.box [AV.bool (l.getD x1.toNat (false,[],[])).1,AV.imm eW (l.getD x1.toNat (false,[],[])).2.1,AV.imm eW (l.getD x1.toNat (false,[],[])).2.2]] else ∃ q,Sem.QV ((l.getD x1.toNat (false,[],[])).1,(l.getD x1.toNat (false,[],[])).2.1,(l.getD x1.toNat (false,[],[])).2.2) q∧Sz 9000000000 q∧bif bif (x2.length+[Sem.ratText q].length).ble 9223372036854775807 then ((x2.length+[Sem.ratText q].length) * 16).ble 140737488355328 else false then GoodL Tryz.prog n0 88 K (headAt (fnT Tryz.f88) 3) (mout_s3_0 l x0 (IntKind.i64.wrap (x1+1)) (x2 ++ [Sem.ratText q])) else False else False else K (AV.tup [AV.own 0,AV.int .i64 0]) [HObj.typed eS x2 false]):=by kernel_rfl
def lweight_live : List (Nat × List Nat):=[(3,[3,8,9,10]),(6,[3,8,9,10,14,15,16])]
def lweight_nils : List (Nat × ETy):=[(8,ETy.one (CTy.slice eS)),(14,eS)]
noncomputable def lweight_s3_0 (l:List (List ByteArray)) (x0 x1 x2:Int):St:=stOf 27 [(3,AV.int .i64 x0),(8,AV.imm (ETy.one (CTy.slice eS)) l),(9,AV.int .i64 x1),(10,AV.int .i64 x2)] []
noncomputable def lweight_s6_0 (l:List (List ByteArray)) (x0 x1 x2:Int) (x3:List ByteArray) (x4 x5:Int):St:=stOf 27 [(3,AV.int .i64 x0),(8,AV.imm (ETy.one (CTy.slice eS)) l),(9,AV.int .i64 x1),(10,AV.int .i64 x2),(14,AV.imm eS x3),(15,AV.int .i64 x4),(16,AV.int .i64 x5)] []
theorem lweight_E (l:List (List ByteArray)) (n0:Nat) (K:AV→List HObj→Prop) :
 execN tab (mixE tab conM1 [] 400) (maskN lweight_live lweight_nils (GoodL Tryz.prog n0 45 K)) (finK tab (fnT Tryz.f45).res K) 400 [.code (fnT Tryz.f45).body] ⟨initEnv (fnT Tryz.f45).n [AV.imm (ETy.one (CTy.slice eS)) l],[]⟩ =
 (GoodL Tryz.prog n0 45 K (headAt (fnT Tryz.f45) 3) (lweight_s3_0 l 0 (↑l.length:Int) 0)):=by kernel_rfl
theorem lweight_s3_0_E (l:List (List ByteArray)) (x0 x1 x2:Int) (n0:Nat) (K:AV→List HObj→Prop) :
 execN tab (mixE tab conM1 [] 400) (maskN lweight_live lweight_nils (GoodL Tryz.prog n0 45 K)) (finK tab (fnT Tryz.f45).res K) 400 (roundAt (fnT Tryz.f45) 3) (lweight_s3_0 l x0 x1 x2) =
 (bif decide (x2<x1) then bif decide (0≤x2) && decide (x2<(↑l.length:Int)) then GoodL Tryz.prog n0 45 K (headAt (fnT Tryz.f45) 6) (lweight_s6_0 l x0 x1 x2 (l.getD x2.toNat []) (↑(List.length (l.getD x2.toNat [])):Int) 0) else False else K (AV.int .i64 x0) []):=by kernel_rfl
theorem lweight_s6_0_E (l:List (List ByteArray)) (x0 x1 x2:Int) (x3:List ByteArray) (x4 x5:Int) (n0:Nat) (K:AV→List HObj→Prop) :
 execN tab (mixE tab conM1 [] 400) (maskN lweight_live lweight_nils (GoodL Tryz.prog n0 45 K)) (finK tab (fnT Tryz.f45).res K) 400 (roundAt (fnT Tryz.f45) 6) (lweight_s6_0 l x0 x1 x2 x3 x4 x5) =
 (bif decide (x5<x4) then bif decide (0≤x5) && decide (x5<(↑x3.length:Int)) then GoodL Tryz.prog n0 45 K (headAt (fnT Tryz.f45) 6) (lweight_s6_0 l (IntKind.i64.wrap (x0+(↑(ByteArray.size (x3.getD x5.toNat ByteArray.empty)):Int))) x1 x2 x3 x4 (IntKind.i64.wrap (x5+1))) else False else GoodL Tryz.prog n0 45 K (headAt (fnT Tryz.f45) 3) (lweight_s3_0 l x0 x1 (IntKind.i64.wrap (x2+1)))):=by kernel_rfl
end
end Go.Proofs.YtnnkjpcipldnfaaGreatDoor.Mach
end
section
set_option linter.unusedSimpArgs false
set_option linter.unusedVariables false
namespace Go.Proofs.YtnnkjpcipldnfaaGreatDoor.Lib
open Go Go.Proofs.YtnnkjpcipldnfaaGreatDoor.Mach Go.Proofs.YtnnkjpcipldnfaaGreatDoorW.PrintWords Go.Proofs.YtnnkjpcipldnfaaGreatDoor.Sem Go.Proofs.YtnnkjpcipldnfaaGreatDoor.Pure
section
theorem roomN {n b:Nat} (h:n≤1000000000001) (hb:b≤100):(bif n.ble 9223372036854775807 then (n * b).ble 140737488355328 else false)=true:=by
 rw [(ble_iff _ _).2 (show n≤9223372036854775807 by omega)]
 exact (ble_iff _ _).2 (Nat.le_trans (Nat.mul_le_mul h hb) (by decide))
theorem len_snoc {α:Type} {l:List α} {a:α} {n m:Nat} (h:l.length=n) (hn:n+1≤m):l.length+[a].length≤m:=by
 rw [h]; exact hn
theorem getD_snoc {α:Type} {l:List α} {a d:α} {i:Nat}:(l ++ [a]).getD i d=if i<l.length then l.getD i d else if i=l.length then a else d:=by
 rw [List.getD_eq_getElem?_getD,List.getD_eq_getElem?_getD]
 by_cases h:i<l.length
 · rw [if_pos h,List.getElem?_append_left h]
 · rw [if_neg h,List.getElem?_append_right (by omega)]
   by_cases h1:i=l.length
   · rw [if_pos h1,h1]; simp
   · rw [if_neg h1,List.getElem?_eq_none (by simp; omega)]; rfl
theorem QF.push {zs:List QT} {n:Nat} {f:Nat→Rat} {z:QT} (h:QF zs n f) (hz:QV z (f n)):QF (zs ++ [z]) (n+1) f :=
 ⟨by rw [List.length_append,h.len]; rfl,fun i hi=>by
  rw [getD_snoc,h.len]
  by_cases h1:i<n
  · rw [if_pos h1]; exact h.at_ i h1
  · rw [if_neg h1,if_pos (by omega)]
    rw [show i=n by omega]; exact hz⟩
theorem szS_add {a b:Nat} {x y:Rat} (sx:Sz a x) (sy:Sz b y):Sz (a+b+1) (x+y):=by
 have e1:=sz_n sx; have e2:=sz_d sx; have e3:=sz_n sy; have e4:=sz_d sy
 have m1:dg (x.num.natAbs * y.den)≤a+b:=Nat.le_trans (dg_mul _ _) (by omega)
 have m2:dg (y.num.natAbs * x.den)≤a+b:=Nat.le_trans (dg_mul _ _) (by omega)
 have m3:dg (x.den * y.den)≤a+b:=Nat.le_trans (dg_mul _ _) (by omega)
 have px:=den_pos x
 have py:=den_pos y
 have hsum:x+y=mkq (decide (x.num<0)) x.num.natAbs x.den+mkq (decide (y.num<0)) y.num.natAbs y.den:=by rw [mkq_self,mkq_self]
 rw [mkq_add _ _ _ _ _ _ px py] at hsum
 have hD:∀ c u,szD (mkq c u (x.den * y.den))≤a+b+1:=fun c u=>Nat.le_trans (szD_mkq (Nat.mul_pos px py)) (by omega)
 have hN:∀ c u,dg u≤a+b+1→szN (mkq c u (x.den * y.den))≤a+b+1:=fun c u h=>Nat.le_trans (szN_mkq (Nat.mul_pos px py)) h
 have a1:=dg_add m1 m2
 have a2:=dg_mono (Nat.sub_le (x.num.natAbs * y.den) (y.num.natAbs * x.den))
 have a3:=dg_mono (Nat.sub_le (y.num.natAbs * x.den) (x.num.natAbs * y.den))
 rw [hsum]
 split
 · exact ⟨hN _ _ (by omega),hD _ _⟩
 · split
   · exact ⟨hN _ _ (by omega),hD _ _⟩
   · exact ⟨hN _ _ (by omega),hD _ _⟩
theorem szS_mul {a b:Nat} {x y:Rat} (sx:Sz a x) (sy:Sz b y):Sz (a+b) (x * y):=by
 have e1:=sz_n sx; have e2:=sz_d sx; have e3:=sz_n sy; have e4:=sz_d sy
 have hprod:x * y=mkq (decide (x.num<0)) x.num.natAbs x.den * mkq (decide (y.num<0)) y.num.natAbs y.den:=by rw [mkq_self,mkq_self]
 rw [mkq_mul] at hprod
 rw [hprod]
 have hp:=Nat.mul_pos (den_pos x) (den_pos y)
 exact ⟨Nat.le_trans (szN_mkq hp) (Nat.le_trans (dg_mul _ _) (by omega)),Nat.le_trans (szD_mkq hp) (Nat.le_trans (dg_mul _ _) (by omega))⟩
theorem sz_int (n:Int) (h:n.natAbs<10 ^ 20):Sz 20 (n:Rat):=⟨dg_word h,by show dg (n:Rat).den≤20; rw [Rat.den_intCast,dg_one]; decide⟩
def tailTo (f:Nat→Rat) (n:Nat):Nat→Rat
 | 0=>0
 | d+1=>f (n - 1 - d)+tailTo f n d
section
variable {v a b:List ByteArray} {m:List (List ByteArray)} {Q:Res}
theorem conM1_ok : ∀ g xs Q,conM1 g xs Q→Con Tryz.prog g xs Q:=table_ok fun p hp=>by
 simp only [List.mem_cons,List.not_mem_nil,or_false] at hp
 rcases hp with rfl | rfl | rfl | rfl | rfl | rfl | rfl
 · exact c1_ok fun _ _ h=>rchecks_con h
 · exact c1_ok fun _ _ h=>in_con h
 · exact c1_ok fun _ _ h=>fits_con h
 · exact c1_ok fun _ _ h=>out_con h
 · exact c1_ok fun _ _ h=>xerrs_con h
 · exact c2_ok fun _ _ _ h=>xadd_con h
 · exact c2_ok fun _ _ _ h=>xmul_con h
theorem int_con {n:Int} (h:intQ n Q):Con Tryz.prog 86 [.int .i64 n] Q:=by
 obtain ⟨⟨h0,h1⟩,hq⟩:=h
 refine conN (gn:=fnT Tryz.f86) (by kernel_rfl) conQ1_ok (inl:=[]) (LT:=qint_live) (NT:=qint_nils) rfl fun n0=>?_
 rw [qint_E]
 have hd:(n:Rat).den=1:=Rat.den_intCast n
 have hn:(n:Rat).num=n:=Rat.num_intCast n
 by_cases hneg:n<0
 · refine bif_pos hneg ⟨⟨by rw [wr (by omega) (by omega)]; omega,by rw [wr (by omega) (by omega)]; omega⟩,natI1,?_⟩
   rw [wr (by omega) (by omega),show (0 - n).toNat=n.natAbs by omega]
   refine res_plain (hq (true,limbsOf n.natAbs,limbsOf 1) ⟨?_,?_, .inl ?_⟩) rfl rfl
   · rw [hn]; exact (decide_eq_true hneg).symm
   · rw [hn]
   · rw [hd]
 · refine bif_neg hneg ⟨⟨by omega,by omega⟩,natI1,?_⟩
   rw [show n.toNat=n.natAbs by omega]
   refine res_plain (hq (false,limbsOf n.natAbs,limbsOf 1) ⟨?_,?_, .inl ?_⟩) rfl rfl
   · rw [hn]; exact (decide_eq_false hneg).symm
   · rw [hn]
   · rw [hd]
theorem vecE_at {n x:Nat} {f:Nat→Rat} (hx:x<n) (h:fitV (f x)≠0):vecE n f=2∧fitV (f x)=2:=by
 refine ⟨if_neg fun hc=>h (hc x hx),?_⟩
 unfold fitV at h ⊢
 split at h
 · rename_i h1; rw [if_pos h1]
 · exact absurd rfl h
theorem texts_succ (n:Nat) (f:Nat→Rat):textsOf (n+1) f=textsOf n f ++ [ratText (f n)]:=by
 unfold textsOf
 rw [List.range_succ,List.map_append]; rfl
theorem texts_len (n:Nat) (f:Nat→Rat):(textsOf n f).length=n:=by unfold textsOf; simp
theorem vecE_fit {n:Nat} {f:Nat→Rat} (h:SzF 2000 n f):vecE n f=0:=if_pos fun i hi=>fit_of (h i hi)
theorem out_conV {zs:List QT} (h:outVS zs Q):Con Tryz.prog 88 [.imm eQ zs] Q:=by
 obtain ⟨n,f,hz,hn,hs,hq⟩:=h
 unfold TxN at hn
 have hzl:=hz.len
 refine outL_seal (e:=eS) (l:=vecV n f) (n:=vecE n f) ?_ hq
 refine conN (gn:=fnT Tryz.f88) (by kernel_rfl) conM1_ok (inl:=[]) (LT:=mout_live) (NT:=mout_nils) rfl fun n0=>?_
 rw [mout_E]
 refine loopN (f:=88) (gn:=fnT Tryz.f88) (n0:=n0) (r:=3) (by kernel_rfl) conM1_ok (inl:=[]) (LT:=mout_live) (NT:=mout_nils) (K:=resK (outL eS (vecV n f) (vecE n f))) (fun x:Nat=>mout_s3_0 zs (zs.length:Int) (x:Int) (textsOf x f)) (fun x=>zs.length - x) (fun x=>x≤zs.length∧∀ i,i<x→fitV (f i)=0) (fun x hp ih=>?_) 0 ⟨Nat.zero_le _,fun i hi=>absurd hi (Nat.not_lt_zero _)⟩
 obtain ⟨hx0,hf⟩:=hp
 rw [mout_s3_0_E]
 by_cases hx:x<zs.length
 · have hv:=hz.at_ x (by omega)
   refine bif_pos (by omega) (bif_and (bif_pos (by omega) (bif_pos (by omega) ?_)))
   rw [Int.toNat_natCast,wrS hx (by omega)]
   refine ⟨_,hv,hs x (by omega),?_⟩
   by_cases h0:fitV (f x)=0
   · have ih' := ih (x+1) ⟨by omega,fun i hi=>by
        by_cases hix:i=x
        · rw [hix]; exact h0
        · exact hf i (by omega)⟩ (by omega)
     rw [texts_succ] at ih'
     exact bif_not (bif_pos h0 ⟨_,hv,hs x (by omega),bif_t (roomN (len_snoc (texts_len x f) (by omega)) (by decide)) ih'⟩)
   · obtain ⟨e1,e2⟩:=vecE_at (n:=n) (by omega) h0
     refine bif_not (bif_neg h0 ?_)
     rw [e2,e1]
     exact outL_nil (by unfold vecV; rw [e1]; rfl)
 · have hxx:x=n:=by omega
   subst hxx
   have e:vecE x f=0:=if_pos hf
   refine bif_neg (by omega) ?_
   have e2:vecV x f=textsOf x f:=if_pos e
   rw [e,e2]
   exact outL_own rfl
theorem lweight_con {l:List (List ByteArray)} (h:wghtS l Q):Con Tryz.prog 45 [.imm (eL eS) l] Q:=by
 obtain ⟨⟨hl,hr⟩,hq⟩:=h
 refine conN (gn:=fnT Tryz.f45) (by kernel_rfl) conM1_ok (inl:=[]) (LT:=lweight_live) (NT:=lweight_nils) rfl fun n0=>?_
 rw [lweight_E]
 refine loopN (f:=45) (gn:=fnT Tryz.f45) (n0:=n0) (r:=3) (by kernel_rfl) conM1_ok (inl:=[]) (LT:=lweight_live) (NT:=lweight_nils) (K:=resK Q) (fun y:Int × Nat=>lweight_s3_0 l y.1 (l.length:Int) (y.2:Int)) (fun y=>l.length - y.2) (fun y=>y.2≤l.length) (fun y hp ih=>?_) (0,0) (Nat.zero_le _)
 obtain ⟨n,x⟩:=y
 simp only at hp
 show execN _ _ _ _ _ _ (lweight_s3_0 l n (l.length:Int) (x:Int))
 rw [lweight_s3_0_E]
 by_cases hx:x<l.length
 · refine bif_pos (by omega) (bif_and (bif_pos (by omega) (bif_pos (by omega) ?_)))
   rw [Int.toNat_natCast]
   have hrr:=hr _ (getD_mem (d:=[]) hx)
   generalize l.getD x []=r at hrr
   refine loopN (f:=45) (gn:=fnT Tryz.f45) (n0:=n0) (r:=6) (by kernel_rfl) conM1_ok (inl:=[]) (LT:=lweight_live) (NT:=lweight_nils) (K:=resK Q) (fun y:Int × Nat=>lweight_s6_0 l y.1 (l.length:Int) (x:Int) r (r.length:Int) (y.2:Int)) (fun y=>r.length - y.2) (fun y=>y.2≤r.length) (fun y hp ih2=>?_) (n,0) (Nat.zero_le _)
   obtain ⟨m,k⟩:=y
   simp only at hp
   show execN _ _ _ _ _ _ (lweight_s6_0 l m (l.length:Int) (x:Int) r (r.length:Int) (k:Int))
   rw [lweight_s6_0_E]
   by_cases hk:k<r.length
   · refine bif_pos (by omega) (bif_and (bif_pos (by omega) (bif_pos (by omega) ?_)))
     rw [wrS hk (by omega)]
     exact ih2 (_,k+1) (by show k+1≤r.length; omega) (by show r.length - (k+1)<r.length - k; omega)
   · refine bif_neg (by omega) ?_
     rw [wrS hx (by omega)]
     exact ih (_,x+1) (by show x+1≤l.length; omega) (by show l.length - (x+1)<l.length - x; omega)
 · exact bif_neg (by omega) (res_int (hq _))
theorem drop_get {α:Type} {d:α} {l:List α} {x:Nat} (hx:x<l.length):l.drop x=l.getD x d :: l.drop (x+1):=by
 rw [List.drop_eq_getElem_cons hx,List.getD_eq_getElem?_getD,List.getElem?_eq_getElem hx]; rfl
theorem long_none {k:Nat} {v:List ByteArray} (h:¬ longI k v ≥ 0):∀ s∈v,s.size≤k:=fun s hs=>Nat.le_of_not_lt fun hc=>by
 unfold longI at h
 cases hf:v.findIdx? fun s=>decide (k<s.size) with
 | none =>
   have:=List.findIdx?_eq_none_iff.1 hf s hs
   simp at this
   omega
 | some i =>
   rw [hf] at h
   simp at h
end
end
section
abbrev Nd : Type:=Int × Int × Int × List Int × List ByteArray × ByteArray
abbrev eNode : ETy := .more (.int .i64) (.more (.int .i64) (.more (.int .i64) (.more (.slice eI) (.more (.slice eS) (.one .str)))))
abbrev bx6 (a b c:Int) (d:List Int) (e:List ByteArray) (f:ByteArray):HObj := .box [.int .i64 a, .int .i64 b, .int .i64 c, .imm eI d, .imm eS e, .str f]
abbrev bxN (x:Nd):HObj:=bx6 x.1 x.2.1 x.2.2.1 x.2.2.2.1 x.2.2.2.2.1 x.2.2.2.2.2
def nd0 : Nd:=(0,0,0,[],[],b0)
def vN : View (List Nd):=vRow eNode
def TxNd (x:Nd):Prop:=x.2.2.2.1.length≤1000000000000000∧TxL x.2.2.2.2.1∧Tx x.2.2.2.2.2
def TxT (t:List Nd):Prop:=t.length≤1000000000000000∧∀ x∈t,TxNd x
def InT (i:Int) (t:List Nd):Prop:=0≤i∧i<t.length
def inKid (t:List Nd) (i k:Int):Bool:=decide (i<k) && decide (k<t.length)
def kidsE (t:List Nd) (i:Nat):Int :=
 if (t.getD i nd0).2.2.2.1.length=0 then 3 else if 6<(t.getD i nd0).2.2.2.1.length then 2 else if (t.getD i nd0).2.2.2.1.all (inKid t i)=true then 0 else 3
noncomputable def nodeE (t:List Nd) (i:Nat):Int :=
 let x:=t.getD i nd0
 if x.1=0 then (if x.2.1≠0∨x.2.2.1≠0∨0<x.2.2.2.1.length∨0<x.2.2.2.2.1.length then 3 else ratErr x.2.2.2.2.2)
 else if x.1=1 then (if x.2.1≠0∨x.2.2.1≠0∨x.2.2.2.2.2≠⟨#[]⟩ then 3 else if kidsE t i≠0 then kidsE t i else if x.2.2.2.2.1.length≠x.2.2.2.1.length then 3 else oddsE x.2.2.2.2.1)
 else if x.1=2 then (if 0<x.2.2.2.2.1.length∨x.2.2.2.2.2≠⟨#[]⟩ then 3 else if x.2.1<0∨1<x.2.1∨x.2.2.1<0∨10≤x.2.2.1 then 4 else kidsE t i)
 else 1
def kidsS (t:List Nd) (i:Int) (Q:Res):Prop:=InT i t∧Q (.int .i64 (kidsE t i.toNat)) []
def nodeS (t:List Nd) (i:Int) (Q:Res):Prop:=(TxT t∧InT i t)∧Q (.int .i64 (nodeE t i.toNat)) []
noncomputable def conT1 : FuncId→List AV→Res→Prop:=tableC [(135,c2 vN vI kidsS),(134,c1 vS rcheckS),(60,c1 vLS oddsT)]
noncomputable def conTX : FuncId→List AV→Res→Prop:=tableC [(112,c2 vN vI kidsS),(111,c1 vS rcheckS),(58,c1 vLS oddsT)]
noncomputable def conT2 : FuncId→List AV→Res→Prop:=tableC [(113,c2 vN vI nodeS),(72,c2 vN vI nodeS)]
end
end Go.Proofs.YtnnkjpcipldnfaaGreatDoor.Lib
end
section
set_option linter.unusedSimpArgs false
set_option linter.unusedVariables false
namespace Go.Proofs.YtnnkjpcipldnfaaGreatDoor.Mach
open Go Go.Proofs.YtnnkjpcipldnfaaGreatDoor Go.Proofs.YtnnkjpcipldnfaaGreatDoor.Lib
section
set_option maxRecDepth 1000000
def tkids_live : List (Nat × List Nat):=[(7,[0,1,19,20,21])]
def tkids_nils : List (Nat × ETy):=[(19,eI)]
noncomputable def tkids_s7_0 (t:List Nd) (i:Int) (x0:List Int) (x1 x2:Int):St:=stOf 35 [(0,AV.imm eNode t),(1,AV.int .i64 i),(19,AV.imm eI x0),(20,AV.int .i64 x1),(21,AV.int .i64 x2)] []
theorem tkids_E (t:List Nd) (i:Int) (n0:Nat) (K:AV→List HObj→Prop) :
 execN tab (mixE tab con0 [] 400) (maskN tkids_live tkids_nils (GoodL Tryz.prog n0 135 K)) (finK tab (fnT Tryz.f135).res K) 400 [.code (fnT Tryz.f135).body] ⟨initEnv (fnT Tryz.f135).n [AV.imm eNode t,AV.int .i64 i],[]⟩ =
 (bif decide (0≤i) && decide (i<(↑t.length:Int)) then bif decide ((↑(List.length (t.getD i.toNat (0,0,0,[],[],ByteArray.empty)).2.2.2.1):Int)=0) then K (AV.int .i64 3) [] else bif decide ((↑(List.length (t.getD i.toNat (0,0,0,[],[],ByteArray.empty)).2.2.2.1):Int) > 6) then K (AV.int .i64 2) [] else GoodL Tryz.prog n0 135 K (headAt (fnT Tryz.f135) 7) (tkids_s7_0 t i (t.getD i.toNat (0,0,0,[],[],ByteArray.empty)).2.2.2.1 (↑(List.length (t.getD i.toNat (0,0,0,[],[],ByteArray.empty)).2.2.2.1):Int) 0) else False):=by kernel_rfl
theorem tkids_s7_0_E (t:List Nd) (i:Int) (x0:List Int) (x1 x2:Int) (n0:Nat) (K:AV→List HObj→Prop) :
 execN tab (mixE tab con0 [] 400) (maskN tkids_live tkids_nils (GoodL Tryz.prog n0 135 K)) (finK tab (fnT Tryz.f135).res K) 400 (roundAt (fnT Tryz.f135) 7) (tkids_s7_0 t i x0 x1 x2) =
 (bif decide (x2<x1) then bif decide (0≤x2) && decide (x2<(↑x0.length:Int)) then bif decide (x0.getD x2.toNat 0≤i) then K (AV.int .i64 3) [] else bif bif false then true else decide (x0.getD x2.toNat 0 ≥ (↑t.length:Int)) then K (AV.int .i64 3) [] else GoodL Tryz.prog n0 135 K (headAt (fnT Tryz.f135) 7) (tkids_s7_0 t i x0 x1 (IntKind.i64.wrap (x2+1))) else False else K (AV.int .i64 0) []):=by kernel_rfl
def xnext_live : List (Nat × List Nat):=[(7,[0,1,22,23,24])]
def xnext_nils : List (Nat × ETy):=[(22,eI)]
noncomputable def xnext_s7_0 (t:List Nd) (i:Int) (x0:List Int) (x1 x2:Int):St:=stOf 39 [(0,AV.imm eNode t),(1,AV.int .i64 i),(22,AV.imm eI x0),(23,AV.int .i64 x1),(24,AV.int .i64 x2)] []
theorem xnext_E (t:List Nd) (i:Int) (n0:Nat) (K:AV→List HObj→Prop) :
 execN tab (mixE tab con0 [] 400) (maskN xnext_live xnext_nils (GoodL Tryz.prog n0 112 K)) (finK tab (fnT Tryz.f112).res K) 400 [.code (fnT Tryz.f112).body] ⟨initEnv (fnT Tryz.f112).n [AV.imm eNode t,AV.int .i64 i],[]⟩ =
 (bif decide (0≤i) && decide (i<(↑t.length:Int)) then bif decide ((↑(List.length (t.getD i.toNat (0,0,0,[],[],ByteArray.empty)).2.2.2.1):Int)=0) then K (AV.int .i64 3) [] else bif decide ((↑(List.length (t.getD i.toNat (0,0,0,[],[],ByteArray.empty)).2.2.2.1):Int) > 6) then K (AV.int .i64 2) [] else bif decide (0≤i) && decide (i<(↑t.length:Int)) then GoodL Tryz.prog n0 112 K (headAt (fnT Tryz.f112) 7) (xnext_s7_0 t i (t.getD i.toNat (0,0,0,[],[],ByteArray.empty)).2.2.2.1 (↑(List.length (t.getD i.toNat (0,0,0,[],[],ByteArray.empty)).2.2.2.1):Int) 0) else False else False):=by kernel_rfl
theorem xnext_s7_0_E (t:List Nd) (i:Int) (x0:List Int) (x1 x2:Int) (n0:Nat) (K:AV→List HObj→Prop) :
 execN tab (mixE tab con0 [] 400) (maskN xnext_live xnext_nils (GoodL Tryz.prog n0 112 K)) (finK tab (fnT Tryz.f112).res K) 400 (roundAt (fnT Tryz.f112) 7) (xnext_s7_0 t i x0 x1 x2) =
 (bif decide (x2<x1) then bif decide (0≤x2) && decide (x2<(↑x0.length:Int)) then bif decide (x0.getD x2.toNat 0 > i) then bif !bif true then decide (x0.getD x2.toNat 0<(↑t.length:Int)) else false then K (AV.int .i64 3) [] else GoodL Tryz.prog n0 112 K (headAt (fnT Tryz.f112) 7) (xnext_s7_0 t i x0 x1 (IntKind.i64.wrap (x2+1))) else K (AV.int .i64 3) [] else False else K (AV.int .i64 0) []):=by kernel_rfl
def xpar_live : List (Nat × List Nat):=[(3,[1,5,10,11,12]),(6,[1,5,6,10,11,12,18,19,20])]
def xpar_nils : List (Nat × ETy):=[(5,eP),(10,eNode),(18,eI)]
noncomputable def xpar_s3_0 (t:List Nd) (k x0 x1:Int) (x2:List (Int × Int)):St:=stOf 37 [(1,AV.int .i64 k),(5,AV.own 0),(10,AV.imm eNode t),(11,AV.int .i64 x0),(12,AV.int .i64 x1)] [HObj.typed eP x2 false]
noncomputable def xpar_s6_0 (t:List Nd) (k x0 x1 x2:Int) (x3:List Int) (x4 x5:Int) (x6:List (Int × Int)):St:=stOf 37 [(1,AV.int .i64 k),(5,AV.own 0),(6,AV.int .i64 x0),(10,AV.imm eNode t),(11,AV.int .i64 x1),(12,AV.int .i64 x2),(18,AV.imm eI x3),(19,AV.int .i64 x4),(20,AV.int .i64 x5)] [HObj.typed eP x6 false]
theorem xpar_E (t:List Nd) (k:Int) (n0:Nat) (K:AV→List HObj→Prop) :
 execN tab (mixE tab con0 [] 400) (maskN xpar_live xpar_nils (GoodL Tryz.prog n0 73 K)) (finK tab (fnT Tryz.f73).res K) 400 [.code (fnT Tryz.f73).body] ⟨initEnv (fnT Tryz.f73).n [AV.imm eNode t,AV.int .i64 k],[]⟩ =
 (GoodL Tryz.prog n0 73 K (headAt (fnT Tryz.f73) 3) (xpar_s3_0 t k (↑t.length:Int) 0 [])):=by kernel_rfl
theorem xpar_s3_0_E (t:List Nd) (k x0 x1:Int) (x2:List (Int × Int)) (n0:Nat) (K:AV→List HObj→Prop) :
 execN tab (mixE tab con0 [] 400) (maskN xpar_live xpar_nils (GoodL Tryz.prog n0 73 K)) (finK tab (fnT Tryz.f73).res K) 400 (roundAt (fnT Tryz.f73) 3) (xpar_s3_0 t k x0 x1 x2) =
 (bif decide (x1<x0) then bif decide (0≤x1) && decide (x1<(↑t.length:Int)) then GoodL Tryz.prog n0 73 K (headAt (fnT Tryz.f73) 6) (xpar_s6_0 t k x1 x0 x1 (t.getD x1.toNat (0,0,0,[],[],ByteArray.empty)).2.2.2.1 (↑(List.length (t.getD x1.toNat (0,0,0,[],[],ByteArray.empty)).2.2.2.1):Int) 0 x2) else False else K (AV.own 0) [HObj.typed eP x2 false]):=by kernel_rfl
theorem xpar_s6_0_E (t:List Nd) (k x0 x1 x2:Int) (x3:List Int) (x4 x5:Int) (x6:List (Int × Int)) (n0:Nat) (K:AV→List HObj→Prop) :
 execN tab (mixE tab con0 [] 400) (maskN xpar_live xpar_nils (GoodL Tryz.prog n0 73 K)) (finK tab (fnT Tryz.f73).res K) 400 (roundAt (fnT Tryz.f73) 6) (xpar_s6_0 t k x0 x1 x2 x3 x4 x5 x6) =
 (bif decide (x5<x4) then bif decide (0≤x5) && decide (x5<(↑x3.length:Int)) then bif decide (x3.getD x5.toNat 0=k) then bif bif (x6.length+[(x0,x5)].length).ble 9223372036854775807 then ((x6.length+[(x0,x5)].length) * 16).ble 140737488355328 else false then GoodL Tryz.prog n0 73 K (headAt (fnT Tryz.f73) 6) (xpar_s6_0 t k x0 x1 x2 x3 x4 (IntKind.i64.wrap (x5+1)) (x6 ++ [(x0,x5)])) else False else GoodL Tryz.prog n0 73 K (headAt (fnT Tryz.f73) 6) (xpar_s6_0 t k x0 x1 x2 x3 x4 (IntKind.i64.wrap (x5+1)) x6) else False else GoodL Tryz.prog n0 73 K (headAt (fnT Tryz.f73) 3) (xpar_s3_0 t k x1 (IntKind.i64.wrap (x2+1)) x6)):=by kernel_rfl
def tcheck_live : List (Nat × List Nat):=[(7,[0,3,24,25,26]),(13,[0,3,24,25,26,38,39,40]),(19,[0,52,53,54]),(25,[0,66,67,68]),(28,[0,12,66,67,68,75,76,77])]
def tcheck_nils : List (Nat × ETy):=[(3,eI),(24,eNode),(38,eI),(52,eI),(66,eNode),(75,eNode)]
noncomputable def tcheck_s7_0 (t:List Nd) (x0 x1:Int) (x2:List Int):St:=stOf 114 [(0,AV.imm eNode t),(3,AV.own 0),(24,AV.imm eNode t),(25,AV.int .i64 x0),(26,AV.int .i64 x1)] [HObj.typed eI x2 false]
noncomputable def tcheck_s13_0 (t:List Nd) (x0 x1:Int) (x2:List Int) (x3 x4:Int) (x5:List Int):St:=stOf 114 [(0,AV.imm eNode t),(3,AV.own 0),(24,AV.imm eNode t),(25,AV.int .i64 x0),(26,AV.int .i64 x1),(38,AV.imm eI x2),(39,AV.int .i64 x3),(40,AV.int .i64 x4)] [HObj.typed eI x5 false]
noncomputable def tcheck_s19_0 (t:List Nd) (x0 x1:Int) (x2:List Int):St:=stOf 114 [(0,AV.imm eNode t),(52,AV.own 0),(53,AV.int .i64 x0),(54,AV.int .i64 x1)] [HObj.typed eI x2 false]
noncomputable def tcheck_s25_0 (t:List Nd) (x0 x1:Int):St:=stOf 114 [(0,AV.imm eNode t),(66,AV.imm eNode t),(67,AV.int .i64 x0),(68,AV.int .i64 x1)] []
noncomputable def tcheck_s28_0 (t:List Nd) (x0 x1:Int) (x2:List Nd) (x3 x4 x5 x6 x7:Int) (x8:List Int) (x9:List ByteArray) (x10:ByteArray):St:=stOf 114 [(0,AV.imm eNode t),(12,AV.ptr 0 0),(66,AV.imm eNode t),(67,AV.int .i64 x0),(68,AV.int .i64 x1),(75,AV.imm eNode x2),(76,AV.int .i64 x3),(77,AV.int .i64 x4)] [bx6 x5 x6 x7 x8 x9 x10]
theorem tcheck_E (t:List Nd) (n0:Nat) (K:AV→List HObj→Prop) :
 execN tab (mixE tab conT2 [] 400) (maskN tcheck_live tcheck_nils (GoodL Tryz.prog n0 74 K)) (finK tab (fnT Tryz.f74).res K) 400 [.code (fnT Tryz.f74).body] ⟨initEnv (fnT Tryz.f74).n [AV.imm eNode t],[]⟩ =
 (bif decide ((↑t.length:Int) > 120) then K (AV.int .i64 2) [] else bif decide ((↑t.length:Int)=0) then K (AV.int .i64 8) [] else bif decide (0≤(↑t.length:Int)) && decide ((↑t.length:Int)≤(↑t.length:Int)) && bif (↑t.length:Int).toNat.ble 9223372036854775807 then ((↑t.length:Int).toNat * 8).ble 281474976710656 else false then GoodL Tryz.prog n0 74 K (headAt (fnT Tryz.f74) 7) (tcheck_s7_0 t (↑t.length:Int) 0 (List.replicate (↑t.length:Int).toNat 0)) else False):=by kernel_rfl
theorem tcheck_s7_0_E (t:List Nd) (x0 x1:Int) (x2:List Int) (n0:Nat) (K:AV→List HObj→Prop) :
 execN tab (mixE tab conT2 [] 400) (maskN tcheck_live tcheck_nils (GoodL Tryz.prog n0 74 K)) (finK tab (fnT Tryz.f74).res K) 400 (roundAt (fnT Tryz.f74) 7) (tcheck_s7_0 t x0 x1 x2) =
 (bif decide (x1<x0) then bif decide (0≤x1) && decide (x1<(↑t.length:Int)) then (TxT t∧InT x1 t)∧bif !decide (nodeE t x1.toNat=0) then K (AV.int .i64 (nodeE t x1.toNat)) [HObj.typed eI x2 false,bxN (t.getD x1.toNat (0,0,0,[],[],ByteArray.empty))] else GoodL Tryz.prog n0 74 K (headAt (fnT Tryz.f74) 13) (tcheck_s13_0 t x0 x1 (t.getD x1.toNat (0,0,0,[],[],ByteArray.empty)).2.2.2.1 (↑(List.length (t.getD x1.toNat (0,0,0,[],[],ByteArray.empty)).2.2.2.1):Int) 0 x2) else False else GoodL Tryz.prog n0 74 K (headAt (fnT Tryz.f74) 19) (tcheck_s19_0 t (↑x2.length:Int) 0 x2)):=by kernel_rfl
theorem tcheck_s13_0_E (t:List Nd) (x0 x1:Int) (x2:List Int) (x3 x4:Int) (x5:List Int) (n0:Nat) (K:AV→List HObj→Prop) :
 execN tab (mixE tab conT2 [] 400) (maskN tcheck_live tcheck_nils (GoodL Tryz.prog n0 74 K)) (finK tab (fnT Tryz.f74).res K) 400 (roundAt (fnT Tryz.f74) 13) (tcheck_s13_0 t x0 x1 x2 x3 x4 x5) =
 (bif decide (x4<x3) then bif decide (0≤x4) && decide (x4<(↑x2.length:Int)) then bif decide (0≤x2.getD x4.toNat 0) && decide (x2.getD x4.toNat 0<(↑x5.length:Int)) then bif decide (0≤x2.getD x4.toNat 0) && decide (x2.getD x4.toNat 0<(↑x5.length:Int)) then GoodL Tryz.prog n0 74 K (headAt (fnT Tryz.f74) 13) (tcheck_s13_0 t x0 x1 x2 x3 (IntKind.i64.wrap (x4+1)) (x5.set (Int.toNat (x2.getD x4.toNat 0)) (IntKind.i64.wrap (x5.getD (Int.toNat (x2.getD x4.toNat 0)) 0+1)))) else False else False else False else GoodL Tryz.prog n0 74 K (headAt (fnT Tryz.f74) 7) (tcheck_s7_0 t x0 (IntKind.i64.wrap (x1+1)) x5)):=by kernel_rfl
theorem tcheck_s19_0_E (t:List Nd) (x0 x1:Int) (x2:List Int) (n0:Nat) (K:AV→List HObj→Prop) :
 execN tab (mixE tab conT2 [] 400) (maskN tcheck_live tcheck_nils (GoodL Tryz.prog n0 74 K)) (finK tab (fnT Tryz.f74).res K) 400 (roundAt (fnT Tryz.f74) 19) (tcheck_s19_0 t x0 x1 x2) =
 (bif decide (x1<x0) then bif decide (0≤x1) && decide (x1<(↑x2.length:Int)) then bif decide (x1 > 0) then bif bif true then !decide (x2.getD x1.toNat 0=1) else false then K (AV.int .i64 3) [HObj.typed eI x2 false] else GoodL Tryz.prog n0 74 K (headAt (fnT Tryz.f74) 19) (tcheck_s19_0 t x0 (IntKind.i64.wrap (x1+1)) x2) else GoodL Tryz.prog n0 74 K (headAt (fnT Tryz.f74) 19) (tcheck_s19_0 t x0 (IntKind.i64.wrap (x1+1)) x2) else False else GoodL Tryz.prog n0 74 K (headAt (fnT Tryz.f74) 25) (tcheck_s25_0 t (↑t.length:Int) 0)):=by kernel_rfl
theorem tcheck_s25_0_E (t:List Nd) (x0 x1:Int) (n0:Nat) (K:AV→List HObj→Prop) :
 execN tab (mixE tab conT2 [] 400) (maskN tcheck_live tcheck_nils (GoodL Tryz.prog n0 74 K)) (finK tab (fnT Tryz.f74).res K) 400 (roundAt (fnT Tryz.f74) 25) (tcheck_s25_0 t x0 x1) =
 (bif decide (x1<x0) then bif decide (0≤x1) && decide (x1<(↑t.length:Int)) then bif decide (0≤x1) && decide (x1≤(↑t.length:Int)) then GoodL Tryz.prog n0 74 K (headAt (fnT Tryz.f74) 28) (tcheck_s28_0 t x0 x1 (List.drop 0 (List.take x1.toNat t)) (↑(List.drop 0 (List.take x1.toNat t)).length:Int) 0 (t.getD x1.toNat (0,0,0,[],[],ByteArray.empty)).1 (t.getD x1.toNat (0,0,0,[],[],ByteArray.empty)).2.1 (t.getD x1.toNat (0,0,0,[],[],ByteArray.empty)).2.2.1 (t.getD x1.toNat (0,0,0,[],[],ByteArray.empty)).2.2.2.1 (t.getD x1.toNat (0,0,0,[],[],ByteArray.empty)).2.2.2.2.1 (t.getD x1.toNat (0,0,0,[],[],ByteArray.empty)).2.2.2.2.2) else False else False else K (AV.int .i64 0) []):=by kernel_rfl
theorem tcheck_s28_0_E (t:List Nd) (x0 x1:Int) (x2:List Nd) (x3 x4 x5 x6 x7:Int) (x8:List Int) (x9:List ByteArray) (x10:ByteArray) (n0:Nat) (K:AV→List HObj→Prop) :
 execN tab (mixE tab conT2 [] 400) (maskN tcheck_live tcheck_nils (GoodL Tryz.prog n0 74 K)) (finK tab (fnT Tryz.f74).res K) 400 (roundAt (fnT Tryz.f74) 28) (tcheck_s28_0 t x0 x1 x2 x3 x4 x5 x6 x7 x8 x9 x10) =
 (bif decide (x4<x3) then bif decide (0≤x4) && decide (x4<(↑x2.length:Int)) then bif decide (x5=2) then bif bif true then decide ((x2.getD x4.toNat (0,0,0,[],[],ByteArray.empty)).1=2) else false then bif bif true then decide (x6=(x2.getD x4.toNat (0,0,0,[],[],ByteArray.empty)).2.1) else false then bif bif true then decide (x7=(x2.getD x4.toNat (0,0,0,[],[],ByteArray.empty)).2.2.1) else false then bif bif true then !decide ((↑x8.length:Int)=(↑(List.length (x2.getD x4.toNat (0,0,0,[],[],ByteArray.empty)).2.2.2.1):Int)) else false then K (AV.int .i64 3) [bx6 x5 x6 x7 x8 x9 x10,bxN (x2.getD x4.toNat (0,0,0,[],[],ByteArray.empty))] else GoodL Tryz.prog n0 74 K (headAt (fnT Tryz.f74) 28) (tcheck_s28_0 t x0 x1 x2 x3 (IntKind.i64.wrap (x4+1)) x5 x6 x7 x8 x9 x10) else GoodL Tryz.prog n0 74 K (headAt (fnT Tryz.f74) 28) (tcheck_s28_0 t x0 x1 x2 x3 (IntKind.i64.wrap (x4+1)) x5 x6 x7 x8 x9 x10) else GoodL Tryz.prog n0 74 K (headAt (fnT Tryz.f74) 28) (tcheck_s28_0 t x0 x1 x2 x3 (IntKind.i64.wrap (x4+1)) x5 x6 x7 x8 x9 x10) else GoodL Tryz.prog n0 74 K (headAt (fnT Tryz.f74) 28) (tcheck_s28_0 t x0 x1 x2 x3 (IntKind.i64.wrap (x4+1)) x5 x6 x7 x8 x9 x10) else GoodL Tryz.prog n0 74 K (headAt (fnT Tryz.f74) 28) (tcheck_s28_0 t x0 x1 x2 x3 (IntKind.i64.wrap (x4+1)) x5 x6 x7 x8 x9 x10) else False else GoodL Tryz.prog n0 74 K (headAt (fnT Tryz.f74) 25) (tcheck_s25_0 t x0 (IntKind.i64.wrap (x1+1)))):=by kernel_rfl
def tnode_live : List (Nat × List Nat):=[]
def tnode_nils : List (Nat × ETy):=[]
theorem tnode_E (t:List Nd) (i:Int) (n0:Nat) (K:AV→List HObj→Prop) :
 execN tab (mixE tab conT1 [] 400) (maskN tnode_live tnode_nils (GoodL Tryz.prog n0 113 K)) (finK tab (fnT Tryz.f113).res K) 400 [.code (fnT Tryz.f113).body] ⟨initEnv (fnT Tryz.f113).n [AV.imm eNode t,AV.int .i64 i],[]⟩ =
 (bif decide (0≤i) && decide (i<(↑t.length:Int)) then
 bif decide ((t.getD i.toNat (0,0,0,[],[],ByteArray.empty)).1=0) then bif !decide ((t.getD i.toNat (0,0,0,[],[],ByteArray.empty)).2.1=0) then K (AV.int .i64 3) [bxN (t.getD i.toNat (0,0,0,[],[],ByteArray.empty))] else bif bif false then true else !decide ((t.getD i.toNat (0,0,0,[],[],ByteArray.empty)).2.2.1=0) then K (AV.int .i64 3) [bxN (t.getD i.toNat (0,0,0,[],[],ByteArray.empty))] else bif bif false then true else decide ((↑(List.length (t.getD i.toNat (0,0,0,[],[],ByteArray.empty)).2.2.2.1):Int) > 0) then K (AV.int .i64 3) [bxN (t.getD i.toNat (0,0,0,[],[],ByteArray.empty))] else bif bif false then true else decide ((↑(List.length (t.getD i.toNat (0,0,0,[],[],ByteArray.empty)).2.2.2.2.1):Int) > 0) then K (AV.int .i64 3) [bxN (t.getD i.toNat (0,0,0,[],[],ByteArray.empty))] else Tx (t.getD i.toNat (0,0,0,[],[],ByteArray.empty)).2.2.2.2.2∧K (AV.int .i64 (ratErr (t.getD i.toNat (0,0,0,[],[],ByteArray.empty)).2.2.2.2.2)) [bxN (t.getD i.toNat (0,0,0,[],[],ByteArray.empty))]
 else
  bif decide ((t.getD i.toNat (0,0,0,[],[],ByteArray.empty)).1=1) then bif !decide ((t.getD i.toNat (0,0,0,[],[],ByteArray.empty)).2.1=0) then K (AV.int .i64 3) [bxN (t.getD i.toNat (0,0,0,[],[],ByteArray.empty))] else bif bif false then true else !decide ((t.getD i.toNat (0,0,0,[],[],ByteArray.empty)).2.2.1=0) then K (AV.int .i64 3) [bxN (t.getD i.toNat (0,0,0,[],[],ByteArray.empty))] else bif bif false then true else !ByteArray.toList (t.getD i.toNat (0,0,0,[],[],ByteArray.empty)).2.2.2.2.2 == (ByteArray.mk #[]).toList then K (AV.int .i64 3) [bxN (t.getD i.toNat (0,0,0,[],[],ByteArray.empty))] else InT i t∧bif !decide (kidsE t i.toNat=0) then K (AV.int .i64 (kidsE t i.toNat)) [bxN (t.getD i.toNat (0,0,0,[],[],ByteArray.empty))] else bif !decide ((↑(List.length (t.getD i.toNat (0,0,0,[],[],ByteArray.empty)).2.2.2.2.1):Int)=(↑(List.length (t.getD i.toNat (0,0,0,[],[],ByteArray.empty)).2.2.2.1):Int)) then K (AV.int .i64 3) [bxN (t.getD i.toNat (0,0,0,[],[],ByteArray.empty))] else TxL (t.getD i.toNat (0,0,0,[],[],ByteArray.empty)).2.2.2.2.1∧K (AV.int .i64 (oddsE (t.getD i.toNat (0,0,0,[],[],ByteArray.empty)).2.2.2.2.1)) [bxN (t.getD i.toNat (0,0,0,[],[],ByteArray.empty))]
  else
   bif decide ((t.getD i.toNat (0,0,0,[],[],ByteArray.empty)).1=2) then
        bif decide ((↑(List.length (t.getD i.toNat (0,0,0,[],[],ByteArray.empty)).2.2.2.2.1):Int) > 0) then K (AV.int .i64 3) [bxN (t.getD i.toNat (0,0,0,[],[],ByteArray.empty))]
        else bif bif false then true else !ByteArray.toList (t.getD i.toNat (0,0,0,[],[],ByteArray.empty)).2.2.2.2.2 == (ByteArray.mk #[]).toList then K (AV.int .i64 3) [bxN (t.getD i.toNat (0,0,0,[],[],ByteArray.empty))] else bif decide ((t.getD i.toNat (0,0,0,[],[],ByteArray.empty)).2.1<0) then K (AV.int .i64 4) [bxN (t.getD i.toNat (0,0,0,[],[],ByteArray.empty))] else bif bif false then true else decide ((t.getD i.toNat (0,0,0,[],[],ByteArray.empty)).2.1 > 1) then K (AV.int .i64 4) [bxN (t.getD i.toNat (0,0,0,[],[],ByteArray.empty))] else bif bif false then true else decide ((t.getD i.toNat (0,0,0,[],[],ByteArray.empty)).2.2.1<0) then K (AV.int .i64 4) [bxN (t.getD i.toNat (0,0,0,[],[],ByteArray.empty))] else bif bif false then true else decide ((t.getD i.toNat (0,0,0,[],[],ByteArray.empty)).2.2.1 ≥ 10) then K (AV.int .i64 4) [bxN (t.getD i.toNat (0,0,0,[],[],ByteArray.empty))] else InT i t∧K (AV.int .i64 (kidsE t i.toNat)) [bxN (t.getD i.toNat (0,0,0,[],[],ByteArray.empty))]
   else K (AV.int .i64 1) [bxN (t.getD i.toNat (0,0,0,[],[],ByteArray.empty))]
  else False):=by kernel_rfl
end
end Go.Proofs.YtnnkjpcipldnfaaGreatDoor.Mach
end
section
set_option linter.unusedSimpArgs false
set_option linter.unusedVariables false
namespace Go.Proofs.YtnnkjpcipldnfaaGreatDoor.Lib
open Go Go.Proofs.YtnnkjpcipldnfaaGreatDoor.Mach Go.Proofs.YtnnkjpcipldnfaaGreatDoorW.PrintWords Go.Proofs.YtnnkjpcipldnfaaGreatDoor.Sem Go.Proofs.YtnnkjpcipldnfaaGreatDoor.Pure
section
section
variable {t:List Nd} {i:Int} {Q:Res}
theorem kids_con (h:kidsS t i Q):Con Tryz.prog 135 [.imm eNode t, .int .i64 i] Q:=by
 obtain ⟨⟨i0,i1⟩,hq⟩:=h
 have hk:∀ e H,kidsE t i.toNat=e→resK Q (.int .i64 e) H:=fun e H h1=>by rw [h1] at hq; exact res_int hq
 refine conN (gn:=fnT Tryz.f135) (by kernel_rfl) con0_ok (inl:=[]) (LT:=tkids_live) (NT:=tkids_nils) rfl fun n0=>?_
 rw [tkids_E]
 refine bif_and (bif_pos i0 (bif_pos i1 ?_))
 unfold kidsE at hk
 by_cases h0:(t.getD i.toNat nd0).2.2.2.1.length=0
 · exact bif_pos (by show (((t.getD i.toNat nd0).2.2.2.1.length:Nat):Int)=0; omega) (hk _ _ (if_pos h0))
 rw [if_neg h0] at hk
 refine bif_neg (by show ¬ (((t.getD i.toNat nd0).2.2.2.1.length:Nat):Int)=0; omega) ?_
 by_cases h6:6<(t.getD i.toNat nd0).2.2.2.1.length
 · exact bif_pos (by show (((t.getD i.toNat nd0).2.2.2.1.length:Nat):Int) > 6; omega) (hk _ _ (if_pos h6))
 rw [if_neg h6] at hk
 refine bif_neg (by show ¬ (((t.getD i.toNat nd0).2.2.2.1.length:Nat):Int) > 6; omega) ?_
 show GoodL _ _ _ _ _ (tkids_s7_0 t i (t.getD i.toNat nd0).2.2.2.1 (((t.getD i.toNat nd0).2.2.2.1.length:Nat):Int) 0)
 generalize (t.getD i.toNat nd0).2.2.2.1=l at *
 have hi:((i.toNat:Nat):Int)=i:=by omega
 rw [hi] at hk
 refine loopN (f:=135) (gn:=fnT Tryz.f135) (n0:=n0) (r:=7) (by kernel_rfl) con0_ok (inl:=[]) (LT:=tkids_live) (NT:=tkids_nils) (K:=resK Q) (fun x:Nat=>tkids_s7_0 t i l (l.length:Int) (x:Int)) (fun x=>l.length - x) (fun x=>x≤l.length∧∀ y,y<x→inKid t i (l.getD y 0)=true) (fun x hp ih=>?_) 0 ⟨Nat.zero_le _,fun y hy=>absurd hy (Nat.not_lt_zero _)⟩
 obtain ⟨hx0,hy⟩:=hp
 rw [tkids_s7_0_E]
 by_cases hx:x<l.length
 · have bad:¬ inKid t i (l.getD x 0)=true→∀ H,resK Q (.int .i64 3) H:=fun hb H=>hk _ _ (if_neg fun hc=>hb (List.all_eq_true.1 hc _ (getD_mem hx)))
   refine bif_pos (by omega) (bif_and (bif_pos (by omega) (bif_pos (by omega) ?_)))
   rw [Int.toNat_natCast,wrS hx (by omega)]
   have hin:inKid t i (l.getD x 0)=true↔i<l.getD x 0∧l.getD x 0<t.length:=by
    unfold inKid; rw [Bool.and_eq_true,decide_eq_true_iff,decide_eq_true_iff]
   by_cases c1:l.getD x 0≤i
   · exact bif_pos c1 (bad (fun h=>by have:=hin.1 h; omega) _)
   refine bif_neg c1 ?_
   by_cases c2:l.getD x 0 ≥ (t.length:Int)
   · exact bif_t (by rw [cond_false]; exact decide_eq_true c2) (bad (fun h=>by have:=hin.1 h; omega) _)
   refine bif_f (by rw [cond_false,decide_eq_false c2]; decide) (ih (x+1) ⟨by omega,fun y hy' => ?_⟩ (by omega))
   by_cases hyx:y=x
   · rw [hyx]; exact hin.2 ⟨by omega,by omega⟩
   · exact hy y (by omega)
 · refine bif_neg (by omega) (hk _ _ (if_pos (List.all_eq_true.2 fun k hkm=>?_)))
   obtain ⟨y,hyl,rfl⟩:=List.getElem_of_mem hkm
   have:=hy y (by omega)
   rwa [List.getD_eq_getElem?_getD,List.getElem?_eq_getElem hyl] at this
theorem xnext_con (h:kidsS t i Q):Con Tryz.prog 112 [.imm eNode t, .int .i64 i] Q:=by
 obtain ⟨⟨i0,i1⟩,hq⟩:=h
 have hk:∀ e H,kidsE t i.toNat=e→resK Q (.int .i64 e) H:=fun e H h1=>by rw [h1] at hq; exact res_int hq
 refine conN (gn:=fnT Tryz.f112) (by kernel_rfl) con0_ok (inl:=[]) (LT:=xnext_live) (NT:=xnext_nils) rfl fun n0=>?_
 rw [xnext_E]
 refine bif_and (bif_pos i0 (bif_pos i1 ?_))
 unfold kidsE at hk
 by_cases h0:(t.getD i.toNat nd0).2.2.2.1.length=0
 · exact bif_pos (by show (((t.getD i.toNat nd0).2.2.2.1.length:Nat):Int)=0; omega) (hk _ _ (if_pos h0))
 rw [if_neg h0] at hk
 refine bif_neg (by show ¬ (((t.getD i.toNat nd0).2.2.2.1.length:Nat):Int)=0; omega) ?_
 by_cases h6:6<(t.getD i.toNat nd0).2.2.2.1.length
 · exact bif_pos (by show (((t.getD i.toNat nd0).2.2.2.1.length:Nat):Int) > 6; omega) (hk _ _ (if_pos h6))
 rw [if_neg h6] at hk
 refine bif_neg (by show ¬ (((t.getD i.toNat nd0).2.2.2.1.length:Nat):Int) > 6; omega) ?_
 refine bif_and (bif_pos i0 (bif_pos i1 ?_))
 show GoodL _ _ _ _ _ (xnext_s7_0 t i (t.getD i.toNat nd0).2.2.2.1 (((t.getD i.toNat nd0).2.2.2.1.length:Nat):Int) 0)
 generalize (t.getD i.toNat nd0).2.2.2.1=l at *
 have hi:((i.toNat:Nat):Int)=i:=by omega
 rw [hi] at hk
 refine loopN (f:=112) (gn:=fnT Tryz.f112) (n0:=n0) (r:=7) (by kernel_rfl) con0_ok (inl:=[]) (LT:=xnext_live) (NT:=xnext_nils) (K:=resK Q) (fun x:Nat=>xnext_s7_0 t i l (l.length:Int) (x:Int)) (fun x=>l.length - x) (fun x=>x≤l.length∧∀ y,y<x→inKid t i (l.getD y 0)=true) (fun x hp ih=>?_) 0 ⟨Nat.zero_le _,fun y hy=>absurd hy (Nat.not_lt_zero _)⟩
 obtain ⟨hx0,hy⟩:=hp
 rw [xnext_s7_0_E]
 by_cases hx:x<l.length
 · have bad:¬ inKid t i (l.getD x 0)=true→∀ H,resK Q (.int .i64 3) H:=fun hb H=>hk _ _ (if_neg fun hc=>hb (List.all_eq_true.1 hc _ (getD_mem hx)))
   refine bif_pos (by omega) (bif_and (bif_pos (by omega) (bif_pos (by omega) ?_)))
   rw [Int.toNat_natCast,wrS hx (by omega)]
   have hin:inKid t i (l.getD x 0)=true↔i<l.getD x 0∧l.getD x 0<t.length:=by
    unfold inKid; rw [Bool.and_eq_true,decide_eq_true_iff,decide_eq_true_iff]
   by_cases c1:l.getD x 0 > i
   · refine bif_pos c1 ?_
     by_cases c2:l.getD x 0<(t.length:Int)
     · refine bif_not (bif_t (by rw [cond_true]; exact decide_eq_true c2) (ih (x+1) ⟨by omega,fun y hy' => ?_⟩ (by omega)))
       by_cases hyx:y=x
       · rw [hyx]; exact hin.2 ⟨by omega,by omega⟩
       · exact hy y (by omega)
     · exact bif_not (bif_f (by rw [cond_true,decide_eq_false c2]; decide) (bad (fun h=>by have:=hin.1 h; omega) _))
   · exact bif_neg c1 (bad (fun h=>by have:=hin.1 h; omega) _)
 · refine bif_neg (by omega) (hk _ _ (if_pos (List.all_eq_true.2 fun k hkm=>?_)))
   obtain ⟨y,hyl,rfl⟩:=List.getElem_of_mem hkm
   have:=hy y (by omega)
   rwa [List.getD_eq_getElem?_getD,List.getElem?_eq_getElem hyl] at this
end
theorem conT1_ok : ∀ g xs Q,conT1 g xs Q→Con Tryz.prog g xs Q:=table_ok fun p hp=>by
 simp only [List.mem_cons,List.not_mem_nil,or_false] at hp
 rcases hp with rfl | rfl | rfl
 · exact c2_ok fun _ _ _ h=>kids_con h
 · exact c1_ok fun _ _ h=>rcheck_con h
 · exact c1_ok fun _ _ h=>odds_con h
section
variable {t:List Nd} {i:Int} {Q:Res}
theorem ne_toList {a b:ByteArray} (h:¬ a=b):¬ a.toList=b.toList:=fun hc=>h (toList_eq_iff.1 hc)
theorem node_con (h:nodeS t i Q):Con Tryz.prog 113 [.imm eNode t, .int .i64 i] Q:=by
 obtain ⟨⟨ht,i0,i1⟩,hq⟩:=h
 have hx:TxNd (t.getD i.toNat nd0):=ht.2 _ (getD_mem (by omega))
 have hk:∀ e H,nodeE t i.toNat=e→resK Q (.int .i64 e) H:=fun e H h1=>by rw [h1] at hq; exact res_int hq
 refine conN (gn:=fnT Tryz.f113) (by kernel_rfl) conT1_ok (inl:=[]) (LT:=tnode_live) (NT:=tnode_nils) rfl fun n0=>?_
 rw [tnode_E]
 refine bif_and (bif_pos i0 (bif_pos i1 ?_))
 unfold nodeE at hk
 have e0:nd0=(0,0,0,[],[],ByteArray.empty):=rfl
 rw [e0] at hk hx
 clear e0
 generalize t.getD i.toNat (0,0,0,[],[],ByteArray.empty)=x at *
 obtain ⟨kd,pl,inf,nx,od,py⟩:=x
 obtain ⟨x1,x2,x3⟩:=hx
 simp only at hk x1 x2 x3 ⊢
 by_cases k0:kd=0
 · refine bif_pos k0 ?_
   rw [if_pos k0] at hk
   by_cases c1:pl=0
   · refine bif_not (bif_pos c1 ?_)
     by_cases c2:inf=0
     · refine bif_f (by rw [cond_false,decide_eq_true c2]; decide) ?_
       by_cases c3:0<nx.length
       · exact bif_t (by rw [cond_false]; exact decide_eq_true (by omega)) (hk _ _ (if_pos (.inr (.inr (.inl c3)))))
       refine bif_f (by rw [cond_false,decide_eq_false (by omega)]; decide) ?_
       by_cases c4:0<od.length
       · exact bif_t (by rw [cond_false]; exact decide_eq_true (by omega)) (hk _ _ (if_pos (.inr (.inr (.inr c4)))))
       exact bif_f (by rw [cond_false,decide_eq_false (by omega)]; decide) ⟨x3,hk _ _ (if_neg (by omega))⟩
     · exact bif_t (by rw [cond_false,decide_eq_false c2]; rfl) (hk _ _ (if_pos (.inr (.inl c2))))
   · exact bif_not (bif_neg c1 (hk _ _ (if_pos (.inl c1))))
 refine bif_neg k0 ?_
 rw [if_neg k0] at hk
 by_cases k1:kd=1
 · refine bif_pos k1 ?_
   rw [if_pos k1] at hk
   by_cases c1:pl=0
   · refine bif_not (bif_pos c1 ?_)
     by_cases c2:inf=0
     · refine bif_f (by rw [cond_false,decide_eq_true c2]; decide) ?_
       by_cases c3:py=⟨#[]⟩
       · refine bif_f (by rw [cond_false,c3,beq_self_eq_true]; decide) ⟨⟨i0,i1⟩,?_⟩
         rw [if_neg (show ¬ (pl≠0∨inf≠0∨py≠⟨#[]⟩) from fun h=>h.elim (fun h=>h c1) fun h=>h.elim (fun h=>h c2) fun h=>h c3)] at hk
         by_cases c4:kidsE t i.toNat=0
         · rw [if_neg (fun h=>h c4)] at hk
           refine bif_not (bif_pos c4 ?_)
           by_cases c5:od.length=nx.length
           · rw [if_neg (fun h=>h c5)] at hk
             exact bif_not (bif_pos (by omega) ⟨x2,hk _ _ rfl⟩)
           · exact bif_not (bif_neg (by omega) (hk _ _ (if_pos c5)))
         · exact bif_not (bif_neg c4 (hk _ _ (if_pos c4)))
       · exact bif_t (by rw [cond_false,beq_eq_false_iff_ne.2 (ne_toList c3)]; rfl) (hk _ _ (if_pos (.inr (.inr c3))))
     · exact bif_t (by rw [cond_false,decide_eq_false c2]; rfl) (hk _ _ (if_pos (.inr (.inl c2))))
   · exact bif_not (bif_neg c1 (hk _ _ (if_pos (.inl c1))))
 refine bif_neg k1 ?_
 rw [if_neg k1] at hk
 by_cases k2:kd=2
 · refine bif_pos k2 ?_
   rw [if_pos k2] at hk
   by_cases c1:0<od.length
   · exact bif_pos (by omega) (hk _ _ (if_pos (.inl c1)))
   refine bif_neg (by omega) ?_
   by_cases c3:py=⟨#[]⟩
   · rw [if_neg (show ¬ (0<od.length∨py≠⟨#[]⟩) from fun h=>h.elim c1 fun h=>h c3)] at hk
     refine bif_f (by rw [cond_false,c3,beq_self_eq_true]; decide) ?_
     by_cases c4:pl<0
     · exact bif_pos c4 (hk _ _ (if_pos (.inl c4)))
     refine bif_neg c4 ?_
     by_cases c5:pl > 1
     · exact bif_t (by rw [cond_false]; exact decide_eq_true c5) (hk _ _ (if_pos (.inr (.inl c5))))
     refine bif_f (by rw [cond_false,decide_eq_false c5]; decide) ?_
     by_cases c6:inf<0
     · exact bif_t (by rw [cond_false]; exact decide_eq_true c6) (hk _ _ (if_pos (.inr (.inr (.inl c6)))))
     refine bif_f (by rw [cond_false,decide_eq_false c6]; decide) ?_
     by_cases c7:inf ≥ 10
     · exact bif_t (by rw [cond_false]; exact decide_eq_true c7) (hk _ _ (if_pos (.inr (.inr (.inr c7)))))
     exact bif_f (by rw [cond_false,decide_eq_false c7]; decide) ⟨⟨i0,i1⟩,hk _ _ (if_neg (by omega))⟩
   · exact bif_t (by rw [cond_false,beq_eq_false_iff_ne.2 (ne_toList c3)]; rfl) (hk _ _ (if_pos (.inr c3)))
 · exact bif_neg k2 (hk _ _ (if_neg k2))
end
end
section
abbrev Sq : Type:=Int × Int × Int
abbrev Ch : Type:=Int × List ByteArray
abbrev eSq : ETy := .more (.int .i64) (.more (.int .i64) (.one (.int .i64)))
abbrev eCh : ETy := .more (.int .i64) (.one (.slice eS))
abbrev q0 : Sq:=(0,0,0)
abbrev ch0 : Ch:=(0,[])
def vSq : View (List Sq):=vRow eSq
def vCh : View (List Ch):=vRow eCh
def kidsOf (t:List Nd) (i:Nat):List Int:=(t.getD i nd0).2.2.2.1
def parsI (l:List Int) (i:Nat) (k:Int):Nat→List (Int × Int)
 | 0=>[]
 | c+1=>if l.getD c 0=k then parsI l i k c ++ [((i:Int),(c:Int))] else parsI l i k c
def parsN (t:List Nd) (k:Int):Nat→List (Int × Int)
 | 0=>[]
 | i+1=>parsN t k i ++ parsI (kidsOf t i) i k (kidsOf t i).length
def pars (t:List Nd) (k:Int):List (Int × Int):=parsN t k t.length
def SmallT (t:List Nd):Prop:=t.length≤120∧∀ i,i<t.length→(kidsOf t i).length≤6
def parsS (t:List Nd) (k:Int) (Q:Res):Prop:=SmallT t∧Q (.imm eP (pars t k)) []
noncomputable def nodesE (t:List Nd):Nat→Int
 | 0=>0
 | n+1=>if nodesE t n=0 then nodeE t n else nodesE t n
def oneP (t:List Nd):Prop:=∀ k:Nat,1≤k→k<t.length→(pars t (k:Int)).length=1
def sameWd (t:List Nd):Prop:=∀ i j,i<t.length→j<t.length→(t.getD i nd0).1=2→(t.getD j nd0).1=2→(t.getD i nd0).2.1=(t.getD j nd0).2.1→(t.getD i nd0).2.2.1=(t.getD j nd0).2.2.1→(kidsOf t i).length=(kidsOf t j).length
open Classical in
noncomputable def treeE (t:List Nd):Int:=if 120<t.length then 2 else if t.length=0 then 8 else if nodesE t t.length≠0 then nodesE t t.length else if oneP t∧sameWd t then 0 else 3
def treeS (t:List Nd) (Q:Res):Prop:=TxT t∧Q (.int .i64 (treeE t)) []
noncomputable def plE (t:List Nd) (p:Int):Int:=if treeE t≠0 then treeE t else if p=0∨p=1 then 0 else 4
def plS (t:List Nd) (p:Int) (Q:Res):Prop:=TxT t∧Q (.int .i64 (plE t p)) []
def wtS (t:List Nd) (Q:Res):Prop:=TxT t∧∀ n:Int,Q (.int .i64 n) []
def TxC (s:List Ch):Prop:=s.length≤1000000000000000∧∀ c∈s,TxL c.2
def cwtS (s:List Ch) (Q:Res):Prop:=TxC s∧∀ n:Int,Q (.int .i64 n) []
def par (t:List Nd) (k:Nat):Nat × Nat:=(((pars t (k:Int)).getD 0 p0).1.toNat,((pars t (k:Int)).getD 0 p0).2.toNat)
def pathN (t:List Nd):Nat→Nat→List (Int × Int)
 | 0,_=>[]
 | f+1,k=>if k=0 then [] else pathN t f (par t k).1 ++ [(((par t k).1:Int),((par t k).2:Int))]
def path (t:List Nd) (k:Nat):List (Int × Int):=pathN t k k
def ownF (t:List Nd) (p:Int) (x:Int × Int):Option (Int × Int):=if (t.getD x.1.toNat nd0).1=2∧(t.getD x.1.toNat nd0).2.1=p then some ((t.getD x.1.toNat nd0).2.2.1,x.2) else none
def own (t:List Nd) (p:Int) (k:Nat):List (Int × Int):=(path t k).filterMap (ownF t p)
def GoodT (t:List Nd):Prop:=treeE t=0
def pathS (t:List Nd) (k:Int) (Q:Res):Prop:=(GoodT t∧InT k t)∧Q (.imm eP (path t k.toNat)) []
def ownS (t:List Nd) (p k:Int) (Q:Res):Prop:=(GoodT t∧InT k t)∧Q (.imm eP (own t p k.toNat)) []
def sameB (a b:List (Int × Int)):Bool:=decide (a=b)
def SmL (a:List (Int × Int)):Prop:=a.length≤1000000
def sameS (a b:List (Int × Int)) (Q:Res):Prop:=SmL a∧Q (.bool (sameB a b)) []
def mine (t:List Nd) (p:Int) (i:Nat):Prop:=(t.getD i nd0).1=2∧(t.getD i nd0).2.1=p
def infoOf (t:List Nd) (i:Nat):Int:=(t.getD i nd0).2.2.1
def rem (t:List Nd) (p:Int):Prop:=∀ i j,i<t.length→j<t.length→mine t p i→mine t p j→infoOf t i=infoOf t j→own t p i=own t p j
open Classical in
noncomputable def remB (t:List Nd) (p:Int):Bool:=decide (rem t p)
def remS (t:List Nd) (p:Int) (Q:Res):Prop:=GoodT t∧Q (.bool (remB t p)) []
def ownsL (t:List Nd) (p:Int):List (List (Int × Int)):=(List.range t.length).map (own t p)
def pathsS (t:List Nd) (p:Int) (Q:Res):Prop:=GoodT t∧Q (.imm (eL eP) (ownsL t p)) []
noncomputable def recE (t:List Nd) (p:Int):Int:=if plE t p≠0 then plE t p else if remB t p=true then 0 else 10
def recS (t:List Nd) (p:Int) (Q:Res):Prop:=TxT t∧Q (.int .i64 (recE t p)) []
def cloneP (l:List (Int × Int)) (Q:Res):Prop:=l.length≤1000000∧(l≠[]→Q (.own 0) [.typed eP l false])∧(l=[]→Q .nils []∧Q (.own 0) [.typed eP [] false])
def knownB (l:List Sq) (f:Int):Bool:=l.any fun s=>decide (s.1=f)
def lastW (ws:List (List (Int × Int))) (o:List (Int × Int)):Nat→Nat
 | 0=>0
 | k+1=>if ws.getD k []=o then k else lastW ws o k
def newS (f:Int) (b w:Nat):List Sq:=(List.range w).map fun (c:Nat)=>(f,((c:Int),(b:Int)))
def newW (f:Int) (o:List (Int × Int)) (w:Nat):List (List (Int × Int)):=(List.range w).map fun (c:Nat)=>o ++ [(f,(c:Int))]
open Classical in
noncomputable def seqN (t:List Nd) (p:Int):Nat→List Sq × List (List (Int × Int))
 | 0=>([(-1, -1, -1)],[[]])
 | i + 1=>if mine t p i∧knownB (seqN t p i).1 (infoOf t i)=false then
     ((seqN t p i).1 ++ newS (infoOf t i) (lastW (seqN t p i).2 (own t p i) (seqN t p i).2.length) (kidsOf t i).length,(seqN t p i).2 ++ newW (infoOf t i) (own t p i) (kidsOf t i).length)
   else seqN t p i
noncomputable def seqL (t:List Nd) (p:Int):List Sq:=(seqN t p t.length).1
noncomputable def waysL (t:List Nd) (p:Int):List (List (Int × Int)):=(seqN t p t.length).2
def firstW (ws:List (List (Int × Int))) (o:List (Int × Int)):Int:=match ws.findIdx? fun w=>decide (w=o) with | some i=>(i:Int) | none => -1
noncomputable def atL (t:List Nd) (p:Int):List Int:=(List.range t.length).map fun k=>firstW (waysL t p) (own t p k)
def listS (t:List Nd) (p:Int) (Q:Res):Prop:=(GoodT t∧remB t p=true)∧Q (.tup [.imm eSq (seqL t p), .imm eI (atL t p)]) []
def xseqS (t:List Nd) (p:Int) (Q:Res):Prop:=(GoodT t∧remB t p=true)∧Q (.tup [.imm eSq (seqL t p), .imm (eL eP) (waysL t p)]) []
def widthN (t:List Nd) (p f:Int):Nat→Nat
 | 0=>0
 | n+1=>if widthN t p f n=0∧(t.getD n nd0).1=2∧(t.getD n nd0).2.1=p∧(t.getD n nd0).2.2.1=f then (kidsOf t n).length else widthN t p f n
def widthOf (t:List Nd) (p f:Int):Nat:=widthN t p f t.length
def infosN (t:List Nd) (p:Int):Nat→List Int
 | 0=>[]
 | n+1=>if 0<widthOf t p (n:Int) then infosN t p n ++ [(n:Int)] else infosN t p n
def infosL (t:List Nd) (p:Int):List Int:=infosN t p 10
def widthsL (t:List Nd) (p:Int):List Int:=(infosL t p).map fun f=>(widthOf t p f:Int)
def widthS (t:List Nd) (p f:Int) (Q:Res):Prop:=GoodT t∧Q (.int .i64 (widthOf t p f:Nat)) []
def infosS (t:List Nd) (p:Int) (Q:Res):Prop:=GoodT t∧Q (.imm eI (infosL t p)) []
def setsS (t:List Nd) (p:Int) (Q:Res):Prop:=GoodT t∧Q (.tup [.imm eI (infosL t p), .imm eI (widthsL t p)]) []
noncomputable def chE (t:List Nd) (p:Int) (s:List Ch) (i:Nat):Int :=
 if (s.getD i ch0).1≠(infosL t p).getD i 0∨(s.getD i ch0).2.length≠widthOf t p ((infosL t p).getD i 0) then 3 else oddsE (s.getD i ch0).2
noncomputable def chsE (t:List Nd) (p:Int) (s:List Ch):Nat→Int
 | 0=>0
 | n+1=>if chsE t p s n=0 then chE t p s n else chsE t p s n
noncomputable def stratE (t:List Nd) (p:Int) (s:List Ch):Int:=if s.length≠(infosL t p).length then 3 else chsE t p s s.length
def stratS (t:List Nd) (p:Int) (s:List Ch) (Q:Res):Prop:=(GoodT t∧TxC s)∧Q (.int .i64 (stratE t p s)) []
def mildN (x:Nd):Bool:=decide (x.2.2.2.2.2.size≤12) && decide (longI 12 x.2.2.2.2.1<0)
def mildB (t:List Nd):Bool:=t.all mildN && decide (t.length≤40)
def mildS (t:List Nd) (Q:Res):Prop:=TxT t∧Q (.bool (mildB t)) []
def tameB (ss:List (List Ch)):Bool:=ss.all fun s=>s.all fun c=>decide (longI 12 c.2<0)
def tameS (ss:List (List Ch)) (Q:Res):Prop:=(ss.length≤1000000∧∀ s∈ss,TxC s)∧Q (.bool (tameB ss)) []
noncomputable def conTO : FuncId→List AV→Res→Prop:=tableC [(89,c1 vLS rchecksS),(75,c2 vS vS xadd),(90,c1 vS xbig),(77,c1 vS xsign)]
noncomputable def conT3 : FuncId→List AV→Res→Prop:=tableC [(113,c2 vN vI nodeS),(72,c2 vN vI nodeS),(73,c2 vN vI parsS)]
noncomputable def conT4 : FuncId→List AV→Res→Prop:=tableC [(74,c1 vN treeS),(31,c1 vN treeS),(73,c2 vN vI parsS),(45,c1 vT wghtS),(121,c1 vP cloneP),(82,c2 vP vP sameS)]
noncomputable def conT5 : FuncId→List AV→Res→Prop:=tableC [(46,c2 vN vI plS),(51,c2 vN vI pathS),(81,c2 vN vI pathsS),(82,c2 vP vP sameS),(48,c2 vP vP sameS)]
noncomputable def conT6 : FuncId→List AV→Res→Prop:=tableC [(19,c3 vN vI vI ownS),(48,c2 vP vP sameS)]
noncomputable def conT7 : FuncId→List AV→Res→Prop:=tableC [(12,c2 vN vI remS),(47,c2 vN vI remS),(46,c2 vN vI plS),(11,c2 vN vI plS)]
end
section
section
variable {A B:Prop}
theorem bif_ap {p:Prop} {i:Decidable p} (h:p) (a:A):bif (bif true then decide p else false) then A else B:=by rw [cond_true]; exact bif_pos h a
theorem bif_an {p:Prop} {i:Decidable p} (h:¬ p) (b:B):bif (bif true then decide p else false) then A else B:=by rw [cond_true]; exact bif_neg h b
theorem bif_in {x n:Nat} (h:x<n) (a:A):bif decide ((0:Int)≤(x:Int)) && decide ((x:Int)<(n:Int)) then A else False:=bif_and (bif_pos (by omega) (bif_pos (by omega) a))
end
theorem makeN {n b:Nat} (h:n≤1000000000001) (hb:b≤100):(decide ((0:Int)≤(n:Int)) && decide ((n:Int)≤(n:Int)) && (bif (n:Int).toNat.ble 9223372036854775807 then ((n:Int).toNat * b).ble 281474976710656 else false))=true:=by
 rw [Int.toNat_natCast,(ble_iff _ _).2 (show n≤9223372036854775807 by omega),decide_eq_true (show (0:Int)≤(n:Int) by omega),decide_eq_true (Int.le_refl _)]
 exact (ble_iff _ _).2 (Nat.le_trans (Nat.mul_le_mul h hb) (by decide))
theorem mem_parsI {l:List Int} {i:Nat} {k:Int} {p:Int × Int}:∀ {n:Nat},p∈parsI l i k n↔∃ c,c<n∧l.getD c 0=k∧p=((i:Int),(c:Int))
 | 0=>by simp [parsI]
 | n+1=>by
   unfold parsI
   constructor
   · intro h
     split at h
     · rename_i hk
       rcases List.mem_append.1 h with h | h
       · obtain ⟨c,h1,h2,h3⟩:=mem_parsI.1 h; exact ⟨c,by omega,h2,h3⟩
       · exact ⟨n,by omega,hk,List.mem_singleton.1 h⟩
     · obtain ⟨c,h1,h2,h3⟩:=mem_parsI.1 h; exact ⟨c,by omega,h2,h3⟩
   · rintro ⟨c,h1,h2,h3⟩
     by_cases hc:c=n
     · subst hc; rw [if_pos h2]; exact List.mem_append.2 (.inr (by rw [h3]; exact List.mem_singleton.2 rfl))
     · have:p∈parsI l i k n:=mem_parsI.2 ⟨c,by omega,h2,h3⟩
       split
       · exact List.mem_append.2 (.inl this)
       · exact this
theorem mem_parsN {t:List Nd} {k:Int} {p:Int × Int}:∀ {n:Nat},p∈parsN t k n↔∃ i c,i<n∧c<(kidsOf t i).length∧(kidsOf t i).getD c 0=k∧p=((i:Int),(c:Int))
 | 0=>by simp [parsN]
 | n+1=>by
   unfold parsN
   rw [List.mem_append,mem_parsN (n:=n),mem_parsI]
   constructor
   · rintro (⟨i,c,h1,h2⟩ | ⟨c,h1,h2⟩)
     · exact ⟨i,c,by omega,h2⟩
     · exact ⟨n,c,by omega,h1,h2⟩
   · rintro ⟨i,c,h1,h2⟩
     by_cases hi:i=n
     · subst hi; exact .inr ⟨c,h2⟩
     · exact .inl ⟨i,c,by omega,h2⟩
theorem parsI_len (l:List Int) (i:Nat) (k:Int):∀ n,(parsI l i k n).length≤n
 | 0=>Nat.le_refl _
 | n+1=>by
   have:=parsI_len l i k n
   unfold parsI
   split
   · rw [List.length_append]; simp; omega
   · omega
theorem parsN_len {t:List Nd} {k:Int}:∀ {n:Nat},(∀ i,i<n→(kidsOf t i).length≤6)→(parsN t k n).length≤6 * n
 | 0,_=>Nat.le_refl _
 | n+1,h=>by
   have h1:=parsN_len (k:=k) (n:=n) fun i hi=>h i (by omega)
   have h2:=parsI_len (kidsOf t n) n k (kidsOf t n).length
   have h3:=h n (by omega)
   unfold parsN
   rw [List.length_append]; omega
structure NodeOk (t:List Nd) (i:Nat):Prop where
 w:(kidsOf t i).length≤6
 kid:∀ c,c<(kidsOf t i).length→(i:Int)<(kidsOf t i).getD c 0∧(kidsOf t i).getD c 0<t.length
 kind:(t.getD i nd0).1=0∨(t.getD i nd0).1=1∨(t.getD i nd0).1=2
 who:(t.getD i nd0).1=2→0≤(t.getD i nd0).2.1∧(t.getD i nd0).2.1≤1∧0≤(t.getD i nd0).2.2.1∧(t.getD i nd0).2.2.1<10∧0<(kidsOf t i).length
 luck:(t.getD i nd0).1=1→(t.getD i nd0).2.2.2.2.1.length=(kidsOf t i).length∧oddsE (t.getD i nd0).2.2.2.2.1=0
 pay:(t.getD i nd0).1=0→(kidsOf t i).length=0∧ratErr (t.getD i nd0).2.2.2.2.2=0
theorem kids_ok {t:List Nd} {i:Nat} (h:kidsE t i=0):0<(kidsOf t i).length∧(kidsOf t i).length≤6∧∀ c,c<(kidsOf t i).length→(i:Int)<(kidsOf t i).getD c 0∧(kidsOf t i).getD c 0<t.length:=by
 unfold kidsE at h
 unfold kidsOf
 split at h
 · cases h
 · split at h
   · cases h
   · split at h
     · rename_i h1 h2 h3
       refine ⟨by omega,by omega,fun c hc=>?_⟩
       have:=List.all_eq_true.1 h3 _ (getD_mem (d:=0) hc)
       unfold inKid at this
       rw [Bool.and_eq_true,decide_eq_true_iff,decide_eq_true_iff] at this
       exact this
     · cases h
theorem node_ok {t:List Nd} {i:Nat} (h:nodeE t i=0):NodeOk t i:=by
 unfold nodeE at h
 simp only at h
 split at h
 · rename_i k0
   split at h
   · cases h
   · rename_i h1
     have hl:(kidsOf t i).length=0:=by unfold kidsOf; omega
     exact ⟨by omega,fun c hc=>by omega, .inl k0,fun hc=>by omega,fun hc=>by omega,fun _=>⟨hl,h⟩⟩
 · split at h
   · rename_i k0 k1
     split at h
     · cases h
     · split at h
       · rename_i h1 h2; exact absurd h h2
       · split at h
         · cases h
         · rename_i h1 h2 h3
           obtain ⟨a,b,c⟩:=kids_ok (Decidable.not_not.1 h2)
           exact ⟨b,c, .inr (.inl k1),fun hc=>by omega,fun _=>⟨Decidable.not_not.1 h3,h⟩,fun hc=>by omega⟩
   · split at h
     · rename_i k0 k1 k2
       split at h
       · cases h
       · split at h
         · cases h
         · rename_i h1 h2
           obtain ⟨a,b,c⟩:=kids_ok h
           exact ⟨b,c, .inr (.inr k2),fun _=>⟨by omega,by omega,by omega,by omega,a⟩,fun hc=>by omega,fun hc=>by omega⟩
     · cases h
theorem nodesE_zero {t:List Nd}:∀ {n:Nat},nodesE t n=0↔∀ i,i<n→nodeE t i=0
 | 0=>⟨fun _ i hi=>absurd hi (Nat.not_lt_zero _),fun _=>rfl⟩
 | n+1=>by
   unfold nodesE
   constructor
   · intro h
     split at h
     · rename_i h0
       intro i hi
       by_cases hin:i=n
       · rw [hin]; exact h
       · exact nodesE_zero.1 h0 i (by omega)
     · rename_i h0; exact absurd h h0
   · intro h
     rw [if_pos (nodesE_zero.2 fun i hi=>h i (by omega))]
     exact h n (by omega)
theorem nodesE_bad {t:List Nd} {n:Nat} (h0:nodesE t n=0) (h1:nodeE t n≠0):∀ m,n<m→nodesE t m=nodeE t n
 | 0,h=>absurd h (Nat.not_lt_zero _)
 | m+1,h=>by
   unfold nodesE
   by_cases hm:m=n
   · rw [hm,if_pos h0]
   · have ih:=nodesE_bad h0 h1 m (by omega)
     rw [if_neg (by rw [ih]; exact h1),ih]
structure TreeOk (t:List Nd):Prop where
 n0:0<t.length
 n120:t.length≤120
 node:∀ i,i<t.length→NodeOk t i
 one:oneP t
 same:sameWd t
theorem tree_ok {t:List Nd} (h:GoodT t):TreeOk t:=by
 unfold GoodT treeE at h
 split at h
 · cases h
 · split at h
   · cases h
   · split at h
     · rename_i h1 h2 h3; exact absurd h h3
     · split at h
       · rename_i h1 h2 h3 h4
         exact ⟨by omega,by omega,fun i hi=>node_ok (nodesE_zero.1 (Decidable.not_not.1 h3) i hi),h4.1,h4.2⟩
       · cases h
theorem TreeOk.small {t:List Nd} (h:TreeOk t):SmallT t:=⟨h.n120,fun i hi=>(h.node i hi).w⟩
def KidAt (t:List Nd) (i c k:Nat):Prop:=i<t.length∧c<(kidsOf t i).length∧(kidsOf t i).getD c 0=(k:Int)
theorem TreeOk.kid_lt {t:List Nd} (h:TreeOk t) {i c k:Nat} (hk:KidAt t i c k):i<k∧k<t.length:=by
 have:=(h.node i hk.1).kid c hk.2.1
 rw [hk.2.2] at this
 omega
theorem TreeOk.kid_of {t:List Nd} (h:TreeOk t) {i c:Nat} (hi:i<t.length) (hc:c<(kidsOf t i).length):KidAt t i c ((kidsOf t i).getD c 0).toNat:=by
 have:=(h.node i hi).kid c hc
 exact ⟨hi,hc,by omega⟩
theorem TreeOk.par_spec {t:List Nd} (h:TreeOk t) {k:Nat} (h1:1≤k) (h2:k<t.length):KidAt t (par t k).1 (par t k).2 k∧pars t (k:Int)=[(((par t k).1:Int),((par t k).2:Int))]:=by
 have ho:=h.one k h1 h2
 obtain ⟨p,hp⟩:∃ p,pars t (k:Int)=[p]:=by
  generalize pars t (k:Int)=l at ho
  match l,ho with
  | [p],_=>exact ⟨p,rfl⟩
 have hm:p∈pars t (k:Int):=by rw [hp]; exact List.mem_singleton.2 rfl
 obtain ⟨i,c,hi,hc,hk,rfl⟩:=mem_parsN.1 hm
 have e:par t k=(i,c):=by unfold par; rw [hp]; rfl
 rw [e]
 exact ⟨⟨hi,hc,hk⟩,hp⟩
theorem TreeOk.par_eq {t:List Nd} (h:TreeOk t) {i c k:Nat} (hk:KidAt t i c k):par t k=(i,c):=by
 have hl:=h.kid_lt hk
 obtain ⟨_,e⟩:=h.par_spec (k:=k) (by omega) hl.2
 have hm:((i:Int),(c:Int))∈pars t (k:Int):=mem_parsN.2 ⟨i,c,hk.1,hk.2.1,hk.2.2,rfl⟩
 rw [e] at hm
 have:=List.mem_singleton.1 hm
 simp only [Prod.mk.injEq] at this
 refine Prod.ext ?_ ?_ <;> simp only <;> omega
theorem TreeOk.pathN_eq {t:List Nd} (h:TreeOk t):∀ {k:Nat},k<t.length→∀ {f g:Nat},k≤f→k≤g→pathN t f k=pathN t g k:=by
 intro k
 induction k using Nat.strongRecOn with
 | ind k ih =>
   intro hk f g hf hg
   by_cases h0:k=0
   · subst h0
     cases f <;> cases g <;> simp [pathN]
   · obtain ⟨f,rfl⟩:∃ f', f=f' + 1:=⟨f - 1,by omega⟩
     obtain ⟨g,rfl⟩:∃ g', g=g' + 1:=⟨g - 1,by omega⟩
     have hl:=h.kid_lt (h.par_spec (by omega) hk).1
     unfold pathN
     rw [if_neg h0,if_neg h0,ih _ hl.1 (by omega) (f:=f) (g:=g) (by omega) (by omega)]
theorem path_zero (t:List Nd):path t 0=[]:=rfl
theorem TreeOk.path_par {t:List Nd} (h:TreeOk t) {k:Nat} (h1:1≤k) (hk:k<t.length):path t k=path t (par t k).1 ++ [(((par t k).1:Int),((par t k).2:Int))]:=by
 obtain ⟨f,rfl⟩:∃ f,k=f+1:=⟨k - 1,by omega⟩
 have hl:=h.kid_lt (h.par_spec (k:=f+1) (by omega) hk).1
 unfold path
 rw [pathN,if_neg (by omega),h.pathN_eq (k:=(par t (f+1)).1) (by omega) (f:=f) (g:=(par t (f+1)).1) (by omega) (Nat.le_refl _)]
theorem TreeOk.path_kid {t:List Nd} (h:TreeOk t) {i c k:Nat} (hk:KidAt t i c k):path t k=path t i ++ [((i:Int),(c:Int))]:=by
 have hl:=h.kid_lt hk
 rw [h.path_par (by omega) hl.2,h.par_eq hk]
theorem own_zero (t:List Nd) (p:Int):own t p 0=[]:=rfl
theorem TreeOk.own_kid {t:List Nd} (h:TreeOk t) {p:Int} {i c k:Nat} (hk:KidAt t i c k):own t p k=if (t.getD i nd0).1=2∧(t.getD i nd0).2.1=p then own t p i ++ [(infoOf t i,(c:Int))] else own t p i:=by
 unfold own
 rw [h.path_kid hk,List.filterMap_append]
 have e:ownF t p ((i:Int),(c:Int))=if (t.getD i nd0).1=2∧(t.getD i nd0).2.1=p then some (infoOf t i,(c:Int)) else none:=rfl
 rw [List.filterMap_cons,e]
 split <;> rename_i hc
 · split at hc
   · cases hc
   · rename_i hn; rw [if_neg hn]; simp
 · split at hc
   · rename_i hn; rw [if_pos hn]; cases hc; simp
   · cases hc
theorem path_len {t:List Nd}:∀ {f k:Nat},(pathN t f k).length≤f
 | 0,_=>Nat.le_refl _
 | f+1,k=>by
   unfold pathN
   split
   · simp
   · have:=path_len (t:=t) (f:=f) (k:=(par t k).1)
     rw [List.length_append]; simp; omega
theorem own_len (t:List Nd) (p:Int) (k:Nat):(own t p k).length≤k:=Nat.le_trans (List.length_filterMap_le _ _) path_len
theorem TreeOk.path_in {t:List Nd} (h:TreeOk t):∀ {k:Nat},k<t.length→∀ x∈path t k,∃ (i c k' : Nat),x=((i:Int),(c:Int))∧KidAt t i c k' := by
 intro k
 induction k using Nat.strongRecOn with
 | ind k ih =>
   intro hk x hx
   by_cases h0:k=0
   · subst h0; cases hx
   · have hs:=(h.par_spec (k:=k) (by omega) hk).1
     have hl:=h.kid_lt hs
     rw [h.path_par (by omega) hk] at hx
     rcases List.mem_append.1 hx with hx | hx
     · exact ih _ hl.1 (by omega) x hx
     · exact ⟨_,_,k,List.mem_singleton.1 hx,hs⟩
end
end Go.Proofs.YtnnkjpcipldnfaaGreatDoor.Lib
end
section
set_option linter.unusedSimpArgs false
set_option linter.unusedVariables false
namespace Go.Proofs.YtnnkjpcipldnfaaGreatDoor.Mach
open Go Go.Proofs.YtnnkjpcipldnfaaGreatDoor Go.Proofs.YtnnkjpcipldnfaaGreatDoor.Lib
section
set_option maxRecDepth 1000000
def xodds_live : List (Nat × List Nat):=[(8,[0,4,17,18,19]),(15,[4,29,30,31])]
def xodds_nils : List (Nat × ETy):=[(17,eS),(29,eS)]
noncomputable def xodds_s8_0 (l:List ByteArray) (x0:ByteArray) (x1 x2:Int):St:=stOf 41 [(0,AV.imm eS l),(4,AV.str x0),(17,AV.imm eS l),(18,AV.int .i64 x1),(19,AV.int .i64 x2)] []
noncomputable def xodds_s15_0 (l:List ByteArray) (x0:ByteArray) (x1 x2:Int):St:=stOf 41 [(4,AV.str x0),(29,AV.imm eS l),(30,AV.int .i64 x1),(31,AV.int .i64 x2)] []
theorem xodds_E (l:List ByteArray) (n0:Nat) (K:AV→List HObj→Prop) :
 execN tab (mixE tab conTO [] 400) (maskN xodds_live xodds_nils (GoodL Tryz.prog n0 58 K)) (finK tab (fnT Tryz.f58).res K) 400 [.code (fnT Tryz.f58).body] ⟨initEnv (fnT Tryz.f58).n [AV.imm eS l],[]⟩ =
 (bif decide ((↑l.length:Int) > 256) then K (AV.int .i64 2) [] else TxL l∧bif !decide (ratErrs l=0) then K (AV.int .i64 (ratErrs l)) [] else GoodL Tryz.prog n0 58 K (headAt (fnT Tryz.f58) 8) (xodds_s8_0 l (ByteArray.mk #[48]) (↑l.length:Int) 0)):=by kernel_rfl
theorem xodds_s8_0_E (l:List ByteArray) (x0:ByteArray) (x1 x2:Int) (n0:Nat) (K:AV→List HObj→Prop) :
 execN tab (mixE tab conTO [] 400) (maskN xodds_live xodds_nils (GoodL Tryz.prog n0 58 K)) (finK tab (fnT Tryz.f58).res K) 400 (roundAt (fnT Tryz.f58) 8) (xodds_s8_0 l x0 x1 x2) =
 (bif decide (x2<x1) then bif decide (0≤x2) && decide (x2<(↑l.length:Int)) then ∃ x y,x0=Sem.ratText x∧l.getD x2.toNat ByteArray.empty=Sem.ratText y∧Sz 4000000000 x∧Sz 4000000000 y∧∃ q,Sem.ratText (x+y)=Sem.ratText q∧Sz 9000000000 q∧bif decide (Sem.szN q > 2000∨Sem.szD q > 2000) then K (AV.int .i64 2) [] else GoodL Tryz.prog n0 58 K (headAt (fnT Tryz.f58) 8) (xodds_s8_0 l (Sem.ratText (x+y)) x1 (IntKind.i64.wrap (x2+1))) else False else GoodL Tryz.prog n0 58 K (headAt (fnT Tryz.f58) 15) (xodds_s15_0 l x0 (↑l.length:Int) 0)):=by kernel_rfl
theorem xodds_s15_0_E (l:List ByteArray) (x0:ByteArray) (x1 x2:Int) (n0:Nat) (K:AV→List HObj→Prop) :
 execN tab (mixE tab conTO [] 400) (maskN xodds_live xodds_nils (GoodL Tryz.prog n0 58 K)) (finK tab (fnT Tryz.f58).res K) 400 (roundAt (fnT Tryz.f58) 15) (xodds_s15_0 l x0 x1 x2) =
 (bif decide (x2<x1) then bif decide (0≤x2) && decide (x2<(↑l.length:Int)) then ∃ q,l.getD x2.toNat ByteArray.empty=Sem.ratText q∧Sz 9000000000 q∧bif decide (Sem.sgn q<0) then K (AV.int .i64 4) [] else GoodL Tryz.prog n0 58 K (headAt (fnT Tryz.f58) 15) (xodds_s15_0 l x0 x1 (IntKind.i64.wrap (x2+1))) else False else bif !x0.toList == (ByteArray.mk #[49]).toList then K (AV.int .i64 3) [] else K (AV.int .i64 0) []):=by kernel_rfl
def xnode_live : List (Nat × List Nat):=[]
def xnode_nils : List (Nat × ETy):=[]
def xnode_j0 (t:List Nd) (i:Int) (y0 y1:Bool) (y2 y3 y4:Int) (y5:List Int) (y6:List ByteArray) (y7:ByteArray) (n0:Nat) (K:AV→List HObj→Prop):Prop :=
    bif y1 then K (AV.int .i64 3) [bx6 y2 y3 y4 y5 y6 y7]
  else
 bif decide (y2=0) then Tx y7∧K (AV.int .i64 (ratErr y7)) [bx6 y2 y3 y4 y5 y6 y7]
 else
  bif decide (y2=1) then
   bif y0 then K (AV.int .i64 3) [bx6 y2 y3 y4 y5 y6 y7]
   else
      bif bif true then bif false then true else !y7.toList == (ByteArray.mk #[]).toList else false then K (AV.int .i64 3) [bx6 y2 y3 y4 y5 y6 y7]
      else
       bif decide (y2=2) then
        bif decide ((↑y6.length:Int) > 0) then K (AV.int .i64 3) [bx6 y2 y3 y4 y5 y6 y7]
        else
           bif bif true then bif false then true else !y7.toList == (ByteArray.mk #[]).toList else false then K (AV.int .i64 3) [bx6 y2 y3 y4 y5 y6 y7]
           else
              bif decide (y2=2) then
               bif !decide (y3=0) then bif bif true then !decide (y3=1) else false then K (AV.int .i64 4) [bx6 y2 y3 y4 y5 y6 y7] else bif bif false then true else decide (y4<0) then K (AV.int .i64 4) [bx6 y2 y3 y4 y5 y6 y7] else bif bif true then bif false then true else decide (y4 > 9) else false then K (AV.int .i64 4) [bx6 y2 y3 y4 y5 y6 y7] else bif decide (y2<0) then K (AV.int .i64 1) [bx6 y2 y3 y4 y5 y6 y7] else bif bif false then true else decide (y2 > 2) then K (AV.int .i64 1) [bx6 y2 y3 y4 y5 y6 y7] else InT i t∧bif !decide (kidsE t i.toNat=0) then K (AV.int .i64 (kidsE t i.toNat)) [bx6 y2 y3 y4 y5 y6 y7] else bif bif false then true else decide (y2=2) then K (AV.int .i64 (kidsE t i.toNat)) [bx6 y2 y3 y4 y5 y6 y7] else bif !decide ((↑y6.length:Int)=(↑y5.length:Int)) then K (AV.int .i64 3) [bx6 y2 y3 y4 y5 y6 y7] else TxL y6∧K (AV.int .i64 (oddsE y6)) [bx6 y2 y3 y4 y5 y6 y7]
               else bif bif false then true else decide (y4<0) then K (AV.int .i64 4) [bx6 y2 y3 y4 y5 y6 y7] else bif bif true then bif false then true else decide (y4 > 9) else false then K (AV.int .i64 4) [bx6 y2 y3 y4 y5 y6 y7] else bif decide (y2<0) then K (AV.int .i64 1) [bx6 y2 y3 y4 y5 y6 y7] else bif bif false then true else decide (y2 > 2) then K (AV.int .i64 1) [bx6 y2 y3 y4 y5 y6 y7] else InT i t∧bif !decide (kidsE t i.toNat=0) then K (AV.int .i64 (kidsE t i.toNat)) [bx6 y2 y3 y4 y5 y6 y7] else bif bif false then true else decide (y2=2) then K (AV.int .i64 (kidsE t i.toNat)) [bx6 y2 y3 y4 y5 y6 y7] else bif !decide ((↑y6.length:Int)=(↑y5.length:Int)) then K (AV.int .i64 3) [bx6 y2 y3 y4 y5 y6 y7] else TxL y6∧K (AV.int .i64 (oddsE y6)) [bx6 y2 y3 y4 y5 y6 y7]
              else bif decide (y2<0) then K (AV.int .i64 1) [bx6 y2 y3 y4 y5 y6 y7] else bif bif false then true else decide (y2 > 2) then K (AV.int .i64 1) [bx6 y2 y3 y4 y5 y6 y7] else InT i t∧bif !decide (kidsE t i.toNat=0) then K (AV.int .i64 (kidsE t i.toNat)) [bx6 y2 y3 y4 y5 y6 y7] else bif bif false then true else decide (y2=2) then K (AV.int .i64 (kidsE t i.toNat)) [bx6 y2 y3 y4 y5 y6 y7] else bif !decide ((↑y6.length:Int)=(↑y5.length:Int)) then K (AV.int .i64 3) [bx6 y2 y3 y4 y5 y6 y7] else TxL y6∧K (AV.int .i64 (oddsE y6)) [bx6 y2 y3 y4 y5 y6 y7]
       else
        bif decide (y2=2) then
         bif !decide (y3=0) then bif bif true then !decide (y3=1) else false then K (AV.int .i64 4) [bx6 y2 y3 y4 y5 y6 y7] else bif bif false then true else decide (y4<0) then K (AV.int .i64 4) [bx6 y2 y3 y4 y5 y6 y7] else bif bif true then bif false then true else decide (y4 > 9) else false then K (AV.int .i64 4) [bx6 y2 y3 y4 y5 y6 y7] else bif decide (y2<0) then K (AV.int .i64 1) [bx6 y2 y3 y4 y5 y6 y7] else bif bif false then true else decide (y2 > 2) then K (AV.int .i64 1) [bx6 y2 y3 y4 y5 y6 y7] else InT i t∧bif !decide (kidsE t i.toNat=0) then K (AV.int .i64 (kidsE t i.toNat)) [bx6 y2 y3 y4 y5 y6 y7] else bif bif false then true else decide (y2=2) then K (AV.int .i64 (kidsE t i.toNat)) [bx6 y2 y3 y4 y5 y6 y7] else bif !decide ((↑y6.length:Int)=(↑y5.length:Int)) then K (AV.int .i64 3) [bx6 y2 y3 y4 y5 y6 y7] else TxL y6∧K (AV.int .i64 (oddsE y6)) [bx6 y2 y3 y4 y5 y6 y7]
         else bif bif false then true else decide (y4<0) then K (AV.int .i64 4) [bx6 y2 y3 y4 y5 y6 y7] else bif bif true then bif false then true else decide (y4 > 9) else false then K (AV.int .i64 4) [bx6 y2 y3 y4 y5 y6 y7] else bif decide (y2<0) then K (AV.int .i64 1) [bx6 y2 y3 y4 y5 y6 y7] else bif bif false then true else decide (y2 > 2) then K (AV.int .i64 1) [bx6 y2 y3 y4 y5 y6 y7] else InT i t∧bif !decide (kidsE t i.toNat=0) then K (AV.int .i64 (kidsE t i.toNat)) [bx6 y2 y3 y4 y5 y6 y7] else bif bif false then true else decide (y2=2) then K (AV.int .i64 (kidsE t i.toNat)) [bx6 y2 y3 y4 y5 y6 y7] else bif !decide ((↑y6.length:Int)=(↑y5.length:Int)) then K (AV.int .i64 3) [bx6 y2 y3 y4 y5 y6 y7] else TxL y6∧K (AV.int .i64 (oddsE y6)) [bx6 y2 y3 y4 y5 y6 y7]
        else bif decide (y2<0) then K (AV.int .i64 1) [bx6 y2 y3 y4 y5 y6 y7] else bif bif false then true else decide (y2 > 2) then K (AV.int .i64 1) [bx6 y2 y3 y4 y5 y6 y7] else InT i t∧bif !decide (kidsE t i.toNat=0) then K (AV.int .i64 (kidsE t i.toNat)) [bx6 y2 y3 y4 y5 y6 y7] else bif bif false then true else decide (y2=2) then K (AV.int .i64 (kidsE t i.toNat)) [bx6 y2 y3 y4 y5 y6 y7] else bif !decide ((↑y6.length:Int)=(↑y5.length:Int)) then K (AV.int .i64 3) [bx6 y2 y3 y4 y5 y6 y7] else TxL y6∧K (AV.int .i64 (oddsE y6)) [bx6 y2 y3 y4 y5 y6 y7]
  else
   bif decide (y2=2) then
    bif decide ((↑y6.length:Int) > 0) then K (AV.int .i64 3) [bx6 y2 y3 y4 y5 y6 y7]
    else
       bif bif true then bif false then true else !y7.toList == (ByteArray.mk #[]).toList else false then K (AV.int .i64 3) [bx6 y2 y3 y4 y5 y6 y7]
       else
        bif decide (y2=2) then
         bif !decide (y3=0) then bif bif true then !decide (y3=1) else false then K (AV.int .i64 4) [bx6 y2 y3 y4 y5 y6 y7] else bif bif false then true else decide (y4<0) then K (AV.int .i64 4) [bx6 y2 y3 y4 y5 y6 y7] else bif bif true then bif false then true else decide (y4 > 9) else false then K (AV.int .i64 4) [bx6 y2 y3 y4 y5 y6 y7] else bif decide (y2<0) then K (AV.int .i64 1) [bx6 y2 y3 y4 y5 y6 y7] else bif bif false then true else decide (y2 > 2) then K (AV.int .i64 1) [bx6 y2 y3 y4 y5 y6 y7] else InT i t∧bif !decide (kidsE t i.toNat=0) then K (AV.int .i64 (kidsE t i.toNat)) [bx6 y2 y3 y4 y5 y6 y7] else bif bif false then true else decide (y2=2) then K (AV.int .i64 (kidsE t i.toNat)) [bx6 y2 y3 y4 y5 y6 y7] else bif !decide ((↑y6.length:Int)=(↑y5.length:Int)) then K (AV.int .i64 3) [bx6 y2 y3 y4 y5 y6 y7] else TxL y6∧K (AV.int .i64 (oddsE y6)) [bx6 y2 y3 y4 y5 y6 y7]
         else bif bif false then true else decide (y4<0) then K (AV.int .i64 4) [bx6 y2 y3 y4 y5 y6 y7] else bif bif true then bif false then true else decide (y4 > 9) else false then K (AV.int .i64 4) [bx6 y2 y3 y4 y5 y6 y7] else bif decide (y2<0) then K (AV.int .i64 1) [bx6 y2 y3 y4 y5 y6 y7] else bif bif false then true else decide (y2 > 2) then K (AV.int .i64 1) [bx6 y2 y3 y4 y5 y6 y7] else InT i t∧bif !decide (kidsE t i.toNat=0) then K (AV.int .i64 (kidsE t i.toNat)) [bx6 y2 y3 y4 y5 y6 y7] else bif bif false then true else decide (y2=2) then K (AV.int .i64 (kidsE t i.toNat)) [bx6 y2 y3 y4 y5 y6 y7] else bif !decide ((↑y6.length:Int)=(↑y5.length:Int)) then K (AV.int .i64 3) [bx6 y2 y3 y4 y5 y6 y7] else TxL y6∧K (AV.int .i64 (oddsE y6)) [bx6 y2 y3 y4 y5 y6 y7]
        else bif decide (y2<0) then K (AV.int .i64 1) [bx6 y2 y3 y4 y5 y6 y7] else bif bif false then true else decide (y2 > 2) then K (AV.int .i64 1) [bx6 y2 y3 y4 y5 y6 y7] else InT i t∧bif !decide (kidsE t i.toNat=0) then K (AV.int .i64 (kidsE t i.toNat)) [bx6 y2 y3 y4 y5 y6 y7] else bif bif false then true else decide (y2=2) then K (AV.int .i64 (kidsE t i.toNat)) [bx6 y2 y3 y4 y5 y6 y7] else bif !decide ((↑y6.length:Int)=(↑y5.length:Int)) then K (AV.int .i64 3) [bx6 y2 y3 y4 y5 y6 y7] else TxL y6∧K (AV.int .i64 (oddsE y6)) [bx6 y2 y3 y4 y5 y6 y7]
   else
    bif decide (y2=2) then
     bif !decide (y3=0) then bif bif true then !decide (y3=1) else false then K (AV.int .i64 4) [bx6 y2 y3 y4 y5 y6 y7] else bif bif false then true else decide (y4<0) then K (AV.int .i64 4) [bx6 y2 y3 y4 y5 y6 y7] else bif bif true then bif false then true else decide (y4 > 9) else false then K (AV.int .i64 4) [bx6 y2 y3 y4 y5 y6 y7] else bif decide (y2<0) then K (AV.int .i64 1) [bx6 y2 y3 y4 y5 y6 y7] else bif bif false then true else decide (y2 > 2) then K (AV.int .i64 1) [bx6 y2 y3 y4 y5 y6 y7] else InT i t∧bif !decide (kidsE t i.toNat=0) then K (AV.int .i64 (kidsE t i.toNat)) [bx6 y2 y3 y4 y5 y6 y7] else bif bif false then true else decide (y2=2) then K (AV.int .i64 (kidsE t i.toNat)) [bx6 y2 y3 y4 y5 y6 y7] else bif !decide ((↑y6.length:Int)=(↑y5.length:Int)) then K (AV.int .i64 3) [bx6 y2 y3 y4 y5 y6 y7] else TxL y6∧K (AV.int .i64 (oddsE y6)) [bx6 y2 y3 y4 y5 y6 y7]
     else bif bif false then true else decide (y4<0) then K (AV.int .i64 4) [bx6 y2 y3 y4 y5 y6 y7] else bif bif true then bif false then true else decide (y4 > 9) else false then K (AV.int .i64 4) [bx6 y2 y3 y4 y5 y6 y7] else bif decide (y2<0) then K (AV.int .i64 1) [bx6 y2 y3 y4 y5 y6 y7] else bif bif false then true else decide (y2 > 2) then K (AV.int .i64 1) [bx6 y2 y3 y4 y5 y6 y7] else InT i t∧bif !decide (kidsE t i.toNat=0) then K (AV.int .i64 (kidsE t i.toNat)) [bx6 y2 y3 y4 y5 y6 y7] else bif bif false then true else decide (y2=2) then K (AV.int .i64 (kidsE t i.toNat)) [bx6 y2 y3 y4 y5 y6 y7] else bif !decide ((↑y6.length:Int)=(↑y5.length:Int)) then K (AV.int .i64 3) [bx6 y2 y3 y4 y5 y6 y7] else TxL y6∧K (AV.int .i64 (oddsE y6)) [bx6 y2 y3 y4 y5 y6 y7]
    else bif decide (y2<0) then K (AV.int .i64 1) [bx6 y2 y3 y4 y5 y6 y7] else bif bif false then true else decide (y2 > 2) then K (AV.int .i64 1) [bx6 y2 y3 y4 y5 y6 y7] else InT i t∧bif !decide (kidsE t i.toNat=0) then K (AV.int .i64 (kidsE t i.toNat)) [bx6 y2 y3 y4 y5 y6 y7] else bif bif false then true else decide (y2=2) then K (AV.int .i64 (kidsE t i.toNat)) [bx6 y2 y3 y4 y5 y6 y7] else bif !decide ((↑y6.length:Int)=(↑y5.length:Int)) then K (AV.int .i64 3) [bx6 y2 y3 y4 y5 y6 y7] else TxL y6∧K (AV.int .i64 (oddsE y6)) [bx6 y2 y3 y4 y5 y6 y7]
theorem xnode_E (t:List Nd) (i:Int) (n0:Nat) (K:AV→List HObj→Prop) :
 execN tab (mixE tab conTX [] 400) (maskN xnode_live xnode_nils (GoodL Tryz.prog n0 72 K)) (finK tab (fnT Tryz.f72).res K) 400 [.code (fnT Tryz.f72).body] ⟨initEnv (fnT Tryz.f72).n [AV.imm eNode t,AV.int .i64 i],[]⟩ =
 (bif decide (0≤i) && decide (i<(↑t.length:Int)) then bif !decide ((t.getD i.toNat (0,0,0,[],[],ByteArray.empty)).2.1=0) then bif decide ((t.getD i.toNat (0,0,0,[],[],ByteArray.empty)).1=0) then xnode_j0 t i true true (t.getD i.toNat (0,0,0,[],[],ByteArray.empty)).1 (t.getD i.toNat (0,0,0,[],[],ByteArray.empty)).2.1 (t.getD i.toNat (0,0,0,[],[],ByteArray.empty)).2.2.1 (t.getD i.toNat (0,0,0,[],[],ByteArray.empty)).2.2.2.1 (t.getD i.toNat (0,0,0,[],[],ByteArray.empty)).2.2.2.2.1 (t.getD i.toNat (0,0,0,[],[],ByteArray.empty)).2.2.2.2.2 n0 K else xnode_j0 t i true false (t.getD i.toNat (0,0,0,[],[],ByteArray.empty)).1 (t.getD i.toNat (0,0,0,[],[],ByteArray.empty)).2.1 (t.getD i.toNat (0,0,0,[],[],ByteArray.empty)).2.2.1 (t.getD i.toNat (0,0,0,[],[],ByteArray.empty)).2.2.2.1 (t.getD i.toNat (0,0,0,[],[],ByteArray.empty)).2.2.2.2.1 (t.getD i.toNat (0,0,0,[],[],ByteArray.empty)).2.2.2.2.2 n0 K else bif decide ((t.getD i.toNat (0,0,0,[],[],ByteArray.empty)).1=0) then bif bif false then true else !decide ((t.getD i.toNat (0,0,0,[],[],ByteArray.empty)).2.2.1=0) then xnode_j0 t i (bif false then true else !decide ((t.getD i.toNat (0,0,0,[],[],ByteArray.empty)).2.2.1=0)) true (t.getD i.toNat (0,0,0,[],[],ByteArray.empty)).1 (t.getD i.toNat (0,0,0,[],[],ByteArray.empty)).2.1 (t.getD i.toNat (0,0,0,[],[],ByteArray.empty)).2.2.1 (t.getD i.toNat (0,0,0,[],[],ByteArray.empty)).2.2.2.1 (t.getD i.toNat (0,0,0,[],[],ByteArray.empty)).2.2.2.2.1 (t.getD i.toNat (0,0,0,[],[],ByteArray.empty)).2.2.2.2.2 n0 K else xnode_j0 t i (bif false then true else !decide ((t.getD i.toNat (0,0,0,[],[],ByteArray.empty)).2.2.1=0)) (bif true then bif false then true else decide (IntKind.i64.wrap ((↑(List.length (t.getD i.toNat (0,0,0,[],[],ByteArray.empty)).2.2.2.1):Int)+(↑(List.length (t.getD i.toNat (0,0,0,[],[],ByteArray.empty)).2.2.2.2.1):Int)) > 0) else false) (t.getD i.toNat (0,0,0,[],[],ByteArray.empty)).1 (t.getD i.toNat (0,0,0,[],[],ByteArray.empty)).2.1 (t.getD i.toNat (0,0,0,[],[],ByteArray.empty)).2.2.1 (t.getD i.toNat (0,0,0,[],[],ByteArray.empty)).2.2.2.1 (t.getD i.toNat (0,0,0,[],[],ByteArray.empty)).2.2.2.2.1 (t.getD i.toNat (0,0,0,[],[],ByteArray.empty)).2.2.2.2.2 n0 K else xnode_j0 t i (bif false then true else !decide ((t.getD i.toNat (0,0,0,[],[],ByteArray.empty)).2.2.1=0)) false (t.getD i.toNat (0,0,0,[],[],ByteArray.empty)).1 (t.getD i.toNat (0,0,0,[],[],ByteArray.empty)).2.1 (t.getD i.toNat (0,0,0,[],[],ByteArray.empty)).2.2.1 (t.getD i.toNat (0,0,0,[],[],ByteArray.empty)).2.2.2.1 (t.getD i.toNat (0,0,0,[],[],ByteArray.empty)).2.2.2.2.1 (t.getD i.toNat (0,0,0,[],[],ByteArray.empty)).2.2.2.2.2 n0 K else False):=by kernel_rfl
def ytree_live : List (Nat × List Nat):=[(6,[0,17,18]),(13,[0,5]),(18,[0,39,40,41]),(21,[0,6,7,39,40,41,46,47,48])]
def ytree_nils : List (Nat × ETy):=[(39,eNode),(46,eNode)]
noncomputable def ytree_s6_0 (t:List Nd) (x0 x1:Int):St:=stOf 95 [(0,AV.imm eNode t),(17,AV.int .i64 x0),(18,AV.int .i64 x1)] []
noncomputable def ytree_s13_0 (t:List Nd) (x0:Int):St:=stOf 95 [(0,AV.imm eNode t),(5,AV.int .i64 x0)] []
noncomputable def ytree_s18_0 (t:List Nd) (x0 x1:Int):St:=stOf 95 [(0,AV.imm eNode t),(39,AV.imm eNode t),(40,AV.int .i64 x0),(41,AV.int .i64 x1)] []
noncomputable def ytree_s21_0 (t:List Nd) (x0 x1 x2 x3 x4 x5 x6 x7:Int) (x8:List Int) (x9:List ByteArray) (x10:ByteArray):St:=stOf 95 [(0,AV.imm eNode t),(6,AV.int .i64 x0),(7,AV.ptr 0 0),(39,AV.imm eNode t),(40,AV.int .i64 x1),(41,AV.int .i64 x2),(46,AV.imm eNode t),(47,AV.int .i64 x3),(48,AV.int .i64 x4)] [bx6 x5 x6 x7 x8 x9 x10]
theorem ytree_E (t:List Nd) (n0:Nat) (K:AV→List HObj→Prop) :
 execN tab (mixE tab conT3 [] 400) (maskN ytree_live ytree_nils (GoodL Tryz.prog n0 31 K)) (finK tab (fnT Tryz.f31).res K) 400 [.code (fnT Tryz.f31).body] ⟨initEnv (fnT Tryz.f31).n [AV.imm eNode t],[]⟩ =
 (bif decide ((↑t.length:Int) > 120) then K (AV.int .i64 2) [] else bif decide ((↑t.length:Int)=0) then K (AV.int .i64 8) [] else GoodL Tryz.prog n0 31 K (headAt (fnT Tryz.f31) 6) (ytree_s6_0 t (↑t.length:Int) 0)):=by kernel_rfl
theorem ytree_s6_0_E (t:List Nd) (x0 x1:Int) (n0:Nat) (K:AV→List HObj→Prop) :
 execN tab (mixE tab conT3 [] 400) (maskN ytree_live ytree_nils (GoodL Tryz.prog n0 31 K)) (finK tab (fnT Tryz.f31).res K) 400 (roundAt (fnT Tryz.f31) 6) (ytree_s6_0 t x0 x1) =
 (bif decide (x1<x0) then (TxT t∧InT x1 t)∧bif !decide (nodeE t x1.toNat=0) then K (AV.int .i64 (nodeE t x1.toNat)) [] else GoodL Tryz.prog n0 31 K (headAt (fnT Tryz.f31) 6) (ytree_s6_0 t x0 (IntKind.i64.wrap (x1+1))) else GoodL Tryz.prog n0 31 K (headAt (fnT Tryz.f31) 13) (ytree_s13_0 t 1)):=by kernel_rfl
theorem ytree_s13_0_E (t:List Nd) (x0:Int) (n0:Nat) (K:AV→List HObj→Prop) :
 execN tab (mixE tab conT3 [] 400) (maskN ytree_live ytree_nils (GoodL Tryz.prog n0 31 K)) (finK tab (fnT Tryz.f31).res K) 400 (roundAt (fnT Tryz.f31) 13) (ytree_s13_0 t x0) =
 (bif decide (x0<(↑t.length:Int)) then SmallT t∧bif !decide ((↑(pars t x0).length:Int)=1) then K (AV.int .i64 3) [] else GoodL Tryz.prog n0 31 K (headAt (fnT Tryz.f31) 13) (ytree_s13_0 t (IntKind.i64.wrap (x0+1))) else GoodL Tryz.prog n0 31 K (headAt (fnT Tryz.f31) 18) (ytree_s18_0 t (↑t.length:Int) 0)):=by kernel_rfl
theorem ytree_s18_0_E (t:List Nd) (x0 x1:Int) (n0:Nat) (K:AV→List HObj→Prop) :
 execN tab (mixE tab conT3 [] 400) (maskN ytree_live ytree_nils (GoodL Tryz.prog n0 31 K)) (finK tab (fnT Tryz.f31).res K) 400 (roundAt (fnT Tryz.f31) 18) (ytree_s18_0 t x0 x1) =
 (bif decide (x1<x0) then bif decide (0≤x1) && decide (x1<(↑t.length:Int)) then GoodL Tryz.prog n0 31 K (headAt (fnT Tryz.f31) 21) (ytree_s21_0 t x1 x0 x1 (↑t.length:Int) 0 (t.getD x1.toNat (0,0,0,[],[],ByteArray.empty)).1 (t.getD x1.toNat (0,0,0,[],[],ByteArray.empty)).2.1 (t.getD x1.toNat (0,0,0,[],[],ByteArray.empty)).2.2.1 (t.getD x1.toNat (0,0,0,[],[],ByteArray.empty)).2.2.2.1 (t.getD x1.toNat (0,0,0,[],[],ByteArray.empty)).2.2.2.2.1 (t.getD x1.toNat (0,0,0,[],[],ByteArray.empty)).2.2.2.2.2) else False else K (AV.int .i64 0) []):=by kernel_rfl
theorem ytree_s21_0_E (t:List Nd) (x0 x1 x2 x3 x4 x5 x6 x7:Int) (x8:List Int) (x9:List ByteArray) (x10:ByteArray) (n0:Nat) (K:AV→List HObj→Prop) :
 execN tab (mixE tab conT3 [] 400) (maskN ytree_live ytree_nils (GoodL Tryz.prog n0 31 K)) (finK tab (fnT Tryz.f31).res K) 400 (roundAt (fnT Tryz.f31) 21) (ytree_s21_0 t x0 x1 x2 x3 x4 x5 x6 x7 x8 x9 x10) =
 (bif decide (x4<x3) then bif decide (0≤x4) && decide (x4<(↑t.length:Int)) then bif decide (x5=2) then bif bif true then decide ((t.getD x4.toNat (0,0,0,[],[],ByteArray.empty)).1=2) else false then bif bif true then decide (x6=(t.getD x4.toNat (0,0,0,[],[],ByteArray.empty)).2.1) else false then bif decide (0≤x0) && decide (x0<(↑t.length:Int)) then bif bif true then decide (x7=(t.getD x0.toNat (0,0,0,[],[],ByteArray.empty)).2.2.1) else false then bif bif true then decide ((t.getD x4.toNat (0,0,0,[],[],ByteArray.empty)).2.2.1=x7) else false then bif bif true then !decide ((↑x8.length:Int)=(↑(List.length (t.getD x4.toNat (0,0,0,[],[],ByteArray.empty)).2.2.2.1):Int)) else false then K (AV.int .i64 3) [bx6 x5 x6 x7 x8 x9 x10,bxN (t.getD x4.toNat (0,0,0,[],[],ByteArray.empty))] else GoodL Tryz.prog n0 31 K (headAt (fnT Tryz.f31) 21) (ytree_s21_0 t x0 x1 x2 x3 (IntKind.i64.wrap (x4+1)) x5 x6 x7 x8 x9 x10) else GoodL Tryz.prog n0 31 K (headAt (fnT Tryz.f31) 21) (ytree_s21_0 t x0 x1 x2 x3 (IntKind.i64.wrap (x4+1)) x5 x6 x7 x8 x9 x10) else GoodL Tryz.prog n0 31 K (headAt (fnT Tryz.f31) 21) (ytree_s21_0 t x0 x1 x2 x3 (IntKind.i64.wrap (x4+1)) x5 x6 x7 x8 x9 x10) else False else GoodL Tryz.prog n0 31 K (headAt (fnT Tryz.f31) 21) (ytree_s21_0 t x0 x1 x2 x3 (IntKind.i64.wrap (x4+1)) x5 x6 x7 x8 x9 x10) else GoodL Tryz.prog n0 31 K (headAt (fnT Tryz.f31) 21) (ytree_s21_0 t x0 x1 x2 x3 (IntKind.i64.wrap (x4+1)) x5 x6 x7 x8 x9 x10) else GoodL Tryz.prog n0 31 K (headAt (fnT Tryz.f31) 21) (ytree_s21_0 t x0 x1 x2 x3 (IntKind.i64.wrap (x4+1)) x5 x6 x7 x8 x9 x10) else False else GoodL Tryz.prog n0 31 K (headAt (fnT Tryz.f31) 18) (ytree_s18_0 t x1 (IntKind.i64.wrap (x2+1)))):=by kernel_rfl
def tplayer_live : List (Nat × List Nat):=[]
def tplayer_nils : List (Nat × ETy):=[]
theorem tplayer_E (t:List Nd) (p:Int) (n0:Nat) (K:AV→List HObj→Prop) :
 execN tab (mixE tab conT4 [] 400) (maskN tplayer_live tplayer_nils (GoodL Tryz.prog n0 46 K)) (finK tab (fnT Tryz.f46).res K) 400 [.code (fnT Tryz.f46).body] ⟨initEnv (fnT Tryz.f46).n [AV.imm eNode t,AV.int .i64 p],[]⟩ =
 (TxT t∧bif !decide (treeE t=0) then K (AV.int .i64 (treeE t)) [] else bif !decide (p=0) then bif bif true then !decide (p=1) else false then K (AV.int .i64 4) [] else K (AV.int .i64 0) [] else K (AV.int .i64 0) []):=by kernel_rfl
def lplayer_live : List (Nat × List Nat):=[]
def lplayer_nils : List (Nat × ETy):=[]
theorem lplayer_E (t:List Nd) (p:Int) (n0:Nat) (K:AV→List HObj→Prop) :
 execN tab (mixE tab conT4 [] 400) (maskN lplayer_live lplayer_nils (GoodL Tryz.prog n0 11 K)) (finK tab (fnT Tryz.f11).res K) 400 [.code (fnT Tryz.f11).body] ⟨initEnv (fnT Tryz.f11).n [AV.imm eNode t,AV.int .i64 p],[]⟩ =
 (TxT t∧bif !decide (treeE t=0) then K (AV.int .i64 (treeE t)) [] else bif !decide (p=0) then bif bif true then !decide (p=1) else false then K (AV.int .i64 4) [] else K (AV.int .i64 0) [] else K (AV.int .i64 0) []):=by kernel_rfl
def ltweight_live : List (Nat × List Nat):=[(3,[3,6,7,8])]
def ltweight_nils : List (Nat × ETy):=[(6,eNode)]
noncomputable def ltweight_s3_0 (t:List Nd) (x0 x1 x2:Int):St:=stOf 24 [(3,AV.int .i64 x0),(6,AV.imm eNode t),(7,AV.int .i64 x1),(8,AV.int .i64 x2)] []
theorem ltweight_E (t:List Nd) (n0:Nat) (K:AV→List HObj→Prop) :
 execN tab (mixE tab conT4 [] 400) (maskN ltweight_live ltweight_nils (GoodL Tryz.prog n0 9 K)) (finK tab (fnT Tryz.f9).res K) 400 [.code (fnT Tryz.f9).body] ⟨initEnv (fnT Tryz.f9).n [AV.imm eNode t],[]⟩ =
 (GoodL Tryz.prog n0 9 K (headAt (fnT Tryz.f9) 3) (ltweight_s3_0 t 0 (↑t.length:Int) 0)):=by kernel_rfl
theorem ltweight_s3_0_E (t:List Nd) (x0 x1 x2:Int) (n0:Nat) (K:AV→List HObj→Prop) :
 execN tab (mixE tab conT4 [] 400) (maskN ltweight_live ltweight_nils (GoodL Tryz.prog n0 9 K)) (finK tab (fnT Tryz.f9).res K) 400 (roundAt (fnT Tryz.f9) 3) (ltweight_s3_0 t x0 x1 x2) =
 (bif decide (x2<x1) then bif decide (0≤x2) && decide (x2<(↑t.length:Int)) then ([(t.getD x2.toNat (0,0,0,[],[],ByteArray.empty)).2.2.2.2.1].length≤1000000000000000∧∀ (r:List ByteArray),r∈[(t.getD x2.toNat (0,0,0,[],[],ByteArray.empty)).2.2.2.2.1]→r.length≤1000000000000000)∧∀ (n:Int),GoodL Tryz.prog n0 9 K (headAt (fnT Tryz.f9) 3) (ltweight_s3_0 t (IntKind.i64.wrap (x0+IntKind.i64.wrap ((↑(ByteArray.size (t.getD x2.toNat (0,0,0,[],[],ByteArray.empty)).2.2.2.2.2):Int)+n))) x1 (IntKind.i64.wrap (x2+1))) else False else K (AV.int .i64 x0) []):=by kernel_rfl
def xpath_live : List (Nat × List Nat):=[(2,[0,1,5])]
def xpath_nils : List (Nat × ETy):=[(5,eP)]
noncomputable def xpath_s2_0 (t:List Nd) (k:Int) (x0:List (Int × Int)):St:=stOf 21 [(0,AV.imm eNode t),(1,AV.int .i64 k),(5,AV.own 0)] [HObj.typed eP x0 false]
noncomputable def xpath_s2_1 (t:List Nd) (k x0:Int) (x1:List (Int × Int)):St:=stOf 21 [(0,AV.imm eNode t),(1,AV.int .i64 x0),(5,AV.own 0)] [HObj.typed eP x1 false]
theorem xpath_E (t:List Nd) (k:Int) (n0:Nat) (K:AV→List HObj→Prop) :
 execN tab (mixE tab conT4 [] 400) (maskN xpath_live xpath_nils (GoodL Tryz.prog n0 51 K)) (finK tab (fnT Tryz.f51).res K) 400 [.code (fnT Tryz.f51).body] ⟨initEnv (fnT Tryz.f51).n [AV.imm eNode t,AV.int .i64 k],[]⟩ =
 (GoodL Tryz.prog n0 51 K (headAt (fnT Tryz.f51) 2) (xpath_s2_0 t k [])):=by kernel_rfl
theorem xpath_s2_1_E (t:List Nd) (k x0:Int) (x1:List (Int × Int)) (n0:Nat) (K:AV→List HObj→Prop) :
 execN tab (mixE tab conT4 [] 400) (maskN xpath_live xpath_nils (GoodL Tryz.prog n0 51 K)) (finK tab (fnT Tryz.f51).res K) 400 (roundAt (fnT Tryz.f51) 2) (xpath_s2_1 t k x0 x1) =
 (bif decide (x0 > 0) then SmallT t∧bif decide (0<(↑(pars t x0).length:Int)) then bif bif ([([((pars t x0).getD 0 (0,0)).1,((pars t x0).getD 0 (0,0)).2].getD 0 0,[((pars t x0).getD 0 (0,0)).1,((pars t x0).getD 0 (0,0)).2].getD 1 0)].length+x1.length).ble 9223372036854775807 then (([([((pars t x0).getD 0 (0,0)).1,((pars t x0).getD 0 (0,0)).2].getD 0 0,[((pars t x0).getD 0 (0,0)).1,((pars t x0).getD 0 (0,0)).2].getD 1 0)].length+x1.length) * 16).ble 140737488355328 else false then GoodL Tryz.prog n0 51 K (headAt (fnT Tryz.f51) 2) (xpath_s2_1 t k ([((pars t x0).getD 0 (0,0)).1,((pars t x0).getD 0 (0,0)).2].getD 0 0) ([([((pars t x0).getD 0 (0,0)).1,((pars t x0).getD 0 (0,0)).2].getD 0 0,[((pars t x0).getD 0 (0,0)).1,((pars t x0).getD 0 (0,0)).2].getD 1 0)] ++ x1)) else False else False else K (AV.own 0) [HObj.typed eP x1 false]):=by kernel_rfl
def xown_live : List (Nat × List Nat):=[(3,[0,1,7,13,14,15])]
def xown_nils : List (Nat × ETy):=[(7,eP),(13,eP)]
noncomputable def xown_s3_0 (t:List Nd) (p k:Int) (x0:List (Int × Int)) (x1 x2:Int) (x3:List (Int × Int)):St:=stOf 43 [(0,AV.imm eNode t),(1,AV.int .i64 p),(7,AV.own 0),(13,AV.imm eP x0),(14,AV.int .i64 x1),(15,AV.int .i64 x2)] [HObj.typed eP x3 false]
theorem xown_E (t:List Nd) (p k:Int) (n0:Nat) (K:AV→List HObj→Prop) :
 execN tab (mixE tab conT5 [] 400) (maskN xown_live xown_nils (GoodL Tryz.prog n0 19 K)) (finK tab (fnT Tryz.f19).res K) 400 [.code (fnT Tryz.f19).body] ⟨initEnv (fnT Tryz.f19).n [AV.imm eNode t,AV.int .i64 p,AV.int .i64 k],[]⟩ =
 ((GoodT t∧InT k t)∧GoodL Tryz.prog n0 19 K (headAt (fnT Tryz.f19) 3) (xown_s3_0 t p k (path t k.toNat) (↑(path t k.toNat).length:Int) 0 [])):=by kernel_rfl
theorem xown_s3_0_E (t:List Nd) (p k:Int) (x0:List (Int × Int)) (x1 x2:Int) (x3:List (Int × Int)) (n0:Nat) (K:AV→List HObj→Prop) :
 execN tab (mixE tab conT5 [] 400) (maskN xown_live xown_nils (GoodL Tryz.prog n0 19 K)) (finK tab (fnT Tryz.f19).res K) 400 (roundAt (fnT Tryz.f19) 3) (xown_s3_0 t p k x0 x1 x2 x3) =
 (bif decide (x2<x1) then bif decide (0≤x2) && decide (x2<(↑x0.length:Int)) then bif decide (0≤[(x0.getD x2.toNat (0,0)).1,(x0.getD x2.toNat (0,0)).2].getD 0 0) && decide ([(x0.getD x2.toNat (0,0)).1,(x0.getD x2.toNat (0,0)).2].getD 0 0<(↑t.length:Int)) then bif decide ((t.getD (Int.toNat ([(x0.getD x2.toNat (0,0)).1,(x0.getD x2.toNat (0,0)).2].getD 0 0)) (0,0,0,[],[],ByteArray.empty)).1=2) then bif bif true then decide ((t.getD (Int.toNat ([(x0.getD x2.toNat (0,0)).1,(x0.getD x2.toNat (0,0)).2].getD 0 0)) (0,0,0,[],[],ByteArray.empty)).2.1=p) else false then bif bif (x3.length+[((t.getD (Int.toNat ([(x0.getD x2.toNat (0,0)).1,(x0.getD x2.toNat (0,0)).2].getD 0 0)) (0,0,0,[],[],ByteArray.empty)).2.2.1,[(x0.getD x2.toNat (0,0)).1,(x0.getD x2.toNat (0,0)).2].getD 1 0)].length).ble 9223372036854775807 then ((x3.length+[((t.getD (Int.toNat ([(x0.getD x2.toNat (0,0)).1,(x0.getD x2.toNat (0,0)).2].getD 0 0)) (0,0,0,[],[],ByteArray.empty)).2.2.1,[(x0.getD x2.toNat (0,0)).1,(x0.getD x2.toNat (0,0)).2].getD 1 0)].length) * 16).ble 140737488355328 else false then GoodL Tryz.prog n0 19 K (headAt (fnT Tryz.f19) 3) (xown_s3_0 t p k x0 x1 (IntKind.i64.wrap (x2+1)) (x3 ++ [((t.getD (Int.toNat ([(x0.getD x2.toNat (0,0)).1,(x0.getD x2.toNat (0,0)).2].getD 0 0)) (0,0,0,[],[],ByteArray.empty)).2.2.1,[(x0.getD x2.toNat (0,0)).1,(x0.getD x2.toNat (0,0)).2].getD 1 0)])) else False else GoodL Tryz.prog n0 19 K (headAt (fnT Tryz.f19) 3) (xown_s3_0 t p k x0 x1 (IntKind.i64.wrap (x2+1)) x3) else GoodL Tryz.prog n0 19 K (headAt (fnT Tryz.f19) 3) (xown_s3_0 t p k x0 x1 (IntKind.i64.wrap (x2+1)) x3) else False else False else K (AV.own 0) [HObj.typed eP x3 false]):=by kernel_rfl
def xsame_live : List (Nat × List Nat):=[(4,[0,1,12,13])]
def xsame_nils : List (Nat × ETy):=[]
noncomputable def xsame_s4_0 (a b:List (Int × Int)) (x0 x1:Int):St:=stOf 26 [(0,AV.imm eP a),(1,AV.imm eP b),(12,AV.int .i64 x0),(13,AV.int .i64 x1)] []
theorem xsame_E (a b:List (Int × Int)) (n0:Nat) (K:AV→List HObj→Prop) :
 execN tab (mixE tab con0 [] 400) (maskN xsame_live xsame_nils (GoodL Tryz.prog n0 48 K)) (finK tab (fnT Tryz.f48).res K) 400 [.code (fnT Tryz.f48).body] ⟨initEnv (fnT Tryz.f48).n [AV.imm eP a,AV.imm eP b],[]⟩ =
 (bif !decide ((↑a.length:Int)=(↑b.length:Int)) then K (AV.bool false) [] else GoodL Tryz.prog n0 48 K (headAt (fnT Tryz.f48) 4) (xsame_s4_0 a b (↑a.length:Int) 0)):=by kernel_rfl
theorem xsame_s4_0_E (a b:List (Int × Int)) (x0 x1:Int) (n0:Nat) (K:AV→List HObj→Prop) :
 execN tab (mixE tab con0 [] 400) (maskN xsame_live xsame_nils (GoodL Tryz.prog n0 48 K)) (finK tab (fnT Tryz.f48).res K) 400 (roundAt (fnT Tryz.f48) 4) (xsame_s4_0 a b x0 x1) =
 (bif decide (x1<x0) then bif decide (0≤x1) && decide (x1<(↑a.length:Int)) then bif decide (0≤x1) && decide (x1<(↑b.length:Int)) then bif !bif decide ((a.getD x1.toNat (0,0)).1=(b.getD x1.toNat (0,0)).1) then bif decide ((a.getD x1.toNat (0,0)).2=(b.getD x1.toNat (0,0)).2) then true else false else false then K (AV.bool false) [] else GoodL Tryz.prog n0 48 K (headAt (fnT Tryz.f48) 4) (xsame_s4_0 a b x0 (IntKind.i64.wrap (x1+1))) else False else False else K (AV.bool true) []):=by kernel_rfl
def xrem_live : List (Nat × List Nat):=[(2,[0,1,9,10,11]),(5,[0,1,5,6,9,10,11,16,17,18])]
def xrem_nils : List (Nat × ETy):=[(9,eNode),(16,eNode)]
noncomputable def xrem_s2_0 (t:List Nd) (p x0 x1:Int):St:=stOf 64 [(0,AV.imm eNode t),(1,AV.int .i64 p),(9,AV.imm eNode t),(10,AV.int .i64 x0),(11,AV.int .i64 x1)] []
noncomputable def xrem_s5_0 (t:List Nd) (p x0 x1 x2 x3 x4 x5 x6 x7:Int) (x8:List Int) (x9:List ByteArray) (x10:ByteArray):St:=stOf 64 [(0,AV.imm eNode t),(1,AV.int .i64 p),(5,AV.int .i64 x0),(6,AV.ptr 0 0),(9,AV.imm eNode t),(10,AV.int .i64 x1),(11,AV.int .i64 x2),(16,AV.imm eNode t),(17,AV.int .i64 x3),(18,AV.int .i64 x4)] [bx6 x5 x6 x7 x8 x9 x10]
theorem xrem_E (t:List Nd) (p:Int) (n0:Nat) (K:AV→List HObj→Prop) :
 execN tab (mixE tab conT6 [] 400) (maskN xrem_live xrem_nils (GoodL Tryz.prog n0 12 K)) (finK tab (fnT Tryz.f12).res K) 400 [.code (fnT Tryz.f12).body] ⟨initEnv (fnT Tryz.f12).n [AV.imm eNode t,AV.int .i64 p],[]⟩ =
 (GoodL Tryz.prog n0 12 K (headAt (fnT Tryz.f12) 2) (xrem_s2_0 t p (↑t.length:Int) 0)):=by kernel_rfl
theorem xrem_s2_0_E (t:List Nd) (p x0 x1:Int) (n0:Nat) (K:AV→List HObj→Prop) :
 execN tab (mixE tab conT6 [] 400) (maskN xrem_live xrem_nils (GoodL Tryz.prog n0 12 K)) (finK tab (fnT Tryz.f12).res K) 400 (roundAt (fnT Tryz.f12) 2) (xrem_s2_0 t p x0 x1) =
 (bif decide (x1<x0) then bif decide (0≤x1) && decide (x1<(↑t.length:Int)) then GoodL Tryz.prog n0 12 K (headAt (fnT Tryz.f12) 5) (xrem_s5_0 t p x1 x0 x1 (↑t.length:Int) 0 (t.getD x1.toNat (0,0,0,[],[],ByteArray.empty)).1 (t.getD x1.toNat (0,0,0,[],[],ByteArray.empty)).2.1 (t.getD x1.toNat (0,0,0,[],[],ByteArray.empty)).2.2.1 (t.getD x1.toNat (0,0,0,[],[],ByteArray.empty)).2.2.2.1 (t.getD x1.toNat (0,0,0,[],[],ByteArray.empty)).2.2.2.2.1 (t.getD x1.toNat (0,0,0,[],[],ByteArray.empty)).2.2.2.2.2) else False else K (AV.bool true) []):=by kernel_rfl
theorem xrem_s5_0_E (t:List Nd) (p x0 x1 x2 x3 x4 x5 x6 x7:Int) (x8:List Int) (x9:List ByteArray) (x10:ByteArray) (n0:Nat) (K:AV→List HObj→Prop) :
 execN tab (mixE tab conT6 [] 400) (maskN xrem_live xrem_nils (GoodL Tryz.prog n0 12 K)) (finK tab (fnT Tryz.f12).res K) 400 (roundAt (fnT Tryz.f12) 5) (xrem_s5_0 t p x0 x1 x2 x3 x4 x5 x6 x7 x8 x9 x10) =
 (bif decide (x4<x3) then bif decide (0≤x4) && decide (x4<(↑t.length:Int)) then bif decide (x5=2) then bif bif true then decide ((t.getD x4.toNat (0,0,0,[],[],ByteArray.empty)).1=2) else false then bif bif true then decide (x6=p) else false then bif bif true then decide ((t.getD x4.toNat (0,0,0,[],[],ByteArray.empty)).2.1=p) else false then bif bif true then decide (x7=(t.getD x4.toNat (0,0,0,[],[],ByteArray.empty)).2.2.1) else false then (GoodT t∧InT x0 t)∧(GoodT t∧InT x4 t)∧SmL (own t p x0.toNat)∧bif bif true then !sameB (own t p x0.toNat) (own t p x4.toNat) else false then K (AV.bool false) [bx6 x5 x6 x7 x8 x9 x10,bxN (t.getD x4.toNat (0,0,0,[],[],ByteArray.empty))] else GoodL Tryz.prog n0 12 K (headAt (fnT Tryz.f12) 5) (xrem_s5_0 t p x0 x1 x2 x3 (IntKind.i64.wrap (x4+1)) x5 x6 x7 x8 x9 x10) else GoodL Tryz.prog n0 12 K (headAt (fnT Tryz.f12) 5) (xrem_s5_0 t p x0 x1 x2 x3 (IntKind.i64.wrap (x4+1)) x5 x6 x7 x8 x9 x10) else GoodL Tryz.prog n0 12 K (headAt (fnT Tryz.f12) 5) (xrem_s5_0 t p x0 x1 x2 x3 (IntKind.i64.wrap (x4+1)) x5 x6 x7 x8 x9 x10) else GoodL Tryz.prog n0 12 K (headAt (fnT Tryz.f12) 5) (xrem_s5_0 t p x0 x1 x2 x3 (IntKind.i64.wrap (x4+1)) x5 x6 x7 x8 x9 x10) else GoodL Tryz.prog n0 12 K (headAt (fnT Tryz.f12) 5) (xrem_s5_0 t p x0 x1 x2 x3 (IntKind.i64.wrap (x4+1)) x5 x6 x7 x8 x9 x10) else GoodL Tryz.prog n0 12 K (headAt (fnT Tryz.f12) 5) (xrem_s5_0 t p x0 x1 x2 x3 (IntKind.i64.wrap (x4+1)) x5 x6 x7 x8 x9 x10) else False else GoodL Tryz.prog n0 12 K (headAt (fnT Tryz.f12) 2) (xrem_s2_0 t p x1 (IntKind.i64.wrap (x2+1)))):=by kernel_rfl
def sclone_live : List (Nat × List Nat):=[]
def sclone_nils : List (Nat × ETy):=[]
theorem sclone_E (l:List (Int × Int)) (n0:Nat) (K:AV→List HObj→Prop) :
 execN tab (mixE tab con0 [] 400) (maskN sclone_live sclone_nils (GoodL Tryz.prog n0 121 K)) (finK tab (fnT Tryz.f121).res K) 400 [.code (fnT Tryz.f121).body] ⟨initEnv (fnT Tryz.f121).n [AV.imm eP l],[]⟩ =
 (bif Nat.blt 0 l.length then bif bif (0+l.length).ble 9223372036854775807 then ((0+l.length) * 16).ble 140737488355328 else false then K (AV.own 1) [HObj.dead,HObj.typed eP ([] ++ l) false] else False else False):=by kernel_rfl
def sclonee_live : List (Nat × List Nat):=[]
def sclonee_nils : List (Nat × ETy):=[]
theorem sclonee_E (A:Option Addr) (k n0:Nat) (K:AV→List HObj→Prop) :
 execN tab (mixE tab con0 [] 400) (maskN sclonee_live sclonee_nils (GoodL Tryz.prog n0 121 K)) (finK tab (fnT Tryz.f121).res K) 400 [.code (fnT Tryz.f121).body] ⟨initEnv (fnT Tryz.f121).n [AV.raw (Value.slice A 0 k)],[]⟩ =
 (bif A.isNone then K AV.nils [] else K (AV.own 1) [HObj.dead,HObj.typed eP ([] ++ []) false]):=by kernel_rfl
def sequal_live : List (Nat × List Nat):=[(4,[0,1,12,13])]
def sequal_nils : List (Nat × ETy):=[]
noncomputable def sequal_s4_0 (l m:List (Int × Int)) (x0 x1:Int):St:=stOf 26 [(0,AV.imm eP l),(1,AV.imm eP m),(12,AV.int .i64 x0),(13,AV.int .i64 x1)] []
theorem sequal_E (l m:List (Int × Int)) (n0:Nat) (K:AV→List HObj→Prop) :
 execN tab (mixE tab con0 [] 400) (maskN sequal_live sequal_nils (GoodL Tryz.prog n0 82 K)) (finK tab (fnT Tryz.f82).res K) 400 [.code (fnT Tryz.f82).body] ⟨initEnv (fnT Tryz.f82).n [AV.imm eP l,AV.imm eP m],[]⟩ =
 (bif !decide ((↑l.length:Int)=(↑m.length:Int)) then K (AV.bool false) [] else GoodL Tryz.prog n0 82 K (headAt (fnT Tryz.f82) 4) (sequal_s4_0 l m (↑l.length:Int) 0)):=by kernel_rfl
theorem sequal_s4_0_E (l m:List (Int × Int)) (x0 x1:Int) (n0:Nat) (K:AV→List HObj→Prop) :
 execN tab (mixE tab con0 [] 400) (maskN sequal_live sequal_nils (GoodL Tryz.prog n0 82 K)) (finK tab (fnT Tryz.f82).res K) 400 (roundAt (fnT Tryz.f82) 4) (sequal_s4_0 l m x0 x1) =
 (bif decide (x1<x0) then bif decide (0≤x1) && decide (x1<(↑l.length:Int)) then bif decide (0≤x1) && decide (x1<(↑m.length:Int)) then bif !bif decide ((l.getD x1.toNat (0,0)).1=(m.getD x1.toNat (0,0)).1) then bif decide ((l.getD x1.toNat (0,0)).2=(m.getD x1.toNat (0,0)).2) then true else false else false then K (AV.bool false) [] else GoodL Tryz.prog n0 82 K (headAt (fnT Tryz.f82) 4) (sequal_s4_0 l m x0 (IntKind.i64.wrap (x1+1))) else False else False else K (AV.bool true) []):=by kernel_rfl
def tpaths_live : List (Nat × List Nat):=[(3,[1,5,13,14,15]),(6,[1,5,6,7,13,14,15,21,22,23])]
def tpaths_nils : List (Nat × ETy):=[(5,ETy.one (CTy.slice eP)),(13,eNode),(21,eI)]
noncomputable def tpaths_s3_0 (t:List Nd) (p x0 x1:Int) (x2:List (List (Int × Int))):St:=stOf 61 [(1,AV.int .i64 p),(5,AV.own 0),(13,AV.imm eNode t),(14,AV.int .i64 x0),(15,AV.int .i64 x1)] [HObj.typed (ETy.one (CTy.slice eP)) x2 false]
noncomputable def tpaths_s6_0 (t:List Nd) (p x0 x1 x2:Int) (x3:List Int) (x4 x5:Int) (x6:List (List (Int × Int))) (x7 x8 x9:Int) (x10:List Int) (x11:List ByteArray) (x12:ByteArray):St:=stOf 61 [(1,AV.int .i64 p),(5,AV.own 0),(6,AV.int .i64 x0),(7,AV.ptr 1 0),(13,AV.imm eNode t),(14,AV.int .i64 x1),(15,AV.int .i64 x2),(21,AV.imm eI x3),(22,AV.int .i64 x4),(23,AV.int .i64 x5)] [HObj.typed (ETy.one (CTy.slice eP)) x6 false,bx6 x7 x8 x9 x10 x11 x12]
theorem tpaths_E (t:List Nd) (p:Int) (n0:Nat) (K:AV→List HObj→Prop) :
 execN tab (mixE tab conT4 [] 400) (maskN tpaths_live tpaths_nils (GoodL Tryz.prog n0 81 K)) (finK tab (fnT Tryz.f81).res K) 400 [.code (fnT Tryz.f81).body] ⟨initEnv (fnT Tryz.f81).n [AV.imm eNode t,AV.int .i64 p],[]⟩ =
 (bif decide (0≤(↑t.length:Int)) && decide ((↑t.length:Int)≤(↑t.length:Int)) && bif (↑t.length:Int).toNat.ble 9223372036854775807 then ((↑t.length:Int).toNat * 24).ble 281474976710656 else false then GoodL Tryz.prog n0 81 K (headAt (fnT Tryz.f81) 3) (tpaths_s3_0 t p (↑t.length:Int) 0 (List.replicate (↑t.length:Int).toNat [])) else False):=by kernel_rfl
theorem tpaths_s3_0_E (t:List Nd) (p x0 x1:Int) (x2:List (List (Int × Int))) (n0:Nat) (K:AV→List HObj→Prop) :
 execN tab (mixE tab conT4 [] 400) (maskN tpaths_live tpaths_nils (GoodL Tryz.prog n0 81 K)) (finK tab (fnT Tryz.f81).res K) 400 (roundAt (fnT Tryz.f81) 3) (tpaths_s3_0 t p x0 x1 x2) =
 (bif decide (x1<x0) then bif decide (0≤x1) && decide (x1<(↑t.length:Int)) then GoodL Tryz.prog n0 81 K (headAt (fnT Tryz.f81) 6) (tpaths_s6_0 t p x1 x0 x1 (t.getD x1.toNat (0,0,0,[],[],ByteArray.empty)).2.2.2.1 (↑(List.length (t.getD x1.toNat (0,0,0,[],[],ByteArray.empty)).2.2.2.1):Int) 0 x2 (t.getD x1.toNat (0,0,0,[],[],ByteArray.empty)).1 (t.getD x1.toNat (0,0,0,[],[],ByteArray.empty)).2.1 (t.getD x1.toNat (0,0,0,[],[],ByteArray.empty)).2.2.1 (t.getD x1.toNat (0,0,0,[],[],ByteArray.empty)).2.2.2.1 (t.getD x1.toNat (0,0,0,[],[],ByteArray.empty)).2.2.2.2.1 (t.getD x1.toNat (0,0,0,[],[],ByteArray.empty)).2.2.2.2.2) else False else K (AV.own 0) [HObj.typed (ETy.one (CTy.slice eP)) x2 false]):=by kernel_rfl
theorem tpaths_s6_0_E (t:List Nd) (p x0 x1 x2:Int) (x3:List Int) (x4 x5:Int) (x6:List (List (Int × Int))) (x7 x8 x9:Int) (x10:List Int) (x11:List ByteArray) (x12:ByteArray) (n0:Nat) (K:AV→List HObj→Prop) :
 execN tab (mixE tab conT4 [] 400) (maskN tpaths_live tpaths_nils (GoodL Tryz.prog n0 81 K)) (finK tab (fnT Tryz.f81).res K) 400 (roundAt (fnT Tryz.f81) 6) (tpaths_s6_0 t p x0 x1 x2 x3 x4 x5 x6 x7 x8 x9 x10 x11 x12) =
 (bif decide (x5<x4) then
 bif decide (0≤x5) && decide (x5<(↑x3.length:Int)) then
  bif decide (0≤x0) && decide (x0<(↑x6.length:Int)) then
     bif decide (0≤x3.getD x5.toNat 0) && decide (x3.getD x5.toNat 0<(↑x6.length:Int)) then
      bif decide (x7=2) then
         bif bif true then decide (x8=p) else false then
          bif decide (0≤x0) && decide (x0<(↑(x6.set (Int.toNat (x3.getD x5.toNat 0)) (x6.getD x0.toNat [])).length:Int)) then
             (List.length ((x6.set (Int.toNat (x3.getD x5.toNat 0)) (x6.getD x0.toNat [])).getD x0.toNat [])≤1000000∧((x6.set (Int.toNat (x3.getD x5.toNat 0)) (x6.getD x0.toNat [])).getD x0.toNat []≠[]→bif bif (List.length ((x6.set (Int.toNat (x3.getD x5.toNat 0)) (x6.getD x0.toNat [])).getD x0.toNat [])+[(x9,x5)].length).ble 9223372036854775807 then ((List.length ((x6.set (Int.toNat (x3.getD x5.toNat 0)) (x6.getD x0.toNat [])).getD x0.toNat [])+[(x9,x5)].length) * 16).ble 140737488355328 else false then bif decide (0≤x3.getD x5.toNat 0) && decide (x3.getD x5.toNat 0<(↑(x6.set (Int.toNat (x3.getD x5.toNat 0)) (x6.getD x0.toNat [])).length:Int)) then GoodL Tryz.prog n0 81 K (headAt (fnT Tryz.f81) 6) (tpaths_s6_0 t p x0 x1 x2 x3 x4 (IntKind.i64.wrap (x5+1)) ((x6.set (Int.toNat (x3.getD x5.toNat 0)) (x6.getD x0.toNat [])).set (Int.toNat (x3.getD x5.toNat 0)) ((x6.set (Int.toNat (x3.getD x5.toNat 0)) (x6.getD x0.toNat [])).getD x0.toNat [] ++ [(x9,x5)])) x7 x8 x9 x10 x11 x12) else False else False)∧((x6.set (Int.toNat (x3.getD x5.toNat 0)) (x6.getD x0.toNat [])).getD x0.toNat []=[]→(bif decide (0≤x3.getD x5.toNat 0) && decide (x3.getD x5.toNat 0<(↑(x6.set (Int.toNat (x3.getD x5.toNat 0)) (x6.getD x0.toNat [])).length:Int)) then GoodL Tryz.prog n0 81 K (headAt (fnT Tryz.f81) 6) (tpaths_s6_0 t p x0 x1 x2 x3 x4 (IntKind.i64.wrap (x5+1)) ((x6.set (Int.toNat (x3.getD x5.toNat 0)) (x6.getD x0.toNat [])).set (Int.toNat (x3.getD x5.toNat 0)) ([] ++ [(x9,x5)])) x7 x8 x9 x10 x11 x12) else False)∧bif decide (0≤x3.getD x5.toNat 0) && decide (x3.getD x5.toNat 0<(↑(x6.set (Int.toNat (x3.getD x5.toNat 0)) (x6.getD x0.toNat [])).length:Int)) then GoodL Tryz.prog n0 81 K (headAt (fnT Tryz.f81) 6) (tpaths_s6_0 t p x0 x1 x2 x3 x4 (IntKind.i64.wrap (x5+1)) ((x6.set (Int.toNat (x3.getD x5.toNat 0)) (x6.getD x0.toNat [])).set (Int.toNat (x3.getD x5.toNat 0)) ([] ++ [(x9,x5)])) x7 x8 x9 x10 x11 x12) else False))∧List.length ((x6.set (Int.toNat (x3.getD x5.toNat 0)) (x6.getD x0.toNat [])).getD x0.toNat [])≤1000000∧((x6.set (Int.toNat (x3.getD x5.toNat 0)) (x6.getD x0.toNat [])).getD x0.toNat []≠[]→bif bif (List.length ((x6.set (Int.toNat (x3.getD x5.toNat 0)) (x6.getD x0.toNat [])).getD x0.toNat [])+[(x9,x5)].length).ble 9223372036854775807 then ((List.length ((x6.set (Int.toNat (x3.getD x5.toNat 0)) (x6.getD x0.toNat [])).getD x0.toNat [])+[(x9,x5)].length) * 16).ble 140737488355328 else false then bif decide (0≤x3.getD x5.toNat 0) && decide (x3.getD x5.toNat 0<(↑(x6.set (Int.toNat (x3.getD x5.toNat 0)) (x6.getD x0.toNat [])).length:Int)) then GoodL Tryz.prog n0 81 K (headAt (fnT Tryz.f81) 6) (tpaths_s6_0 t p x0 x1 x2 x3 x4 (IntKind.i64.wrap (x5+1)) ((x6.set (Int.toNat (x3.getD x5.toNat 0)) (x6.getD x0.toNat [])).set (Int.toNat (x3.getD x5.toNat 0)) ((x6.set (Int.toNat (x3.getD x5.toNat 0)) (x6.getD x0.toNat [])).getD x0.toNat [] ++ [(x9,x5)])) x7 x8 x9 x10 x11 x12) else False else False)∧((x6.set (Int.toNat (x3.getD x5.toNat 0)) (x6.getD x0.toNat [])).getD x0.toNat []=[]→(bif decide (0≤x3.getD x5.toNat 0) && decide (x3.getD x5.toNat 0<(↑(x6.set (Int.toNat (x3.getD x5.toNat 0)) (x6.getD x0.toNat [])).length:Int)) then GoodL Tryz.prog n0 81 K (headAt (fnT Tryz.f81) 6) (tpaths_s6_0 t p x0 x1 x2 x3 x4 (IntKind.i64.wrap (x5+1)) ((x6.set (Int.toNat (x3.getD x5.toNat 0)) (x6.getD x0.toNat [])).set (Int.toNat (x3.getD x5.toNat 0)) ([] ++ [(x9,x5)])) x7 x8 x9 x10 x11 x12) else False)∧bif decide (0≤x3.getD x5.toNat 0) && decide (x3.getD x5.toNat 0<(↑(x6.set (Int.toNat (x3.getD x5.toNat 0)) (x6.getD x0.toNat [])).length:Int)) then GoodL Tryz.prog n0 81 K (headAt (fnT Tryz.f81) 6) (tpaths_s6_0 t p x0 x1 x2 x3 x4 (IntKind.i64.wrap (x5+1)) ((x6.set (Int.toNat (x3.getD x5.toNat 0)) (x6.getD x0.toNat [])).set (Int.toNat (x3.getD x5.toNat 0)) ([] ++ [(x9,x5)])) x7 x8 x9 x10 x11 x12) else False)
          else False
         else GoodL Tryz.prog n0 81 K (headAt (fnT Tryz.f81) 6) (tpaths_s6_0 t p x0 x1 x2 x3 x4 (IntKind.i64.wrap (x5+1)) (x6.set (Int.toNat (x3.getD x5.toNat 0)) (x6.getD x0.toNat [])) x7 x8 x9 x10 x11 x12)
      else GoodL Tryz.prog n0 81 K (headAt (fnT Tryz.f81) 6) (tpaths_s6_0 t p x0 x1 x2 x3 x4 (IntKind.i64.wrap (x5+1)) (x6.set (Int.toNat (x3.getD x5.toNat 0)) (x6.getD x0.toNat [])) x7 x8 x9 x10 x11 x12)
     else False
  else False
 else False
  else GoodL Tryz.prog n0 81 K (headAt (fnT Tryz.f81) 3) (tpaths_s3_0 t p x1 (IntKind.i64.wrap (x2+1)) x6)):=by kernel_rfl
def tfine_live : List (Nat × List Nat):=[(3,[0,1,5,13,14,15]),(6,[0,1,5,6,7,13,14,15,22,23,24])]
def tfine_nils : List (Nat × ETy):=[(5,ETy.one (CTy.slice eP)),(13,eNode),(22,eNode)]
noncomputable def tfine_s3_0 (t:List Nd) (p:Int) (x0:List (List (Int × Int))) (x1 x2:Int):St:=stOf 70 [(0,AV.imm eNode t),(1,AV.int .i64 p),(5,AV.imm (ETy.one (CTy.slice eP)) x0),(13,AV.imm eNode t),(14,AV.int .i64 x1),(15,AV.int .i64 x2)] []
noncomputable def tfine_s6_0 (t:List Nd) (p:Int) (x0:List (List (Int × Int))) (x1 x2 x3:Int) (x4:List Nd) (x5 x6 x7 x8 x9:Int) (x10:List Int) (x11:List ByteArray) (x12:ByteArray):St:=stOf 70 [(0,AV.imm eNode t),(1,AV.int .i64 p),(5,AV.imm (ETy.one (CTy.slice eP)) x0),(6,AV.int .i64 x1),(7,AV.ptr 0 0),(13,AV.imm eNode t),(14,AV.int .i64 x2),(15,AV.int .i64 x3),(22,AV.imm eNode x4),(23,AV.int .i64 x5),(24,AV.int .i64 x6)] [bx6 x7 x8 x9 x10 x11 x12]
theorem tfine_E (t:List Nd) (p:Int) (n0:Nat) (K:AV→List HObj→Prop) :
 execN tab (mixE tab conT5 [] 400) (maskN tfine_live tfine_nils (GoodL Tryz.prog n0 47 K)) (finK tab (fnT Tryz.f47).res K) 400 [.code (fnT Tryz.f47).body] ⟨initEnv (fnT Tryz.f47).n [AV.imm eNode t,AV.int .i64 p],[]⟩ =
 (GoodT t∧GoodL Tryz.prog n0 47 K (headAt (fnT Tryz.f47) 3) (tfine_s3_0 t p (ownsL t p) (↑t.length:Int) 0)):=by kernel_rfl
theorem tfine_s3_0_E (t:List Nd) (p:Int) (x0:List (List (Int × Int))) (x1 x2:Int) (n0:Nat) (K:AV→List HObj→Prop) :
 execN tab (mixE tab conT5 [] 400) (maskN tfine_live tfine_nils (GoodL Tryz.prog n0 47 K)) (finK tab (fnT Tryz.f47).res K) 400 (roundAt (fnT Tryz.f47) 3) (tfine_s3_0 t p x0 x1 x2) =
 (bif decide (x2<x1) then bif decide (0≤x2) && decide (x2<(↑t.length:Int)) then bif decide (0≤x2) && decide (x2≤(↑t.length:Int)) then GoodL Tryz.prog n0 47 K (headAt (fnT Tryz.f47) 6) (tfine_s6_0 t p x0 x2 x1 x2 (List.drop 0 (List.take x2.toNat t)) (↑(List.drop 0 (List.take x2.toNat t)).length:Int) 0 (t.getD x2.toNat (0,0,0,[],[],ByteArray.empty)).1 (t.getD x2.toNat (0,0,0,[],[],ByteArray.empty)).2.1 (t.getD x2.toNat (0,0,0,[],[],ByteArray.empty)).2.2.1 (t.getD x2.toNat (0,0,0,[],[],ByteArray.empty)).2.2.2.1 (t.getD x2.toNat (0,0,0,[],[],ByteArray.empty)).2.2.2.2.1 (t.getD x2.toNat (0,0,0,[],[],ByteArray.empty)).2.2.2.2.2) else False else False else K (AV.bool true) []):=by kernel_rfl
theorem tfine_s6_0_E (t:List Nd) (p:Int) (x0:List (List (Int × Int))) (x1 x2 x3:Int) (x4:List Nd) (x5 x6 x7 x8 x9:Int) (x10:List Int) (x11:List ByteArray) (x12:ByteArray) (n0:Nat) (K:AV→List HObj→Prop) :
 execN tab (mixE tab conT5 [] 400) (maskN tfine_live tfine_nils (GoodL Tryz.prog n0 47 K)) (finK tab (fnT Tryz.f47).res K) 400 (roundAt (fnT Tryz.f47) 6) (tfine_s6_0 t p x0 x1 x2 x3 x4 x5 x6 x7 x8 x9 x10 x11 x12) =
 (bif decide (x6<x5) then bif decide (0≤x6) && decide (x6<(↑x4.length:Int)) then bif decide (x7=2) then bif bif true then decide ((x4.getD x6.toNat (0,0,0,[],[],ByteArray.empty)).1=2) else false then bif bif true then decide (x8=p) else false then bif bif true then decide ((x4.getD x6.toNat (0,0,0,[],[],ByteArray.empty)).2.1=p) else false then bif bif true then decide (x9=(x4.getD x6.toNat (0,0,0,[],[],ByteArray.empty)).2.2.1) else false then bif decide (0≤x1) && decide (x1<(↑x0.length:Int)) then bif decide (0≤x6) && decide (x6<(↑x0.length:Int)) then SmL (x0.getD x1.toNat [])∧bif bif true then !sameB (x0.getD x1.toNat []) (x0.getD x6.toNat []) else false then K (AV.bool false) [bx6 x7 x8 x9 x10 x11 x12,bxN (x4.getD x6.toNat (0,0,0,[],[],ByteArray.empty))] else GoodL Tryz.prog n0 47 K (headAt (fnT Tryz.f47) 6) (tfine_s6_0 t p x0 x1 x2 x3 x4 x5 (IntKind.i64.wrap (x6+1)) x7 x8 x9 x10 x11 x12) else False else False else GoodL Tryz.prog n0 47 K (headAt (fnT Tryz.f47) 6) (tfine_s6_0 t p x0 x1 x2 x3 x4 x5 (IntKind.i64.wrap (x6+1)) x7 x8 x9 x10 x11 x12) else GoodL Tryz.prog n0 47 K (headAt (fnT Tryz.f47) 6) (tfine_s6_0 t p x0 x1 x2 x3 x4 x5 (IntKind.i64.wrap (x6+1)) x7 x8 x9 x10 x11 x12) else GoodL Tryz.prog n0 47 K (headAt (fnT Tryz.f47) 6) (tfine_s6_0 t p x0 x1 x2 x3 x4 x5 (IntKind.i64.wrap (x6+1)) x7 x8 x9 x10 x11 x12) else GoodL Tryz.prog n0 47 K (headAt (fnT Tryz.f47) 6) (tfine_s6_0 t p x0 x1 x2 x3 x4 x5 (IntKind.i64.wrap (x6+1)) x7 x8 x9 x10 x11 x12) else GoodL Tryz.prog n0 47 K (headAt (fnT Tryz.f47) 6) (tfine_s6_0 t p x0 x1 x2 x3 x4 x5 (IntKind.i64.wrap (x6+1)) x7 x8 x9 x10 x11 x12) else False else GoodL Tryz.prog n0 47 K (headAt (fnT Tryz.f47) 3) (tfine_s3_0 t p x0 x2 (IntKind.i64.wrap (x3+1)))):=by kernel_rfl
def trec_live : List (Nat × List Nat):=[]
def trec_nils : List (Nat × ETy):=[]
theorem trec_E (t:List Nd) (p:Int) (n0:Nat) (K:AV→List HObj→Prop) :
 execN tab (mixE tab conT7 [] 400) (maskN trec_live trec_nils (GoodL Tryz.prog n0 49 K)) (finK tab (fnT Tryz.f49).res K) 400 [.code (fnT Tryz.f49).body] ⟨initEnv (fnT Tryz.f49).n [AV.imm eNode t,AV.int .i64 p],[]⟩ =
 (TxT t∧bif !decide (plE t p=0) then K (AV.int .i64 (plE t p)) [] else GoodT t∧bif !remB t p then K (AV.int .i64 10) [] else K (AV.int .i64 0) []):=by kernel_rfl
def lrec_live : List (Nat × List Nat):=[]
def lrec_nils : List (Nat × ETy):=[]
theorem lrec_E (t:List Nd) (p:Int) (n0:Nat) (K:AV→List HObj→Prop) :
 execN tab (mixE tab conT7 [] 400) (maskN lrec_live lrec_nils (GoodL Tryz.prog n0 15 K)) (finK tab (fnT Tryz.f15).res K) 400 [.code (fnT Tryz.f15).body] ⟨initEnv (fnT Tryz.f15).n [AV.imm eNode t,AV.int .i64 p],[]⟩ =
 (TxT t∧bif !decide (plE t p=0) then K (AV.int .i64 (plE t p)) [] else GoodT t∧bif !remB t p then K (AV.int .i64 10) [] else K (AV.int .i64 0) []):=by kernel_rfl
def ybig_live : List (Nat × List Nat):=[]
def ybig_nils : List (Nat × ETy):=[]
theorem ybig_E (s:ByteArray) (n0:Nat) (K:AV→List HObj→Prop) :
 execN tab (mixE tab conX2 [] 400) (maskN ybig_live ybig_nils (GoodL Tryz.prog n0 90 K)) (finK tab (fnT Tryz.f90).res K) 400 [.code (fnT Tryz.f90).body] ⟨initEnv (fnT Tryz.f90).n [AV.str s],[]⟩ =
 (∃ q,s=Sem.ratText q∧Sz 9000000000 q∧bif decide ((↑(Sem.natText q.num.natAbs).size:Int) > 2000) then K (AV.bool true) [] else K (AV.bool (bif false then true else decide ((↑(Sem.natText q.den).size:Int) > 2000))) []):=by kernel_rfl
end
end Go.Proofs.YtnnkjpcipldnfaaGreatDoor.Mach
end
