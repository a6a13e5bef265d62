/- Texts of this session, put together. -/
import Derived.Test.YtehakimmioclkaaGreatDoorRP4
section
set_option linter.unusedSimpArgs false
set_option linter.unusedVariables false
namespace Go.Proofs.YtehakimmioclkaaGreatDoor.Lib
open Go Go.Proofs.YtehakimmioclkaaGreatDoor.Mach Go.Proofs.YtehakimmioclkaaGreatDoorW.PrintWords Go.Proofs.YtehakimmioclkaaGreatDoor.Sem Go.Proofs.YtehakimmioclkaaGreatDoor.Pure
section
theorem k7 {s t:ByteArray}:s.toList=t.toList↔s=t:=⟨aKS,fun h=>h ▸ rfl⟩
theorem aLZ (n:Nat):∀ x∈(natText n).data.toList,48≤x.toNat∧x.toNat≤57:=fun x hx=>by
 have:=aJ4 n (x.toNat:Int) (by unfold bytesOf; exact List.mem_map.2 ⟨x,hx,rfl⟩)
 omega
theorem k8 (s:ByteArray):s ++ ⟨#[]⟩=s:=by apply ByteArray.ext; simp [ByteArray.data_append]
theorem k9 (s:ByteArray):⟨#[]⟩ ++ s=s:=by apply ByteArray.ext; simp [ByteArray.data_append]
theorem aX9 (s:ByteArray):bC (⟨#[45]⟩ ++ s)=true∧aK (⟨#[45]⟩ ++ s)=s:=by
 have h1:bC (⟨#[45]⟩ ++ s)=true:=by
  unfold bC
  rw [decide_eq_true (by rw [ByteArray.size_append,show (ByteArray.mk #[45]).size=1 from rfl]; omega)]
  have:(⟨#[45]⟩ ++ s:ByteArray).extract 0 1=⟨#[45]⟩:=aKU ⟨#[45]⟩ s
  rw [this]; simp
 refine ⟨h1,?_⟩
 unfold aK
 rw [h1]
 exact aKV ⟨#[45]⟩ s
theorem aYA {s:ByteArray} {c:UInt8} {r:List UInt8} (h:s.data.toList=c :: r) (hc:c≠45):bC s=false∧aK s=s:=by
 have h1:bC s=false:=by
  unfold bC
  have hl:s.data.toList.length=s.size:=by rw [Array.length_toList]; rfl
  rw [h] at hl
  rw [decide_eq_true (by simp only [List.length_cons] at hl; omega)]
  refine beq_eq_false_iff_ne.2 fun he=>?_
  rw [ByteArray.toList_eq,ByteArray.toList_eq,ByteArray.data_extract] at he
  have:(s.data.extract 0 1).toList=[c]:=by
   rw [Array.toList_extract,List.extract_eq_take_drop,h]; rfl
  rw [this] at he
  exact hc (by simpa using he)
 refine ⟨h1,?_⟩
 unfold aK
 rw [h1]; rfl
theorem aL0 {s:ByteArray} (h:∀ x∈s.data.toList,x≠47):bD s=false∧bF s=s:=by
 have h1:bD s=false:=by
  unfold bD
  rw [aXI h]; rfl
 refine ⟨h1,?_⟩
 unfold bF
 rw [h1]; rfl
theorem aYB {a b:ByteArray} (h:∀ x∈a.data.toList,x≠47):bD (a ++ (⟨#[47]⟩ ++ b))=true∧bF (a ++ (⟨#[47]⟩ ++ b))=a∧bK (a ++ (⟨#[47]⟩ ++ b))=b:=by
 have hi:=aXH (b:=b) h
 have h1:bD (a ++ (⟨#[47]⟩ ++ b))=true:=by
  unfold bD
  rw [hi]
  exact decide_eq_true (by omega)
 refine ⟨h1,?_,?_⟩
 · unfold bF
   rw [h1,hi]
   exact aKU a _
 · unfold bK
   rw [h1,hi]
   have e:a ++ (⟨#[47]⟩ ++ b)=(a ++ ⟨#[47]⟩) ++ b:=(ByteArray.append_assoc).symm
   have e2:((a.size:Int)).toNat+1=(a ++ ⟨#[47]⟩:ByteArray).size:=by rw [ByteArray.size_append,show (ByteArray.mk #[47]).size=1 from rfl]; omega
   rw [e,e2]
   exact aKV _ _
theorem aYC (n:Nat):∃ c r,(natText n).data.toList=c :: r∧c≠45:=by
 have h:=qU n
 have hl:(natText n).data.toList.length=dg n:=by rw [Array.length_toList]; rfl
 match hd:(natText n).data.toList with
 | []=>rw [hd] at hl; simp at hl; omega
 | c :: r =>
   refine ⟨c,r,rfl,fun hc=>?_⟩
   have:=aLZ n c (by rw [hd]; simp)
   rw [hc] at this
   exact absurd this (by decide)
theorem aCT (n:Nat):∀ x∈(natText n).data.toList,x≠47:=fun x hx hc=>by
 have:=aLZ n x hx
 rw [hc] at this
 exact absurd this (by decide)
theorem aCU (neg:Bool) (u v:Nat):bC (rt neg u v)=neg∧bF (aK (rt neg u v))=natText u∧bD (aK (rt neg u v))=decide (v≠1)∧(v≠1→bK (aK (rt neg u v))=natText v):=by
 have key:bC (rt neg u v)=neg∧aK (rt neg u v)=natText u ++ (if v=1 then ⟨#[]⟩ else ⟨#[47]⟩ ++ natText v):=by
  unfold rt
  cases neg with
  | true=>rw [cond_true,ByteArray.append_assoc]; exact aX9 _
  | false =>
    rw [cond_false,k9]
    obtain ⟨c,r,h1,h2⟩:=aYC u
    exact aYA (c:=c) (r:=r ++ (if v=1 then (⟨#[]⟩:ByteArray) else ⟨#[47]⟩ ++ natText v).data.toList) (by rw [show ∀ a b:ByteArray,(a ++ b).data=a.data ++ b.data from fun a b=>ByteArray.data_append,Array.toList_append,h1]; rfl) h2
 refine ⟨key.1,?_⟩
 rw [key.2]
 by_cases hv:v=1
 · rw [if_pos hv,k8,(aL0 (aCT u)).1,(aL0 (aCT u)).2]
   exact ⟨rfl,(decide_eq_false (by simpa using hv)).symm,fun h=>absurd hv h⟩
 · rw [if_neg hv]
   obtain ⟨c1,c2,c3⟩:=aYB (b:=natText v) (aCT u)
   rw [c1,c2,c3]
   exact ⟨rfl,(decide_eq_true hv).symm,fun _=>rfl⟩
theorem aYD (neg:Bool) (u v:Nat):(rt neg u v).size≤dg u+dg v+2∧dg u≤(rt neg u v).size∧dg v≤(rt neg u v).size+1:=by
 unfold rt
 rw [ByteArray.size_append,ByteArray.size_append]
 have e1:(bif neg then (⟨#[45]⟩:ByteArray) else ⟨#[]⟩).size≤1:=by cases neg <;> decide
 have eu:(natText u).size=dg u:=rfl
 have hv1:=qU v
 split
 · rename_i h
   subst h
   rw [wY,eu]
   have:(ByteArray.mk #[]).size=0:=rfl
   omega
 · rw [ByteArray.size_append]
   have:(ByteArray.mk #[47]).size=1:=rfl
   have ev:(natText v).size=dg v:=rfl
   omega
theorem aL1 (q:Rat):(ratText q).size≤szN q+szD q+2∧szN q≤(ratText q).size∧szD q≤(ratText q).size+1:=aYD _ _ _
theorem aYE {s:ByteArray} {Q:Res} (h:inS s Q):Con Tryz.prog 79 [.str s] Q:=by
 obtain ⟨q,rfl,sq,hq⟩:=h
 refine nT ?_ hq
 refine aW (gn:=fnT Tryz.f79) (by kernel_rfl) qZ (inl:=[]) (LT:=aLC) (NT:=aLD) rfl fun n0=>?_
 rw [qin_E]
 obtain ⟨p1,p2,p3,p4⟩:=aCU (decide (q.num<0)) q.num.natAbs q.den
 have hs:=(aL1 q).1
 have hr:(aK (ratText q)).size≤(ratText q).size:=by
  unfold aK
  cases bC (ratText q)
  · exact Nat.le_refl _
  · rw [cond_true,ByteArray.size_extract]; omega
 have e1:=dV sq
 have e2:=d8 sq
 have e3:szN q=dg q.num.natAbs:=rfl
 have e4:szD q=dg q.den:=rfl
 refine ⟨rfl,by omega,rfl,by omega,q.num.natAbs,p2,e1,nU,?_⟩
 have hd:=eF q
 by_cases h1:q.den=1
 · refine aY (by rw [show ratText q=rt (decide (q.num<0)) q.num.natAbs q.den from rfl,p3]; simpa using h1) ?_
   rw [show bC (ratText q)=decide (q.num<0) from p1]
   exact fY (z:=(decide (q.num<0),_,_)) ⟨rfl,rfl, .inl (show limbsOf 1=limbsOf q.den by rw [h1])⟩
 · refine aP (by rw [show ratText q=rt (decide (q.num<0)) q.num.natAbs q.den from rfl,p3]; simpa using h1) ⟨q.den,p4 h1,e2,?_⟩
   rw [show bC (ratText q)=decide (q.num<0) from p1]
   exact fY (z:=(decide (q.num<0),_,_)) ⟨rfl,rfl, .inl rfl⟩
theorem aCV {z:QT} {Q:Res} (h:wR z Q):Con Tryz.prog 48 [qa z] Q:=by
 obtain ⟨q,hz,sq,hq⟩:=h
 obtain ⟨b,n,d⟩:=z
 refine aW (gn:=fnT Tryz.f48) (by kernel_rfl) nV (inl:=[]) (LT:=aLE) (NT:=aLF) rfl fun n0=>?_
 refine (aXS b n d n0 _).symm ▸ ?_
 have hk:∀ r H,ratText q=r→aQ Q (.str r) H:=fun r H h=>by rw [h] at hq; exact bO hq rfl rfl
 by_cases h0:q=0
 · refine aC ((fN hz).2 h0) (hk _ _ (by rw [h0]; exact ratText_zero))
 · refine aG (fun h=>h0 ((fN hz).1 h)) ⟨_,nW hz,dV sq,?_⟩
   have e1:=dV sq
   have e2:=d8 sq
   have eu:(natText q.num.natAbs).size=dg q.num.natAbs:=rfl
   have ev:(natText q.den).size=dg q.den:=rfl
   have e47:(⟨#[47]⟩ ++ natText q.den:ByteArray).size=1+dg q.den:=ByteArray.size_append
   have e45:(⟨#[45]⟩ ++ natText q.num.natAbs:ByteArray).size=1+dg q.num.natAbs:=ByteArray.size_append
   have hb:b=decide (q.num<0):=hz.neg
   have hr:ratText q=rt b q.num.natAbs q.den:=by rw [hb]; rfl
   cases b with
   | true =>
     refine bS (aC (by omega) ⟨q,hz,q.den,rfl,e2,?_⟩)
     by_cases h1:q.den=1
     · refine aR (aP (by rw [beq_iff_eq,k7,h1]; exact natText_one) (hk _ _ ?_))
       rw [hr]; unfold rt
       rw [if_pos h1,k8]; rfl
     · refine aR (aY (by rw [beq_iff_eq,k7]; exact fun h=>h1 (qT (h.trans natText_one.symm))) (aC (by omega) (aC (by omega) (hk _ _ ?_))))
       rw [hr]; unfold rt
       rw [if_neg h1]; rfl
   | false =>
     refine bU ⟨q,hz,q.den,rfl,e2,?_⟩
     by_cases h1:q.den=1
     · refine aR (aP (by rw [beq_iff_eq,k7,h1]; exact natText_one) (hk _ _ ?_))
       rw [hr]; unfold rt
       rw [if_pos h1,k8]; exact k9 _
     · refine aR (aY (by rw [beq_iff_eq,k7]; exact fun h=>h1 (qT (h.trans natText_one.symm))) (aC (by omega) (aC (by omega) (hk _ _ ?_))))
       rw [hr]; unfold rt
       rw [if_neg h1,cond_false,k9]
theorem aL2 {z:QT} {Q:Res} (h:fitS z Q):Con Tryz.prog 76 [qa z] Q:=by
 obtain ⟨q,hz,sq,hq⟩:=h
 obtain ⟨b,n,d⟩:=z
 refine aW (gn:=fnT Tryz.f76) (by kernel_rfl) nV (inl:=[]) (LT:=aLG) (NT:=aLH) rfl fun n0=>?_
 refine (aXT b n d n0 _).symm ▸ ?_
 have e1:=dV sq
 have e2:=d8 sq
 unfold iH at hq
 have hN:szN q=dg q.num.natAbs:=rfl
 have hD:szD q=dg q.den:=rfl
 rw [hN,hD] at hq
 refine ⟨_,nW hz,e1,?_⟩
 by_cases h1:dg q.num.natAbs > 2000
 · rw [if_pos (.inl h1)] at hq
   exact aC (by omega) (bO hq rfl rfl)
 · refine aG (by omega) ?_
   have key:∃ m,d=limbsOf m∧dg m≤9000000000∧(dg m > 2000↔dg q.den > 2000):=by
    rcases hz.den with hd | ⟨hd,hd1⟩
    · exact ⟨_,hd,e2,Iff.rfl⟩
    · refine ⟨0,hd.trans limbsOf_zero.symm,by rw [aCQ]; decide,?_⟩
      rw [hd1,aCQ,wY]
   obtain ⟨m,hm1,hm2,hm3⟩:=key
   refine ⟨m,hm1,hm2,?_⟩
   by_cases h2:dg q.den > 2000
   · rw [if_pos (.inr h2)] at hq
     exact aP (decide_eq_true (by have:=hm3.2 h2; omega)) (bO hq rfl rfl)
   · rw [if_neg (by rintro (h | h) <;> omega)] at hq
     exact aY (fun h=>h2 (hm3.1 (by have:=of_decide_eq_true h; omega))) (bO hq rfl rfl)
end
section
theorem aYF : ∀ g xs Q,aK5 g xs Q→Con Tryz.prog g xs Q:=dB fun p hp=>by
 simp only [List.mem_cons,List.not_mem_nil,or_false] at hp
 rcases hp with rfl | rfl | rfl | rfl | rfl
 · exact bG fun _ _ _ h=>aLY h
 · exact bE fun _ _ h=>aX7 h
 · exact bE fun _ _ h=>aCS h
 · exact bE fun _ _ h=>aCV h
 · exact bE fun _ _ h=>aL2 h
theorem aCW {k:Nat} {q:Rat} (h:Sz k q):Sz k (-q):=by
 refine ⟨?_,?_⟩
 · show dg (-q).num.natAbs≤k
   rw [Rat.neg_num,Int.natAbs_neg]; exact h.1
 · show dg (-q).den≤k
   rw [Rat.neg_den]; exact h.2
theorem aYG {z w:QT} {Q:Res} (h:subQ z w Q):Con Tryz.prog 52 [qa z,qa w] Q:=by
 obtain ⟨x,y,hz,hw,sx,sy,hq⟩:=h
 refine nT ?_ hq
 obtain ⟨b,n,d⟩:=z
 obtain ⟨b', n', d'⟩:=w
 refine aW (gn:=fnT Tryz.f52) (by kernel_rfl) aYF (inl:=[]) (LT:=aLO) (NT:=aLP) rfl fun n0=>?_
 refine (aXX b n d b' n' d' n0 _).symm ▸ ?_
 refine ⟨y,hw,fun r hr=>⟨x, -y,hz,hr,sx,aCW sy,fun r hr=>?_⟩⟩
 rw [Rat.sub_eq_add_neg]
 exact fY hr
theorem aYH : ∀ g xs Q,aK6 g xs Q→Con Tryz.prog g xs Q:=dB fun p hp=>by
 simp only [List.mem_cons,List.not_mem_nil,or_false] at hp
 rcases hp with rfl | rfl
 · exact bG fun _ _ _ h=>aYG h
 · exact bE fun _ _ h=>aCS h
theorem aYI {z w:QT} {Q:Res} (h:cmpQ z w Q):Con Tryz.prog 31 [qa z,qa w] Q:=by
 obtain ⟨x,y,hz,hw,sx,sy,hq⟩:=h
 obtain ⟨b,n,d⟩:=z
 obtain ⟨b', n', d'⟩:=w
 refine aW (gn:=fnT Tryz.f31) (by kernel_rfl) aYH (inl:=[]) (LT:=aLS) (NT:=aLT) rfl fun n0=>?_
 refine (aXZ b n d b' n' d' n0 _).symm ▸ ?_
 exact ⟨x,y,hz,hw,sx,sy,fun r hr=>⟨x - y,hr,bO hq rfl rfl⟩⟩
theorem aYJ {n:Nat} (h:n<10 ^ 20):dg n≤20:=qV (by decide) h
theorem nX {s:ByteArray} (h:natErr s=0):∃ n,s=natText n∧dg n≤2000:=by
 rcases aJ5 s with ⟨n,hn,he⟩ | ⟨he,_⟩
 · refine ⟨n,hn,?_⟩
   rw [he] at h
   split at h
   · cases h
   · omega
 · rw [he] at h; cases h
theorem aYK {n:Nat} (h:dg n≤2000):natErr (natText n)=0:=by rw [aXB,if_neg (by omega)]
theorem aCX (s:ByteArray):(aK s).size≤s.size:=by
 unfold aK
 cases bC s
 · exact Nat.le_refl _
 · rw [cond_true,ByteArray.size_extract]; omega
theorem aL3 (s:ByteArray):(bF s).size≤s.size:=by
 unfold bF
 have:=qW s 47
 cases bD s
 · exact Nat.le_refl _
 · rw [cond_true,ByteArray.size_extract]; omega
theorem aCY (s:ByteArray):(bK s).size≤s.size:=by
 unfold bK
 cases bD s
 · exact Nat.zero_le _
 · rw [cond_true,ByteArray.size_extract]; omega
theorem aL4 {p c:Bool} {A T:Prop} (h1:p=true→c=true→A) (h2:¬ (p=true∧c=true)→T):bif p then (bif c then A else T) else T:=by
 cases p with
 | false=>exact h2 (by simp)
 | true =>
   cases c with
   | true=>exact h1 rfl rfl
   | false=>exact h2 (by simp)
theorem gT {a:ByteArray}:(a.toList == (ByteArray.mk #[48]).toList)=true↔a=zeroS:=by rw [beq_iff_eq,k7]
theorem q9 {a:ByteArray}:(a.toList == (ByteArray.mk #[49]).toList)=true↔a=⟨#[49]⟩:=by rw [beq_iff_eq,k7]
theorem aYL {s:ByteArray} {Q:Res} (h:wT s Q):Con Tryz.prog 88 [.str s] Q:=by
 obtain ⟨hs,hq⟩:=h
 unfold Tx at hs
 refine aW (gn:=fnT Tryz.f88) (by kernel_rfl) qZ (inl:=[]) (LT:=aLU) (NT:=aLV) rfl fun n0=>?_
 rw [aX0]
 have r1:=aCX s
 have r2:=aL3 (aK s)
 have r3:=aCY (aK s)
 have hk:∀ v,eG s=v→aQ Q (.int .i64 v) []:=fun v h=>by rw [h] at hq; exact bO hq rfl rfl
 refine ⟨rfl,by omega,rfl,by omega,by omega,?_⟩
 unfold eG at hk
 generalize bF (aK s)=a at *
 generalize bK (aK s)=b at *
 cases hI:bD (aK s) with
 | true =>
   refine bS ⟨by omega,?_⟩
   simp only [hI,true_and] at hk
   by_cases h1:natErr a=5
   · exact aC h1 (hk 5 (if_pos (.inl h1)))
   refine aG h1 ?_
   by_cases h2:natErr b=5
   · exact aP (decide_eq_true h2) (hk 5 (if_pos (.inr (.inl h2))))
   refine aY (fun h=>h2 (of_decide_eq_true h)) ?_
   refine aL4 (fun hp hc=>hk 5 (if_pos (.inr (.inr ⟨hp,gT.1 hc⟩)))) fun hpc=>?_
   have h3:¬ (natErr a=5∨natErr b=5∨(bC s=true∧a=zeroS)):=by
    rintro (h | h | h)
    · exact h1 h
    · exact h2 h
    · exact hpc ⟨h.1,gT.2 h.2⟩
   rw [if_neg h3] at hk
   by_cases e1:natErr a=0
   · refine aR (aC e1 ?_)
     by_cases e2:natErr b=0
     · refine aY (by simp [e2]) (bS ?_)
       rw [if_neg (by rintro (h | h) <;> exact h (by assumption))] at hk
       by_cases f1:b=zeroS
       · exact aP (gT.2 f1) (hk 3 (if_pos (.inl f1)))
       refine aY (fun h=>f1 (gT.1 h)) ?_
       by_cases f2:b=⟨#[49]⟩
       · exact aP (q9.2 f2) (hk 3 (if_pos (.inr (.inl f2))))
       refine aY (fun h=>f2 (q9.1 h)) ?_
       obtain ⟨u,rfl,hu⟩:=nX e1
       obtain ⟨v,rfl,hv⟩:=nX e2
       have hv0:0<v:=Nat.pos_of_ne_zero fun h=>f1 (by rw [h]; exact natText_zero)
       have hgb:dg (Nat.gcd u v)≤9000000000:=Nat.le_trans (fA (Nat.le_of_dvd hv0 (Nat.gcd_dvd_right u v))) (by omega)
       rw [jS,jS] at hk
       refine ⟨u,rfl,by unfold Bd; omega,v,rfl,by unfold Bd; omega,_,_,rfl,rfl,by omega,by omega,nU,_,_,rfl,rfl,hgb,?_⟩
       by_cases f3:Nat.gcd u v=1
       · refine aY (by simp [f3,aCR.2]; exact aCR.2 rfl) (hk 0 (if_neg ?_))
         rintro (h | h | h)
         · exact f1 h
         · exact f2 h
         · exact h f3
       · refine aP ?_ (hk 3 (if_pos (.inr (.inr f3))))
         have:¬ cmpI ((Nat.gcd u v:Nat):Int) ((1:Nat):Int)=0:=fun h=>f3 (aCR.1 h).symm
         simp only [cond_true,cond_false,Bool.not_eq_true', decide_eq_false_iff_not]
         exact this
     · exact aP (by simp [e2]) (hk 2 (if_pos (.inr e2)))
   · exact aR (aG e1 (hk 2 (if_pos (.inl e1))))
 | false =>
   refine bU ?_
   simp only [hI,Bool.false_eq_true,false_and,or_false,false_or] at hk
   by_cases h1:natErr a=5
   · exact aC h1 (hk 5 (if_pos (.inl h1)))
   refine aG h1 ?_
   refine aL4 (fun hp hc=>hk 5 (if_pos (.inr ⟨hp,gT.1 hc⟩))) fun hpc=>?_
   have h3:¬ (natErr a=5∨(bC s=true∧a=zeroS)):=by
    rintro (h | h)
    · exact h1 h
    · exact hpc ⟨h.1,gT.2 h.2⟩
   rw [if_neg h3] at hk
   by_cases e1:natErr a=0
   · refine aR (aC e1 (bU ?_))
     exact hk 0 (by rw [if_neg (by simpa using e1)]; simp)
   · exact aR (aG e1 (hk 2 (if_pos e1)))
end
end Go.Proofs.YtehakimmioclkaaGreatDoor.Lib
end
section
set_option linter.unusedSimpArgs false
set_option linter.unusedVariables false
namespace Go.Proofs.YtehakimmioclkaaGreatDoor.Mach
open Go Go.Proofs.YtehakimmioclkaaGreatDoor Go.Proofs.YtehakimmioclkaaGreatDoor.Lib
section
set_option maxRecDepth 1000000
def nY : List (Nat × List Nat):=[(6,[5,6,16,17])]
def nZ : List (Nat × ETy):=[]
noncomputable def w4 (s x0:ByteArray) (x1:Bool) (x2 x3:Int):St:=aT 35 [(5,AV.str x0),(6,AV.bool x1),(16,AV.int .i64 x2),(17,AV.int .i64 x3)] []
noncomputable def w5 (s:ByteArray) (x0:Bool) (x1 x2:Int):St:=aT 35 [(5,AV.str s),(6,AV.bool x0),(16,AV.int .i64 x1),(17,AV.int .i64 x2)] []
theorem aYM (s:ByteArray) (n0:Nat) (K:AV→List aA→Prop) :
 aH tab (aM tab bR [] 400) (aL nY nZ (aB Tryz.prog n0 37 K)) (aI tab (fnT Tryz.f37).res K) 400 [.code (fnT Tryz.f37).body] ⟨aO (fnT Tryz.f37).n [AV.str s],[]⟩ =
 (bif decide (0<(↑s.size:Int)) then bif decide ((↑(s.data.toList.getD 0 0).toNat:Int)=45) then bif decide (1≤(↑s.size:Int)) && decide ((↑s.size:Int)≤(↑s.size:Int)) then aB Tryz.prog n0 37 K (aF (fnT Tryz.f37) 6) (w4 s (s.extract 1 (↑s.size:Int).toNat) (decide ((↑(s.data.toList.getD 0 0).toNat:Int)=45)) (↑(s.extract 1 (↑s.size:Int).toNat).size:Int) 0) else False else aB Tryz.prog n0 37 K (aF (fnT Tryz.f37) 6) (w5 s (decide ((↑(s.data.toList.getD 0 0).toNat:Int)=45)) (↑s.size:Int) 0) else False):=by kernel_rfl
theorem aYN (s x0:ByteArray) (x1:Bool) (x2 x3:Int) (n0:Nat) (K:AV→List aA→Prop) :
 aH tab (aM tab bR [] 400) (aL nY nZ (aB Tryz.prog n0 37 K)) (aI tab (fnT Tryz.f37).res K) 400 (aU (fnT Tryz.f37) 6) (w4 s x0 x1 x2 x3) =
 (bif decide (x3<x2) then bif decide (0≤x3) && decide (x3<(↑x0.size:Int)) then bif decide ((↑(x0.data.toList.getD x3.toNat 0).toNat:Int)=47) then bif decide (0≤x3) && decide (x3≤(↑x0.size:Int)) then bif decide (0≤IntKind.i64.wrap (x3+1)) && decide (IntKind.i64.wrap (x3+1)≤(↑x0.size:Int)) && decide ((↑x0.size:Int)≤(↑x0.size:Int)) then K (AV.tup [AV.bool x1,AV.str (x0.extract 0 x3.toNat),AV.str (x0.extract (IntKind.i64.wrap (x3+1)).toNat (↑x0.size:Int).toNat)]) [] else False else False else aB Tryz.prog n0 37 K (aF (fnT Tryz.f37) 6) (w4 s x0 x1 x2 (IntKind.i64.wrap (x3+1))) else False else K (AV.tup [AV.bool x1,AV.str x0,AV.str (ByteArray.mk #[49])]) []):=by kernel_rfl
theorem aYO (s:ByteArray) (x0:Bool) (x1 x2:Int) (n0:Nat) (K:AV→List aA→Prop) :
 aH tab (aM tab bR [] 400) (aL nY nZ (aB Tryz.prog n0 37 K)) (aI tab (fnT Tryz.f37).res K) 400 (aU (fnT Tryz.f37) 6) (w5 s x0 x1 x2) =
 (bif decide (x2<x1) then bif decide (0≤x2) && decide (x2<(↑s.size:Int)) then bif decide ((↑(s.data.toList.getD x2.toNat 0).toNat:Int)=47) then bif decide (0≤x2) && decide (x2≤(↑s.size:Int)) then bif decide (0≤IntKind.i64.wrap (x2+1)) && decide (IntKind.i64.wrap (x2+1)≤(↑s.size:Int)) && decide ((↑s.size:Int)≤(↑s.size:Int)) then K (AV.tup [AV.bool x0,AV.str (s.extract 0 x2.toNat),AV.str (s.extract (IntKind.i64.wrap (x2+1)).toNat (↑s.size:Int).toNat)]) [] else False else False else aB Tryz.prog n0 37 K (aF (fnT Tryz.f37) 6) (w5 s x0 x1 (IntKind.i64.wrap (x2+1))) else False else K (AV.tup [AV.bool x0,AV.str s,AV.str (ByteArray.mk #[49])]) []):=by kernel_rfl
def aL5 : List (Nat × List Nat):=[]
def aL6 : List (Nat × ETy):=[]
theorem aYP (neg:Bool) (n d:ByteArray) (n0:Nat) (K:AV→List aA→Prop) :
 aH tab (aM tab nR [] 400) (aL aL5 aL6 (aB Tryz.prog n0 39 K)) (aI tab (fnT Tryz.f39).res K) 400 [.code (fnT Tryz.f39).body] ⟨aO (fnT Tryz.f39).n [AV.bool neg,AV.str n,AV.str d],[]⟩ =
 (bif n.toList == (ByteArray.mk #[48]).toList then K (AV.str (ByteArray.mk #[48])) [] else ∃ u v,n=Sem.natText u∧d=Sem.natText v∧Sem.dg u≤9000000000∧Sem.dg v≤9000000000∧∃ u_1 v_1,n=Sem.natText u_1∧Sem.natText (u.gcd v)=Sem.natText v_1∧Sem.dg u_1≤9000000000∧Sem.dg v_1≤9000000000∧0<v_1∧∃ u_2 v_2,d=Sem.natText u_2∧Sem.natText (u.gcd v)=Sem.natText v_2∧Sem.dg u_2≤9000000000∧Sem.dg v_2≤9000000000∧0<v_2∧bif neg then bif decide (1+(Sem.natText (u_1 / v_1)).size≤9223372036854775807) then bif (Sem.natText (u_2 / v_2)).toList == (ByteArray.mk #[49]).toList then K (AV.str (ByteArray.mk #[45] ++ Sem.natText (u_1 / v_1))) [] else bif decide ((ByteArray.mk #[45] ++ Sem.natText (u_1 / v_1)).size+1≤9223372036854775807) then bif decide ((ByteArray.mk #[45] ++ Sem.natText (u_1 / v_1) ++ ByteArray.mk #[47]).size+(Sem.natText (u_2 / v_2)).size≤9223372036854775807) then K (AV.str (ByteArray.mk #[45] ++ Sem.natText (u_1 / v_1) ++ ByteArray.mk #[47] ++ Sem.natText (u_2 / v_2))) [] else False else False else False else bif (Sem.natText (u_2 / v_2)).toList == (ByteArray.mk #[49]).toList then K (AV.str (Sem.natText (u_1 / v_1))) [] else bif decide ((Sem.natText (u_1 / v_1)).size+1≤9223372036854775807) then bif decide ((Sem.natText (u_1 / v_1) ++ ByteArray.mk #[47]).size+(Sem.natText (u_2 / v_2)).size≤9223372036854775807) then K (AV.str (Sem.natText (u_1 / v_1) ++ ByteArray.mk #[47] ++ Sem.natText (u_2 / v_2))) [] else False else False):=by kernel_rfl
def jU : List (Nat × List Nat):=[(6,[3,4,5,6,7,24,25])]
def jV : List (Nat × ETy):=[]
noncomputable def n3 (s x0:ByteArray) (x1:Int) (x2 x3:ByteArray) (x4 x5:Int):St:=aT 86 [(3,AV.str x0),(4,AV.bool true),(5,AV.int .i64 x1),(6,AV.str x2),(7,AV.str x3),(24,AV.int .i64 x4),(25,AV.int .i64 x5)] []
noncomputable def n4 (s:ByteArray) (x0:Int) (x1:ByteArray) (x2 x3:Int):St:=aT 86 [(3,AV.str s),(4,AV.bool false),(5,AV.int .i64 x0),(6,AV.str s),(7,AV.str x1),(24,AV.int .i64 x2),(25,AV.int .i64 x3)] []
noncomputable def n5 (s:ByteArray) (x0:Int) (x1 x2:ByteArray) (x3 x4:Int):St:=aT 86 [(3,AV.str s),(4,AV.bool false),(5,AV.int .i64 x0),(6,AV.str x1),(7,AV.str x2),(24,AV.int .i64 x3),(25,AV.int .i64 x4)] []
theorem aYQ (s:ByteArray) (n0:Nat) (K:AV→List aA→Prop) :
 aH tab (aM tab nR [] 400) (aL jU jV (aB Tryz.prog n0 95 K)) (aI tab (fnT Tryz.f95).res K) 400 [.code (fnT Tryz.f95).body] ⟨aO (fnT Tryz.f95).n [AV.str s],[]⟩ =
 (bif decide ((↑s.size:Int) > 0) then bif decide (0<(↑s.size:Int)) then bif bif true then decide ((↑(s.data.toList.getD 0 0).toNat:Int)=45) else false then bif decide (1≤(↑s.size:Int)) && decide ((↑s.size:Int)≤(↑s.size:Int)) then aB Tryz.prog n0 95 K (aF (fnT Tryz.f95) 6) (n3 s (s.extract 1 (↑s.size:Int).toNat) 1 (s.extract 1 (↑s.size:Int).toNat) (ByteArray.mk #[50]) (↑(s.extract 1 (↑s.size:Int).toNat).size:Int) 0) else False else aB Tryz.prog n0 95 K (aF (fnT Tryz.f95) 6) (n4 s 1 (ByteArray.mk #[50]) (↑s.size:Int) 0) else False else aB Tryz.prog n0 95 K (aF (fnT Tryz.f95) 6) (n4 s 1 (ByteArray.mk #[50]) (↑s.size:Int) 0)):=by kernel_rfl
theorem aYR (s x0:ByteArray) (x1:Int) (x2 x3:ByteArray) (x4 x5:Int) (n0:Nat) (K:AV→List aA→Prop) :
 aH tab (aM tab nR [] 400) (aL jU jV (aB Tryz.prog n0 95 K)) (aI tab (fnT Tryz.f95).res K) 400 (aU (fnT Tryz.f95) 6) (n3 s x0 x1 x2 x3 x4 x5) =
 (bif decide (x5<x4) then bif decide (0≤x5) && decide (x5<(↑x0.size:Int)) then bif decide ((↑(x0.data.toList.getD x5.toNat 0).toNat:Int)=47) then bif bif true then decide (x1=1) else false then bif decide (0≤x5) && decide (x5≤(↑x0.size:Int)) then bif decide (0≤IntKind.i64.wrap (x5+1)) && decide (IntKind.i64.wrap (x5+1)≤(↑x0.size:Int)) && decide ((↑x0.size:Int)≤(↑x0.size:Int)) then aB Tryz.prog n0 95 K (aF (fnT Tryz.f95) 6) (n3 s x0 2 (x0.extract 0 x5.toNat) (x0.extract (IntKind.i64.wrap (x5+1)).toNat (↑x0.size:Int).toNat) x4 (IntKind.i64.wrap (x5+1))) else False else False else aB Tryz.prog n0 95 K (aF (fnT Tryz.f95) 6) (n3 s x0 x1 x2 x3 x4 (IntKind.i64.wrap (x5+1))) else aB Tryz.prog n0 95 K (aF (fnT Tryz.f95) 6) (n3 s x0 x1 x2 x3 x4 (IntKind.i64.wrap (x5+1))) else False else x2.size≤1000000000000000∧x3.size≤1000000000000000∧bif decide (Pure.natErr x2=5) then K (AV.int .i64 5) [] else bif bif false then true else decide (Pure.natErr x3=5) then K (AV.int .i64 5) [] else bif bif false then true else bif true then x2.toList == (ByteArray.mk #[48]).toList else false then K (AV.int .i64 5) [] else bif !decide (Pure.natErr x2=0) then K (AV.int .i64 2) [] else bif bif false then true else !decide (Pure.natErr x3=0) then K (AV.int .i64 2) [] else bif decide (x1=2) then bif x3.toList == (ByteArray.mk #[48]).toList then K (AV.int .i64 3) [] else bif bif false then true else x3.toList == (ByteArray.mk #[49]).toList then K (AV.int .i64 3) [] else ∃ u v,x2=Sem.natText u∧x3=Sem.natText v∧Sem.dg u≤9000000000∧Sem.dg v≤9000000000∧bif bif true then bif false then true else !(Sem.natText (u.gcd v)).toList == (ByteArray.mk #[49]).toList else false then K (AV.int .i64 3) [] else K (AV.int .i64 0) [] else K (AV.int .i64 0) []):=by kernel_rfl
theorem aYS (s:ByteArray) (x0:Int) (x1:ByteArray) (x2 x3:Int) (n0:Nat) (K:AV→List aA→Prop) :
 aH tab (aM tab nR [] 400) (aL jU jV (aB Tryz.prog n0 95 K)) (aI tab (fnT Tryz.f95).res K) 400 (aU (fnT Tryz.f95) 6) (n4 s x0 x1 x2 x3) =
 (bif decide (x3<x2) then bif decide (0≤x3) && decide (x3<(↑s.size:Int)) then bif decide ((↑(s.data.toList.getD x3.toNat 0).toNat:Int)=47) then bif bif true then decide (x0=1) else false then bif decide (0≤x3) && decide (x3≤(↑s.size:Int)) then bif decide (0≤IntKind.i64.wrap (x3+1)) && decide (IntKind.i64.wrap (x3+1)≤(↑s.size:Int)) && decide ((↑s.size:Int)≤(↑s.size:Int)) then aB Tryz.prog n0 95 K (aF (fnT Tryz.f95) 6) (n5 s 2 (s.extract 0 x3.toNat) (s.extract (IntKind.i64.wrap (x3+1)).toNat (↑s.size:Int).toNat) x2 (IntKind.i64.wrap (x3+1))) else False else False else aB Tryz.prog n0 95 K (aF (fnT Tryz.f95) 6) (n4 s x0 x1 x2 (IntKind.i64.wrap (x3+1))) else aB Tryz.prog n0 95 K (aF (fnT Tryz.f95) 6) (n4 s x0 x1 x2 (IntKind.i64.wrap (x3+1))) else False else s.size≤1000000000000000∧x1.size≤1000000000000000∧bif decide (Pure.natErr s=5) then K (AV.int .i64 5) [] else bif bif false then true else decide (Pure.natErr x1=5) then K (AV.int .i64 5) [] else bif !decide (Pure.natErr s=0) then K (AV.int .i64 2) [] else bif bif false then true else !decide (Pure.natErr x1=0) then K (AV.int .i64 2) [] else bif decide (x0=2) then bif x1.toList == (ByteArray.mk #[48]).toList then K (AV.int .i64 3) [] else bif bif false then true else x1.toList == (ByteArray.mk #[49]).toList then K (AV.int .i64 3) [] else ∃ u v,s=Sem.natText u∧x1=Sem.natText v∧Sem.dg u≤9000000000∧Sem.dg v≤9000000000∧bif bif true then bif false then true else !(Sem.natText (u.gcd v)).toList == (ByteArray.mk #[49]).toList else false then K (AV.int .i64 3) [] else K (AV.int .i64 0) [] else K (AV.int .i64 0) []):=by kernel_rfl
theorem aYT (s:ByteArray) (x0:Int) (x1 x2:ByteArray) (x3 x4:Int) (n0:Nat) (K:AV→List aA→Prop) :
 aH tab (aM tab nR [] 400) (aL jU jV (aB Tryz.prog n0 95 K)) (aI tab (fnT Tryz.f95).res K) 400 (aU (fnT Tryz.f95) 6) (n5 s x0 x1 x2 x3 x4) =
 (bif decide (x4<x3) then bif decide (0≤x4) && decide (x4<(↑s.size:Int)) then bif decide ((↑(s.data.toList.getD x4.toNat 0).toNat:Int)=47) then bif bif true then decide (x0=1) else false then bif decide (0≤x4) && decide (x4≤(↑s.size:Int)) then bif decide (0≤IntKind.i64.wrap (x4+1)) && decide (IntKind.i64.wrap (x4+1)≤(↑s.size:Int)) && decide ((↑s.size:Int)≤(↑s.size:Int)) then aB Tryz.prog n0 95 K (aF (fnT Tryz.f95) 6) (n5 s 2 (s.extract 0 x4.toNat) (s.extract (IntKind.i64.wrap (x4+1)).toNat (↑s.size:Int).toNat) x3 (IntKind.i64.wrap (x4+1))) else False else False else aB Tryz.prog n0 95 K (aF (fnT Tryz.f95) 6) (n5 s x0 x1 x2 x3 (IntKind.i64.wrap (x4+1))) else aB Tryz.prog n0 95 K (aF (fnT Tryz.f95) 6) (n5 s x0 x1 x2 x3 (IntKind.i64.wrap (x4+1))) else False else x1.size≤1000000000000000∧x2.size≤1000000000000000∧bif decide (Pure.natErr x1=5) then K (AV.int .i64 5) [] else bif bif false then true else decide (Pure.natErr x2=5) then K (AV.int .i64 5) [] else bif !decide (Pure.natErr x1=0) then K (AV.int .i64 2) [] else bif bif false then true else !decide (Pure.natErr x2=0) then K (AV.int .i64 2) [] else bif decide (x0=2) then bif x2.toList == (ByteArray.mk #[48]).toList then K (AV.int .i64 3) [] else bif bif false then true else x2.toList == (ByteArray.mk #[49]).toList then K (AV.int .i64 3) [] else ∃ u v,x1=Sem.natText u∧x2=Sem.natText v∧Sem.dg u≤9000000000∧Sem.dg v≤9000000000∧bif bif true then bif false then true else !(Sem.natText (u.gcd v)).toList == (ByteArray.mk #[49]).toList else false then K (AV.int .i64 3) [] else K (AV.int .i64 0) [] else K (AV.int .i64 0) []):=by kernel_rfl
def w6 : List (Nat × List Nat):=[(2,[6,7,8])]
def w7 : List (Nat × ETy):=[(6,eS)]
noncomputable def w8 (l:List ByteArray) (x0 x1:Int):St:=aT 18 [(6,AV.imm eS l),(7,AV.int .i64 x0),(8,AV.int .i64 x1)] []
theorem aYU (l:List ByteArray) (n0:Nat) (K:AV→List aA→Prop) :
 aH tab (aM tab qY [] 400) (aL w6 w7 (aB Tryz.prog n0 84 K)) (aI tab (fnT Tryz.f84).res K) 400 [.code (fnT Tryz.f84).body] ⟨aO (fnT Tryz.f84).n [AV.imm eS l],[]⟩ =
 (aB Tryz.prog n0 84 K (aF (fnT Tryz.f84) 2) (w8 l (↑l.length:Int) 0)):=by kernel_rfl
theorem aYV (l:List ByteArray) (x0 x1:Int) (n0:Nat) (K:AV→List aA→Prop) :
 aH tab (aM tab qY [] 400) (aL w6 w7 (aB Tryz.prog n0 84 K)) (aI tab (fnT Tryz.f84).res K) 400 (aU (fnT Tryz.f84) 2) (w8 l x0 x1) =
 (bif decide (x1<x0) then bif decide (0≤x1) && decide (x1<(↑l.length:Int)) then Tx (l.getD x1.toNat ByteArray.empty)∧bif !decide (eG (l.getD x1.toNat ByteArray.empty)=0) then K (AV.int .i64 (eG (l.getD x1.toNat ByteArray.empty))) [] else aB Tryz.prog n0 84 K (aF (fnT Tryz.f84) 2) (w8 l x0 (IntKind.i64.wrap (x1+1))) else False else K (AV.int .i64 0) []):=by kernel_rfl
def aL7 : List (Nat × List Nat):=[]
def aL8 : List (Nat × ETy):=[]
theorem aYW (s:ByteArray) (n0:Nat) (K:AV→List aA→Prop) :
 aH tab (aM tab nS [] 400) (aL aL7 aL8 (aB Tryz.prog n0 73 K)) (aI tab (fnT Tryz.f73).res K) 400 [.code (fnT Tryz.f73).body] ⟨aO (fnT Tryz.f73).n [AV.str s],[]⟩ =
 (∃ q,s=Sem.ratText q∧Sz 9000000000 q∧∃ u v,Sem.natText q.num.natAbs=Sem.natText u∧Sem.natText q.den=Sem.natText v∧0<v∧Sem.dg u≤9000000000∧Sem.dg v≤9000000000∧K (AV.str (Sem.ratText (Sem.mkq (!decide (q.num<0)) u v))) []):=by kernel_rfl
def aL9 : List (Nat × List Nat):=[]
def aMA : List (Nat × ETy):=[]
theorem aYX (s t:ByteArray) (n0:Nat) (K:AV→List aA→Prop) :
 aH tab (aM tab nS [] 400) (aL aL9 aMA (aB Tryz.prog n0 11 K)) (aI tab (fnT Tryz.f11).res K) 400 [.code (fnT Tryz.f11).body] ⟨aO (fnT Tryz.f11).n [AV.str s,AV.str t],[]⟩ =
 (∃ q,s=Sem.ratText q∧Sz 9000000000 q∧∃ q_1,t=Sem.ratText q_1∧Sz 9000000000 q_1∧∃ u v,Sem.natText q.num.natAbs=Sem.natText u∧Sem.natText q_1.den=Sem.natText v∧Sem.dg u≤5000000000∧Sem.dg v≤5000000000∧∃ u_1 v_1,Sem.natText q_1.num.natAbs=Sem.natText u_1∧Sem.natText q.den=Sem.natText v_1∧Sem.dg u_1≤5000000000∧Sem.dg v_1≤5000000000∧∃ u_2 v_2,Sem.natText q.den=Sem.natText u_2∧Sem.natText q_1.den=Sem.natText v_2∧Sem.dg u_2≤5000000000∧Sem.dg v_2≤5000000000∧bif decide (q.num<0) == decide (q_1.num<0) then ∃ u_3 v_3,Sem.natText (u * v)=Sem.natText u_3∧Sem.natText (u_1 * v_1)=Sem.natText v_3∧Sem.dg u_3≤10000000000∧Sem.dg v_3≤10000000000∧∃ u v,Sem.natText (u_3+v_3)=Sem.natText u∧Sem.natText (u_2 * v_2)=Sem.natText v∧0<v∧Sem.dg u≤9000000000∧Sem.dg v≤9000000000∧K (AV.str (Sem.ratText (Sem.mkq (decide (q.num<0)) u v))) [] else ∃ u_3 v_3,Sem.natText (u * v)=Sem.natText u_3∧Sem.natText (u_1 * v_1)=Sem.natText v_3∧bif decide (Pure.cmpI (↑u_3:Int) (↑v_3:Int)<0) then ∃ u_4 v_4,Sem.natText (u_1 * v_1)=Sem.natText u_4∧Sem.natText (u * v)=Sem.natText v_4∧Sem.dg u_4≤10000000000∧v_4≤u_4∧∃ u v,Sem.natText (u_4 - v_4)=Sem.natText u∧Sem.natText (u_2 * v_2)=Sem.natText v∧0<v∧Sem.dg u≤9000000000∧Sem.dg v≤9000000000∧K (AV.str (Sem.ratText (Sem.mkq (decide (q_1.num<0)) u v))) [] else ∃ u_4 v_4,Sem.natText (u * v)=Sem.natText u_4∧Sem.natText (u_1 * v_1)=Sem.natText v_4∧Sem.dg u_4≤10000000000∧v_4≤u_4∧∃ u v,Sem.natText (u_4 - v_4)=Sem.natText u∧Sem.natText (u_2 * v_2)=Sem.natText v∧0<v∧Sem.dg u≤9000000000∧Sem.dg v≤9000000000∧K (AV.str (Sem.ratText (Sem.mkq (decide (q.num<0)) u v))) []):=by kernel_rfl
def aMB : List (Nat × List Nat):=[]
def aMC : List (Nat × ETy):=[]
theorem aYY (s t:ByteArray) (n0:Nat) (K:AV→List aA→Prop) :
 aH tab (aM tab qY [] 400) (aL aMB aMC (aB Tryz.prog n0 44 K)) (aI tab (fnT Tryz.f44).res K) 400 [.code (fnT Tryz.f44).body] ⟨aO (fnT Tryz.f44).n [AV.str s,AV.str t],[]⟩ =
 (∃ q,t=Sem.ratText q∧Sz 4000000000 q∧∃ x y,s=Sem.ratText x∧Sem.ratText (-q)=Sem.ratText y∧Sz 4000000000 x∧Sz 4000000000 y∧K (AV.str (Sem.ratText (x+y))) []):=by kernel_rfl
def aMD : List (Nat × List Nat):=[]
def aME : List (Nat × ETy):=[]
theorem aYZ (s t:ByteArray) (n0:Nat) (K:AV→List aA→Prop) :
 aH tab (aM tab nS [] 400) (aL aMD aME (aB Tryz.prog n0 51 K)) (aI tab (fnT Tryz.f51).res K) 400 [.code (fnT Tryz.f51).body] ⟨aO (fnT Tryz.f51).n [AV.str s,AV.str t],[]⟩ =
 (∃ q,s=Sem.ratText q∧Sz 9000000000 q∧∃ q_1,t=Sem.ratText q_1∧Sz 9000000000 q_1∧∃ u v,Sem.natText q.num.natAbs=Sem.natText u∧Sem.natText q_1.num.natAbs=Sem.natText v∧Sem.dg u≤5000000000∧Sem.dg v≤5000000000∧∃ u_1 v_1,Sem.natText q.den=Sem.natText u_1∧Sem.natText q_1.den=Sem.natText v_1∧Sem.dg u_1≤5000000000∧Sem.dg v_1≤5000000000∧∃ u_2 v_2,Sem.natText (u * v)=Sem.natText u_2∧Sem.natText (u_1 * v_1)=Sem.natText v_2∧0<v_2∧Sem.dg u_2≤9000000000∧Sem.dg v_2≤9000000000∧K (AV.str (Sem.ratText (Sem.mkq (!decide (q.num<0) == decide (q_1.num<0)) u_2 v_2))) []):=by kernel_rfl
def aMF : List (Nat × List Nat):=[]
def aMG : List (Nat × ETy):=[]
theorem aY0 (s t:ByteArray) (n0:Nat) (K:AV→List aA→Prop) :
 aH tab (aM tab nS [] 400) (aL aMF aMG (aB Tryz.prog n0 18 K)) (aI tab (fnT Tryz.f18).res K) 400 [.code (fnT Tryz.f18).body] ⟨aO (fnT Tryz.f18).n [AV.str s,AV.str t],[]⟩ =
 (∃ q,s=Sem.ratText q∧Sz 9000000000 q∧∃ q_1,t=Sem.ratText q_1∧Sz 9000000000 q_1∧∃ u v,Sem.natText q.num.natAbs=Sem.natText u∧Sem.natText q_1.den=Sem.natText v∧Sem.dg u≤5000000000∧Sem.dg v≤5000000000∧∃ u_1 v_1,Sem.natText q.den=Sem.natText u_1∧Sem.natText q_1.num.natAbs=Sem.natText v_1∧Sem.dg u_1≤5000000000∧Sem.dg v_1≤5000000000∧∃ u_2 v_2,Sem.natText (u * v)=Sem.natText u_2∧Sem.natText (u_1 * v_1)=Sem.natText v_2∧0<v_2∧Sem.dg u_2≤9000000000∧Sem.dg v_2≤9000000000∧K (AV.str (Sem.ratText (Sem.mkq (!decide (q.num<0) == decide (q_1.num<0)) u_2 v_2))) []):=by kernel_rfl
def aMH : List (Nat × List Nat):=[]
def aMI : List (Nat × ETy):=[]
theorem aY1 (s:ByteArray) (n0:Nat) (K:AV→List aA→Prop) :
 aH tab (aM tab nS [] 400) (aL aMH aMI (aB Tryz.prog n0 43 K)) (aI tab (fnT Tryz.f43).res K) 400 [.code (fnT Tryz.f43).body] ⟨aO (fnT Tryz.f43).n [AV.str s],[]⟩ =
 (∃ q,s=Sem.ratText q∧Sz 9000000000 q∧bif (Sem.natText q.num.natAbs).toList == (ByteArray.mk #[48]).toList then K (AV.int .i64 0) [] else bif decide (q.num<0) then K (AV.int .i64 (-1)) [] else K (AV.int .i64 1) []):=by kernel_rfl
def aMJ : List (Nat × List Nat):=[]
def aMK : List (Nat × ETy):=[]
theorem aY2 (s t:ByteArray) (n0:Nat) (K:AV→List aA→Prop) :
 aH tab (aM tab aK7 [] 400) (aL aMJ aMK (aB Tryz.prog n0 13 K)) (aI tab (fnT Tryz.f13).res K) 400 [.code (fnT Tryz.f13).body] ⟨aO (fnT Tryz.f13).n [AV.str s,AV.str t],[]⟩ =
 (∃ x y,s=Sem.ratText x∧t=Sem.ratText y∧Sz 4000000000 x∧Sz 4000000000 y∧∃ q,Sem.ratText (x - y)=Sem.ratText q∧Sz 9000000000 q∧K (AV.int .i64 (Sem.sgn q)) []):=by kernel_rfl
end
end Go.Proofs.YtehakimmioclkaaGreatDoor.Mach
end
section
set_option linter.unusedSimpArgs false
set_option linter.unusedVariables false
namespace Go.Proofs.YtehakimmioclkaaGreatDoor.Lib
open Go Go.Proofs.YtehakimmioclkaaGreatDoor.Mach Go.Proofs.YtehakimmioclkaaGreatDoorW.PrintWords Go.Proofs.YtehakimmioclkaaGreatDoor.Sem Go.Proofs.YtehakimmioclkaaGreatDoor.Pure
section
theorem iI {Q:Res} {s:ByteArray} {H:List aA} (h:Q (.str s) []):aQ Q (.str s) H:=bO h rfl rfl
theorem cS {Q:Res} {k:IntKind} {n:Int} {H:List aA} (h:Q (.int k n) []):aQ Q (.int k n) H:=bO h rfl rfl
theorem aML {Q:Res} {n:Bool} {H:List aA} (h:Q (.bool n) []):aQ Q (.bool n) H:=bO h rfl rfl
theorem aMM (s:ByteArray) (i:Nat) (h:i<s.size):s[i]! = s.data.toList.getD i 0:=by
 rw [wN s i h,List.getD_eq_getElem?_getD,List.getD_eq_getElem?_getD,List.getElem?_eq_getElem (by rw [Array.length_toList]; exact h)]
 rfl
theorem aMN {s:ByteArray} {i:Nat} (hi:i<s.size) (h:s.data.toList.getD i 0=47):0≤firstIdx s 47∧firstIdx s 47≤i:=by
 rw [← aMM s i hi] at h
 unfold firstIdx
 split
 · rename_i j hj
   obtain ⟨h1,h2,h3⟩:=List.find?_range_eq_some.1 hj
   refine ⟨by omega,?_⟩
   have:j≤i:=Nat.le_of_not_lt fun hl=>by
    have:=h3 i hl
    rw [h] at this
    simp at this
   omega
 · rename_i hn
   have:=(List.find?_eq_none.1 hn) i (by simpa using hi)
   rw [h] at this
   simp at this
theorem aCZ {s:ByteArray} {i:Nat} (hi:i<s.size) (h:s.data.toList.getD i 0≠47):firstIdx s 47≠i:=by
 rw [← aMM s i hi] at h
 unfold firstIdx
 split
 · rename_i j hj
   obtain ⟨h1,h2,h3⟩:=List.find?_range_eq_some.1 hj
   intro he
   have:j=i:=by omega
   rw [this] at h1
   exact h (by simpa using h1)
 · omega
theorem b47 {s:ByteArray} {i:Nat}:(((s.data.toList.getD i 0).toNat:Int)=47)↔s.data.toList.getD i 0=47 :=
 ⟨fun h => by have:(s.data.toList.getD i 0).toNat=(47:UInt8).toNat:=by rw [show (47:UInt8).toNat=47 from rfl]; omega
              exact UInt8.toNat_inj.1 this,fun h=>by rw [h]; rfl⟩
theorem b45 {s:ByteArray} (hs:0<s.size):(((s.data.toList.getD 0 0).toNat:Int)=45)↔bC s=true:=by
 unfold bC
 rw [decide_eq_true (show 1≤s.size by omega),cond_true,beq_iff_eq,ByteArray.toList_eq,ByteArray.toList_eq,ByteArray.data_extract,Array.toList_extract,List.extract_eq_take_drop]
 have hl:s.data.toList.length=s.size:=by rw [Array.length_toList]; rfl
 match hd:s.data.toList with
 | []=>rw [hd] at hl; simp at hl; omega
 | c :: r =>
   simp only [List.getD_cons_zero,List.drop_zero,Nat.sub_zero,List.take_succ_cons,List.take_zero,List.cons.injEq,and_true]
   exact ⟨fun h=>UInt8.toNat_inj.1 (by rw [show (45:UInt8).toNat=45 from rfl]; omega),fun h=>by rw [h]; rfl⟩
theorem aMO (r:ByteArray) (hr:r.size≤1000000000000) {S:Nat→St} {f:FuncId} {gn:FnT} (hg:find tab.fn f=some gn) {LT:List (Nat × List Nat)} {NT:List (Nat × ETy)} {C:FuncId→List AV→Res→Prop} (hC:∀ g xs Q,C g xs Q→Con Tryz.prog g xs Q) {K:Res} {n0 reg:Nat} {A B:Prop}
 (hE:∀ x:Nat,x≤r.size→(bif decide ((x:Int)<(r.size:Int)) then (bif decide (((r.data.toList.getD x 0).toNat:Int)=47) then (firstIdx r 47=x∧A) else aB Tryz.prog n0 f K (aF gn reg) (S (x+1))) else B)→aH tab (aM tab C [] 400) (aL LT NT (aB Tryz.prog n0 f K)) (aI tab gn.res K) 400 (aU gn reg) (S x))
 (hA:bD r=true→A) (hB:bD r=false→B):aB Tryz.prog n0 f K (aF gn reg) (S 0):=by
 refine c8 hg hC (inl:=[]) (LT:=LT) (NT:=NT) (S:=S) (fun x=>r.size - x) (fun x=>x≤r.size∧(firstIdx r 47<0∨(x:Int)≤firstIdx r 47)) (fun x hp ih=>hE x hp.1 ?_) 0 ⟨Nat.zero_le _,by omega⟩
 obtain ⟨hp,hq⟩:=hp
 have hl:=qW r 47
 by_cases hx:x<r.size
 · refine aC (by omega) ?_
   by_cases h47:r.data.toList.getD x 0=47
   · have:=aMN hx h47
     refine aC (b47.2 h47) ⟨by omega,hA ?_⟩
     unfold bD
     exact decide_eq_true (by omega)
   · refine aG (fun h=>h47 (b47.1 h)) (ih (x+1) ⟨by omega,?_⟩ (by omega))
     have:=aCZ hx h47
     omega
 · refine aG (by omega) (hB ?_)
   unfold bD
   exact decide_eq_false (by omega)
theorem aC0 {s:ByteArray} (h:bC s=true):aK s=s.extract 1 s.size:=by unfold aK; rw [h]; rfl
theorem aC1 {s:ByteArray} (h:¬ bC s=true):aK s=s:=by
 unfold aK
 cases hb:bC s
 · rfl
 · exact absurd hb h
theorem rA {r:ByteArray} {x:Nat} (he:firstIdx r 47=x):r.extract 0 x=bF r∧r.extract (x+1) r.size=bK r:=by
 have hI:bD r=true:=by unfold bD; exact decide_eq_true (by omega)
 unfold bF bK
 rw [hI,he,Int.toNat_natCast]
 exact ⟨rfl,rfl⟩
theorem aY3 {s:ByteArray} {Q:Res} (h:aK2 s Q):Con Tryz.prog 37 [.str s] Q:=by
 obtain ⟨q,rfl,sq,hq⟩:=h
 refine aW (gn:=fnT Tryz.f37) (by kernel_rfl) bT (inl:=[]) (LT:=nY) (NT:=nZ) rfl fun n0=>?_
 rw [aYM]
 obtain ⟨p1,p2,p3,p4⟩:=aCU (decide (q.num<0)) q.num.natAbs q.den
 have hs:=aL1 q
 have hp:=qU q.num.natAbs
 have e1:=dV sq
 have e2:=d8 sq
 have e3:szN q=dg q.num.natAbs:=rfl
 have e4:szD q=dg q.den:=rfl
 have hr:=aCX (ratText q)
 change bC (ratText q)=_ at p1
 change bF (aK (ratText q))=_ at p2
 change bD (aK (ratText q))=_ at p3
 change q.den≠1→bK (aK (ratText q))=_ at p4
 generalize ratText q=s at *
 have hA:∀ b r,b=decide (q.num<0)→r=aK s→bD r=true→aQ Q (.tup [.bool b, .str (bF r), .str (bK r)]) []:=by
  rintro b r rfl rfl hI
  rw [p3] at hI
  rw [p2,p4 (of_decide_eq_true hI)]
  exact bO hq rfl rfl
 have hB:∀ b r,b=decide (q.num<0)→r=aK s→bD r=false→aQ Q (.tup [.bool b, .str r, .str ⟨#[49]⟩]) []:=by
  rintro b r rfl rfl hI
  have ha:bF (aK s)=aK s:=by unfold bF; rw [hI]; rfl
  rw [p3] at hI
  have h1:q.den=1:=by simpa using hI
  rw [h1,natText_one] at hq
  rw [← ha,p2]
  exact bO hq rfl rfl
 refine aC (by omega) ?_
 by_cases hb:bC s=true
 · refine aC ((b45 (by omega)).2 hb) ?_
   refine aN (aC (by omega) (aC (by omega) ?_))
   rw [decide_eq_true ((b45 (by omega)).2 hb),Int.toNat_natCast,← aC0 hb]
   have hbb:true=decide (q.num<0):=by rw [← p1,hb]
   refine aMO (aK s) (by omega) (S:=fun x:Nat=>w4 s (aK s) true ((aK s).size:Int) (x:Int)) (by kernel_rfl) (LT:=nY) (NT:=nZ) bT (fun x hx h=>?_) (hA true (aK s) hbb rfl) (hB true (aK s) hbb rfl)
   rw [aYN]
   by_cases hlt:x<(aK s).size
   · refine aC (by omega) (aN (aC (by omega) (aC (by omega) ?_)))
     rw [decide_eq_true (by omega),cond_true] at h
     rw [Int.toNat_natCast]
     rw [show IntKind.i64.wrap ((x:Int)+1)=((x+1:Nat):Int) by rw [wr (by omega) (by omega)]; omega]
     by_cases h47:(((aK s).data.toList.getD x 0).toNat:Int)=47
     · rw [decide_eq_true h47,cond_true] at h
       refine aC h47 (aN (aC (by omega) (aC (by omega) (aN (aN (aC (by omega) (aC (by omega) (aC (by omega) ?_))))))))
       rw [Int.toNat_natCast,Int.toNat_natCast,(rA h.1).1,(rA h.1).2]
       exact h.2
     · rw [decide_eq_false h47,cond_false] at h
       exact aG h47 h
   · rw [decide_eq_false (by omega),cond_false] at h
     exact aG (by omega) h
 · refine aG (fun h=>hb ((b45 (by omega)).1 h)) ?_
   rw [decide_eq_false (fun h=>hb ((b45 (by omega)).1 h))]
   have hbb:false=decide (q.num<0):=by
    rw [← p1]
    cases hc:bC s
    · rfl
    · exact absurd hc hb
   have hss:=aC1 hb
   refine aMO s (by omega) (S:=fun x:Nat=>w5 s false (s.size:Int) (x:Int)) (by kernel_rfl) (LT:=nY) (NT:=nZ) bT (fun x hx h=>?_) (hA false s hbb hss.symm) (hB false s hbb hss.symm)
   rw [aYO]
   by_cases hlt:x<(s).size
   · refine aC (by omega) (aN (aC (by omega) (aC (by omega) ?_)))
     rw [decide_eq_true (by omega),cond_true] at h
     rw [Int.toNat_natCast]
     rw [show IntKind.i64.wrap ((x:Int)+1)=((x+1:Nat):Int) by rw [wr (by omega) (by omega)]; omega]
     by_cases h47:(((s).data.toList.getD x 0).toNat:Int)=47
     · rw [decide_eq_true h47,cond_true] at h
       refine aC h47 (aN (aC (by omega) (aC (by omega) (aN (aN (aC (by omega) (aC (by omega) (aC (by omega) ?_))))))))
       rw [Int.toNat_natCast,Int.toNat_natCast,(rA h.1).1,(rA h.1).2]
       exact h.2
     · rw [decide_eq_false h47,cond_false] at h
       exact aG h47 h
   · rw [decide_eq_false (by omega),cond_false] at h
     exact aG (by omega) h
theorem rB : ∀ g xs Q,nR g xs Q→Con Tryz.prog g xs Q:=dB fun p hp=>by
 simp only [List.mem_cons,List.not_mem_nil,or_false] at hp
 rcases hp with rfl | rfl | rfl | rfl | rfl | rfl | rfl
 · exact bE fun _ _ h=>aXD h
 · exact bG fun _ _ _ h=>aKM h
 · exact bG fun _ _ _ h=>aKH h
 · exact bG fun _ _ _ h=>aKI h
 · exact bG fun _ _ _ h=>aKJ h
 · exact bG fun _ _ _ h=>aKK h
 · exact bG fun _ _ _ h=>aKL h
theorem is0 {n:Nat}:((natText n).toList == (ByteArray.mk #[48]).toList)=true↔n=0:=by
 rw [gT]
 exact ⟨fun h=>qT (h.trans natText_zero.symm),fun h=>by rw [h]; exact natText_zero⟩
theorem is1 {n:Nat}:((natText n).toList == (ByteArray.mk #[49]).toList)=true↔n=1:=by
 rw [q9]
 exact ⟨fun h=>qT (h.trans natText_one.symm),fun h=>by rw [h]; exact natText_one⟩
theorem aY4 {neg:Bool} {n d:ByteArray} {Q:Res} (h:aK3 neg n d Q):Con Tryz.prog 39 [.bool neg, .str n, .str d] Q:=by
 obtain ⟨u,v,rfl,rfl,hv,hbu,hbv,hq⟩:=h
 refine aW (gn:=fnT Tryz.f39) (by kernel_rfl) rB (inl:=[]) (LT:=aL5) (NT:=aL6) rfl fun n0=>?_
 rw [aYP]
 have hk:∀ r,ratText (mkq neg u v)=r→aQ Q (.str r) []:=fun r h=>by rw [h] at hq; exact iI hq
 by_cases h0:u=0
 · exact aP (is0.2 h0) (hk _ (by rw [h0,aCM]; exact ratText_zero))
 refine aY (fun h=>h0 (is0.1 h)) ?_
 have hg:0<Nat.gcd u v:=Nat.gcd_pos_of_pos_right u hv
 have hgb:dg (Nat.gcd u v)≤9000000000:=Nat.le_trans (fA (Nat.le_of_dvd hv (Nat.gcd_dvd_right u v))) hbv
 have hr:=aCN (neg:=neg) hv (show 0<u by omega)
 rw [hr] at hk
 have s1:dg (u / Nat.gcd u v)≤9000000000:=Nat.le_trans (fA (Nat.div_le_self _ _)) hbu
 have s2:dg (v / Nat.gcd u v)≤9000000000:=Nat.le_trans (fA (Nat.div_le_self _ _)) hbv
 refine ⟨u,v,rfl,rfl,hbu,hbv,_,_,rfl,rfl,hbu,hgb,hg,_,_,rfl,rfl,hbv,hgb,hg,?_⟩
 generalize u / Nat.gcd u v=x at *
 generalize v / Nat.gcd u v=y at *
 have ex:(natText x).size=dg x:=rfl
 have ey:(natText y).size=dg y:=rfl
 have e45:(⟨#[45]⟩ ++ natText x:ByteArray).size=1+dg x:=ByteArray.size_append
 have e47:(natText x ++ ⟨#[47]⟩:ByteArray).size=dg x+1:=ByteArray.size_append
 have e457:(⟨#[45]⟩ ++ natText x ++ ⟨#[47]⟩:ByteArray).size=1+dg x+1:=by rw [ByteArray.size_append,e45]; rfl
 unfold rt at hk
 cases neg with
 | true =>
   refine bS (aC (by omega) ?_)
   by_cases h1:y=1
   · rw [if_pos h1,k8] at hk
     exact aP (is1.2 h1) (hk _ rfl)
   · rw [if_neg h1,← ByteArray.append_assoc] at hk
     exact aY (fun h=>h1 (is1.1 h)) (aC (by omega) (aC (by omega) (hk _ rfl)))
 | false =>
   refine bU ?_
   by_cases h1:y=1
   · rw [if_pos h1,k8,cond_false,k9] at hk
     exact aP (is1.2 h1) (hk _ rfl)
   · rw [if_neg h1,← ByteArray.append_assoc,cond_false,k9] at hk
     exact aY (fun h=>h1 (is1.1 h)) (aC (by omega) (aC (by omega) (hk _ rfl)))
theorem rC : ∀ g xs Q,nS g xs Q→Con Tryz.prog g xs Q:=dB fun p hp=>by
 simp only [List.mem_cons,List.not_mem_nil,or_false] at hp
 rcases hp with rfl | rfl | rfl | rfl | rfl | rfl | rfl | rfl
 · exact bG fun _ _ _ h=>aKM h
 · exact bG fun _ _ _ h=>aKH h
 · exact bG fun _ _ _ h=>aKI h
 · exact bG fun _ _ _ h=>aKJ h
 · exact bG fun _ _ _ h=>aKK h
 · exact bG fun _ _ _ h=>aKL h
 · exact bE fun _ _ h=>aY3 h
 · exact aG8 fun _ _ _ _ h=>aY4 h
end
section
theorem Sz.mono {k m:Nat} {q:Rat} (h:Sz k q) (hk:k≤m):Sz m q:=⟨Nat.le_trans h.1 hk,Nat.le_trans h.2 hk⟩
theorem aY5 (q:Rat):mkq (!decide (q.num<0)) q.num.natAbs q.den = -q:=by
 rw [← aXM,fM]
theorem aY6 {s:ByteArray} {Q:Res} (h:xneg s Q):Con Tryz.prog 73 [.str s] Q:=by
 obtain ⟨q,rfl,sq,hq⟩:=h
 refine aW (gn:=fnT Tryz.f73) (by kernel_rfl) rC (inl:=[]) (LT:=aL7) (NT:=aL8) rfl fun n0=>?_
 rw [aYW]
 have e1:=dV sq
 have e2:=d8 sq
 rw [← aY5] at hq
 exact ⟨q,rfl,sq.mono (by decide),_,_,rfl,rfl,eF q,by omega,by omega,iI hq⟩
theorem aC2 {s t:ByteArray} {Q:Res} (h:wU s t Q):Con Tryz.prog 11 [.str s, .str t] Q:=by
 obtain ⟨x,y,rfl,rfl,sx,sy,hq⟩:=h
 refine aW (gn:=fnT Tryz.f11) (by kernel_rfl) rC (inl:=[]) (LT:=aL9) (NT:=aMA) rfl fun n0=>?_
 rw [aYX]
 have e1:=dV sx; have e2:=d8 sx; have e3:=dV sy; have e4:=d8 sy
 have m1:=fB e1 e4
 have m2:=fB e3 e2
 have m3:=fB e2 e4
 have px:=eF x
 have py:=eF y
 have hsum:x+y=mkq (decide (x.num<0)) x.num.natAbs x.den+mkq (decide (y.num<0)) y.num.natAbs y.den:=by rw [fM,fM]
 rw [wO _ _ _ _ _ _ px py] at hsum
 refine ⟨x,rfl,sx.mono (by decide),y,rfl,sy.mono (by decide),_,_,rfl,rfl,by omega,by omega,_,_,rfl,rfl,by omega,by omega,_,_,rfl,rfl,by omega,by omega,?_⟩
 by_cases hb:decide (x.num<0)=decide (y.num<0)
 · rw [if_pos hb] at hsum
   rw [hsum] at hq
   refine aP (by rw [hb,beq_self_eq_true]) ⟨_,_,rfl,rfl,by omega,by omega,_,_,rfl,rfl,Nat.mul_pos px py,?_,by omega,iI hq⟩
   have:=wL m1 m2; omega
 · rw [if_neg hb] at hsum
   refine aY (by simpa using hb) ⟨_,_,rfl,rfl,?_⟩
   by_cases hc:y.num.natAbs * x.den≤x.num.natAbs * y.den
   · rw [if_pos hc] at hsum
     rw [hsum] at hq
     refine aG (fun h=>by have:=wZ.2 hc; omega) ⟨_,_,rfl,rfl,by omega,hc,_,_,rfl,rfl,Nat.mul_pos px py,?_,by omega,iI hq⟩
     have:=fA (Nat.sub_le (x.num.natAbs * y.den) (y.num.natAbs * x.den)); omega
   · rw [if_neg hc] at hsum
     rw [hsum] at hq
     refine aC (Int.not_le.1 fun h=>hc (wZ.1 h)) ⟨_,_,rfl,rfl,by omega,by omega,_,_,rfl,rfl,Nat.mul_pos px py,?_,by omega,iI hq⟩
     have:=fA (Nat.sub_le (y.num.natAbs * x.den) (x.num.natAbs * y.den)); omega
theorem aY7 {s t:ByteArray} {Q:Res} (h:xmul s t Q):Con Tryz.prog 51 [.str s, .str t] Q:=by
 obtain ⟨x,y,rfl,rfl,sx,sy,hq⟩:=h
 refine aW (gn:=fnT Tryz.f51) (by kernel_rfl) rC (inl:=[]) (LT:=aMD) (NT:=aME) rfl fun n0=>?_
 rw [aYZ]
 have e1:=dV sx; have e2:=d8 sx; have e3:=dV sy; have e4:=d8 sy
 have m1:=fB e1 e3
 have m3:=fB e2 e4
 have hprod:x * y=mkq (decide (x.num<0)) x.num.natAbs x.den * mkq (decide (y.num<0)) y.num.natAbs y.den:=by rw [fM,fM]
 rw [aKX] at hprod
 rw [hprod] at hq
 exact ⟨x,rfl,sx.mono (by decide),y,rfl,sy.mono (by decide),_,_,rfl,rfl,by omega,by omega,_,_,rfl,rfl,by omega,by omega,_,_,rfl,rfl,Nat.mul_pos (eF x) (eF y),by omega,by omega,iI hq⟩
theorem aY8 {s t:ByteArray} {Q:Res} (h:xdiv s t Q):Con Tryz.prog 18 [.str s, .str t] Q:=by
 obtain ⟨x,y,rfl,rfl,sx,sy,h1,hq⟩:=h
 refine aW (gn:=fnT Tryz.f18) (by kernel_rfl) rC (inl:=[]) (LT:=aMF) (NT:=aMG) rfl fun n0=>?_
 rw [aY0]
 have e1:=dV sx; have e2:=d8 sx; have e3:=dV sy; have e4:=d8 sy
 have m1:=fB e1 e4
 have m3:=fB e2 e3
 have hy:0<y.num.natAbs:=by
  have:y.num≠0:=fun h=>h1 (Rat.num_eq_zero.1 h)
  omega
 have hquo:x / y=mkq (decide (x.num<0)) x.num.natAbs x.den / mkq (decide (y.num<0)) y.num.natAbs y.den:=by rw [fM,fM]
 rw [aKY _ _ _ _ _ _ (eF x) hy (eF y)] at hquo
 rw [hquo] at hq
 exact ⟨x,rfl,sx.mono (by decide),y,rfl,sy.mono (by decide),_,_,rfl,rfl,by omega,by omega,_,_,rfl,rfl,by omega,by omega,_,_,rfl,rfl,Nat.mul_pos (eF x) hy,by omega,by omega,iI hq⟩
theorem aY9 {s:ByteArray} {Q:Res} (h:aK4 s Q):Con Tryz.prog 43 [.str s] Q:=by
 obtain ⟨q,rfl,sq,hq⟩:=h
 refine aW (gn:=fnT Tryz.f43) (by kernel_rfl) rC (inl:=[]) (LT:=aMH) (NT:=aMI) rfl fun n0=>?_
 rw [aY1]
 unfold sgn at hq
 refine ⟨q,rfl,sq,?_⟩
 by_cases h0:q.num=0
 · rw [if_pos h0] at hq
   exact aP (is0.2 (by omega)) (cS hq)
 · rw [if_neg h0] at hq
   refine aY (fun h=>h0 (by have:=is0.1 h; omega)) ?_
   by_cases h1:q.num<0
   · rw [if_pos h1] at hq
     exact aC h1 (cS hq)
   · rw [if_neg h1] at hq
     exact aG h1 (cS hq)
end
end Go.Proofs.YtehakimmioclkaaGreatDoor.Lib
end
section
set_option linter.unusedSimpArgs false
set_option linter.unusedVariables false
namespace Go.Proofs.YtehakimmioclkaaGreatDoor.Lib
open Go Go.Proofs.YtehakimmioclkaaGreatDoor.Mach Go.Proofs.YtehakimmioclkaaGreatDoorW.PrintWords Go.Proofs.YtehakimmioclkaaGreatDoor.Sem Go.Proofs.YtehakimmioclkaaGreatDoor.Pure Go.Proofs.YtehakimmioclkaaGreatDoor.NatVal
section
theorem aZA {n:Int} (h:n<0):ratText (n:Rat)=⟨#[45]⟩ ++ natText n.natAbs:=by
 unfold ratText rt
 rw [Rat.num_intCast,Rat.den_intCast,decide_eq_true h,if_pos rfl,k8]
 rfl
theorem aZB {n:Int} (h:0≤n):ratText (n:Rat)=natText n.toNat:=by
 rw [← aKZ]
 congr 1
 obtain ⟨m,rfl⟩:=Int.eq_ofNat_of_zero_le h
 rw [Int.toNat_natCast]; rfl
theorem aZC : natText 9223372036854775808=⟨#[57,50,50,51,51,55,50,48,51,54,56,53,52,55,55,53,56,48,56]⟩:=by
 refine (gS ?_).symm
 refine ⟨?_,?_,by decide,fun _=>by decide⟩
 · unfold asc; decide
 · decide
theorem aZD {n:Int} {Q:Res} (h:xint n Q):Con Tryz.prog 19 [.int .i64 n] Q:=by
 obtain ⟨⟨h1,h2⟩,hq⟩:=h
 by_cases h0:0≤n
 · rw [aZB h0] at hq
   exact aKN ⟨⟨h0,h2⟩,hq⟩
 · rw [aZA (by omega)] at hq
   refine aW (gn:=fnT Tryz.f19) (by kernel_rfl) aVG (inl:=[]) (LT:=aIR) (NT:=aIS) rfl fun n0=>?_
   rw [aU2]
   refine aG h0 ?_
   by_cases hm:n = -9223372036854775808
   · refine aC hm (iI ?_)
     rw [hm,show (-9223372036854775808:Int).natAbs=9223372036854775808 from rfl,aZC] at hq
     exact hq
   · refine aG hm ?_
     rw [wr (by omega) (by omega)]
     obtain ⟨r,g1,g2,_⟩:=aJZ (0 - n).toNat (by omega)
     rw [gS g2,Int.toNat_of_nonneg (by omega)] at g1
     obtain ⟨k,hk⟩:=g1.rounds
     refine ⟨by omega,k,_,hk,aC ?_ (iI ?_)⟩
     · have:(natText (0 - n).toNat).size=dg (0 - n).toNat:=rfl
       have:=aYJ (n:=(0 - n).toNat) (by omega)
       omega
     · rw [show (0 - n).toNat=n.natAbs by omega]
       exact hq
theorem aZE : natErr (⟨#[50]⟩:ByteArray)=0:=by
 rw [← aXA]
 exact aYK (Nat.le_trans (qV (k:=1) (by decide) (by decide)) (by decide))
noncomputable def rD (neg:Bool) (a b:ByteArray) (m:Int):Int :=
 if natErr a=5∨natErr b=5∨(neg=true∧a=zeroS) then 5 else if natErr a≠0∨natErr b≠0 then 2
 else if m=2∧(b=zeroS∨b=⟨#[49]⟩∨Nat.gcd (iG a) (iG b)≠1) then 3 else 0
theorem aZF (s:ByteArray):eG s=rD (bC s) (bF (aK s)) (bif bD (aK s) then bK (aK s) else ⟨#[50]⟩) (bif bD (aK s) then 2 else 1):=by
 unfold eG rD
 cases hI:bD (aK s) with
 | true=>simp only [true_and,cond_true]
 | false =>
   have:=aZE
   simp only [Bool.false_eq_true,false_and,or_false,false_or,cond_false,this]
   simp
section
variable {a b:ByteArray} {m:Int} {neg:Bool} {K:Res}
theorem aMP (hk:∀ v,rD neg a b m=v→K (.int .i64 v) []) (hm:m=1∨m=2) (h5:¬ (natErr a=5∨natErr b=5∨(neg=true∧a=zeroS))) :
 bif !decide (natErr a=0) then K (AV.int IntKind.i64 2) [] else bif bif false then true else !decide (natErr b=0) then K (AV.int IntKind.i64 2) [] else bif decide (m=2) then bif b.toList == (ByteArray.mk #[48]).toList then K (AV.int IntKind.i64 3) [] else bif bif false then true else b.toList == (ByteArray.mk #[49]).toList then K (AV.int IntKind.i64 3) [] else ∃ u v,a=Sem.natText u∧b=Sem.natText v∧Sem.dg u≤9000000000∧Sem.dg v≤9000000000∧bif bif true then bif false then true else !(Sem.natText (u.gcd v)).toList == (ByteArray.mk #[49]).toList else false then K (AV.int IntKind.i64 3) [] else K (AV.int IntKind.i64 0) [] else K (AV.int IntKind.i64 0) []:=by
 unfold rD at hk
 rw [if_neg h5] at hk
 by_cases e1:natErr a=0
 · refine aR (aC e1 ?_)
   by_cases e2:natErr b=0
   · refine aY (by simp [e2]) ?_
     rw [if_neg (by rintro (h | h) <;> exact h (by assumption))] at hk
     rcases hm with hm | hm
     · exact aG (by omega) (hk 0 (if_neg fun h=>by omega))
     · refine aC hm ?_
       by_cases f1:b=zeroS
       · exact aP (gT.2 f1) (hk 3 (if_pos ⟨hm, .inl f1⟩))
       refine aY (fun h=>f1 (gT.1 h)) ?_
       by_cases f2:b=⟨#[49]⟩
       · exact aP (q9.2 f2) (hk 3 (if_pos ⟨hm, .inr (.inl f2)⟩))
       refine aY (fun h=>f2 (q9.1 h)) ?_
       obtain ⟨u,rfl,hu⟩:=nX e1
       obtain ⟨v,rfl,hv⟩:=nX e2
       rw [jS,jS] at hk
       refine ⟨u,v,rfl,rfl,by omega,by omega,?_⟩
       by_cases f3:Nat.gcd u v=1
       · refine aY (by rw [cond_true,cond_false,Bool.not_eq_true', ← Bool.not_eq_true]; exact fun h=>h (is1.2 f3)) (hk 0 (if_neg ?_))
         rintro ⟨_,h | h | h⟩
         · exact f1 h
         · exact f2 h
         · exact h f3
       · exact aP (by rw [cond_true,cond_false,Bool.not_eq_true', ← Bool.not_eq_true]; exact fun h=>f3 (is1.1 h)) (hk 3 (if_pos ⟨hm, .inr (.inr f3)⟩))
   · exact aP (by simp [e2]) (hk 2 (if_pos (.inr e2)))
 · exact aR (aG e1 (hk 2 (if_pos (.inl e1))))
end
noncomputable def cP (r:ByteArray) (x:Nat):ByteArray × ByteArray × Int:=if 0≤firstIdx r 47∧firstIdx r 47<x then (bF r,bK r,2) else (r,⟨#[50]⟩,1)
theorem aMQ (r:ByteArray):cP r 0=(r,⟨#[50]⟩,1):=if_neg fun h=>by omega
theorem aZG (r:ByteArray):cP r r.size=(bF r,bif bD r then bK r else ⟨#[50]⟩,bif bD r then 2 else 1):=by
 have:=qW r 47
 unfold cP
 cases hI:bD r with
 | true =>
   rw [if_pos ⟨by unfold bD at hI; exact of_decide_eq_true hI,this.2⟩]; rfl
 | false =>
   have ha:bF r=r:=by unfold bF; rw [hI]; rfl
   rw [if_neg fun h=>by unfold bD at hI; exact of_decide_eq_false hI h.1,ha]; rfl
theorem aMR {r:ByteArray} {x:Nat} (hx:x<r.size) (h:r.data.toList.getD x 0=47) (h1:(cP r x).2.2=1):cP r x=(r,⟨#[50]⟩,1)∧cP r (x+1)=(r.extract 0 x,r.extract (x+1) r.size,2):=by
 have hn:¬ (0≤firstIdx r 47∧firstIdx r 47<x):=fun hc=>by
  unfold cP at h1
  rw [if_pos hc] at h1
  simp at h1
 have:=aMN hx h
 refine ⟨if_neg hn,?_⟩
 obtain ⟨c1,c2⟩:=rA (r:=r) (x:=x) (by omega)
 unfold cP
 rw [if_pos ⟨this.1,by omega⟩,c1,c2]
theorem w9 {r:ByteArray} {x:Nat} (hx:x<r.size) (h:r.data.toList.getD x 0≠47∨(cP r x).2.2≠1):cP r (x+1)=cP r x:=by
 unfold cP at h ⊢
 by_cases hc:0≤firstIdx r 47∧firstIdx r 47<x
 · rw [if_pos hc,if_pos ⟨hc.1,by omega⟩]
 · rw [if_neg hc] at h ⊢
   rcases h with h | h
   · have:=aCZ hx h
     rw [if_neg (by omega)]
   · exact absurd rfl h
theorem aZH (r:ByteArray) (x:Nat):(cP r x).2.2=1∨(cP r x).2.2=2:=by
 unfold cP
 split
 · exact .inr rfl
 · exact .inl rfl
theorem aZI (r:ByteArray) (x:Nat):(cP r x).1.size≤r.size∧(cP r x).2.1.size≤r.size+1:=by
 unfold cP
 have h1:=aL3 r
 have h2:=aCY r
 split
 · exact ⟨h1,Nat.le_succ_of_le h2⟩
 · exact ⟨Nat.le_refl _,by show (ByteArray.mk #[50]).size≤_; rw [show (ByteArray.mk #[50]).size=1 from rfl]; omega⟩
theorem wrS {x n:Nat} (h:x<n) (hn:n≤1000000000000000000):IntKind.i64.wrap ((x:Int)+1)=((x+1:Nat):Int):=by rw [wr (by omega) (by omega)]; omega
theorem aZJ {s:ByteArray} {Q:Res} (h:wT s Q):Con Tryz.prog 95 [.str s] Q:=by
 obtain ⟨hs,hq⟩:=h
 unfold Tx at hs
 refine aW (gn:=fnT Tryz.f95) (by kernel_rfl) rB (inl:=[]) (LT:=jU) (NT:=jV) rfl fun n0=>?_
 rw [aYQ]
 rw [aZF] at hq
 have hk:∀ v,rD (bC s) (bF (aK s)) (bif bD (aK s) then bK (aK s) else ⟨#[50]⟩) (bif bD (aK s) then 2 else 1)=v→aQ Q (.int .i64 v) []:=fun v h=>by rw [h] at hq; exact cS hq
 have hr:=aCX s
 have hsz:∀ x,(cP (aK s) x).1.size≤1000000000000000∧(cP (aK s) x).2.1.size≤1000000000000000:=fun x=>by
  have:=aZI (aK s) x
  have h2:(cP (aK s) x).2.1.size≤1000000000000000:=by
   unfold cP
   split
   · exact Nat.le_trans (aCY _) (by omega)
   · show (ByteArray.mk #[50]).size≤_; decide
  exact ⟨by omega,h2⟩
 have hm:=aZH (aK s) (aK s).size
 have hall:=aZG (aK s)
 by_cases hb:bC s=true
 · have hs0:0<s.size:=Nat.pos_of_ne_zero fun h=>by
    unfold bC at hb
    rw [h] at hb
    simp at hb
   refine aC (by omega) (aC (by omega) (aP (by rw [cond_true]; exact decide_eq_true ((b45 hs0).2 hb)) (aN (aC (by omega) (aC (by omega) ?_)))))
   rw [Int.toNat_natCast,← aC0 hb]
   have go:=c8 (f:=95) (gn:=fnT Tryz.f95) (n0:=n0) (K:=aQ Q) (r:=6) (by kernel_rfl) rB (inl:=[]) (LT:=jU) (NT:=jV) (fun x:Nat=>n3 s (aK s) (cP (aK s) x).2.2 (cP (aK s) x).1 (cP (aK s) x).2.1 ((aK s).size:Int) (x:Int)) (fun x=>(aK s).size - x) (fun x=>x≤(aK s).size) (fun x hp ih=>by
    rw [aYR]
    by_cases hx:x<(aK s).size
    · refine aC (by omega) (aN (aC (by omega) (aC (by omega) ?_)))
      have ih' := ih (x+1) (by omega) (by omega)
      rw [Int.toNat_natCast,wrS hx (by omega)]
      by_cases h47:(aK s).data.toList.getD x 0=47
      · refine aC (b47.2 h47) ?_
        by_cases h1:(cP (aK s) x).2.2=1
        · refine aP (by rw [cond_true]; exact decide_eq_true h1) (aN (aC (by omega) (aC (by omega) (aN (aN (aC (by omega) (aC (by omega) (aC (by omega) ?_))))))))
          obtain ⟨f1,f2⟩:=aMR hx h47 h1
          rw [f2] at ih'
          rw [Int.toNat_natCast,Int.toNat_natCast]
          exact ih'
        · refine aY (by rw [cond_true]; exact fun h=>h1 (of_decide_eq_true h)) ?_
          rw [w9 hx (.inr h1)] at ih'
          exact ih'
      · refine aG (fun h=>h47 (b47.1 h)) ?_
        rw [w9 hx (.inl h47)] at ih'
        exact ih'
    · refine aG (by omega) ?_
      have hxx:x=(aK s).size:=by omega
      have hz:=hsz x
      rw [hxx] at hz ⊢
      rw [hall] at hm hz ⊢
      refine ⟨hz.1,hz.2,?_⟩
      rw [hb] at hk
      simp only at hm hz ⊢
      generalize bF (aK s)=a at *
      generalize (bif bD (aK s) then bK (aK s) else ⟨#[50]⟩)=b at *
      generalize (bif bD (aK s) then 2 else 1)=m at *
      by_cases h1:natErr a=5
      · exact aC h1 (hk 5 (if_pos (.inl h1)))
      refine aG h1 ?_
      by_cases h2:natErr b=5
      · exact aP (decide_eq_true h2) (hk 5 (if_pos (.inr (.inl h2))))
      refine aY (fun h=>h2 (of_decide_eq_true h)) ?_
      by_cases h3:a=zeroS
      · exact aP (gT.2 h3) (hk 5 (if_pos (.inr (.inr ⟨rfl,h3⟩))))
      refine aY (fun h=>h3 (gT.1 h)) ?_
      refine aMP hk hm ?_
      rintro (h | h | ⟨_,h⟩)
      · exact h1 h
      · exact h2 h
      · exact h3 h) 0 (Nat.zero_le _)
   rw [aMQ] at go
   exact go
 · have hss:=aC1 hb
   have hbf:bC s=false:=by
    cases hc:bC s
    · rfl
    · exact absurd hc hb
   rw [hss] at hall hsz hm hk
   rw [hbf] at hk
   have fin:∀ a b m,cP s s.size=(a,b,m)→a.size≤1000000000000000∧b.size≤1000000000000000∧bif decide (Pure.natErr a=5) then aQ Q (AV.int IntKind.i64 5) [] else bif bif false then true else decide (Pure.natErr b=5) then aQ Q (AV.int IntKind.i64 5) [] else bif !decide (natErr a=0) then aQ Q (AV.int IntKind.i64 2) [] else bif bif false then true else !decide (natErr b=0) then aQ Q (AV.int IntKind.i64 2) [] else bif decide (m=2) then bif b.toList == (ByteArray.mk #[48]).toList then aQ Q (AV.int IntKind.i64 3) [] else bif bif false then true else b.toList == (ByteArray.mk #[49]).toList then aQ Q (AV.int IntKind.i64 3) [] else ∃ u v,a=Sem.natText u∧b=Sem.natText v∧Sem.dg u≤9000000000∧Sem.dg v≤9000000000∧bif bif true then bif false then true else !(Sem.natText (u.gcd v)).toList == (ByteArray.mk #[49]).toList else false then aQ Q (AV.int IntKind.i64 3) [] else aQ Q (AV.int IntKind.i64 0) [] else aQ Q (AV.int IntKind.i64 0) []:=fun a b m he=>by
    have hz:=hsz s.size
    rw [he] at hz hm
    rw [hall] at he
    obtain ⟨ha,he⟩:=Prod.mk.inj he
    obtain ⟨hb', hm'⟩:=Prod.mk.inj he
    rw [ha,hb', hm'] at hk
    refine ⟨hz.1,hz.2,?_⟩
    by_cases h1:natErr a=5
    · exact aC h1 (hk 5 (if_pos (.inl h1)))
    refine aG h1 ?_
    by_cases h2:natErr b=5
    · exact aP (decide_eq_true h2) (hk 5 (if_pos (.inr (.inl h2))))
    refine aY (fun h=>h2 (of_decide_eq_true h)) ?_
    refine aMP hk hm ?_
    rintro (h | h | ⟨h,_⟩)
    · exact h1 h
    · exact h2 h
    · cases h
   have go2:=c8 (f:=95) (gn:=fnT Tryz.f95) (n0:=n0) (K:=aQ Q) (r:=6) (by kernel_rfl) rB (inl:=[]) (LT:=jU) (NT:=jV) (fun x:Nat=>n5 s (cP s x).2.2 (cP s x).1 (cP s x).2.1 (s.size:Int) (x:Int)) (fun x=>s.size - x) (fun x=>x≤s.size∧(cP s x).2.2=2) (fun x hp ih=>by
    rw [aYT]
    obtain ⟨hp,h2⟩:=hp
    by_cases hx:x<s.size
    · have h1:¬ (cP s x).2.2=1:=by omega
      have hsk:=w9 hx (.inr h1)
      refine aC (by omega) (aN (aC (by omega) (aC (by omega) ?_)))
      have ih' := ih (x+1) ⟨by omega,by rw [hsk]; exact h2⟩ (by omega)
      rw [Int.toNat_natCast,wrS hx (by omega)]
      rw [hsk] at ih'
      by_cases h47:s.data.toList.getD x 0=47
      · exact aC (b47.2 h47) (aY (by rw [cond_true]; exact fun h=>h1 (of_decide_eq_true h)) ih')
      · exact aG (fun h=>h47 (b47.1 h)) ih'
    · refine aG (by omega) ?_
      have hxx:x=s.size:=by omega
      subst hxx
      exact fin _ _ _ rfl)
   have go:=c8 (f:=95) (gn:=fnT Tryz.f95) (n0:=n0) (K:=aQ Q) (r:=6) (by kernel_rfl) rB (inl:=[]) (LT:=jU) (NT:=jV) (fun x:Nat=>n4 s 1 ⟨#[50]⟩ (s.size:Int) (x:Int)) (fun x=>s.size - x) (fun x=>x≤s.size∧cP s x=(s,⟨#[50]⟩,1)) (fun x hp ih=>by
    rw [aYS]
    obtain ⟨hp,h2⟩:=hp
    by_cases hx:x<s.size
    · have h1:(cP s x).2.2=1:=by rw [h2]
      refine aC (by omega) (aN (aC (by omega) (aC (by omega) ?_)))
      rw [Int.toNat_natCast,wrS hx (by omega)]
      by_cases h47:s.data.toList.getD x 0=47
      · refine aC (b47.2 h47) (aP (by rw [cond_true]; rfl) (aN (aC (by omega) (aC (by omega) (aN (aN (aC (by omega) (aC (by omega) (aC (by omega) ?_)))))))))
        obtain ⟨f1,f2⟩:=aMR hx h47 h1
        have:=go2 (x+1) ⟨by omega,by rw [f2]⟩
        simp only [f2] at this
        rw [Int.toNat_natCast,Int.toNat_natCast]
        exact this
      · exact aG (fun h=>h47 (b47.1 h)) (ih (x+1) ⟨by omega,by rw [w9 hx (.inl h47)]; exact h2⟩ (by omega))
    · refine aG (by omega) ?_
      have hxx:x=s.size:=by omega
      subst hxx
      exact fin _ _ _ h2) 0 ⟨Nat.zero_le _,aMQ s⟩
   by_cases hs0:0<s.size
   · refine aC (by omega) (aC (by omega) (aY (by rw [cond_true]; exact fun h=>hb ((b45 hs0).1 (of_decide_eq_true h))) go))
   · exact aG (by omega) go
end
end Go.Proofs.YtehakimmioclkaaGreatDoor.Lib
end
section
set_option linter.unusedSimpArgs false
set_option linter.unusedVariables false
namespace Go.Proofs.YtehakimmioclkaaGreatDoor.Lib
open Go Go.Proofs.YtehakimmioclkaaGreatDoor.Mach Go.Proofs.YtehakimmioclkaaGreatDoorW.PrintWords Go.Proofs.YtehakimmioclkaaGreatDoor.Sem Go.Proofs.YtehakimmioclkaaGreatDoor.Pure
section
theorem aZK {s:ByteArray} (h:bC s=true):s=⟨#[45]⟩ ++ aK s:=by
 rw [aC0 h]
 have hd:=h
 unfold bC at hd
 by_cases h1:1≤s.size
 · rw [decide_eq_true h1,cond_true,beq_iff_eq,k7] at hd
   rw [← hd]
   apply ByteArray.ext
   rw [ByteArray.data_append,ByteArray.data_extract,ByteArray.data_extract,Array.extract_append_extract]
   have:s.size=s.data.size:=rfl
   rw [this,Nat.min_eq_left (by omega),Nat.max_eq_right (by omega),Array.extract_size]
 · rw [decide_eq_false h1] at hd
   cases hd
theorem aZL {s:ByteArray} (h:bD s=true):s=bF s ++ (⟨#[47]⟩ ++ bK s):=by
 unfold bF bK
 rw [h,cond_true,cond_true]
 unfold bD at h
 have h0:=of_decide_eq_true h
 have hl:=(qW s 47).2
 have hb:s.data.toList.getD (firstIdx s 47).toNat 0=47:=Classical.byContradiction fun hc=>by
  have:=aCZ (s:=s) (i:=(firstIdx s 47).toNat) (by omega) hc
  omega
 generalize hi:(firstIdx s 47).toNat=i at *
 have hi' : i<s.size:=by omega
 have hz:s.size=s.data.size:=rfl
 have hll:s.data.toList.length=s.size:=by rw [Array.length_toList]; rfl
 apply ByteArray.ext
 apply Array.ext'
 rw [ByteArray.data_append,ByteArray.data_append,ByteArray.data_extract,ByteArray.data_extract,Array.toList_append,Array.toList_append,Array.toList_extract,Array.toList_extract,List.extract_eq_take_drop,List.extract_eq_take_drop,List.drop_zero,Nat.sub_zero]
 rw [List.take_of_length_le (l:=s.data.toList.drop (i+1)) (by rw [List.length_drop]; omega)]
 have:s.data.toList.drop i=47 :: s.data.toList.drop (i+1):=by
  rw [List.drop_eq_getElem_cons (by omega)]
  congr 1
  rw [List.getD_eq_getElem?_getD,List.getElem?_eq_getElem (by omega)] at hb
  exact hb
 show s.data.toList=_ ++ ([47] ++ _)
 rw [List.singleton_append,← this,List.take_append_drop]
theorem aZM (q:Rat):jT (ratText q)=q:=by
 obtain ⟨p1,p2,p3,p4⟩:=aCU (decide (q.num<0)) q.num.natAbs q.den
 change bC (ratText q)=_ at p1
 change bF (aK (ratText q))=_ at p2
 change bD (aK (ratText q))=_ at p3
 change q.den≠1→bK (aK (ratText q))=_ at p4
 unfold jT
 rw [p1,p2,jS]
 by_cases h:q.den=1
 · rw [if_neg (by rw [p3]; simpa using h)]
   rw [← h]; exact fM q
 · rw [if_pos (by rw [p3]; simpa using h),p4 h,jS]
   exact fM q
theorem aZN {s:ByteArray} (h:eG s=0):s=ratText (jT s)∧Sz 2000 (jT s):=by
 suffices h:∃ q,s=ratText q∧Sz 2000 q by
  obtain ⟨q,rfl,hs⟩:=h
  rw [aZM]
  exact ⟨rfl,hs⟩
 unfold eG at h
 by_cases h1:natErr (bF (aK s))=5∨(bD (aK s)=true∧natErr (bK (aK s))=5)∨(bC s=true∧bF (aK s)=zeroS)
 · rw [if_pos h1] at h; cases h
 rw [if_neg h1] at h
 by_cases h2:natErr (bF (aK s))≠0∨(bD (aK s)=true∧natErr (bK (aK s))≠0)
 · rw [if_pos h2] at h; cases h
 rw [if_neg h2] at h
 by_cases h3:bD (aK s)=true∧(bK (aK s)=zeroS∨bK (aK s)=⟨#[49]⟩∨Nat.gcd (iG (bF (aK s))) (iG (bK (aK s)))≠1)
 · rw [if_pos h3] at h; cases h
 obtain ⟨u,hu,hud⟩:=nX (Classical.byContradiction fun hc=>h2 (.inl hc))
 have hsj:s=(bif bC s then ⟨#[45]⟩ else ⟨#[]⟩) ++ aK s:=by
  cases hb:bC s with
  | true=>rw [cond_true]; exact aZK hb
  | false=>rw [cond_false,k9]; exact (aC1 (by rw [hb]; decide)).symm
 have hneg:u=0→bC s=false:=fun h0=>by
  cases hb:bC s with
  | false=>rfl
  | true=>exact absurd (.inr (.inr ⟨hb,by rw [hu,h0,natText_zero]⟩)) h1
 cases hI:bD (aK s) with
 | true =>
   obtain ⟨v,hv,hvd⟩:=nX (Classical.byContradiction fun hc=>h2 (.inr ⟨hI,hc⟩))
   have hv0:v≠0:=fun h0=>h3 ⟨hI, .inl (by rw [hv,h0,natText_zero])⟩
   have hv1:v≠1:=fun h0=>h3 ⟨hI, .inr (.inl (by rw [hv,h0,natText_one]))⟩
   have hg:Nat.gcd u v=1:=Classical.byContradiction fun hc=>h3 ⟨hI, .inr (.inr (by rw [hu,hv,jS,jS]; exact hc))⟩
   have hu0:0<u:=Nat.pos_of_ne_zero fun h0=>by rw [h0,Nat.gcd_zero_left] at hg; exact hv1 hg
   refine ⟨mkq (bC s) u v,?_,?_,?_⟩
   · rw [aCN (by omega) hu0,hg,Nat.div_one,Nat.div_one]
     unfold rt
     rw [if_neg hv1,ByteArray.append_assoc,← hu,← hv,← aZL hI]
     exact hsj
   · exact Nat.le_trans (wP (by omega)) hud
   · exact Nat.le_trans (wQ (by omega)) hvd
 | false =>
   have hA:bF (aK s)=aK s:=by unfold bF; rw [hI]; rfl
   refine ⟨mkq (bC s) u 1,?_,?_,?_⟩
   · by_cases hu0:u=0
     · rw [hu0,aCM,ratText_zero,← natText_zero]
       rw [hneg hu0,cond_false,k9] at hsj
       rw [hsj,← hA,hu,hu0]
     · rw [aCN (by omega) (by omega),Nat.gcd_one_right,Nat.div_one,Nat.div_one]
       unfold rt
       rw [if_pos rfl,k8,← hu,hA]
       exact hsj
   · exact Nat.le_trans (wP (by omega)) hud
   · exact Nat.le_trans (wQ (by omega)) (by rw [wY]; decide)
end
section
theorem aMS {l:List ByteArray} {x:Nat} (hx:x<l.length):d7 (l.drop x)=if eG (l.getD x ByteArray.empty)=0 then d7 (l.drop (x+1)) else eG (l.getD x ByteArray.empty):=by
 rw [List.drop_eq_getElem_cons hx,List.getD_eq_getElem?_getD,List.getElem?_eq_getElem hx]
 rfl
theorem gU {α:Type} {l:List α} {x:Nat} {d:α} (hx:x<l.length):l.getD x d∈l:=by
 rw [List.getD_eq_getElem?_getD,List.getElem?_eq_getElem hx]
 exact List.getElem_mem hx
theorem aMT : ∀ g xs Q,aCO g xs Q→Con Tryz.prog g xs Q:=dB fun p hp=>by
 simp only [List.mem_cons,List.not_mem_nil,or_false] at hp
 rcases hp with rfl
 exact bE fun _ _ h=>aYL h
theorem aZO {l:List ByteArray} {Q:Res} (h:qX l Q):Con Tryz.prog 78 [.imm eS l] Q:=by
 obtain ⟨⟨hl,ht⟩,hq⟩:=h
 refine aW (gn:=fnT Tryz.f78) (by kernel_rfl) aMT (inl:=[]) (LT:=wV) (NT:=wW) rfl fun n0=>?_
 rw [aX1]
 refine c8 (f:=78) (gn:=fnT Tryz.f78) (n0:=n0) (K:=aQ Q) (r:=2) (by kernel_rfl) aMT (inl:=[]) (LT:=wV) (NT:=wW) (fun x:Nat=>wX l (l.length:Int) (x:Int)) (fun x=>l.length - x) (fun x=>x≤l.length∧d7 (l.drop x)=d7 l) (fun x hp ih=>?_) 0 ⟨Nat.zero_le _,rfl⟩
 obtain ⟨hp,he⟩:=hp
 rw [aX2]
 by_cases hx:x<l.length
 · rw [aMS hx] at he
   refine aC (by omega) (aN (aC (by omega) (aC (by omega) ?_)))
   rw [Int.toNat_natCast,wrS hx (by omega)]
   refine ⟨ht _ (gU hx),?_⟩
   by_cases h0:eG (l.getD x ByteArray.empty)=0
   · rw [if_pos h0] at he
     exact aR (aC h0 (ih (x+1) ⟨by omega,he⟩ (by omega)))
   · rw [if_neg h0] at he
     rw [← he] at hq
     exact aR (aG h0 (cS hq))
 · refine aG (by omega) (cS ?_)
   rw [List.drop_eq_nil_of_le (by omega)] at he
   rw [← he] at hq
   exact hq
theorem aZP {l:List ByteArray} {Q:Res} (h:qX l Q) (hC:∀ g xs Q,qY g xs Q→Con Tryz.prog g xs Q):Con Tryz.prog 84 [.imm eS l] Q:=by
 obtain ⟨⟨hl,ht⟩,hq⟩:=h
 refine aW (gn:=fnT Tryz.f84) (by kernel_rfl) hC (inl:=[]) (LT:=w6) (NT:=w7) rfl fun n0=>?_
 rw [aYU]
 refine c8 (f:=84) (gn:=fnT Tryz.f84) (n0:=n0) (K:=aQ Q) (r:=2) (by kernel_rfl) hC (inl:=[]) (LT:=w6) (NT:=w7) (fun x:Nat=>w8 l (l.length:Int) (x:Int)) (fun x=>l.length - x) (fun x=>x≤l.length∧d7 (l.drop x)=d7 l) (fun x hp ih=>?_) 0 ⟨Nat.zero_le _,rfl⟩
 obtain ⟨hp,he⟩:=hp
 rw [aYV]
 by_cases hx:x<l.length
 · rw [aMS hx] at he
   refine aC (by omega) (aN (aC (by omega) (aC (by omega) ?_)))
   rw [Int.toNat_natCast,wrS hx (by omega)]
   refine ⟨ht _ (gU hx),?_⟩
   by_cases h0:eG (l.getD x ByteArray.empty)=0
   · rw [if_pos h0] at he
     exact aR (aC h0 (ih (x+1) ⟨by omega,he⟩ (by omega)))
   · rw [if_neg h0] at he
     rw [← he] at hq
     exact aR (aG h0 (cS hq))
 · refine aG (by omega) (cS ?_)
   rw [List.drop_eq_nil_of_le (by omega)] at he
   rw [← he] at hq
   exact hq
theorem aMU : ∀ g xs Q,qY g xs Q→Con Tryz.prog g xs Q:=dB fun p hp=>by
 simp only [List.mem_cons,List.not_mem_nil,or_false] at hp
 rcases hp with rfl | rfl | rfl | rfl
 · exact bE fun _ _ h=>aY6 h
 · exact bG fun _ _ _ h=>aC2 h
 · exact bE fun _ _ h=>aZJ h
 · exact bE fun _ _ h=>aKN h
theorem aZQ {l:List ByteArray} {Q:Res} (h:qX l Q):Con Tryz.prog 84 [.imm eS l] Q:=aZP h aMU
theorem aZR {s t:ByteArray} {Q:Res} (h:xsub s t Q):Con Tryz.prog 44 [.str s, .str t] Q:=by
 obtain ⟨x,y,rfl,rfl,sx,sy,hq⟩:=h
 refine aW (gn:=fnT Tryz.f44) (by kernel_rfl) aMU (inl:=[]) (LT:=aMB) (NT:=aMC) rfl fun n0=>?_
 rw [aYY]
 rw [Rat.sub_eq_add_neg] at hq
 exact ⟨y,rfl,sy,x, -y,rfl,rfl,sx,aCW sy,iI hq⟩
theorem aZS {x y:Rat} (sx:Sz 4000000000 x) (sy:Sz 4000000000 y):Sz 9000000000 (x+y):=by
 have e1:=dV sx; have e2:=d8 sx; have e3:=dV sy; have e4:=d8 sy
 have m1:=fB e1 e4
 have m2:=fB e3 e2
 have m3:=fB e2 e4
 have px:=eF x
 have py:=eF y
 have hsum:x+y=mkq (decide (x.num<0)) x.num.natAbs x.den+mkq (decide (y.num<0)) y.num.natAbs y.den:=by rw [fM,fM]
 rw [wO _ _ _ _ _ _ px py] at hsum
 have hD:∀ b u,szD (mkq b u (x.den * y.den))≤9000000000:=fun b u=>Nat.le_trans (wQ (Nat.mul_pos px py)) (by omega)
 have hN:∀ b u,dg u≤9000000000→szN (mkq b u (x.den * y.den))≤9000000000:=fun b u h=>Nat.le_trans (wP (Nat.mul_pos px py)) h
 have a1:=wL m1 m2
 have a2:=fA (Nat.sub_le (x.num.natAbs * y.den) (y.num.natAbs * x.den))
 have a3:=fA (Nat.sub_le (y.num.natAbs * x.den) (x.num.natAbs * y.den))
 rw [hsum]
 split
 · exact ⟨hN _ _ (by omega),hD _ _⟩
 · split
   · exact ⟨hN _ _ (by omega),hD _ _⟩
   · exact ⟨hN _ _ (by omega),hD _ _⟩
theorem aZT {x y:Rat} (sx:Sz 4000000000 x) (sy:Sz 4000000000 y):Sz 9000000000 (x - y):=by
 rw [Rat.sub_eq_add_neg]
 exact aZS sx (aCW sy)
theorem sz_zero : Sz 1 0:=by
 refine ⟨?_,?_⟩
 · show dg (Rat.num 0).natAbs≤1
   rw [show (Rat.num 0).natAbs=0 from rfl,aCQ]
   exact Nat.le_refl _
 · show dg (Rat.den 0)≤1
   rw [show Rat.den 0=1 from rfl,wY]
   exact Nat.le_refl _
theorem aZU : ∀ g xs Q,aK7 g xs Q→Con Tryz.prog g xs Q:=dB fun p hp=>by
 simp only [List.mem_cons,List.not_mem_nil,or_false] at hp
 rcases hp with rfl | rfl
 · exact bG fun _ _ _ h=>aZR h
 · exact bE fun _ _ h=>aY9 h
theorem aZV {s t:ByteArray} {Q:Res} (h:xcmp s t Q):Con Tryz.prog 13 [.str s, .str t] Q:=by
 obtain ⟨x,y,rfl,rfl,sx,sy,hq⟩:=h
 refine aW (gn:=fnT Tryz.f13) (by kernel_rfl) aZU (inl:=[]) (LT:=aMJ) (NT:=aMK) rfl fun n0=>?_
 rw [aY2]
 exact ⟨x,y,rfl,rfl,sx,sy,x - y,rfl,aZT sx sy,cS hq⟩
end
section

end
end Go.Proofs.YtehakimmioclkaaGreatDoor.Lib
end
section
set_option linter.unusedSimpArgs false
set_option linter.unusedVariables false
namespace Go.Proofs.YtehakimmioclkaaGreatDoor.Mach
open Go Go.Proofs.YtehakimmioclkaaGreatDoor Go.Proofs.YtehakimmioclkaaGreatDoor.Lib
section
set_option maxRecDepth 1000000

end
end Go.Proofs.YtehakimmioclkaaGreatDoor.Mach
end
section
set_option linter.unusedSimpArgs false
set_option linter.unusedVariables false
namespace Go.Proofs.YtehakimmioclkaaGreatDoor.Lib
open Go Go.Proofs.YtehakimmioclkaaGreatDoor.Mach Go.Proofs.YtehakimmioclkaaGreatDoorW.PrintWords Go.Proofs.YtehakimmioclkaaGreatDoor.Sem Go.Proofs.YtehakimmioclkaaGreatDoor.Pure
section
theorem aZW {e:ETy} {l:List e.D} {fz:Bool} {k:IntKind} {n:Int}:tS [.typed e l fz] (.tup [.own 0, .int k n]) (.tup [.imm e l, .int k n]) :=
 ⟨_,rfl, .cons ⟨e,l,fz,rfl,rfl⟩ (.cons rfl .nil)⟩
theorem aZX {e:ETy} {k:IntKind} {n:Int} {objs:List aA}:tS objs (.tup [.nils, .int k n]) (.tup [.imm e [], .int k n]) :=
 ⟨_,rfl, .cons (Or.inr ⟨e,rfl⟩) (.cons rfl .nil)⟩
def outL (e:ETy) (l:List e.D) (n:Int):Res:=fun v o=>(v = .tup [.own 0, .int .i64 n]∧∃ fz,o=[.typed e l fz])∨(l=[]∧v = .tup [.nils, .int .i64 n])
theorem aMV {e:ETy} {l:List e.D} {n:Int} {P:Program} {g:FuncId} {args:List AV} {Q:Res} (h:Con P g args (outL e l n)) (hQ:Q (.tup [.imm e l, .int .i64 n]) []):Con P g args Q :=
 h.sealTo fun v o hv=>by
  rcases hv with ⟨rfl,fz,rfl⟩ | ⟨rfl,rfl⟩
  · exact ⟨_,aZW,hQ⟩
  · exact ⟨_,aZX,hQ⟩
theorem aMW {e:ETy} {l:List e.D} {fz:Bool} {n:Int} {id:Nat} {H:List aA} (ho:aE H id = .typed e l fz):aQ (outL e l n) (.tup [.own id, .int .i64 n]) H :=
 ⟨.tup [.own 0, .int .i64 n],[.typed e l fz],Or.inl ⟨rfl,fz,rfl⟩,rfl,rfl,[id],rfl,by simp,fun k i hk=>by
  match k,hk with
  | 0,hk=>cases hk; exact congrArg some ho.symm,rfl⟩
theorem aMX {e:ETy} {l:List e.D} {n:Int} {H:List aA} (h:l=[]):aQ (outL e l n) (.tup [.nils, .int .i64 n]) H:=bO (Or.inr ⟨h,rfl⟩) rfl rfl
theorem aMY : ∀ {l:List ByteArray},d7 l=0→∀ s∈l,eG s=0
 | [],_,s,hs=>absurd hs (by simp)
 | a :: l,h,s,hs=>by
   unfold d7 at h
   split at h
   · rename_i h0
     rcases List.mem_cons.1 hs with rfl | hs
     · exact h0
     · exact aMY h s hs
   · rename_i h0; exact absurd h h0
theorem aZY {l:List ByteArray} {x:Nat} (hx:x<l.length):l.drop x=l.getD x ByteArray.empty :: l.drop (x+1):=by
 rw [List.drop_eq_getElem_cons hx,List.getD_eq_getElem?_getD,List.getElem?_eq_getElem hx]; rfl
theorem aMZ {l:List ByteArray} {x:Nat} (h:d7 l=0) (hx:x<l.length):l.getD x ByteArray.empty=ratText (jT (l.getD x ByteArray.empty))∧Sz 2000 (jT (l.getD x ByteArray.empty)):=aZN (aMY h _ (gU hx))
end
section
abbrev eQ : ETy := .more .bool (.more (.slice eW) (.one (.slice eW)))
abbrev eP : ETy := .more (.int .i64) (.one (.int .i64))
abbrev z0 : QT:=(false,[],[])
abbrev b0 : ByteArray:=ByteArray.empty
abbrev p0 : Int × Int:=(0,0)
def vLQ : bY (List QT):=kS eQ
def vTT : bY (List (List (List ByteArray))):=kS (eL (eL eS))
structure QF (zs:List QT) (n:Nat) (f:Nat→Rat):Prop where
 len:zs.length=n
 at_:∀ i,i<n→QV (zs.getD i z0) (f i)
structure GF (g:List (List QT)) (n w:Nat) (f:Nat→Nat→Rat):Prop where
 len:g.length=n
 at_:∀ i,i<n→QF (g.getD i []) w (f i)
def iJ (f:Nat→Rat):Nat→Rat
 | 0=>0
 | n+1=>iJ f n+f n
def wide (m:List (List ByteArray)):Nat:=(m.getD 0 []).length
noncomputable def fO (v:List ByteArray):Int:=if 40<v.length then 2 else d7 v
noncomputable def lA (w:Nat) (r:List ByteArray):Int:=if r.length≠w then 3 else fO r
noncomputable def iK (w:Nat):List (List ByteArray)→Int
 | []=>0
 | r :: l=>if lA w r=0 then iK w l else lA w r
noncomputable def eH (m:List (List ByteArray)):Int:=if 40<m.length then 2 else iK (wide m) m
noncomputable def d9 (m:List (List ByteArray)):Int:=if 12<m.length then 2 else if eH m≠0 then eH m else if wide m=0 then 8 else if 12<wide m then 2 else 0
def TxM (m:List (List ByteArray)):Prop:=m.length≤1000000000000000∧∀ r∈m,TxL r
noncomputable def vent (v:List ByteArray) (i:Nat):Rat:=jT (v.getD i b0)
noncomputable def ent (m:List (List ByteArray)) (i k:Nat):Rat:=jT ((m.getD i []).getD k b0)
def rE (v:List ByteArray) (Q:Res):Prop:=TxL v∧Q (.int .i64 (fO v)) []
def xA (m:List (List ByteArray)) (Q:Res):Prop:=TxM m∧Q (.int .i64 (eH m)) []
def rF (m:List (List ByteArray)) (Q:Res):Prop:=TxM m∧Q (.int .i64 (d9 m)) []
def i4 (m:List (List ByteArray)) (Q:Res):Prop:=Q (.int .i64 (wide m:Nat)) []
def TxN (n:Nat):Prop:=n≤1000000000000
def rowS (v:List ByteArray) (Q:Res):Prop:=(d7 v=0∧TxN v.length)∧∀ zs:List QT,QF zs v.length (vent v)→Q (.own 0) [.typed eQ zs false]
def aM0 (m:List (List ByteArray)) (Q:Res):Prop:=eH m=0∧∀ g:List (List QT),GF g m.length (wide m) (ent m)→Q (.own 0) [.typed (eL eQ) g false]
noncomputable def n6 (n:Nat) (f:Nat→Rat):Int:=if ∀ i,i<n→iH (f i)=0 then 0 else 2
noncomputable def jW (n:Nat) (f:Nat→Rat):List ByteArray:=(List.range n).map fun i=>ratText (f i)
noncomputable def rG (n:Nat) (f:Nat→Rat):List ByteArray:=if n6 n f=0 then jW n f else []
def SzF (k n:Nat) (f:Nat→Rat):Prop:=∀ i,i<n→Sz k (f i)
def aM1 (zs:List QT) (Q:Res):Prop:=∃ (n:Nat) (f:Nat→Rat),QF zs n f∧TxN n∧SzF 9000000000 n f∧Q (.tup [.imm eS (rG n f), .int .i64 (n6 n f)]) []
def aM2 (l:List (List ByteArray)) (Q:Res):Prop:=(l.length≤1000000000000000∧∀ r∈l,r.length≤1000000000000000)∧∀ n:Int,Q (.int .i64 n) []
def aM3 (f:Nat):AV→Option Unit
 | .fn g cs=>(match cs with | []=>(if g=f then some () else none) | _=>none)
 | _=>none
def vCl (f:Nat):bY Unit:=⟨aM3 f,fun _ => .fn f [],fun {x a} h {c w v} hx=>by
 unfold aM3 at h
 split at h
 · split at h
   · split at h
     · rename_i hg; subst hg; exact hx
     · cases h
   · cases h
 · cases h⟩
def rH (k:Nat) (l:List ByteArray):Int:=match l.findIdx? fun s=>decide (k<s.size) with | some i=>(i:Int) | none => -1
def aM4 (l:List ByteArray) (_:Unit) (Q:Res):Prop:=l.length≤1000000000000000∧Q (.int .i64 (rH 12 l)) []
def rI (n:Int) (v:List ByteArray):Bool:=decide ((v.length:Int) > n) || decide (rH 12 v ≥ 0)
def rJ (n:Int) (m:List (List ByteArray)):Bool:=decide ((m.length:Int) > n) || m.any (rI n)
def lB (n:Int) (ms:List (List (List ByteArray))):Bool:=ms.any (rJ n)
def TxMM (ms:List (List (List ByteArray))):Prop:=ms.length≤1000000000000000∧∀ m∈ms,TxM m
def aM5 (n:Int) (ms:List (List (List ByteArray))) (Q:Res):Prop:=TxMM ms∧Q (.bool (lB n ms)) []
noncomputable def fC : FuncId→List AV→Res→Prop:=c7 [(78,c1 vLS qX),(79,c1 vS inS),(76,c1 vQ fitS),(48,c1 vQ wR),(84,c1 vLS qX),(11,c2 vS vS wU),(51,c2 vS vS xmul),(68,c2 vLS (vCl 36) aM4)]
noncomputable def lC : FuncId→List AV→Res→Prop:=c7 [(54,c1 vLS rE),(55,c1 vLS rowS),(67,c1 vLS rE),(34,c1 vT i4),(60,c1 vT i4)]
noncomputable def aC3 : FuncId→List AV→Res→Prop:=c7 [(59,c1 vT xA),(60,c1 vT i4),(34,c1 vT i4),(33,c1 vT xA)]
end
end Go.Proofs.YtehakimmioclkaaGreatDoor.Lib
end
section
set_option linter.unusedSimpArgs false
set_option linter.unusedVariables false
namespace Go.Proofs.YtehakimmioclkaaGreatDoor.Mach
open Go Go.Proofs.YtehakimmioclkaaGreatDoor Go.Proofs.YtehakimmioclkaaGreatDoor.Lib
section
set_option maxRecDepth 1000000
def aM6 : List (Nat × List Nat):=[]
def aM7 : List (Nat × ETy):=[]
theorem aZZ (n:Int) (n0:Nat) (K:AV→List aA→Prop) :
 aH tab (aM tab nQ [] 400) (aL aM6 aM7 (aB Tryz.prog n0 46 K)) (aI tab (fnT Tryz.f46).res K) 400 [.code (fnT Tryz.f46).body] ⟨aO (fnT Tryz.f46).n [AV.int .i64 n],[]⟩ =
 (bif decide (n<0) then fL (IntKind.i64.wrap (0 - n))∧fL 1∧K (AV.agg [AV.bool true,AV.imm eW (Sem.limbsOf (IntKind.i64.wrap (0 - n)).toNat),AV.imm eW (Sem.limbsOf 1)]) [aA.box [AV.bool true,AV.imm eW (Sem.limbsOf (IntKind.i64.wrap (0 - n)).toNat),AV.imm eW (Sem.limbsOf 1)]] else fL n∧fL 1∧K (AV.agg [AV.bool false,AV.imm eW (Sem.limbsOf n.toNat),AV.imm eW (Sem.limbsOf 1)]) [aA.box [AV.bool false,AV.imm eW (Sem.limbsOf n.toNat),AV.imm eW (Sem.limbsOf 1)]]):=by kernel_rfl
def aM8 : List (Nat × List Nat):=[]
def aM9 : List (Nat × ETy):=[]
theorem aZ0 (v:List ByteArray) (n0:Nat) (K:AV→List aA→Prop) :
 aH tab (aM tab fC [] 400) (aL aM8 aM9 (aB Tryz.prog n0 54 K)) (aI tab (fnT Tryz.f54).res K) 400 [.code (fnT Tryz.f54).body] ⟨aO (fnT Tryz.f54).n [AV.imm eS v],[]⟩ =
 (bif decide ((↑v.length:Int) > 40) then K (AV.int .i64 2) [] else TxL v∧K (AV.int .i64 (d7 v)) []):=by kernel_rfl
def xB : List (Nat × List Nat):=[(4,[0,9,10,11])]
def xC : List (Nat × ETy):=[(9,ETy.one (CTy.slice eS))]
noncomputable def xD (m:List (List ByteArray)) (x0 x1:Int):St:=aT 28 [(0,AV.imm (ETy.one (CTy.slice eS)) m),(9,AV.imm (ETy.one (CTy.slice eS)) m),(10,AV.int .i64 x0),(11,AV.int .i64 x1)] []
theorem aZ1 (m:List (List ByteArray)) (n0:Nat) (K:AV→List aA→Prop) :
 aH tab (aM tab lC [] 400) (aL xB xC (aB Tryz.prog n0 59 K)) (aI tab (fnT Tryz.f59).res K) 400 [.code (fnT Tryz.f59).body] ⟨aO (fnT Tryz.f59).n [AV.imm (ETy.one (CTy.slice eS)) m],[]⟩ =
 (bif decide ((↑m.length:Int) > 40) then K (AV.int .i64 2) [] else aB Tryz.prog n0 59 K (aF (fnT Tryz.f59) 4) (xD m (↑m.length:Int) 0)):=by kernel_rfl
theorem aZ2 (m:List (List ByteArray)) (x0 x1:Int) (n0:Nat) (K:AV→List aA→Prop) :
 aH tab (aM tab lC [] 400) (aL xB xC (aB Tryz.prog n0 59 K)) (aI tab (fnT Tryz.f59).res K) 400 (aU (fnT Tryz.f59) 4) (xD m x0 x1) =
 (bif decide (x1<x0) then bif decide (0≤x1) && decide (x1<(↑m.length:Int)) then bif decide (0<(↑m.length:Int)) then bif !decide ((↑(List.length (m.getD x1.toNat [])):Int)=(↑(List.length (m.getD 0 [])):Int)) then K (AV.int .i64 3) [] else TxL (m.getD x1.toNat [])∧bif !decide (fO (m.getD x1.toNat [])=0) then K (AV.int .i64 (fO (m.getD x1.toNat []))) [] else aB Tryz.prog n0 59 K (aF (fnT Tryz.f59) 4) (xD m x0 (IntKind.i64.wrap (x1+1))) else False else False else K (AV.int .i64 0) []):=by kernel_rfl
def aNA : List (Nat × List Nat):=[]
def aNB : List (Nat × ETy):=[]
theorem aZ3 (m:List (List ByteArray)) (n0:Nat) (K:AV→List aA→Prop) :
 aH tab (aM tab fC [] 400) (aL aNA aNB (aB Tryz.prog n0 60 K)) (aI tab (fnT Tryz.f60).res K) 400 [.code (fnT Tryz.f60).body] ⟨aO (fnT Tryz.f60).n [AV.imm (ETy.one (CTy.slice eS)) m],[]⟩ =
 (bif decide ((↑m.length:Int)=0) then K (AV.int .i64 0) [] else bif decide (0<(↑m.length:Int)) then K (AV.int .i64 (↑(List.length (m.getD 0 [])):Int)) [] else False):=by kernel_rfl
def xE : List (Nat × List Nat):=[(3,[3,6,7,8])]
def xF : List (Nat × ETy):=[(3,eQ),(6,eS)]
noncomputable def rK (v:List ByteArray) (x0 x1:Int) (x2:List (Bool × List Int × List Int)):St:=aT 19 [(3,AV.own 0),(6,AV.imm eS v),(7,AV.int .i64 x0),(8,AV.int .i64 x1)] [aA.typed eQ x2 false]
theorem aZ4 (v:List ByteArray) (n0:Nat) (K:AV→List aA→Prop) :
 aH tab (aM tab fC [] 400) (aL xE xF (aB Tryz.prog n0 55 K)) (aI tab (fnT Tryz.f55).res K) 400 [.code (fnT Tryz.f55).body] ⟨aO (fnT Tryz.f55).n [AV.imm eS v],[]⟩ =
 (aB Tryz.prog n0 55 K (aF (fnT Tryz.f55) 3) (rK v (↑v.length:Int) 0 [])):=by kernel_rfl
theorem aZ5 (v:List ByteArray) (x0 x1:Int) (x2:List (Bool × List Int × List Int)) (n0:Nat) (K:AV→List aA→Prop) :
 aH tab (aM tab fC [] 400) (aL xE xF (aB Tryz.prog n0 55 K)) (aI tab (fnT Tryz.f55).res K) 400 (aU (fnT Tryz.f55) 3) (rK v x0 x1 x2) =
 (bif decide (x1<x0) then bif decide (0≤x1) && decide (x1<(↑v.length:Int)) then ∃ q,v.getD x1.toNat ByteArray.empty=Sem.ratText q∧Sz 4000000000 q∧∀ (z:Bool × List Int × List Int),Sem.QV z q→bif bif (x2.length+[(z.1,z.2.1,z.2.2)].length).ble 9223372036854775807 then ((x2.length+[(z.1,z.2.1,z.2.2)].length) * 56).ble 140737488355328 else false then aB Tryz.prog n0 55 K (aF (fnT Tryz.f55) 3) (rK v x0 (IntKind.i64.wrap (x1+1)) (x2 ++ [(z.1,z.2.1,z.2.2)])) else False else False else K (AV.own 0) [aA.typed eQ x2 false]):=by kernel_rfl
def xG : List (Nat × List Nat):=[(3,[3,6,7,8])]
def xH : List (Nat × ETy):=[(3,ETy.one (CTy.slice eQ)),(6,ETy.one (CTy.slice eS))]
noncomputable def rL (m:List (List ByteArray)) (x0 x1:Int) (x2:List (List (Bool × List Int × List Int))):St:=aT 19 [(3,AV.own 0),(6,AV.imm (ETy.one (CTy.slice eS)) m),(7,AV.int .i64 x0),(8,AV.int .i64 x1)] [aA.typed (ETy.one (CTy.slice eQ)) x2 false]
theorem aZ6 (m:List (List ByteArray)) (n0:Nat) (K:AV→List aA→Prop) :
 aH tab (aM tab lC [] 400) (aL xG xH (aB Tryz.prog n0 30 K)) (aI tab (fnT Tryz.f30).res K) 400 [.code (fnT Tryz.f30).body] ⟨aO (fnT Tryz.f30).n [AV.imm (ETy.one (CTy.slice eS)) m],[]⟩ =
 (aB Tryz.prog n0 30 K (aF (fnT Tryz.f30) 3) (rL m (↑m.length:Int) 0 [])):=by kernel_rfl
theorem aZ7 (m:List (List ByteArray)) (x0 x1:Int) (x2:List (List (Bool × List Int × List Int))) (n0:Nat) (K:AV→List aA→Prop) :
 aH tab (aM tab lC [] 400) (aL xG xH (aB Tryz.prog n0 30 K)) (aI tab (fnT Tryz.f30).res K) 400 (aU (fnT Tryz.f30) 3) (rL m x0 x1 x2) =
 (bif decide (x1<x0) then bif decide (0≤x1) && decide (x1<(↑m.length:Int)) then (d7 (m.getD x1.toNat [])=0∧TxN (List.length (m.getD x1.toNat [])))∧∀ (zs:List QT),QF zs (List.length (m.getD x1.toNat [])) (vent (m.getD x1.toNat []))→bif bif (x2.length+[zs].length).ble 9223372036854775807 then ((x2.length+[zs].length) * 24).ble 140737488355328 else false then aB Tryz.prog n0 30 K (aF (fnT Tryz.f30) 3) (rL m x0 (IntKind.i64.wrap (x1+1)) (x2 ++ [zs])) else False else False else K (AV.own 0) [aA.typed (ETy.one (CTy.slice eQ)) x2 false]):=by kernel_rfl
def xI : List (Nat × List Nat):=[(3,[4,8,9,10])]
def xJ : List (Nat × ETy):=[(4,eS),(8,eQ)]
noncomputable def xK (l:List (Bool × List Int × List Int)) (x0 x1:Int) (x2:List ByteArray):St:=aT 26 [(4,AV.own 0),(8,AV.imm eQ l),(9,AV.int .i64 x0),(10,AV.int .i64 x1)] [aA.typed eS x2 false]
theorem aZ8 (l:List (Bool × List Int × List Int)) (n0:Nat) (K:AV→List aA→Prop) :
 aH tab (aM tab fC [] 400) (aL xI xJ (aB Tryz.prog n0 53 K)) (aI tab (fnT Tryz.f53).res K) 400 [.code (fnT Tryz.f53).body] ⟨aO (fnT Tryz.f53).n [AV.imm eQ l],[]⟩ =
 (aB Tryz.prog n0 53 K (aF (fnT Tryz.f53) 3) (xK l (↑l.length:Int) 0 [])):=by kernel_rfl
theorem aZ9 (l:List (Bool × List Int × List Int)) (x0 x1:Int) (x2:List ByteArray) (n0:Nat) (K:AV→List aA→Prop) :
 aH tab (aM tab fC [] 400) (aL xI xJ (aB Tryz.prog n0 53 K)) (aI tab (fnT Tryz.f53).res K) 400 (aU (fnT Tryz.f53) 3) (xK l x0 x1 x2) =
 (bif decide (x1<x0) then bif decide (0≤x1) && decide (x1<(↑l.length:Int)) then ∃ q,Sem.QV ((l.getD x1.toNat (false,[],[])).1,(l.getD x1.toNat (false,[],[])).2.1,(l.getD x1.toNat (false,[],[])).2.2) q∧Sz 9000000000 q∧bif !decide (iH q=0) then K (AV.tup [AV.nils,AV.int .i64 (iH q)]) [aA.typed eS x2 false,aA.box [AV.bool (l.getD x1.toNat (false,[],[])).1,AV.imm eW (l.getD x1.toNat (false,[],[])).2.1,AV.imm eW (l.getD x1.toNat (false,[],[])).2.2]] else ∃ q,Sem.QV ((l.getD x1.toNat (false,[],[])).1,(l.getD x1.toNat (false,[],[])).2.1,(l.getD x1.toNat (false,[],[])).2.2) q∧Sz 9000000000 q∧bif bif (x2.length+[Sem.ratText q].length).ble 9223372036854775807 then ((x2.length+[Sem.ratText q].length) * 16).ble 140737488355328 else false then aB Tryz.prog n0 53 K (aF (fnT Tryz.f53) 3) (xK l x0 (IntKind.i64.wrap (x1+1)) (x2 ++ [Sem.ratText q])) else False else False else K (AV.tup [AV.own 0,AV.int .i64 0]) [aA.typed eS x2 false]):=by kernel_rfl
def aNC : List (Nat × List Nat):=[]
def aND : List (Nat × ETy):=[]
theorem a0A (m:List (List ByteArray)) (n0:Nat) (K:AV→List aA→Prop) :
 aH tab (aM tab aC3 [] 400) (aL aNC aND (aB Tryz.prog n0 29 K)) (aI tab (fnT Tryz.f29).res K) 400 [.code (fnT Tryz.f29).body] ⟨aO (fnT Tryz.f29).n [AV.imm (ETy.one (CTy.slice eS)) m],[]⟩ =
 (bif decide ((↑m.length:Int) > 12) then K (AV.int .i64 2) [] else TxM m∧bif !decide (eH m=0) then K (AV.int .i64 (eH m)) [] else bif decide ((↑(wide m):Int)=0) then K (AV.int .i64 8) [] else bif decide (0<(↑m.length:Int)) then bif decide ((↑(List.length (m.getD 0 [])):Int) > 12) then K (AV.int .i64 2) [] else K (AV.int .i64 0) [] else False):=by kernel_rfl
def aNE : List (Nat × List Nat):=[]
def aNF : List (Nat × ETy):=[]
theorem a0B (v:List ByteArray) (n0:Nat) (K:AV→List aA→Prop) :
 aH tab (aM tab fC [] 400) (aL aNE aNF (aB Tryz.prog n0 67 K)) (aI tab (fnT Tryz.f67).res K) 400 [.code (fnT Tryz.f67).body] ⟨aO (fnT Tryz.f67).n [AV.imm eS v],[]⟩ =
 (bif decide ((↑v.length:Int) > 40) then K (AV.int .i64 2) [] else TxL v∧K (AV.int .i64 (d7 v)) []):=by kernel_rfl
def xL : List (Nat × List Nat):=[(4,[0,9,10])]
def xM : List (Nat × ETy):=[]
noncomputable def xN (m:List (List ByteArray)) (x0 x1:Int):St:=aT 32 [(0,AV.imm (ETy.one (CTy.slice eS)) m),(9,AV.int .i64 x0),(10,AV.int .i64 x1)] []
theorem a0C (m:List (List ByteArray)) (n0:Nat) (K:AV→List aA→Prop) :
 aH tab (aM tab lC [] 400) (aL xL xM (aB Tryz.prog n0 33 K)) (aI tab (fnT Tryz.f33).res K) 400 [.code (fnT Tryz.f33).body] ⟨aO (fnT Tryz.f33).n [AV.imm (ETy.one (CTy.slice eS)) m],[]⟩ =
 (bif decide ((↑m.length:Int) > 40) then K (AV.int .i64 2) [] else aB Tryz.prog n0 33 K (aF (fnT Tryz.f33) 4) (xN m (↑m.length:Int) 0)):=by kernel_rfl
theorem a0D (m:List (List ByteArray)) (x0 x1:Int) (n0:Nat) (K:AV→List aA→Prop) :
 aH tab (aM tab lC [] 400) (aL xL xM (aB Tryz.prog n0 33 K)) (aI tab (fnT Tryz.f33).res K) 400 (aU (fnT Tryz.f33) 4) (xN m x0 x1) =
 (bif decide (x1<x0) then bif decide (0≤x1) && decide (x1<(↑m.length:Int)) then bif decide (0<(↑m.length:Int)) then bif !decide ((↑(List.length (m.getD x1.toNat [])):Int)=(↑(List.length (m.getD 0 [])):Int)) then K (AV.int .i64 3) [] else bif decide (0≤x1) && decide (x1<(↑m.length:Int)) then TxL (m.getD x1.toNat [])∧bif !decide (fO (m.getD x1.toNat [])=0) then K (AV.int .i64 (fO (m.getD x1.toNat []))) [] else aB Tryz.prog n0 33 K (aF (fnT Tryz.f33) 4) (xN m x0 (IntKind.i64.wrap (x1+1))) else False else False else False else K (AV.int .i64 0) []):=by kernel_rfl
def aNG : List (Nat × List Nat):=[]
def aNH : List (Nat × ETy):=[]
theorem a0E (m:List (List ByteArray)) (n0:Nat) (K:AV→List aA→Prop) :
 aH tab (aM tab fC [] 400) (aL aNG aNH (aB Tryz.prog n0 34 K)) (aI tab (fnT Tryz.f34).res K) 400 [.code (fnT Tryz.f34).body] ⟨aO (fnT Tryz.f34).n [AV.imm (ETy.one (CTy.slice eS)) m],[]⟩ =
 (bif decide ((↑m.length:Int) > 0) then bif decide (0<(↑m.length:Int)) then K (AV.int .i64 (↑(List.length (m.getD 0 [])):Int)) [] else False else K (AV.int .i64 0) []):=by kernel_rfl
def aNI : List (Nat × List Nat):=[]
def aNJ : List (Nat × ETy):=[]
theorem a0F (m:List (List ByteArray)) (n0:Nat) (K:AV→List aA→Prop) :
 aH tab (aM tab aC3 [] 400) (aL aNI aNJ (aB Tryz.prog n0 8 K)) (aI tab (fnT Tryz.f8).res K) 400 [.code (fnT Tryz.f8).body] ⟨aO (fnT Tryz.f8).n [AV.imm (ETy.one (CTy.slice eS)) m],[]⟩ =
 (bif decide ((↑m.length:Int) > 12) then K (AV.int .i64 2) [] else TxM m∧bif !decide (eH m=0) then K (AV.int .i64 (eH m)) [] else bif decide ((↑(wide m):Int)=0) then K (AV.int .i64 8) [] else bif decide ((↑(wide m):Int) > 12) then K (AV.int .i64 2) [] else K (AV.int .i64 0) []):=by kernel_rfl
def n7 : List (Nat × List Nat):=[(3,[3,8,9,10]),(6,[3,8,9,10,14,15,16])]
def n8 : List (Nat × ETy):=[(8,ETy.one (CTy.slice eS)),(14,eS)]
noncomputable def rM (l:List (List ByteArray)) (x0 x1 x2:Int):St:=aT 27 [(3,AV.int .i64 x0),(8,AV.imm (ETy.one (CTy.slice eS)) l),(9,AV.int .i64 x1),(10,AV.int .i64 x2)] []
noncomputable def rN (l:List (List ByteArray)) (x0 x1 x2:Int) (x3:List ByteArray) (x4 x5:Int):St:=aT 27 [(3,AV.int .i64 x0),(8,AV.imm (ETy.one (CTy.slice eS)) l),(9,AV.int .i64 x1),(10,AV.int .i64 x2),(14,AV.imm eS x3),(15,AV.int .i64 x4),(16,AV.int .i64 x5)] []
theorem a0G (l:List (List ByteArray)) (n0:Nat) (K:AV→List aA→Prop) :
 aH tab (aM tab fC [] 400) (aL n7 n8 (aB Tryz.prog n0 6 K)) (aI tab (fnT Tryz.f6).res K) 400 [.code (fnT Tryz.f6).body] ⟨aO (fnT Tryz.f6).n [AV.imm (ETy.one (CTy.slice eS)) l],[]⟩ =
 (aB Tryz.prog n0 6 K (aF (fnT Tryz.f6) 3) (rM l 0 (↑l.length:Int) 0)):=by kernel_rfl
theorem a0H (l:List (List ByteArray)) (x0 x1 x2:Int) (n0:Nat) (K:AV→List aA→Prop) :
 aH tab (aM tab fC [] 400) (aL n7 n8 (aB Tryz.prog n0 6 K)) (aI tab (fnT Tryz.f6).res K) 400 (aU (fnT Tryz.f6) 3) (rM l x0 x1 x2) =
 (bif decide (x2<x1) then bif decide (0≤x2) && decide (x2<(↑l.length:Int)) then aB Tryz.prog n0 6 K (aF (fnT Tryz.f6) 6) (rN l x0 x1 x2 (l.getD x2.toNat []) (↑(List.length (l.getD x2.toNat [])):Int) 0) else False else K (AV.int .i64 x0) []):=by kernel_rfl
theorem a0I (l:List (List ByteArray)) (x0 x1 x2:Int) (x3:List ByteArray) (x4 x5:Int) (n0:Nat) (K:AV→List aA→Prop) :
 aH tab (aM tab fC [] 400) (aL n7 n8 (aB Tryz.prog n0 6 K)) (aI tab (fnT Tryz.f6).res K) 400 (aU (fnT Tryz.f6) 6) (rN l x0 x1 x2 x3 x4 x5) =
 (bif decide (x5<x4) then bif decide (0≤x5) && decide (x5<(↑x3.length:Int)) then aB Tryz.prog n0 6 K (aF (fnT Tryz.f6) 6) (rN l (IntKind.i64.wrap (x0+(↑(ByteArray.size (x3.getD x5.toNat ByteArray.empty)):Int))) x1 x2 x3 x4 (IntKind.i64.wrap (x5+1))) else False else aB Tryz.prog n0 6 K (aF (fnT Tryz.f6) 3) (rM l x0 x1 (IntKind.i64.wrap (x2+1)))):=by kernel_rfl
def xO : List (Nat × List Nat):=[(2,[0,1,7,8])]
def xP : List (Nat × ETy):=[]
noncomputable def xQ (l:List ByteArray) (x0 x1:Int):St:=aT 19 [(0,AV.imm eS l),(1,AV.fn 36 []),(7,AV.int .i64 x0),(8,AV.int .i64 x1)] []
theorem a0J (l:List ByteArray) (n0:Nat) (K:AV→List aA→Prop) :
 aH tab (aM tab bR [36] 400) (aL xO xP (aB Tryz.prog n0 68 K)) (aI tab (fnT Tryz.f68).res K) 400 [.code (fnT Tryz.f68).body] ⟨aO (fnT Tryz.f68).n [AV.imm eS l,AV.fn 36 []],[]⟩ =
 (aB Tryz.prog n0 68 K (aF (fnT Tryz.f68) 2) (xQ l (↑l.length:Int) 0)):=by kernel_rfl
theorem a0K (l:List ByteArray) (x0 x1:Int) (n0:Nat) (K:AV→List aA→Prop) :
 aH tab (aM tab bR [36] 400) (aL xO xP (aB Tryz.prog n0 68 K)) (aI tab (fnT Tryz.f68).res K) 400 (aU (fnT Tryz.f68) 2) (xQ l x0 x1) =
 (bif decide (x1<x0) then bif decide (0≤x1) && decide (x1<(↑l.length:Int)) then bif decide ((↑(ByteArray.size (l.getD x1.toNat ByteArray.empty)):Int) > 12) then K (AV.int .i64 x1) [] else aB Tryz.prog n0 68 K (aF (fnT Tryz.f68) 2) (xQ l x0 (IntKind.i64.wrap (x1+1))) else False else K (AV.int .i64 (-1)) []):=by kernel_rfl
def n9 : List (Nat × List Nat):=[(2,[0,9,10,11]),(7,[0,9,10,11,19,20,21])]
def oA : List (Nat × ETy):=[(9,ETy.one (CTy.slice (ETy.one (CTy.slice eS)))),(19,ETy.one (CTy.slice eS))]
noncomputable def xR (n:Int) (l:List (List (List ByteArray))) (x0 x1:Int):St:=aT 35 [(0,AV.int .i64 n),(9,AV.imm (ETy.one (CTy.slice (ETy.one (CTy.slice eS)))) l),(10,AV.int .i64 x0),(11,AV.int .i64 x1)] []
noncomputable def xS (n:Int) (l:List (List (List ByteArray))) (x0 x1:Int) (x2:List (List ByteArray)) (x3 x4:Int):St:=aT 35 [(0,AV.int .i64 n),(9,AV.imm (ETy.one (CTy.slice (ETy.one (CTy.slice eS)))) l),(10,AV.int .i64 x0),(11,AV.int .i64 x1),(19,AV.imm (ETy.one (CTy.slice eS)) x2),(20,AV.int .i64 x3),(21,AV.int .i64 x4)] []
theorem a0L (n:Int) (l:List (List (List ByteArray))) (n0:Nat) (K:AV→List aA→Prop) :
 aH tab (aM tab fC [35] 400) (aL n9 oA (aB Tryz.prog n0 9 K)) (aI tab (fnT Tryz.f9).res K) 400 [.code (fnT Tryz.f9).body] ⟨aO (fnT Tryz.f9).n [AV.int .i64 n,AV.imm (ETy.one (CTy.slice (ETy.one (CTy.slice eS)))) l],[]⟩ =
 (aB Tryz.prog n0 9 K (aF (fnT Tryz.f9) 2) (xR n l (↑l.length:Int) 0)):=by kernel_rfl
theorem a0M (n:Int) (l:List (List (List ByteArray))) (x0 x1:Int) (n0:Nat) (K:AV→List aA→Prop) :
 aH tab (aM tab fC [35] 400) (aL n9 oA (aB Tryz.prog n0 9 K)) (aI tab (fnT Tryz.f9).res K) 400 (aU (fnT Tryz.f9) 2) (xR n l x0 x1) =
 (bif decide (x1<x0) then bif decide (0≤x1) && decide (x1<(↑l.length:Int)) then bif decide ((↑(List.length (l.getD x1.toNat [])):Int) > n) then K (AV.bool true) [] else aB Tryz.prog n0 9 K (aF (fnT Tryz.f9) 7) (xS n l x0 x1 (l.getD x1.toNat []) (↑(List.length (l.getD x1.toNat [])):Int) 0) else False else K (AV.bool false) []):=by kernel_rfl
theorem a0N (n:Int) (l:List (List (List ByteArray))) (x0 x1:Int) (x2:List (List ByteArray)) (x3 x4:Int) (n0:Nat) (K:AV→List aA→Prop) :
 aH tab (aM tab fC [35] 400) (aL n9 oA (aB Tryz.prog n0 9 K)) (aI tab (fnT Tryz.f9).res K) 400 (aU (fnT Tryz.f9) 7) (xS n l x0 x1 x2 x3 x4) =
 (bif decide (x4<x3) then bif decide (0≤x4) && decide (x4<(↑x2.length:Int)) then bif decide ((↑(List.length (x2.getD x4.toNat [])):Int) > n) then K (AV.bool true) [] else List.length (x2.getD x4.toNat [])≤1000000000000000∧bif bif false then true else decide (rH 12 (x2.getD x4.toNat []) ≥ 0) then K (AV.bool true) [] else aB Tryz.prog n0 9 K (aF (fnT Tryz.f9) 7) (xS n l x0 x1 x2 x3 (IntKind.i64.wrap (x4+1))) else False else aB Tryz.prog n0 9 K (aF (fnT Tryz.f9) 2) (xR n l x0 (IntKind.i64.wrap (x1+1)))):=by kernel_rfl
end
end Go.Proofs.YtehakimmioclkaaGreatDoor.Mach
end
section
set_option linter.unusedSimpArgs false
set_option linter.unusedVariables false
namespace Go.Proofs.YtehakimmioclkaaGreatDoor.Lib
open Go Go.Proofs.YtehakimmioclkaaGreatDoor.Mach Go.Proofs.YtehakimmioclkaaGreatDoorW.PrintWords Go.Proofs.YtehakimmioclkaaGreatDoor.Sem Go.Proofs.YtehakimmioclkaaGreatDoor.Pure
section
theorem xT {n b:Nat} (h:n≤1000000000001) (hb:b≤100):(bif n.ble 9223372036854775807 then (n * b).ble 140737488355328 else false)=true:=by
 rw [(dX _ _).2 (show n≤9223372036854775807 by omega)]
 exact (dX _ _).2 (Nat.le_trans (Nat.mul_le_mul h hb) (by decide))
theorem xU {α:Type} {l:List α} {a:α} {n m:Nat} (h:l.length=n) (hn:n+1≤m):l.length+[a].length≤m:=by
 rw [h]; exact hn
theorem i5 {α:Type} {l:List α} {a d:α} {i:Nat}:(l ++ [a]).getD i d=if i<l.length then l.getD i d else if i=l.length then a else d:=by
 rw [List.getD_eq_getElem?_getD,List.getD_eq_getElem?_getD]
 by_cases h:i<l.length
 · rw [if_pos h,List.getElem?_append_left h]
 · rw [if_neg h,List.getElem?_append_right (by omega)]
   by_cases h1:i=l.length
   · rw [if_pos h1,h1]; simp
   · rw [if_neg h1,List.getElem?_eq_none (by simp; omega)]; rfl
theorem QF.nil (f:Nat→Rat):QF [] 0 f:=⟨rfl,fun i hi=>absurd hi (Nat.not_lt_zero _)⟩
theorem QF.push {zs:List QT} {n:Nat} {f:Nat→Rat} {z:QT} (h:QF zs n f) (hz:QV z (f n)):QF (zs ++ [z]) (n+1) f :=
 ⟨by rw [List.length_append,h.len]; rfl,fun i hi=>by
  rw [i5,h.len]
  by_cases h1:i<n
  · rw [if_pos h1]; exact h.at_ i h1
  · rw [if_neg h1,if_pos (by omega)]
    rw [show i=n by omega]; exact hz⟩
theorem GF.nil (w:Nat) (f:Nat→Nat→Rat):GF [] 0 w f:=⟨rfl,fun i hi=>absurd hi (Nat.not_lt_zero _)⟩
theorem GF.push {g:List (List QT)} {n w:Nat} {f:Nat→Nat→Rat} {z:List QT} (h:GF g n w f) (hz:QF z w (f n)):GF (g ++ [z]) (n+1) w f :=
 ⟨by rw [List.length_append,h.len]; rfl,fun i hi=>by
  rw [i5,h.len]
  by_cases h1:i<n
  · rw [if_pos h1]; exact h.at_ i h1
  · rw [if_neg h1,if_pos (by omega)]
    rw [show i=n by omega]; exact hz⟩
theorem a0O {a b:Nat} {x y:Rat} (sx:Sz a x) (sy:Sz b y):Sz (a+b+1) (x+y):=by
 have e1:=dV sx; have e2:=d8 sx; have e3:=dV sy; have e4:=d8 sy
 have m1:dg (x.num.natAbs * y.den)≤a+b:=Nat.le_trans (wK _ _) (by omega)
 have m2:dg (y.num.natAbs * x.den)≤a+b:=Nat.le_trans (wK _ _) (by omega)
 have m3:dg (x.den * y.den)≤a+b:=Nat.le_trans (wK _ _) (by omega)
 have px:=eF x
 have py:=eF y
 have hsum:x+y=mkq (decide (x.num<0)) x.num.natAbs x.den+mkq (decide (y.num<0)) y.num.natAbs y.den:=by rw [fM,fM]
 rw [wO _ _ _ _ _ _ px py] at hsum
 have hD:∀ c u,szD (mkq c u (x.den * y.den))≤a+b+1:=fun c u=>Nat.le_trans (wQ (Nat.mul_pos px py)) (by omega)
 have hN:∀ c u,dg u≤a+b+1→szN (mkq c u (x.den * y.den))≤a+b+1:=fun c u h=>Nat.le_trans (wP (Nat.mul_pos px py)) h
 have a1:=wL m1 m2
 have a2:=fA (Nat.sub_le (x.num.natAbs * y.den) (y.num.natAbs * x.den))
 have a3:=fA (Nat.sub_le (y.num.natAbs * x.den) (x.num.natAbs * y.den))
 rw [hsum]
 split
 · exact ⟨hN _ _ (by omega),hD _ _⟩
 · split
   · exact ⟨hN _ _ (by omega),hD _ _⟩
   · exact ⟨hN _ _ (by omega),hD _ _⟩
def a0P (f:Nat→Rat) (n:Nat):Nat→Rat
 | 0=>0
 | d+1=>f (n - 1 - d)+a0P f n d
theorem aC4 {f:Nat→Rat} {n s:Nat} (h:SzF s n f):∀ d,d≤n→Sz (d * (s+1)+1) (iJ f d)
 | 0,_=>(sz_zero.mono (by omega))
 | d+1,hd=>by
   have:=a0O (aC4 h d (by omega)) (h d (by omega))
   refine this.mono ?_
   rw [Nat.add_mul]; omega
section
variable {v a b:List ByteArray} {m:List (List ByteArray)} {Q:Res}
theorem a0Q {k:Nat} {l:List ByteArray} {x:Nat} (hx:x<l.length):(l.drop x).findIdx? (fun s=>decide (k<s.size))=if decide (k<(l.getD x ByteArray.empty).size)=true then some 0 else ((l.drop (x+1)).findIdx? fun s=>decide (k<s.size)).map (· + 1):=by
 rw [aZY hx,List.findIdx?_cons]
theorem a0R {l:List ByteArray} (h:aM4 l () Q):Con Tryz.prog 68 [.imm eS l, .fn 36 []] Q:=by
 obtain ⟨hl,hq⟩:=h
 refine aW (gn:=fnT Tryz.f68) (by kernel_rfl) bT (inl:=[36]) (LT:=xO) (NT:=xP) rfl fun n0=>?_
 rw [a0J]
 refine c8 (f:=68) (gn:=fnT Tryz.f68) (n0:=n0) (r:=2) (by kernel_rfl) bT (inl:=[36]) (LT:=xO) (NT:=xP) (K:=aQ Q) (fun x:Nat=>xQ l (l.length:Int) (x:Int)) (fun x=>l.length - x) (fun x=>x≤l.length∧l.findIdx? (fun s=>decide (12<s.size))=((l.drop x).findIdx? fun s=>decide (12<s.size)).map (· + x)) (fun x hp ih=>?_) 0 ⟨Nat.zero_le _,by rw [List.drop_zero]; cases l.findIdx? (fun s=>decide (12<s.size)) <;> rfl⟩
 obtain ⟨hp,he⟩:=hp
 rw [a0K]
 unfold rH at hq
 by_cases hx:x<l.length
 · refine aC (by omega) (aN (aC (by omega) (aC (by omega) ?_)))
   rw [Int.toNat_natCast,wrS hx (by omega)]
   rw [a0Q hx] at he
   by_cases hc:12<(l.getD x ByteArray.empty).size
   · rw [if_pos (decide_eq_true hc)] at he
     rw [he] at hq
     refine aC (by omega) (cS ?_)
     simpa using hq
   · rw [if_neg (by simpa using hc)] at he
     refine aG (by omega) (ih (x+1) ⟨by omega,?_⟩ (by omega))
     rw [he]
     cases (l.drop (x+1)).findIdx? (fun s=>decide (12<s.size)) with
     | none=>rfl
     | some i=>simp; omega
 · rw [List.drop_eq_nil_of_le (by omega)] at he
   rw [he] at hq
   exact aG (by omega) (cS hq)
theorem fP : ∀ g xs Q,fC g xs Q→Con Tryz.prog g xs Q:=dB fun p hp=>by
 simp only [List.mem_cons,List.not_mem_nil,or_false] at hp
 rcases hp with rfl | rfl | rfl | rfl | rfl | rfl | rfl | rfl
 · exact bE fun _ _ h=>aZO h
 · exact bE fun _ _ h=>aYE h
 · exact bE fun _ _ h=>aL2 h
 · exact bE fun _ _ h=>aCV h
 · exact bE fun _ _ h=>aZQ h
 · exact bG fun _ _ _ h=>aC2 h
 · exact bG fun _ _ _ h=>aY7 h
 · exact bG fun _ _ _ h=>a0R h
theorem a0S {n:Int} (h:intQ n Q):Con Tryz.prog 46 [.int .i64 n] Q:=by
 obtain ⟨⟨h0,h1⟩,hq⟩:=h
 refine aW (gn:=fnT Tryz.f46) (by kernel_rfl) qZ (inl:=[]) (LT:=aM6) (NT:=aM7) rfl fun n0=>?_
 rw [aZZ]
 have hd:(n:Rat).den=1:=Rat.den_intCast n
 have hn:(n:Rat).num=n:=Rat.num_intCast n
 by_cases hneg:n<0
 · refine aC hneg ⟨⟨by rw [wr (by omega) (by omega)]; omega,by rw [wr (by omega) (by omega)]; omega⟩,nU,?_⟩
   rw [wr (by omega) (by omega),show (0 - n).toNat=n.natAbs by omega]
   refine bO (hq (true,limbsOf n.natAbs,limbsOf 1) ⟨?_,?_, .inl ?_⟩) rfl rfl
   · rw [hn]; exact (decide_eq_true hneg).symm
   · rw [hn]
   · rw [hd]
 · refine aG hneg ⟨⟨by omega,by omega⟩,nU,?_⟩
   rw [show n.toNat=n.natAbs by omega]
   refine bO (hq (false,limbsOf n.natAbs,limbsOf 1) ⟨?_,?_, .inl ?_⟩) rfl rfl
   · rw [hn]; exact (decide_eq_false hneg).symm
   · rw [hn]
   · rw [hd]
theorem aNK (h:rE v Q):Con Tryz.prog 54 [.imm eS v] Q:=by
 obtain ⟨ht,hq⟩:=h
 refine aW (gn:=fnT Tryz.f54) (by kernel_rfl) fP (inl:=[]) (LT:=aM8) (NT:=aM9) rfl fun n0=>?_
 rw [aZ0]
 unfold fO at hq
 by_cases h1:40<v.length
 · rw [if_pos h1] at hq
   exact aC (by omega) (cS hq)
 · rw [if_neg h1] at hq
   exact aG (by omega) ⟨ht,cS hq⟩
theorem a0T (h:rE v Q):Con Tryz.prog 67 [.imm eS v] Q:=by
 obtain ⟨ht,hq⟩:=h
 refine aW (gn:=fnT Tryz.f67) (by kernel_rfl) fP (inl:=[]) (LT:=aNE) (NT:=aNF) rfl fun n0=>?_
 rw [a0B]
 unfold fO at hq
 by_cases h1:40<v.length
 · rw [if_pos h1] at hq
   exact aC (by omega) (cS hq)
 · rw [if_neg h1] at hq
   exact aG (by omega) ⟨ht,cS hq⟩
theorem aNL (h:i4 m Q):Con Tryz.prog 60 [.imm (eL eS) m] Q:=by
 refine aW (gn:=fnT Tryz.f60) (by kernel_rfl) fP (inl:=[]) (LT:=aNA) (NT:=aNB) rfl fun n0=>?_
 rw [aZ3]
 unfold i4 wide at h
 by_cases h0:m.length=0
 · have:m=[]:=List.length_eq_zero_iff.1 h0
   subst this
   exact aC (by omega) (cS h)
 · exact aG (by omega) (aC (by omega) (cS h))
theorem aC5 (h:i4 m Q):Con Tryz.prog 34 [.imm (eL eS) m] Q:=by
 refine aW (gn:=fnT Tryz.f34) (by kernel_rfl) fP (inl:=[]) (LT:=aNG) (NT:=aNH) rfl fun n0=>?_
 rw [a0E]
 unfold i4 wide at h
 by_cases h0:m.length=0
 · have:m=[]:=List.length_eq_zero_iff.1 h0
   subst this
   exact aG (by decide) (cS h)
 · exact aC (by omega) (aC (by omega) (cS h))
theorem aNM (h:rowS v Q):Con Tryz.prog 55 [.imm eS v] Q:=by
 obtain ⟨⟨h0,hn⟩,hq⟩:=h
 unfold TxN at hn
 refine aW (gn:=fnT Tryz.f55) (by kernel_rfl) fP (inl:=[]) (LT:=xE) (NT:=xF) rfl fun n0=>?_
 rw [aZ4]
 refine c8 (f:=55) (gn:=fnT Tryz.f55) (n0:=n0) (r:=3) (by kernel_rfl) fP (inl:=[]) (LT:=xE) (NT:=xF) (K:=aQ Q) (fun y:Nat × List QT=>rK v (v.length:Int) (y.1:Int) y.2) (fun y=>v.length - y.1) (fun y=>y.1≤v.length∧QF y.2 y.1 (vent v)) (fun y hp ih=>?_) (0,[]) ⟨Nat.zero_le _,QF.nil _⟩
 obtain ⟨x,zs⟩:=y
 obtain ⟨hx0,hz⟩:=hp
 simp only at hx0 hz
 show aH _ _ _ _ _ _ (rK v (v.length:Int) (x:Int) zs)
 rw [aZ5]
 by_cases hx:x<v.length
 · obtain ⟨a1,a2⟩:=aMZ h0 hx
   refine aC (by omega) (aN (aC (by omega) (aC (by omega) ?_)))
   rw [Int.toNat_natCast,wrS hx (by omega)]
   exact ⟨_,a1,a2.mono (by decide),fun z hz2=>aP (xT (xU hz.len (by omega)) (by decide)) (ih (x+1,zs ++ [z]) ⟨by show x+1≤_; omega,hz.push hz2⟩ (by show v.length - (x+1)<v.length - x; omega))⟩
 · have hxx:x=v.length:=by omega
   subst hxx
   exact aG (by omega) (kX rfl (hq zs hz))
theorem oB : ∀ g xs Q,lC g xs Q→Con Tryz.prog g xs Q:=dB fun p hp=>by
 simp only [List.mem_cons,List.not_mem_nil,or_false] at hp
 rcases hp with rfl | rfl | rfl | rfl | rfl
 · exact bE fun _ _ h=>aNK h
 · exact bE fun _ _ h=>aNM h
 · exact bE fun _ _ h=>a0T h
 · exact bE fun _ _ h=>aC5 h
 · exact bE fun _ _ h=>aNL h
theorem a0U {l:List (List ByteArray)} {x:Nat} (hx:x<l.length):l.drop x=l.getD x [] :: l.drop (x+1):=by
 rw [List.drop_eq_getElem_cons hx,List.getD_eq_getElem?_getD,List.getElem?_eq_getElem hx]; rfl
theorem aNN {l:List (List ByteArray)} {w x:Nat} (hx:x<l.length):iK w (l.drop x)=if lA w (l.getD x [])=0 then iK w (l.drop (x+1)) else lA w (l.getD x []):=by
 rw [a0U hx]; rfl
theorem aNO {w:Nat} {r:List ByteArray} (h:r.length=w):lA w r=fO r:=if_neg fun hc=>hc h
theorem aNP {w:Nat} {r:List ByteArray} (h:¬ r.length=w):lA w r=3:=if_pos h
theorem a0V (h:xA m Q):Con Tryz.prog 59 [.imm (eL eS) m] Q:=by
 obtain ⟨ht,hq⟩:=h
 refine aW (gn:=fnT Tryz.f59) (by kernel_rfl) oB (inl:=[]) (LT:=xB) (NT:=xC) rfl fun n0=>?_
 rw [aZ1]
 have hk:∀ e H,eH m=e→aQ Q (.int .i64 e) H:=fun e H h1=>by rw [h1] at hq; exact cS hq
 unfold eH at hk
 by_cases h1:40<m.length
 · simp only [if_pos h1] at hk
   exact aC (by omega) (hk _ _ rfl)
 simp only [if_neg h1] at hk
 refine aG (by omega) ?_
 refine c8 (f:=59) (gn:=fnT Tryz.f59) (n0:=n0) (r:=4) (by kernel_rfl) oB (inl:=[]) (LT:=xB) (NT:=xC) (K:=aQ Q) (fun x:Nat=>xD m (m.length:Int) (x:Int)) (fun x=>m.length - x) (fun x=>x≤m.length∧iK (wide m) m=iK (wide m) (m.drop x)) (fun x hp ih=>?_) 0 ⟨Nat.zero_le _,by rw [List.drop_zero]⟩
 obtain ⟨hp,he⟩:=hp
 rw [aZ2]
 by_cases hx:x<m.length
 · rw [aNN hx] at he
   refine aC (by omega) (aN (aC (by omega) (aC (by omega) (aC (by omega) ?_))))
   rw [Int.toNat_natCast,wrS hx (by omega)]
   by_cases h2:(m.getD x []).length=wide m
   · rw [aNO h2] at he
     refine aR (aC (by unfold wide at h2; omega) ⟨ht.2 _ (gU hx),?_⟩)
     by_cases h3:fO (m.getD x [])=0
     · rw [if_pos h3] at he
       exact aR (aC h3 (ih (x+1) ⟨by omega,he⟩ (by omega)))
     · rw [if_neg h3] at he
       exact aR (aG h3 (hk _ _ he))
   · rw [aNP h2,if_neg (by decide)] at he
     exact aR (aG (by unfold wide at h2; omega) (hk _ _ he))
 · rw [List.drop_eq_nil_of_le (by omega)] at he
   exact aG (by omega) (hk _ _ he)
theorem a0W (h:xA m Q):Con Tryz.prog 33 [.imm (eL eS) m] Q:=by
 obtain ⟨ht,hq⟩:=h
 refine aW (gn:=fnT Tryz.f33) (by kernel_rfl) oB (inl:=[]) (LT:=xL) (NT:=xM) rfl fun n0=>?_
 rw [a0C]
 have hk:∀ e H,eH m=e→aQ Q (.int .i64 e) H:=fun e H h1=>by rw [h1] at hq; exact cS hq
 unfold eH at hk
 by_cases h1:40<m.length
 · simp only [if_pos h1] at hk
   exact aC (by omega) (hk _ _ rfl)
 simp only [if_neg h1] at hk
 refine aG (by omega) ?_
 refine c8 (f:=33) (gn:=fnT Tryz.f33) (n0:=n0) (r:=4) (by kernel_rfl) oB (inl:=[]) (LT:=xL) (NT:=xM) (K:=aQ Q) (fun x:Nat=>xN m (m.length:Int) (x:Int)) (fun x=>m.length - x) (fun x=>x≤m.length∧iK (wide m) m=iK (wide m) (m.drop x)) (fun x hp ih=>?_) 0 ⟨Nat.zero_le _,by rw [List.drop_zero]⟩
 obtain ⟨hp,he⟩:=hp
 rw [a0D]
 by_cases hx:x<m.length
 · rw [aNN hx] at he
   refine aC (by omega) (aN (aC (by omega) (aC (by omega) (aC (by omega) ?_))))
   rw [Int.toNat_natCast,wrS hx (by omega)]
   by_cases h2:(m.getD x []).length=wide m
   · rw [aNO h2] at he
     refine aR (aC (by unfold wide at h2; omega) (aN (aC (by omega) (aC (by omega) ⟨ht.2 _ (gU hx),?_⟩))))
     by_cases h3:fO (m.getD x [])=0
     · rw [if_pos h3] at he
       exact aR (aC h3 (ih (x+1) ⟨by omega,he⟩ (by omega)))
     · rw [if_neg h3] at he
       exact aR (aG h3 (hk _ _ he))
   · rw [aNP h2,if_neg (by decide)] at he
     exact aR (aG (by unfold wide at h2; omega) (hk _ _ he))
 · rw [List.drop_eq_nil_of_le (by omega)] at he
   exact aG (by omega) (hk _ _ he)
theorem aNQ (h:fO v=0):v.length≤40∧d7 v=0:=by
 unfold fO at h
 split at h
 · cases h
 · exact ⟨by omega,h⟩
theorem aNR {w:Nat}:∀ {l:List (List ByteArray)},iK w l=0→∀ r∈l,r.length=w∧fO r=0
 | [],_,r,hr=>absurd hr (by simp)
 | a :: l,h,r,hr=>by
   unfold iK at h
   split at h
   · rename_i h0
     rcases List.mem_cons.1 hr with rfl | hr
     · unfold lA at h0
       split at h0
       · cases h0
       · rename_i h1; exact ⟨Decidable.not_not.1 h1,h0⟩
     · exact aNR h r hr
   · rename_i h0; exact absurd h h0
structure aNS (m:List (List ByteArray)):Prop where
 len:m.length≤40
 wide:wide m≤40
 row:∀ i,i<m.length→(m.getD i []).length=Lib.wide m∧d7 (m.getD i [])=0
 ent:∀ i k,i<m.length→k<Lib.wide m→(m.getD i []).getD k b0=ratText (ent m i k)∧Sz 2000 (Lib.ent m i k)
theorem aNT (h:eH m=0):aNS m:=by
 unfold eH at h
 split at h
 · cases h
 · rename_i hl
   have hr:=aNR h
   have row:∀ i,i<m.length→(m.getD i []).length=wide m∧d7 (m.getD i [])=0:=fun i hi=>⟨(hr _ (gU hi)).1,(aNQ (hr _ (gU hi)).2).2⟩
   refine ⟨by omega,?_,row,fun i k hi hk=>aMZ (row i hi).2 (by rw [(row i hi).1]; exact hk)⟩
   by_cases h0:0<m.length
   · exact (aNQ (hr _ (gU (d:=[]) h0)).2).1
   · have:m=[]:=List.length_eq_zero_iff.1 (by omega)
     subst this
     exact Nat.zero_le _
theorem a0X (h:aM0 m Q):Con Tryz.prog 30 [.imm (eL eS) m] Q:=by
 obtain ⟨h0,hq⟩:=h
 have M:=aNT h0
 have hl:=M.len
 have hw:=M.wide
 refine aW (gn:=fnT Tryz.f30) (by kernel_rfl) oB (inl:=[]) (LT:=xG) (NT:=xH) rfl fun n0=>?_
 rw [aZ6]
 refine c8 (f:=30) (gn:=fnT Tryz.f30) (n0:=n0) (r:=3) (by kernel_rfl) oB (inl:=[]) (LT:=xG) (NT:=xH) (K:=aQ Q) (fun y:Nat × List (List QT)=>rL m (m.length:Int) (y.1:Int) y.2) (fun y=>m.length - y.1) (fun y=>y.1≤m.length∧GF y.2 y.1 (wide m) (ent m)) (fun y hp ih=>?_) (0,[]) ⟨Nat.zero_le _,GF.nil _ _⟩
 obtain ⟨x,zs⟩:=y
 obtain ⟨hx0,hz⟩:=hp
 simp only at hx0 hz
 show aH _ _ _ _ _ _ (rL m (m.length:Int) (x:Int) zs)
 rw [aZ7]
 by_cases hx:x<m.length
 · obtain ⟨r1,r2⟩:=M.row x hx
   refine aC (by omega) (aN (aC (by omega) (aC (by omega) ?_)))
   rw [Int.toNat_natCast,wrS hx (by omega)]
   refine ⟨⟨r2,by unfold TxN; omega⟩,fun z hz2=>aP (xT (xU hz.len (by omega)) (by decide)) (ih (x+1,zs ++ [z]) ⟨by show x+1≤_; omega,hz.push ?_⟩ (by show m.length - (x+1)<m.length - x; omega))⟩
   rw [r1] at hz2
   exact hz2
 · have hxx:x=m.length:=by omega
   subst hxx
   exact aG (by omega) (kX rfl (hq zs hz))
theorem aNU : ∀ g xs Q,aC3 g xs Q→Con Tryz.prog g xs Q:=dB fun p hp=>by
 simp only [List.mem_cons,List.not_mem_nil,or_false] at hp
 rcases hp with rfl | rfl | rfl | rfl
 · exact bE fun _ _ h=>a0V h
 · exact bE fun _ _ h=>aNL h
 · exact bE fun _ _ h=>aC5 h
 · exact bE fun _ _ h=>a0W h
theorem a0Y {n x:Nat} {f:Nat→Rat} (hx:x<n) (h:iH (f x)≠0):n6 n f=2∧iH (f x)=2:=by
 refine ⟨if_neg fun hc=>h (hc x hx),?_⟩
 unfold iH at h ⊢
 split at h
 · rename_i h1; rw [if_pos h1]
 · exact absurd rfl h
theorem a0Z (n:Nat) (f:Nat→Rat):jW (n+1) f=jW n f ++ [ratText (f n)]:=by
 unfold jW
 rw [List.range_succ,List.map_append]; rfl
theorem a00 (n:Nat) (f:Nat→Rat):(jW n f).length=n:=by unfold jW; simp
theorem a01 {zs:List QT} (h:aM1 zs Q):Con Tryz.prog 53 [.imm eQ zs] Q:=by
 obtain ⟨n,f,hz,hn,hs,hq⟩:=h
 unfold TxN at hn
 have hzl:=hz.len
 refine aMV (e:=eS) (l:=rG n f) (n:=n6 n f) ?_ hq
 refine aW (gn:=fnT Tryz.f53) (by kernel_rfl) fP (inl:=[]) (LT:=xI) (NT:=xJ) rfl fun n0=>?_
 rw [aZ8]
 refine c8 (f:=53) (gn:=fnT Tryz.f53) (n0:=n0) (r:=3) (by kernel_rfl) fP (inl:=[]) (LT:=xI) (NT:=xJ) (K:=aQ (outL eS (rG n f) (n6 n f))) (fun x:Nat=>xK zs (zs.length:Int) (x:Int) (jW x f)) (fun x=>zs.length - x) (fun x=>x≤zs.length∧∀ i,i<x→iH (f i)=0) (fun x hp ih=>?_) 0 ⟨Nat.zero_le _,fun i hi=>absurd hi (Nat.not_lt_zero _)⟩
 obtain ⟨hx0,hf⟩:=hp
 rw [aZ9]
 by_cases hx:x<zs.length
 · have hv:=hz.at_ x (by omega)
   refine aC (by omega) (aN (aC (by omega) (aC (by omega) ?_)))
   rw [Int.toNat_natCast,wrS hx (by omega)]
   refine ⟨_,hv,hs x (by omega),?_⟩
   by_cases h0:iH (f x)=0
   · have ih' := ih (x+1) ⟨by omega,fun i hi=>by
        by_cases hix:i=x
        · rw [hix]; exact h0
        · exact hf i (by omega)⟩ (by omega)
     rw [a0Z] at ih'
     exact aR (aC h0 ⟨_,hv,hs x (by omega),aP (xT (xU (a00 x f) (by omega)) (by decide)) ih'⟩)
   · obtain ⟨e1,e2⟩:=a0Y (n:=n) (by omega) h0
     refine aR (aG h0 ?_)
     rw [e2,e1]
     exact aMX (by unfold rG; rw [e1]; rfl)
 · have hxx:x=n:=by omega
   subst hxx
   have e:n6 x f=0:=if_pos hf
   refine aG (by omega) ?_
   have e2:rG x f=jW x f:=if_pos e
   rw [e,e2]
   exact aMW rfl
theorem a02 (h:rF m Q):Con Tryz.prog 29 [.imm (eL eS) m] Q:=by
 obtain ⟨ht,hq⟩:=h
 refine aW (gn:=fnT Tryz.f29) (by kernel_rfl) aNU (inl:=[]) (LT:=aNC) (NT:=aND) rfl fun n0=>?_
 rw [a0A]
 unfold d9 at hq
 by_cases h1:12<m.length
 · rw [if_pos h1] at hq
   exact aC (by omega) (cS hq)
 rw [if_neg h1] at hq
 refine aG (by omega) ⟨ht,?_⟩
 by_cases h2:eH m=0
 · rw [if_neg (fun h=>h h2)] at hq
   refine aR (aC h2 ?_)
   by_cases h3:wide m=0
   · rw [if_pos h3] at hq
     exact aC (by omega) (cS hq)
   rw [if_neg h3] at hq
   have hpos:0<m.length:=by
    rcases Nat.eq_zero_or_pos m.length with h0 | h0
    · rw [List.length_eq_zero_iff.1 h0] at h3
      exact absurd rfl h3
    · exact h0
   refine aG (by omega) (aC (by omega) ?_)
   by_cases h4:12<wide m
   · rw [if_pos h4] at hq
     exact aC (by unfold wide at h4; omega) (cS hq)
   · rw [if_neg h4] at hq
     exact aG (by unfold wide at h4; omega) (cS hq)
 · rw [if_pos h2] at hq
   exact aR (aG h2 (cS hq))
theorem aNV (h:rF m Q):Con Tryz.prog 8 [.imm (eL eS) m] Q:=by
 obtain ⟨ht,hq⟩:=h
 refine aW (gn:=fnT Tryz.f8) (by kernel_rfl) aNU (inl:=[]) (LT:=aNI) (NT:=aNJ) rfl fun n0=>?_
 rw [a0F]
 unfold d9 at hq
 by_cases h1:12<m.length
 · rw [if_pos h1] at hq
   exact aC (by omega) (cS hq)
 rw [if_neg h1] at hq
 refine aG (by omega) ⟨ht,?_⟩
 by_cases h2:eH m=0
 · rw [if_neg (fun h=>h h2)] at hq
   refine aR (aC h2 ?_)
   by_cases h3:wide m=0
   · rw [if_pos h3] at hq
     exact aC (by omega) (cS hq)
   rw [if_neg h3] at hq
   refine aG (by omega) ?_
   by_cases h4:12<wide m
   · rw [if_pos h4] at hq
     exact aC (by omega) (cS hq)
   · rw [if_neg h4] at hq
     exact aG (by omega) (cS hq)
 · rw [if_pos h2] at hq
   exact aR (aG h2 (cS hq))
theorem a03 {l:List (List ByteArray)} (h:aM2 l Q):Con Tryz.prog 6 [.imm (eL eS) l] Q:=by
 obtain ⟨⟨hl,hr⟩,hq⟩:=h
 refine aW (gn:=fnT Tryz.f6) (by kernel_rfl) fP (inl:=[]) (LT:=n7) (NT:=n8) rfl fun n0=>?_
 rw [a0G]
 refine c8 (f:=6) (gn:=fnT Tryz.f6) (n0:=n0) (r:=3) (by kernel_rfl) fP (inl:=[]) (LT:=n7) (NT:=n8) (K:=aQ Q) (fun y:Int × Nat=>rM l y.1 (l.length:Int) (y.2:Int)) (fun y=>l.length - y.2) (fun y=>y.2≤l.length) (fun y hp ih=>?_) (0,0) (Nat.zero_le _)
 obtain ⟨n,x⟩:=y
 simp only at hp
 show aH _ _ _ _ _ _ (rM l n (l.length:Int) (x:Int))
 rw [a0H]
 by_cases hx:x<l.length
 · refine aC (by omega) (aN (aC (by omega) (aC (by omega) ?_)))
   rw [Int.toNat_natCast]
   have hrr:=hr _ (gU (d:=[]) hx)
   generalize l.getD x []=r at hrr
   refine c8 (f:=6) (gn:=fnT Tryz.f6) (n0:=n0) (r:=6) (by kernel_rfl) fP (inl:=[]) (LT:=n7) (NT:=n8) (K:=aQ Q) (fun y:Int × Nat=>rN l y.1 (l.length:Int) (x:Int) r (r.length:Int) (y.2:Int)) (fun y=>r.length - y.2) (fun y=>y.2≤r.length) (fun y hp ih2=>?_) (n,0) (Nat.zero_le _)
   obtain ⟨m,k⟩:=y
   simp only at hp
   show aH _ _ _ _ _ _ (rN l m (l.length:Int) (x:Int) r (r.length:Int) (k:Int))
   rw [a0I]
   by_cases hk:k<r.length
   · refine aC (by omega) (aN (aC (by omega) (aC (by omega) ?_)))
     rw [wrS hk (by omega)]
     exact ih2 (_,k+1) (by show k+1≤r.length; omega) (by show r.length - (k+1)<r.length - k; omega)
   · refine aG (by omega) ?_
     rw [wrS hx (by omega)]
     exact ih (_,x+1) (by show x+1≤l.length; omega) (by show l.length - (x+1)<l.length - x; omega)
 · exact aG (by omega) (cS (hq _))
theorem aNW {α:Type} {d:α} {l:List α} {x:Nat} (hx:x<l.length):l.drop x=l.getD x d :: l.drop (x+1):=by
 rw [List.drop_eq_getElem_cons hx,List.getD_eq_getElem?_getD,List.getElem?_eq_getElem hx]; rfl
theorem a04 {n:Int} {ms:List (List (List ByteArray))} (h:aM5 n ms Q):Con Tryz.prog 9 [.int .i64 n, .imm (eL (eL eS)) ms] Q:=by
 obtain ⟨⟨hl,hm⟩,hq⟩:=h
 have hk:∀ b H,lB n ms=b→aQ Q (.bool b) H:=fun b H h=>by rw [h] at hq; exact aML hq
 refine aW (gn:=fnT Tryz.f9) (by kernel_rfl) fP (inl:=[35]) (LT:=n9) (NT:=oA) rfl fun n0=>?_
 rw [a0L]
 refine c8 (f:=9) (gn:=fnT Tryz.f9) (n0:=n0) (r:=2) (by kernel_rfl) fP (inl:=[35]) (LT:=n9) (NT:=oA) (K:=aQ Q) (fun x:Nat=>xR n ms (ms.length:Int) (x:Int)) (fun x=>ms.length - x) (fun x=>x≤ms.length∧lB n ms=(ms.drop x).any (rJ n)) (fun x hp ih=>?_) 0 ⟨Nat.zero_le _,by rw [List.drop_zero]; rfl⟩
 obtain ⟨hp,he⟩:=hp
 rw [a0M]
 by_cases hx:x<ms.length
 · obtain ⟨m1,m2⟩:=hm _ (gU (d:=[]) hx)
   rw [aNW (d:=[]) hx,List.any_cons] at he
   refine aC (by omega) (aN (aC (by omega) (aC (by omega) ?_)))
   rw [Int.toNat_natCast]
   generalize ms.getD x []=m at m1 m2 he
   by_cases h1:(m.length:Int) > n
   · exact aC h1 (hk _ _ (by rw [he]; unfold rJ; rw [decide_eq_true h1]; rfl))
   refine aG h1 ?_
   refine c8 (f:=9) (gn:=fnT Tryz.f9) (n0:=n0) (r:=7) (by kernel_rfl) fP (inl:=[35]) (LT:=n9) (NT:=oA) (K:=aQ Q) (fun k:Nat=>xS n ms (ms.length:Int) (x:Int) m (m.length:Int) (k:Int)) (fun k=>m.length - k) (fun k=>k≤m.length∧lB n ms=((m.drop k).any (rI n) || (ms.drop (x+1)).any (rJ n))) (fun k hp2 ih2=>?_) 0 ⟨Nat.zero_le _,by rw [List.drop_zero,he]; unfold rJ; rw [decide_eq_false h1]; rfl⟩
   obtain ⟨hp2,he2⟩:=hp2
   rw [a0N]
   by_cases hk2:k<m.length
   · have hr:=(m2 _ (gU (d:=[]) hk2)).1
     rw [aNW (d:=[]) hk2,List.any_cons] at he2
     refine aC (by omega) (aN (aC (by omega) (aC (by omega) ?_)))
     rw [Int.toNat_natCast,wrS hk2 (by omega)]
     generalize m.getD k []=v at hr he2
     by_cases h2:(v.length:Int) > n
     · exact aC h2 (hk _ _ (by rw [he2]; unfold rI; rw [decide_eq_true h2]; rfl))
     refine aG h2 ⟨hr,?_⟩
     rw [cond_false]
     by_cases h3:rH 12 v ≥ 0
     · exact aC h3 (hk _ _ (by rw [he2]; unfold rI; rw [decide_eq_true h3,Bool.or_true]; rfl))
     · refine aG h3 (ih2 (k+1) ⟨by omega,?_⟩ (by omega))
       rw [he2]
       unfold rI
       rw [decide_eq_false h2,decide_eq_false h3]; rfl
   · rw [List.drop_eq_nil_of_le (by omega)] at he2
     refine aG (by omega) ?_
     rw [wrS hx (by omega)]
     exact ih (x+1) ⟨by omega,he2⟩ (by omega)
 · rw [List.drop_eq_nil_of_le (by omega)] at he
   exact aG (by omega) (hk _ _ he)
end
end
section
def jX (n w:Nat) (x:Int × Int):Bool:=decide (0≤x.1) && decide (x.1<n) && decide (0≤x.2) && decide (x.2<w)
def cF (F:Nat→Nat→Rat) (l:List (Int × Int)) (x i:Nat):Rat:=iJ (fun t=>F i (l.getD t p0).2.toNat) x
def cQ (F:Nat→Nat→Rat) (l:List (Int × Int)) (x k:Nat):Rat:=iJ (fun t=>F (l.getD t p0).1.toNat k) x
noncomputable def bestTo (f:Nat→Rat):Nat→Nat
 | 0=>0
 | x+1=>if 0<sgn (f x - f (bestTo f x)) then x else bestTo f x
noncomputable def leastTo (f:Nat→Rat):Nat→Nat
 | 0=>0
 | x+1=>if sgn (f x - f (leastTo f x))<0 then x else leastTo f x
noncomputable def bV (F:Nat→Nat→Rat) (n w:Nat):Nat→List (Int × Int)
 | 0=>[]
 | T+1=>bV F n w T ++ [(((bestTo (cF F (bV F n w T) T) n:Nat):Int),((leastTo (cQ F (bV F n w T) T) w:Nat):Int))]
noncomputable def cT (m:List (List ByteArray)) (n:Int):Int:=if d9 m≠0 then d9 m else if n<0∨200<n then 4 else 0
noncomputable def bQ (m:List (List ByteArray)) (n:Int):List (Int × Int):=if cT m n=0 then bV (ent m) m.length (wide m) n.toNat else []
def aNX (m:List (List ByteArray)) (n:Int) (Q:Res):Prop:=TxM m∧Q (.tup [.imm eP (bQ m n), .int .i64 (cT m n)]) []
noncomputable def lD : FuncId→List AV→Res→Prop:=c7 [(29,c1 vT rF),(8,c1 vT rF),(34,c1 vT i4),(32,c2 vQ vQ addQ),(54,c1 vLS rE),(55,c1 vLS rowS),(56,c1 vQ wS),(47,c2 vQ vQ quoQ),(46,c1 vI intQ),(53,c1 vLQ aM1),(30,c1 vT aM0),(31,c2 vQ vQ cmpQ),(48,c1 vQ wR)]
def aNY (Q:Res):Prop:=Q (.bool true) []
end
end Go.Proofs.YtehakimmioclkaaGreatDoor.Lib
end
section
set_option linter.unusedSimpArgs false
set_option linter.unusedVariables false
namespace Go.Proofs.YtehakimmioclkaaGreatDoor.Mach
open Go Go.Proofs.YtehakimmioclkaaGreatDoor Go.Proofs.YtehakimmioclkaaGreatDoor.Lib
section
def gK : List (Nat × List Nat):=[(10,[7,8,9,10,39,40]),(13,[7,8,9,10,11,39,40,42,43,44]),(19,[7,8,9,10,11,39,40,60,61,62]),(25,[7,8,9,10,11,39,40,79,80]),(30,[7,8,9,10,11,39,40,101,102])]
def gL : List (Nat × ETy):=[(7,ETy.one (CTy.slice (ETy.more CTy.bool (ETy.more (CTy.slice (ETy.one (CTy.int IntKind.u32))) (ETy.one (CTy.slice (ETy.one (CTy.int IntKind.u32)))))))),(8,ETy.more CTy.bool (ETy.more (CTy.slice (ETy.one (CTy.int IntKind.u32))) (ETy.one (CTy.slice (ETy.one (CTy.int IntKind.u32)))))),(9,ETy.more CTy.bool (ETy.more (CTy.slice (ETy.one (CTy.int IntKind.u32))) (ETy.one (CTy.slice (ETy.one (CTy.int IntKind.u32)))))),(10,ETy.more (CTy.int IntKind.i64) (ETy.one (CTy.int IntKind.i64))),(42,ETy.more CTy.bool (ETy.more (CTy.slice (ETy.one (CTy.int IntKind.u32))) (ETy.one (CTy.slice (ETy.one (CTy.int IntKind.u32)))))),(60,ETy.more CTy.bool (ETy.more (CTy.slice (ETy.one (CTy.int IntKind.u32))) (ETy.one (CTy.slice (ETy.one (CTy.int IntKind.u32))))))]
noncomputable def lE (m:List (List ByteArray)) (n:Int) (x0:Int) (x1:List (List (Bool × List Int × List Int))) (x2:List (Bool × List Int × List Int)) (x3:List (Bool × List Int × List Int)) (x4:List (Int × Int)):St:=aT 128 [(7,AV.own 0),(8,AV.own 1),(9,AV.own 2),(10,AV.own 3),(39,AV.int IntKind.i64 n),(40,AV.int IntKind.i64 x0)] [aA.typed (ETy.one (CTy.slice (ETy.more CTy.bool (ETy.more (CTy.slice (ETy.one (CTy.int IntKind.u32))) (ETy.one (CTy.slice (ETy.one (CTy.int IntKind.u32)))))))) x1 false,aA.typed (ETy.more CTy.bool (ETy.more (CTy.slice (ETy.one (CTy.int IntKind.u32))) (ETy.one (CTy.slice (ETy.one (CTy.int IntKind.u32)))))) x2 false,aA.typed (ETy.more CTy.bool (ETy.more (CTy.slice (ETy.one (CTy.int IntKind.u32))) (ETy.one (CTy.slice (ETy.one (CTy.int IntKind.u32)))))) x3 false,aA.typed (ETy.more (CTy.int IntKind.i64) (ETy.one (CTy.int IntKind.i64))) x4 false]
noncomputable def rO (m:List (List ByteArray)) (n:Int) (x0:Int) (x1:Int) (x2:Int) (x3:List (List (Bool × List Int × List Int))) (x4:List (Bool × List Int × List Int)) (x5:List (Bool × List Int × List Int)) (x6:List (Int × Int)) (x7:List Int):St:=aT 128 [(7,AV.own 0),(8,AV.own 1),(9,AV.own 2),(10,AV.own 3),(11,AV.parr 4),(39,AV.int IntKind.i64 n),(40,AV.int IntKind.i64 x0),(42,AV.own 1),(43,AV.int IntKind.i64 x1),(44,AV.int IntKind.i64 x2)] [aA.typed (ETy.one (CTy.slice (ETy.more CTy.bool (ETy.more (CTy.slice (ETy.one (CTy.int IntKind.u32))) (ETy.one (CTy.slice (ETy.one (CTy.int IntKind.u32)))))))) x3 false,aA.typed (ETy.more CTy.bool (ETy.more (CTy.slice (ETy.one (CTy.int IntKind.u32))) (ETy.one (CTy.slice (ETy.one (CTy.int IntKind.u32)))))) x4 false,aA.typed (ETy.more CTy.bool (ETy.more (CTy.slice (ETy.one (CTy.int IntKind.u32))) (ETy.one (CTy.slice (ETy.one (CTy.int IntKind.u32)))))) x5 false,aA.typed (ETy.more (CTy.int IntKind.i64) (ETy.one (CTy.int IntKind.i64))) x6 false,aA.typed (ETy.one (CTy.int IntKind.i64)) x7 false]
noncomputable def rP (m:List (List ByteArray)) (n:Int) (x0:Int) (x1:Int) (x2:Int) (x3:List (List (Bool × List Int × List Int))) (x4:List (Bool × List Int × List Int)) (x5:List (Bool × List Int × List Int)) (x6:List (Int × Int)) (x7:List Int):St:=aT 128 [(7,AV.own 0),(8,AV.own 1),(9,AV.own 2),(10,AV.own 3),(11,AV.parr 4),(39,AV.int IntKind.i64 n),(40,AV.int IntKind.i64 x0),(60,AV.own 2),(61,AV.int IntKind.i64 x1),(62,AV.int IntKind.i64 x2)] [aA.typed (ETy.one (CTy.slice (ETy.more CTy.bool (ETy.more (CTy.slice (ETy.one (CTy.int IntKind.u32))) (ETy.one (CTy.slice (ETy.one (CTy.int IntKind.u32)))))))) x3 false,aA.typed (ETy.more CTy.bool (ETy.more (CTy.slice (ETy.one (CTy.int IntKind.u32))) (ETy.one (CTy.slice (ETy.one (CTy.int IntKind.u32)))))) x4 false,aA.typed (ETy.more CTy.bool (ETy.more (CTy.slice (ETy.one (CTy.int IntKind.u32))) (ETy.one (CTy.slice (ETy.one (CTy.int IntKind.u32)))))) x5 false,aA.typed (ETy.more (CTy.int IntKind.i64) (ETy.one (CTy.int IntKind.i64))) x6 false,aA.typed (ETy.one (CTy.int IntKind.i64)) x7 false]
noncomputable def oC (m:List (List ByteArray)) (n:Int) (x0:Int) (x1:Int) (x2:Int) (x3:List (List (Bool × List Int × List Int))) (x4:List (Bool × List Int × List Int)) (x5:List (Bool × List Int × List Int)) (x6:List (Int × Int)) (x7:List Int):St:=aT 128 [(7,AV.own 0),(8,AV.own 1),(9,AV.own 2),(10,AV.own 3),(11,AV.parr 4),(39,AV.int IntKind.i64 n),(40,AV.int IntKind.i64 x0),(79,AV.int IntKind.i64 x1),(80,AV.int IntKind.i64 x2)] [aA.typed (ETy.one (CTy.slice (ETy.more CTy.bool (ETy.more (CTy.slice (ETy.one (CTy.int IntKind.u32))) (ETy.one (CTy.slice (ETy.one (CTy.int IntKind.u32)))))))) x3 false,aA.typed (ETy.more CTy.bool (ETy.more (CTy.slice (ETy.one (CTy.int IntKind.u32))) (ETy.one (CTy.slice (ETy.one (CTy.int IntKind.u32)))))) x4 false,aA.typed (ETy.more CTy.bool (ETy.more (CTy.slice (ETy.one (CTy.int IntKind.u32))) (ETy.one (CTy.slice (ETy.one (CTy.int IntKind.u32)))))) x5 false,aA.typed (ETy.more (CTy.int IntKind.i64) (ETy.one (CTy.int IntKind.i64))) x6 false,aA.typed (ETy.one (CTy.int IntKind.i64)) x7 false]
noncomputable def oD (m:List (List ByteArray)) (n:Int) (x0:Int) (x1:Int) (x2:Int) (x3:List (List (Bool × List Int × List Int))) (x4:List (Bool × List Int × List Int)) (x5:List (Bool × List Int × List Int)) (x6:List (Int × Int)) (x7:List Int):St:=aT 128 [(7,AV.own 0),(8,AV.own 1),(9,AV.own 2),(10,AV.own 3),(11,AV.parr 4),(39,AV.int IntKind.i64 n),(40,AV.int IntKind.i64 x0),(101,AV.int IntKind.i64 x1),(102,AV.int IntKind.i64 x2)] [aA.typed (ETy.one (CTy.slice (ETy.more CTy.bool (ETy.more (CTy.slice (ETy.one (CTy.int IntKind.u32))) (ETy.one (CTy.slice (ETy.one (CTy.int IntKind.u32)))))))) x3 false,aA.typed (ETy.more CTy.bool (ETy.more (CTy.slice (ETy.one (CTy.int IntKind.u32))) (ETy.one (CTy.slice (ETy.one (CTy.int IntKind.u32)))))) x4 false,aA.typed (ETy.more CTy.bool (ETy.more (CTy.slice (ETy.one (CTy.int IntKind.u32))) (ETy.one (CTy.slice (ETy.one (CTy.int IntKind.u32)))))) x5 false,aA.typed (ETy.more (CTy.int IntKind.i64) (ETy.one (CTy.int IntKind.i64))) x6 false,aA.typed (ETy.one (CTy.int IntKind.i64)) x7 false]
set_option maxRecDepth 1000000 in
theorem a05 (m:List (List ByteArray)) (n:Int) (n0:Nat) (K:AV→List aA→Prop) :
 aH tab (aM tab lD [] 400) (aL gK gL (aB Tryz.prog n0 7 K)) (aI tab (fnT Tryz.f7).res K) 400 [.code (fnT Tryz.f7).body] ⟨aO (fnT Tryz.f7).n [AV.imm (ETy.one (CTy.slice (ETy.one CTy.str))) m,AV.int IntKind.i64 n],[]⟩ =
 (TxM m∧bif !decide (d9 m=0) then K (AV.tup [AV.nils,AV.int IntKind.i64 (d9 m)]) [] else bif decide (n<0) then K (AV.tup [AV.nils,AV.int IntKind.i64 4]) [] else bif bif false then true else decide (n > 200) then K (AV.tup [AV.nils,AV.int IntKind.i64 4]) [] else eH m=0∧∀ (g:List (List QT)),GF g m.length (wide m) (ent m)→bif decide (0<(↑g.length:Int)) then (bif decide (0≤(↑(List.length (g.getD 0 [])):Int)) && decide ((↑(List.length (g.getD 0 [])):Int)≤(↑(List.length (g.getD 0 [])):Int)) && bif (↑(List.length (g.getD 0 [])):Int).toNat.ble 9223372036854775807 then ((↑(List.length (g.getD 0 [])):Int).toNat * 56).ble 281474976710656 else false then bif decide (0≤(↑g.length:Int)) && decide ((↑g.length:Int)≤(↑g.length:Int)) && bif (↑g.length:Int).toNat.ble 9223372036854775807 then ((↑g.length:Int).toNat * 56).ble 281474976710656 else false then aB Tryz.prog n0 7 K (aF (fnT Tryz.f7) 10) (lE m n 0 g (List.replicate (↑g.length:Int).toNat (false,[],[])) (List.replicate (↑(List.length (g.getD 0 [])):Int).toNat (false,[],[])) []) else False else False)∧bif decide (0≤(↑g.length:Int)) && decide ((↑g.length:Int)≤(↑g.length:Int)) && bif (↑g.length:Int).toNat.ble 9223372036854775807 then ((↑g.length:Int).toNat * 56).ble 281474976710656 else false then bif decide (0≤(↑(List.length (g.getD 0 [])):Int)) && decide ((↑(List.length (g.getD 0 [])):Int)≤(↑(List.length (g.getD 0 [])):Int)) && bif (↑(List.length (g.getD 0 [])):Int).toNat.ble 9223372036854775807 then ((↑(List.length (g.getD 0 [])):Int).toNat * 56).ble 281474976710656 else false then aB Tryz.prog n0 7 K (aF (fnT Tryz.f7) 10) (lE m n 0 g (List.replicate (↑g.length:Int).toNat (false,[],[])) (List.replicate (↑(List.length (g.getD 0 [])):Int).toNat (false,[],[])) []) else False else False else False):=by kernel_rfl
set_option maxRecDepth 1000000 in
theorem a06 (m:List (List ByteArray)) (n:Int) (x0:Int) (x1:List (List (Bool × List Int × List Int))) (x2:List (Bool × List Int × List Int)) (x3:List (Bool × List Int × List Int)) (x4:List (Int × Int)) (n0:Nat) (K:AV→List aA→Prop) :
 aH tab (aM tab lD [] 400) (aL gK gL (aB Tryz.prog n0 7 K)) (aI tab (fnT Tryz.f7).res K) 400 (aU (fnT Tryz.f7) 10) (lE m n x0 x1 x2 x3 x4) =
 (bif decide (x0<n) then aB Tryz.prog n0 7 K (aF (fnT Tryz.f7) 13) (rO m n x0 (↑x2.length:Int) 0 x1 x2 x3 x4 (List.replicate 2 0)) else K (AV.tup [AV.own 3,AV.int IntKind.i64 0]) [aA.typed (ETy.one (CTy.slice (ETy.more CTy.bool (ETy.more (CTy.slice (ETy.one (CTy.int IntKind.u32))) (ETy.one (CTy.slice (ETy.one (CTy.int IntKind.u32)))))))) x1 false,aA.typed (ETy.more CTy.bool (ETy.more (CTy.slice (ETy.one (CTy.int IntKind.u32))) (ETy.one (CTy.slice (ETy.one (CTy.int IntKind.u32)))))) x2 false,aA.typed (ETy.more CTy.bool (ETy.more (CTy.slice (ETy.one (CTy.int IntKind.u32))) (ETy.one (CTy.slice (ETy.one (CTy.int IntKind.u32)))))) x3 false,aA.typed (ETy.more (CTy.int IntKind.i64) (ETy.one (CTy.int IntKind.i64))) x4 false]):=by kernel_rfl
set_option maxRecDepth 1000000 in
theorem a07 (m:List (List ByteArray)) (n:Int) (x0:Int) (x1:Int) (x2:Int) (x3:List (List (Bool × List Int × List Int))) (x4:List (Bool × List Int × List Int)) (x5:List (Bool × List Int × List Int)) (x6:List (Int × Int)) (x7:List Int) (n0:Nat) (K:AV→List aA→Prop) :
 aH tab (aM tab lD [] 400) (aL gK gL (aB Tryz.prog n0 7 K)) (aI tab (fnT Tryz.f7).res K) 400 (aU (fnT Tryz.f7) 13) (rO m n x0 x1 x2 x3 x4 x5 x6 x7) =
 (bif decide (x2<x1) then bif decide (0≤x2) && decide (x2<(↑x4.length:Int)) then bif Nat.beq 2 x7.length && decide (0<(↑x7.length:Int)) then bif decide (0≤x7.getD 0 0) && decide (x7.getD 0 0<(↑x4.length:Int)) then ∃ x y,Sem.QV ((x4.getD x2.toNat (false,[],[])).1,(x4.getD x2.toNat (false,[],[])).2.1,(x4.getD x2.toNat (false,[],[])).2.2) x∧Sem.QV ((x4.getD (Int.toNat (x7.getD 0 0)) (false,[],[])).1,(x4.getD (Int.toNat (x7.getD 0 0)) (false,[],[])).2.1,(x4.getD (Int.toNat (x7.getD 0 0)) (false,[],[])).2.2) y∧Sz 4000000000 x∧Sz 4000000000 y∧bif decide (Sem.sgn (x - y) > 0) then bif Nat.beq 2 x7.length && decide (0<(↑x7.length:Int)) then aB Tryz.prog n0 7 K (aF (fnT Tryz.f7) 13) (rO m n x0 x1 (IntKind.i64.wrap (x2+1)) x3 x4 x5 x6 (x7.set 0 x2)) else False else aB Tryz.prog n0 7 K (aF (fnT Tryz.f7) 13) (rO m n x0 x1 (IntKind.i64.wrap (x2+1)) x3 x4 x5 x6 x7) else False else False else False else aB Tryz.prog n0 7 K (aF (fnT Tryz.f7) 19) (rP m n x0 (↑x5.length:Int) 0 x3 x4 x5 x6 x7)):=by kernel_rfl
set_option maxRecDepth 1000000 in
theorem a08 (m:List (List ByteArray)) (n:Int) (x0:Int) (x1:Int) (x2:Int) (x3:List (List (Bool × List Int × List Int))) (x4:List (Bool × List Int × List Int)) (x5:List (Bool × List Int × List Int)) (x6:List (Int × Int)) (x7:List Int) (n0:Nat) (K:AV→List aA→Prop) :
 aH tab (aM tab lD [] 400) (aL gK gL (aB Tryz.prog n0 7 K)) (aI tab (fnT Tryz.f7).res K) 400 (aU (fnT Tryz.f7) 19) (rP m n x0 x1 x2 x3 x4 x5 x6 x7) =
 (bif decide (x2<x1) then bif decide (0≤x2) && decide (x2<(↑x5.length:Int)) then bif Nat.beq 2 x7.length && decide (1<(↑x7.length:Int)) then bif decide (0≤x7.getD 1 0) && decide (x7.getD 1 0<(↑x5.length:Int)) then ∃ x y,Sem.QV ((x5.getD x2.toNat (false,[],[])).1,(x5.getD x2.toNat (false,[],[])).2.1,(x5.getD x2.toNat (false,[],[])).2.2) x∧Sem.QV ((x5.getD (Int.toNat (x7.getD 1 0)) (false,[],[])).1,(x5.getD (Int.toNat (x7.getD 1 0)) (false,[],[])).2.1,(x5.getD (Int.toNat (x7.getD 1 0)) (false,[],[])).2.2) y∧Sz 4000000000 x∧Sz 4000000000 y∧bif decide (Sem.sgn (x - y)<0) then bif Nat.beq 2 x7.length && decide (1<(↑x7.length:Int)) then aB Tryz.prog n0 7 K (aF (fnT Tryz.f7) 19) (rP m n x0 x1 (IntKind.i64.wrap (x2+1)) x3 x4 x5 x6 (x7.set 1 x2)) else False else aB Tryz.prog n0 7 K (aF (fnT Tryz.f7) 19) (rP m n x0 x1 (IntKind.i64.wrap (x2+1)) x3 x4 x5 x6 x7) else False else False else False else aB Tryz.prog n0 7 K (aF (fnT Tryz.f7) 25) (oC m n x0 (↑x4.length:Int) 0 x3 x4 x5 x6 x7)):=by kernel_rfl
set_option maxRecDepth 1000000 in
theorem a09 (m:List (List ByteArray)) (n:Int) (x0:Int) (x1:Int) (x2:Int) (x3:List (List (Bool × List Int × List Int))) (x4:List (Bool × List Int × List Int)) (x5:List (Bool × List Int × List Int)) (x6:List (Int × Int)) (x7:List Int) (n0:Nat) (K:AV→List aA→Prop) :
 aH tab (aM tab lD [] 400) (aL gK gL (aB Tryz.prog n0 7 K)) (aI tab (fnT Tryz.f7).res K) 400 (aU (fnT Tryz.f7) 25) (oC m n x0 x1 x2 x3 x4 x5 x6 x7) =
 (bif decide (x2<x1) then bif decide (0≤x2) && decide (x2<(↑x4.length:Int)) then bif decide (0≤x2) && decide (x2<(↑x3.length:Int)) then bif Nat.beq 2 x7.length && decide (1<(↑x7.length:Int)) then bif decide (0≤x7.getD 1 0) && decide (x7.getD 1 0<(↑(List.length (x3.getD x2.toNat [])):Int)) then ∃ x y,Sem.QV ((x4.getD x2.toNat (false,[],[])).1,(x4.getD x2.toNat (false,[],[])).2.1,(x4.getD x2.toNat (false,[],[])).2.2) x∧Sem.QV ((List.getD (x3.getD x2.toNat []) (Int.toNat (x7.getD 1 0)) (false,[],[])).1,(List.getD (x3.getD x2.toNat []) (Int.toNat (x7.getD 1 0)) (false,[],[])).2.1,(List.getD (x3.getD x2.toNat []) (Int.toNat (x7.getD 1 0)) (false,[],[])).2.2) y∧Sz 4000000000 x∧Sz 4000000000 y∧∀ (r:Bool × List Int × List Int),Sem.QV r (x+y)→bif decide (0≤x2) && decide (x2<(↑x4.length:Int)) then aB Tryz.prog n0 7 K (aF (fnT Tryz.f7) 25) (oC m n x0 x1 (IntKind.i64.wrap (x2+1)) x3 (x4.set x2.toNat (r.1,r.2.1,r.2.2)) x5 x6 x7) else False else False else False else False else False else aB Tryz.prog n0 7 K (aF (fnT Tryz.f7) 30) (oD m n x0 (↑x5.length:Int) 0 x3 x4 x5 x6 x7)):=by kernel_rfl
set_option maxRecDepth 1000000 in
theorem a1A (m:List (List ByteArray)) (n:Int) (x0:Int) (x1:Int) (x2:Int) (x3:List (List (Bool × List Int × List Int))) (x4:List (Bool × List Int × List Int)) (x5:List (Bool × List Int × List Int)) (x6:List (Int × Int)) (x7:List Int) (n0:Nat) (K:AV→List aA→Prop) :
 aH tab (aM tab lD [] 400) (aL gK gL (aB Tryz.prog n0 7 K)) (aI tab (fnT Tryz.f7).res K) 400 (aU (fnT Tryz.f7) 30) (oD m n x0 x1 x2 x3 x4 x5 x6 x7) =
 (bif decide (x2<x1) then bif decide (0≤x2) && decide (x2<(↑x5.length:Int)) then bif Nat.beq 2 x7.length && decide (0<(↑x7.length:Int)) then bif decide (0≤x7.getD 0 0) && decide (x7.getD 0 0<(↑x3.length:Int)) then bif decide (0≤x2) && decide (x2<(↑(List.length (x3.getD (Int.toNat (x7.getD 0 0)) [])):Int)) then ∃ x y,Sem.QV ((x5.getD x2.toNat (false,[],[])).1,(x5.getD x2.toNat (false,[],[])).2.1,(x5.getD x2.toNat (false,[],[])).2.2) x∧Sem.QV ((List.getD (x3.getD (Int.toNat (x7.getD 0 0)) []) x2.toNat (false,[],[])).1,(List.getD (x3.getD (Int.toNat (x7.getD 0 0)) []) x2.toNat (false,[],[])).2.1,(List.getD (x3.getD (Int.toNat (x7.getD 0 0)) []) x2.toNat (false,[],[])).2.2) y∧Sz 4000000000 x∧Sz 4000000000 y∧∀ (r:Bool × List Int × List Int),Sem.QV r (x+y)→bif decide (0≤x2) && decide (x2<(↑x5.length:Int)) then aB Tryz.prog n0 7 K (aF (fnT Tryz.f7) 30) (oD m n x0 x1 (IntKind.i64.wrap (x2+1)) x3 x4 (x5.set x2.toNat (r.1,r.2.1,r.2.2)) x6 x7) else False else False else False else False else False else bif x7.length.beq 2 then bif bif (x6.length+[(x7.getD 0 0,x7.getD 1 0)].length).ble 9223372036854775807 then ((x6.length+[(x7.getD 0 0,x7.getD 1 0)].length) * 16).ble 140737488355328 else false then aB Tryz.prog n0 7 K (aF (fnT Tryz.f7) 10) (lE m n (IntKind.i64.wrap (x0+1)) x3 x4 x5 (x6 ++ [(x7.getD 0 0,x7.getD 1 0)])) else False else False):=by kernel_rfl
end
end Go.Proofs.YtehakimmioclkaaGreatDoor.Mach
end
section
set_option linter.unusedSimpArgs false
set_option linter.unusedVariables false
namespace Go.Proofs.YtehakimmioclkaaGreatDoor.Lib
open Go Go.Proofs.YtehakimmioclkaaGreatDoor.Mach Go.Proofs.YtehakimmioclkaaGreatDoorW.PrintWords Go.Proofs.YtehakimmioclkaaGreatDoor.Sem Go.Proofs.YtehakimmioclkaaGreatDoor.Pure
section
section
variable {A B:Prop}
theorem a1B {p:Prop} {i:Decidable p} (h:p) (a:A):bif (bif false then true else decide p) then A else B:=by rw [cond_false]; exact aC h a
theorem a1C {p:Prop} {i:Decidable p} (h:¬ p) (b:B):bif (bif false then true else decide p) then A else B:=by rw [cond_false]; exact aG h b
theorem eA {x n:Nat} (h:x<n) (a:A):bif decide ((0:Int)≤(x:Int)) && decide ((x:Int)<(n:Int)) then A else False:=aN (aC (by omega) (aC (by omega) a))
end
theorem aNZ {n b:Nat} (h:n≤1000000000001) (hb:b≤100):(decide ((0:Int)≤(n:Int)) && decide ((n:Int)≤(n:Int)) && (bif (n:Int).toNat.ble 9223372036854775807 then ((n:Int).toNat * b).ble 281474976710656 else false))=true:=by
 rw [Int.toNat_natCast,(dX _ _).2 (show n≤9223372036854775807 by omega),decide_eq_true (show (0:Int)≤(n:Int) by omega),decide_eq_true (Int.le_refl _)]
 exact (dX _ _).2 (Nat.le_trans (Nat.mul_le_mul h hb) (by decide))
theorem QF.congr {zs:List QT} {n:Nat} {f g:Nat→Rat} (h:QF zs n f) (hfg:∀ i,i<n→f i=g i):QF zs n g:=⟨h.len,fun i hi=>by rw [← hfg i hi]; exact h.at_ i hi⟩
theorem QF.set {zs:List QT} {n:Nat} {f:Nat→Rat} (h:QF zs n f) {i:Nat} {z:QT} {q:Rat} (hz:QV z q):QF (zs.set i z) n (fun j=>if j=i then q else f j) :=
 ⟨by rw [List.length_set]; exact h.len,fun j hj=>by
  rw [List.getD_eq_getElem?_getD,List.getElem?_set]
  by_cases hij:i=j
  · subst hij
    rw [if_pos rfl,if_pos (by rw [h.len]; exact hj),if_pos rfl]
    exact hz
  · rw [if_neg hij,if_neg (fun h=>hij h.symm),← List.getD_eq_getElem?_getD]
    exact h.at_ j hj⟩
theorem QF.zeros (n:Nat):QF (List.replicate n z0) n (fun _=>0):=⟨List.length_replicate,fun i hi=>by
 rw [List.getD_eq_getElem?_getD,List.getElem?_replicate,if_pos hi]; exact QV.zero⟩
theorem QF.step {zs:List QT} {n:Nat} {f g:Nat→Rat} {k:Nat} {z:QT} (h:QF zs n (fun j=>if j<k then g j else f j)) (hz:QV z (g k)):QF (zs.set k z) n (fun j=>if j<k+1 then g j else f j) :=
 (h.set hz).congr fun j _=>by
  by_cases h1:j=k
  · subst h1; rw [if_pos rfl,if_pos (by omega)]
  · rw [if_neg h1]
    by_cases h2:j<k
    · rw [if_pos h2,if_pos (by omega)]
    · rw [if_neg h2,if_neg (by omega)]
theorem QF.begin {zs:List QT} {n:Nat} {f g:Nat→Rat} (h:QF zs n f):QF zs n (fun j=>if j<0 then g j else f j):=h.congr fun j _=>(if_neg (Nat.not_lt_zero _)).symm
theorem QF.done {zs:List QT} {n:Nat} {f g:Nat→Rat} (h:QF zs n (fun j=>if j<n then g j else f j)):QF zs n g:=h.congr fun j hj=>if_pos hj
theorem QF.mid {zs:List QT} {n k:Nat} {f g:Nat→Rat} (h:QF zs n (fun j=>if j<k then g j else f j)) (hk:k<n):QV (zs.getD k z0) (f k):=by
 have:=h.at_ k hk
 simp only [Nat.lt_irrefl,if_false] at this
 exact this
theorem rQ {m:List (List ByteArray)} (h:d9 m=0):aNS m∧0<m.length∧m.length≤12∧0<wide m∧wide m≤12:=by
 unfold d9 at h
 split at h
 · cases h
 · split at h
   · rename_i h2; exact absurd h h2
   · split at h
     · cases h
     · split at h
       · cases h
       · rename_i h1 h2 h3 h4
         refine ⟨aNT (Decidable.not_not.1 h2),?_,by omega,by omega,by omega⟩
         rcases Nat.eq_zero_or_pos m.length with h0 | h0
         · rw [List.length_eq_zero_iff.1 h0] at h3
           exact absurd rfl h3
         · exact h0
theorem inG {n w:Nat} {a:Int × Int} (h:jX n w a=true):0≤a.1∧a.1<n∧0≤a.2∧a.2<w:=by
 unfold jX at h
 simp only [Bool.and_eq_true,decide_eq_true_eq] at h
 exact ⟨h.1.1.1,h.1.1.2,h.1.2,h.2⟩
theorem a1D {n w:Nat} {a:Int × Int} (h1:0≤a.1) (h2:a.1<n) (h3:0≤a.2) (h4:a.2<w):jX n w a=true:=by
 unfold jX
 simp only [Bool.and_eq_true,decide_eq_true_eq]
 exact ⟨⟨⟨h1,h2⟩,h3⟩,h4⟩
theorem oE : ∀ g xs Q,lD g xs Q→Con Tryz.prog g xs Q:=dB fun p hp=>by
 simp only [List.mem_cons,List.not_mem_nil,or_false] at hp
 rcases hp with rfl | rfl | rfl | rfl | rfl | rfl | rfl | rfl | rfl | rfl | rfl | rfl | rfl
 · exact bE fun _ _ h=>a02 h
 · exact bE fun _ _ h=>aNV h
 · exact bE fun _ _ h=>aC5 h
 · exact bG fun _ _ _ h=>aLY h
 · exact bE fun _ _ h=>aNK h
 · exact bE fun _ _ h=>aNM h
 · exact bE fun _ _ h=>aCS h
 · exact bG fun _ _ _ h=>aX8 h
 · exact bE fun _ _ h=>a0S h
 · exact bE fun _ _ h=>a01 h
 · exact bE fun _ _ h=>a0X h
 · exact bG fun _ _ _ h=>aYI h
 · exact bE fun _ _ h=>aCV h
section
variable {m:List (List ByteArray)} {l:List (Int × Int)} {Q:Res}
theorem aN0 {F:Nat→Nat→Rat} {n w i x:Nat} (h:∀ t,t<l.length→jX n w (l.getD t p0)=true) (sz:∀ i k,i<n→k<w→Sz 2000 (F i k)) (hi:i<n) (hx:x≤l.length):Sz (x * 2001+1) (cF F l x i) :=
 aC4 (s:=2000) (n:=l.length) (fun t ht=>by have:=inG (h t ht); exact sz _ _ hi (by omega)) x hx
theorem aN1 {F:Nat→Nat→Rat} {n w k x:Nat} (h:∀ t,t<l.length→jX n w (l.getD t p0)=true) (sz:∀ i k,i<n→k<w→Sz 2000 (F i k)) (hk:k<w) (hx:x≤l.length):Sz (x * 2001+1) (cQ F l x k) :=
 aC4 (s:=2000) (n:=l.length) (fun t ht=>by have:=inG (h t ht); exact sz _ _ (by omega) hk) x hx
end
end
section

end
section

end
section
section
variable {F:Nat→Nat→Rat} {n w:Nat}
theorem xV (f:Nat→Rat) (n0:0<n):∀ k,k≤n→bestTo f k<n
 | 0,_=>n0
 | k+1,h=>by
   unfold bestTo
   split
   · omega
   · exact xV f n0 k (by omega)
theorem xW (f:Nat→Rat) (n0:0<n):∀ k,k≤n→leastTo f k<n
 | 0,_=>n0
 | k+1,h=>by
   unfold leastTo
   split
   · omega
   · exact xW f n0 k (by omega)
theorem gM (T:Nat):(bV F n w T).length=T:=by
 induction T with
 | zero=>rfl
 | succ T ih=>rw [bV,List.length_append,ih]; rfl
noncomputable def rpQ (F:Nat→Nat→Rat) (n w T:Nat):Nat→Rat:=cF F (bV F n w T) T
noncomputable def cpQ (F:Nat→Nat→Rat) (n w T:Nat):Nat→Rat:=cQ F (bV F n w T) T
theorem xX (n0:0<n) (w0:0<w):∀ T t,t<(bV F n w T).length→jX n w ((bV F n w T).getD t p0)=true
 | 0,t,h=>absurd h (Nat.not_lt_zero _)
 | T+1,t,h=>by
   rw [gM] at h
   rw [bV,i5,gM]
   by_cases h1:t<T
   · rw [if_pos h1]; exact xX n0 w0 T t (by rw [gM]; exact h1)
   · rw [if_neg h1,if_pos (by omega)]
     have b1:=xV (cF F (bV F n w T) T) n0 n (Nat.le_refl _)
     have b2:=xW (cQ F (bV F n w T) T) w0 w (Nat.le_refl _)
     exact a1D (by show 0≤((bestTo _ _:Nat):Int); omega) (by show ((bestTo _ _:Nat):Int)<n; omega) (by show 0≤((leastTo _ _:Nat):Int); omega) (by show ((leastTo _ _:Nat):Int)<w; omega)
theorem rR {f g:Nat→Rat}:∀ x,(∀ t,t<x→f t=g t)→iJ f x=iJ g x
 | 0,_=>rfl
 | x+1,h=>by
   show iJ f x+f x=iJ g x+g x
   rw [rR x fun t ht=>h t (by omega),h x (by omega)]
theorem a1E (l:List (Int × Int)) (a:Int × Int) (i:Nat) {x:Nat} (hx:l.length=x):cF F (l ++ [a]) (x+1) i=cF F l x i+F i a.2.toNat:=by
 show iJ _ x+F i ((l ++ [a]).getD x p0).2.toNat=_
 rw [i5,if_neg (by omega),if_pos hx.symm]
 congr 1
 exact rR x fun t ht=>by simp only [i5,if_pos (show t<l.length by omega)]
theorem a1F (l:List (Int × Int)) (a:Int × Int) (k:Nat) {x:Nat} (hx:l.length=x):cQ F (l ++ [a]) (x+1) k=cQ F l x k+F a.1.toNat k:=by
 show iJ _ x+F ((l ++ [a]).getD x p0).1.toNat k=_
 rw [i5,if_neg (by omega),if_pos hx.symm]
 congr 1
 exact rR x fun t ht=>by simp only [i5,if_pos (show t<l.length by omega)]
theorem a1G (T i:Nat):rpQ F n w (T+1) i=rpQ F n w T i+F i (leastTo (cpQ F n w T) w):=by
 unfold rpQ cpQ
 rw [bV,a1E _ _ _ (gM T),Int.toNat_natCast]
theorem a1H (T k:Nat):cpQ F n w (T+1) k=cpQ F n w T k+F (bestTo (rpQ F n w T) n) k:=by
 unfold rpQ cpQ
 rw [bV,a1F _ _ _ (gM T),Int.toNat_natCast]
theorem sz_rp (n0:0<n) (w0:0<w) (sz:∀ i k,i<n→k<w→Sz 2000 (F i k)) {T:Nat} (hT:T≤200) {i:Nat} (hi:i<n):Sz 4000000000 (rpQ F n w T i) :=
 (aN0 (xX n0 w0 T) sz hi (by rw [gM]; exact Nat.le_refl _)).mono (by omega)
theorem sz_cp (n0:0<n) (w0:0<w) (sz:∀ i k,i<n→k<w→Sz 2000 (F i k)) {T:Nat} (hT:T≤200) {k:Nat} (hk:k<w):Sz 4000000000 (cpQ F n w T k) :=
 (aN1 (xX n0 w0 T) sz hk (by rw [gM]; exact Nat.le_refl _)).mono (by omega)
end
section
variable {m:List (List ByteArray)} {n:Int} {Q:Res}
theorem a1I (h:aNX m n Q):Con Tryz.prog 7 [.imm (eL eS) m, .int .i64 n] Q:=by
 obtain ⟨ht,hq⟩:=h
 refine aMV (e:=eP) (l:=bQ m n) (n:=cT m n) ?_ hq
 have bad:∀ (e:Int) (H:List aA),cT m n=e→e≠0→aQ (outL eP (bQ m n) (cT m n)) (.tup [.nils, .int .i64 e]) H:=fun e H h1 h2=>by
  rw [← h1]
  exact aMX (if_neg (by rw [h1]; exact h2))
 refine aW (gn:=fnT Tryz.f7) (by kernel_rfl) oE (inl:=[]) (LT:=gK) (NT:=gL) rfl fun n0=>?_
 rw [a05]
 refine ⟨ht,?_⟩
 by_cases hG:d9 m=0
 · refine aR (aC hG ?_)
   by_cases c1:n<0
   · exact aC c1 (bad _ _ (by unfold cT; rw [if_neg (fun h=>h hG),if_pos (.inl c1)]) (by decide))
   refine aG c1 ?_
   by_cases c2:n > 200
   · exact a1B c2 (bad _ _ (by unfold cT; rw [if_neg (fun h=>h hG),if_pos (.inr c2)]) (by decide))
   have hE:cT m n=0:=by unfold cT; rw [if_neg (fun h=>h hG),if_neg (by omega)]
   have hV:bQ m n=bV (ent m) m.length (wide m) n.toNat:=by unfold bQ; rw [if_pos hE]
   obtain ⟨M,m0,m12,w0,w12⟩:=rQ hG
   have hM:eH m=0:=by
    unfold d9 at hG
    split at hG
    · cases hG
    · split at hG
      · rename_i h2; exact absurd hG h2
      · rename_i h2; exact Decidable.not_not.1 h2
   refine a1C c2 ⟨hM,fun g hg=>?_⟩
   have sz:∀ i k,i<m.length→k<wide m→Sz 2000 (ent m i k):=fun i k hi hk=>(M.ent i k hi hk).2
   have hgl:=hg.len
   have hg0:=(hg.at_ 0 m0).len
   have main:=c8 (f:=7) (gn:=fnT Tryz.f7) (n0:=n0) (r:=10) (by kernel_rfl) oE (inl:=[]) (LT:=gK) (NT:=gL) (K:=aQ (outL eP (bQ m n) (cT m n))) (fun y:Nat × List QT × List QT=>lE m n (y.1:Int) g y.2.1 y.2.2 (bV (ent m) m.length (wide m) y.1)) (fun y=>n.toNat - y.1) (fun y=>y.1≤n.toNat∧QF y.2.1 m.length (rpQ (ent m) m.length (wide m) y.1)∧QF y.2.2 (wide m) (cpQ (ent m) m.length (wide m) y.1)) (fun y hp ih=>by
    obtain ⟨T,zr,zc⟩:=y
    obtain ⟨hT0,hr,hc⟩:=hp
    simp only at hT0 hr hc
    have hrl:=hr.len
    have hcl:=hc.len
    show aH _ _ _ _ _ _ (lE m n (T:Int) g zr zc (bV (ent m) m.length (wide m) T))
    rw [a06]
    by_cases hT:T<n.toNat
    · have hT200:T≤200:=by omega
      refine aC (by omega) ?_
      have szr:∀ i,i<m.length→Sz 4000000000 (rpQ (ent m) m.length (wide m) T i):=fun i hi=>sz_rp m0 w0 sz hT200 hi
      have szc:∀ k,k<wide m→Sz 4000000000 (cpQ (ent m) m.length (wide m) T k):=fun k hk=>sz_cp m0 w0 sz hT200 hk
      have rs:=a1G (F:=ent m) (n:=m.length) (w:=wide m) T
      have cs:=a1H (F:=ent m) (n:=m.length) (w:=wide m) T
      have hpl:bV (ent m) m.length (wide m) (T+1)=bV (ent m) m.length (wide m) T ++ [(((bestTo (rpQ (ent m) m.length (wide m) T) m.length:Nat):Int),((leastTo (cpQ (ent m) m.length (wide m) T) (wide m):Nat):Int))]:=rfl
      have hlen:=gM (F:=ent m) (n:=m.length) (w:=wide m) T
      have bl:=fun k (hk:k≤m.length)=>xV (rpQ (ent m) m.length (wide m) T) m0 k hk
      have ll:=fun k (hk:k≤wide m)=>xW (cpQ (ent m) m.length (wide m) T) w0 k hk
      have bs:∀ k,bestTo (rpQ (ent m) m.length (wide m) T) (k+1)=if 0<sgn (rpQ (ent m) m.length (wide m) T k - rpQ (ent m) m.length (wide m) T (bestTo (rpQ (ent m) m.length (wide m) T) k)) then k else bestTo (rpQ (ent m) m.length (wide m) T) k:=fun k=>rfl
      have ls:∀ k,leastTo (cpQ (ent m) m.length (wide m) T) (k+1)=if sgn (cpQ (ent m) m.length (wide m) T k - cpQ (ent m) m.length (wide m) T (leastTo (cpQ (ent m) m.length (wide m) T) k))<0 then k else leastTo (cpQ (ent m) m.length (wide m) T) k:=fun k=>rfl
      have b0:bestTo (rpQ (ent m) m.length (wide m) T) 0=0:=rfl
      have l0:leastTo (cpQ (ent m) m.length (wide m) T) 0=0:=rfl
      generalize hf' : rpQ (ent m) m.length (wide m) (T+1)=f' at *
      generalize hh' : cpQ (ent m) m.length (wide m) (T+1)=h' at *
      generalize rpQ (ent m) m.length (wide m) T=f at *
      generalize cpQ (ent m) m.length (wide m) T=h at *
      have bN:=bl m.length (Nat.le_refl _)
      have lN:=ll (wide m) (Nat.le_refl _)
      -- the columns' sums
      have loop30:∀ zr,QF zr m.length f' → ∀ y:Nat × List QT,(y.1≤wide m∧QF y.2 (wide m) (fun j=>if j<y.1 then h' j else h j))→aB Tryz.prog n0 7 (aQ (outL eP (bQ m n) (cT m n))) (aF (fnT Tryz.f7) 30) (oD m n (T:Int) ((wide m:Nat):Int) (y.1:Int) g zr y.2 (bV (ent m) m.length (wide m) T) [((bestTo f m.length:Nat):Int),((leastTo h (wide m):Nat):Int)]):=fun zr hr =>
       c8 (f:=7) (gn:=fnT Tryz.f7) (n0:=n0) (r:=30) (by kernel_rfl) oE (inl:=[]) (LT:=gK) (NT:=gL) (K:=aQ (outL eP (bQ m n) (cT m n))) (fun y:Nat × List QT=>oD m n (T:Int) ((wide m:Nat):Int) (y.1:Int) g zr y.2 (bV (ent m) m.length (wide m) T) [((bestTo f m.length:Nat):Int),((leastTo h (wide m):Nat):Int)]) (fun y=>wide m - y.1) (fun y=>y.1≤wide m∧QF y.2 (wide m) (fun j=>if j<y.1 then h' j else h j)) (fun y hp ih2=>by
        obtain ⟨k,zc⟩:=y
        obtain ⟨hk0,hc⟩:=hp
        simp only at hk0 hc
        have hcl:=hc.len
        show aH _ _ _ _ _ _ (oD m n (T:Int) ((wide m:Nat):Int) (k:Int) g zr zc _ _)
        rw [a1A]
        by_cases hk:k<wide m
        · have hgr:=hg.at_ (bestTo f m.length) bN
          have hgrl:=hgr.len
          refine aC (by omega) (eA (by omega) (aP rfl (eA (show bestTo f m.length<g.length by omega) (eA (show k<(g.getD (Int.toNat ((bestTo f m.length:Nat):Int)) []).length by rw [Int.toNat_natCast]; omega) ?_))))
          rw [Int.toNat_natCast,wrS hk (by omega)]
          refine ⟨_,_,hc.mid hk,hgr.at_ k hk,szc k hk,(sz _ _ bN hk).mono (by decide),fun r hr2=>eA (by omega) ?_⟩
          exact ih2 (k+1,zc.set k r) ⟨by show k+1≤wide m; omega,hc.step (g:=h') (by rw [cs]; exact hr2)⟩ (by show wide m - (k+1)<wide m - k; omega)
        · have hkw:k=wide m:=by omega
          rw [hkw] at hc
          refine aG (by omega) (aP rfl (aP (xT (xU hlen (by omega)) (by decide)) ?_))
          rw [wrS hT (by omega)]
          have:=ih (T+1,zr,zc) ⟨by show T+1≤n.toNat; omega,by rw [hf']; exact hr,by rw [hh']; exact hc.done⟩ (by show n.toNat - (T+1)<n.toNat - T; omega)
          simp only [hpl] at this
          exact this)
      have loop25:∀ zc,QF zc (wide m) h→∀ y:Nat × List QT,(y.1≤m.length∧QF y.2 m.length (fun j=>if j<y.1 then f' j else f j))→aB Tryz.prog n0 7 (aQ (outL eP (bQ m n) (cT m n))) (aF (fnT Tryz.f7) 25) (oC m n (T:Int) ((m.length:Nat):Int) (y.1:Int) g y.2 zc (bV (ent m) m.length (wide m) T) [((bestTo f m.length:Nat):Int),((leastTo h (wide m):Nat):Int)]):=fun zc hc =>
       c8 (f:=7) (gn:=fnT Tryz.f7) (n0:=n0) (r:=25) (by kernel_rfl) oE (inl:=[]) (LT:=gK) (NT:=gL) (K:=aQ (outL eP (bQ m n) (cT m n))) (fun y:Nat × List QT=>oC m n (T:Int) ((m.length:Nat):Int) (y.1:Int) g y.2 zc (bV (ent m) m.length (wide m) T) [((bestTo f m.length:Nat):Int),((leastTo h (wide m):Nat):Int)]) (fun y=>m.length - y.1) (fun y=>y.1≤m.length∧QF y.2 m.length (fun j=>if j<y.1 then f' j else f j)) (fun y hp ih2=>by
        obtain ⟨k,zr⟩:=y
        obtain ⟨hk0,hr⟩:=hp
        simp only at hk0 hr
        have hrl:=hr.len
        have hcl:=hc.len
        show aH _ _ _ _ _ _ (oC m n (T:Int) ((m.length:Nat):Int) (k:Int) g zr zc _ _)
        rw [a09]
        by_cases hk:k<m.length
        · have hgr:=hg.at_ k hk
          have hgrl:=hgr.len
          refine aC (by omega) (eA (by omega) (eA (by omega) (aP rfl (eA (show leastTo h (wide m)<(g.getD ((k:Int).toNat) []).length by rw [Int.toNat_natCast]; omega) ?_))))
          rw [Int.toNat_natCast,wrS hk (by omega)]
          refine ⟨_,_,hr.mid hk,hgr.at_ (leastTo h (wide m)) lN,szr k hk,(sz _ _ hk lN).mono (by decide),fun r hr2=>eA (by omega) ?_⟩
          exact ih2 (k+1,zr.set k r) ⟨by show k+1≤m.length; omega,hr.step (g:=f') (by rw [rs]; exact hr2)⟩ (by show m.length - (k+1)<m.length - k; omega)
        · have hkw:k=m.length:=by omega
          rw [hkw] at hr
          refine aG (by omega) ?_
          rw [hcl]
          exact loop30 zr hr.done (0,zc) ⟨Nat.zero_le _,hc.begin⟩)
      have loop19:=c8 (f:=7) (gn:=fnT Tryz.f7) (n0:=n0) (r:=19) (by kernel_rfl) oE (inl:=[]) (LT:=gK) (NT:=gL) (K:=aQ (outL eP (bQ m n) (cT m n))) (fun k:Nat=>rP m n (T:Int) ((wide m:Nat):Int) (k:Int) g zr zc (bV (ent m) m.length (wide m) T) [((bestTo f m.length:Nat):Int),((leastTo h k:Nat):Int)]) (fun k=>wide m - k) (fun k=>k≤wide m) (fun k hk0 ih2=>by
       rw [a08]
       by_cases hk:k<wide m
       · have lk:=ll k hk0
         refine aC (by omega) (eA (by omega) (aP rfl (eA (show leastTo h k<zc.length by omega) ?_)))
         rw [Int.toNat_natCast,wrS hk (by omega)]
         refine ⟨_,_,hc.at_ k hk,hc.at_ (leastTo h k) lk,szc k hk,szc _ lk,?_⟩
         have ih3:=ih2 (k+1) (by omega) (by omega)
         rw [ls] at ih3
         by_cases hs:sgn (h k - h (leastTo h k))<0
         · rw [if_pos hs] at ih3
           exact aC hs (aP rfl ih3)
         · rw [if_neg hs] at ih3
           exact aG hs ih3
       · have hkw:k=wide m:=by omega
         subst hkw
         refine aG (by omega) ?_
         rw [hrl]
         exact loop25 zc hc (0,zr) ⟨Nat.zero_le _,hr.begin⟩)
      have loop13:=c8 (f:=7) (gn:=fnT Tryz.f7) (n0:=n0) (r:=13) (by kernel_rfl) oE (inl:=[]) (LT:=gK) (NT:=gL) (K:=aQ (outL eP (bQ m n) (cT m n))) (fun k:Nat=>rO m n (T:Int) ((m.length:Nat):Int) (k:Int) g zr zc (bV (ent m) m.length (wide m) T) [((bestTo f k:Nat):Int),0]) (fun k=>m.length - k) (fun k=>k≤m.length) (fun k hk0 ih2=>by
       rw [a07]
       by_cases hk:k<m.length
       · have lk:=bl k hk0
         refine aC (by omega) (eA (by omega) (aP rfl (eA (show bestTo f k<zr.length by omega) ?_)))
         rw [Int.toNat_natCast,wrS hk (by omega)]
         refine ⟨_,_,hr.at_ k hk,hr.at_ (bestTo f k) lk,szr k hk,szr _ lk,?_⟩
         have ih3:=ih2 (k+1) (by omega) (by omega)
         rw [bs] at ih3
         by_cases hs:0<sgn (f k - f (bestTo f k))
         · rw [if_pos hs] at ih3
           exact aC hs (aP rfl ih3)
         · rw [if_neg hs] at ih3
           exact aG hs ih3
       · have hkw:k=m.length:=by omega
         subst hkw
         refine aG (by omega) ?_
         rw [hcl]
         have:=loop19 0 (Nat.zero_le _)
         simp only [l0] at this
         exact this)
      rw [hrl]
      have:=loop13 0 (Nat.zero_le _)
      simp only [b0] at this
      exact this
    · have hTT:T=n.toNat:=by omega
      refine aG (by omega) ?_
      rw [hTT,← hV,← hE]
      exact aMW rfl)
   have start:aB Tryz.prog n0 7 (aQ (outL eP (bQ m n) (cT m n))) (aF (fnT Tryz.f7) 10) (lE m n ((0:Nat):Int) g (List.replicate g.length z0) (List.replicate (g.getD 0 []).length z0) []) :=
    main (0,List.replicate g.length z0,List.replicate (g.getD 0 []).length z0) ⟨Nat.zero_le _,by rw [hgl]; exact QF.zeros m.length,by rw [hg0]; exact QF.zeros (wide m)⟩
   have k1:=aNZ (n:=g.length) (b:=56) (by omega) (by decide)
   have k2:=aNZ (n:=(g.getD 0 []).length) (b:=56) (by omega) (by decide)
   simp only [Int.toNat_natCast] at k1 k2 ⊢
   exact aC (by omega) ⟨aP k2 (aP k1 start),aP k1 (aP k2 start)⟩
 · exact aR (aG hG (bad _ _ (by unfold cT; rw [if_pos hG]) hG))
end
end
end Go.Proofs.YtehakimmioclkaaGreatDoor.Lib
end
section
set_option linter.unusedSimpArgs false
set_option linter.unusedVariables false
namespace Go.Proofs.YtehakimmioclkaaGreatDoor.Lib
open Go Go.Proofs.YtehakimmioclkaaGreatDoor.Mach
section
def gImm (e:ETy):AV→Option (List e.D)
 | .imm e' l=>e6 e e' l
 | _=>none
def gInt : AV→Option Int
 | .int k n=>if decide (k = .i64)=true then some n else none
 | _=>none
def gAd {α:Type} (f:AV→Option α):AV→Option α
 | .adr cs=>(match cs with | [y]=>f y | _=>none)
 | _=>none
theorem a1J {e:ETy} {x:AV} {l:List e.D} (h:gImm e x=some l):x = .imm e l:=by
 unfold gImm at h
 split at h
 · obtain ⟨he,hr⟩:=g8 h
   subst he; subst hr; rfl
 · cases h
theorem a1K {x:AV} {n:Int} (h:gInt x=some n):x = .int .i64 n:=by
 unfold gInt at h
 split at h
 · split at h
   · rename_i hk; cases h; rw [of_decide_eq_true hk]
   · cases h
 · cases h
theorem aN2 {α:Type} {f:AV→Option α} {g:α→AV} (hf:∀ y a,f y=some a→y=g a) {x:AV} {a:α} (h:gAd f x=some a):x = .adr [g a]:=by
 unfold gAd at h
 split at h
 · split at h
   · rw [hf _ _ h]
   · cases h
 · cases h
def vAd (e:ETy):bY (List e.D):=⟨gAd (gImm e),fun l => .adr [.imm e l],fun {x a} h {c w v} hx=>by
 rw [aN2 (fun _ _=>a1J) h] at hx
 exact hx⟩
def vAdI : bY Int:=⟨gAd gInt,fun n => .adr [.int .i64 n],fun {x a} h {c w v} hx=>by
 rw [aN2 (fun _ _=>a1K) h] at hx
 exact hx⟩
def c4g {α β γ δ:Type} (u:bY α) (v:bY β) (t:bY γ) (z:bY δ) (f:α→β→γ→δ→Res→Prop):Ctr:=fun xs Q=>match xs with
 | [x,y,w,k]=>(match u.get x with | some a=>(match v.get y with | some b=>(match t.get w with | some c=>(match z.get k with | some d=>f a b c d Q | none=>False) | none=>False) | none=>False) | none=>False)
 | _=>False
theorem aN3 {P:Program} {α β γ δ:Type} {u:bY α} {v:bY β} {t:bY γ} {z:bY δ} {g:FuncId} {f:α→β→γ→δ→Res→Prop} (h:∀ a b c d Q,f a b c d Q→Con P g [u.av a,v.av b,t.av c,z.av d] Q):mU P g (c4g u v t z f):=by
 intro xs Q hq
 unfold c4g at hq
 split at hq
 · rename_i x y w k
   split at hq
   · rename_i a ha
     split at hq
     · rename_i b hb
       split at hq
       · rename_i c hc
         split at hq
         · rename_i d hd
           refine tU (h a b c d Q hq) rfl fun j y' hy=>?_
           match j,hy with
           | 0,hy=>cases hy; exact ⟨x,rfl,fun h=>u.ok ha h⟩
           | 1,hy=>cases hy; exact ⟨y,rfl,fun h=>v.ok hb h⟩
           | 2,hy=>cases hy; exact ⟨w,rfl,fun h=>t.ok hc h⟩
           | 3,hy=>cases hy; exact ⟨k,rfl,fun h=>z.ok hd h⟩
         · exact hq.elim
       · exact hq.elim
     · exact hq.elim
   · exact hq.elim
 · exact hq.elim
end
end Go.Proofs.YtehakimmioclkaaGreatDoor.Lib
end
section
set_option linter.unusedSimpArgs false
set_option linter.unusedVariables false
namespace Go.Proofs.YtehakimmioclkaaGreatDoor.Lib
open Go Go.Proofs.YtehakimmioclkaaGreatDoor.Mach Go.Proofs.YtehakimmioclkaaGreatDoorW.PrintWords Go.Proofs.YtehakimmioclkaaGreatDoor.Sem Go.Proofs.YtehakimmioclkaaGreatDoor.Pure
section
structure Fair (m:List (List ByteArray)) (l:List (Int × Int)):Prop where
 g:d9 m=0
 n:l.length≤200
 at_:∀ t,t<l.length→jX m.length (wide m) (l.getD t p0)=true
def xY (m:List (List ByteArray)) (l:List (Int × Int)) (t i:Int):Prop:=Fair m l∧0≤t∧t≤l.length∧0≤i∧i<m.length
def xZ (m:List (List ByteArray)) (l:List (Int × Int)) (t k:Int):Prop:=Fair m l∧0≤t∧t≤l.length∧0≤k∧k<wide m
def aN4 (i:Int) (l:List (Int × Int)) (t:Int) (m:List (List ByteArray)) (Q:Res):Prop:=xY m l t i∧Q (.str (ratText (cF (ent m) l t.toNat i.toNat))) []
def aN5 (k:Int) (l:List (Int × Int)) (t:Int) (m:List (List ByteArray)) (Q:Res):Prop:=xZ m l t k∧Q (.str (ratText (cQ (ent m) l t.toNat k.toNat))) []
noncomputable def rS : FuncId→List AV→Res→Prop:=c7 [(5,c0 aNY),(6,c1 vT aM2),(8,c1 vT rF),(9,c2 vI vTT aM5),(7,c2 vT vI aNX),(13,c2 vS vS xcmp),(10,c4g vI (vAd eP) vAdI (vAd (eL eS)) aN4),(12,c4g vI (vAd eP) vAdI (vAd (eL eS)) aN5)]
noncomputable def rT : FuncId→List AV→Res→Prop:=c7 [(11,c2 vS vS wU),(18,c2 vS vS xdiv),(19,c1 vI xint)]
end
end Go.Proofs.YtehakimmioclkaaGreatDoor.Lib
end
section
set_option linter.unusedSimpArgs false
set_option linter.unusedVariables false
namespace Go.Proofs.YtehakimmioclkaaGreatDoor.Mach
open Go Go.Proofs.YtehakimmioclkaaGreatDoor Go.Proofs.YtehakimmioclkaaGreatDoor.Lib
section
set_option maxRecDepth 1000000
def yA : List (Nat × List Nat):=[(3,[0,3,6,11,12,13])]
def yB : List (Nat × ETy):=[(11,eP)]
noncomputable def yC (i:Int) (l:List (Int × Int)) (t:Int) (m:List (List ByteArray)) (x0:ByteArray) (x1:List (Int × Int)) (x2 x3:Int):St:=aT 29 [(0,AV.int .i64 i),(3,AV.adr [AV.imm (eL eS) m]),(6,AV.str x0),(11,AV.imm eP x1),(12,AV.int .i64 x2),(13,AV.int .i64 x3)] []
theorem a1L (i:Int) (l:List (Int × Int)) (t:Int) (m:List (List ByteArray)) (n0:Nat) (K:AV→List aA→Prop) :
 aH tab (aM tab rT [] 400) (aL yA yB (aB Tryz.prog n0 10 K)) (aI tab (fnT Tryz.f10).res K) 400 [.code (fnT Tryz.f10).body] ⟨aO (fnT Tryz.f10).n [AV.int .i64 i,AV.adr [AV.imm eP l],AV.adr [AV.int .i64 t],AV.adr [AV.imm (eL eS) m]],[]⟩ =
 (bif decide (0≤t) && decide (t≤(↑l.length:Int)) then aB Tryz.prog n0 10 K (aF (fnT Tryz.f10) 3) (yC i l t m (ByteArray.mk #[48]) (List.drop 0 (List.take t.toNat l)) (↑(List.drop 0 (List.take t.toNat l)).length:Int) 0) else False):=by kernel_rfl
theorem a1M (i:Int) (l:List (Int × Int)) (t:Int) (m:List (List ByteArray)) (x0:ByteArray) (x1:List (Int × Int)) (x2 x3:Int) (n0:Nat) (K:AV→List aA→Prop) :
 aH tab (aM tab rT [] 400) (aL yA yB (aB Tryz.prog n0 10 K)) (aI tab (fnT Tryz.f10).res K) 400 (aU (fnT Tryz.f10) 3) (yC i l t m x0 x1 x2 x3) =
 (bif decide (x3<x2) then bif decide (0≤x3) && decide (x3<(↑x1.length:Int)) then bif decide (0≤i) && decide (i<(↑m.length:Int)) then bif decide (0≤[(x1.getD x3.toNat (0,0)).1,(x1.getD x3.toNat (0,0)).2].getD 1 0) && decide ([(x1.getD x3.toNat (0,0)).1,(x1.getD x3.toNat (0,0)).2].getD 1 0<(↑(List.length (m.getD i.toNat [])):Int)) then ∃ x y,x0=Sem.ratText x∧List.getD (m.getD i.toNat []) (Int.toNat ([(x1.getD x3.toNat (0,0)).1,(x1.getD x3.toNat (0,0)).2].getD 1 0)) ByteArray.empty=Sem.ratText y∧Sz 4000000000 x∧Sz 4000000000 y∧aB Tryz.prog n0 10 K (aF (fnT Tryz.f10) 3) (yC i l t m (Sem.ratText (x+y)) x1 x2 (IntKind.i64.wrap (x3+1))) else False else False else False else K (AV.str x0) []):=by kernel_rfl
def yD : List (Nat × List Nat):=[(3,[0,3,6,11,12,13])]
def yE : List (Nat × ETy):=[(11,eP)]
noncomputable def yF (i:Int) (l:List (Int × Int)) (t:Int) (m:List (List ByteArray)) (x0:ByteArray) (x1:List (Int × Int)) (x2 x3:Int):St:=aT 29 [(0,AV.int .i64 i),(3,AV.adr [AV.imm (eL eS) m]),(6,AV.str x0),(11,AV.imm eP x1),(12,AV.int .i64 x2),(13,AV.int .i64 x3)] []
theorem a1N (i:Int) (l:List (Int × Int)) (t:Int) (m:List (List ByteArray)) (n0:Nat) (K:AV→List aA→Prop) :
 aH tab (aM tab rT [] 400) (aL yD yE (aB Tryz.prog n0 12 K)) (aI tab (fnT Tryz.f12).res K) 400 [.code (fnT Tryz.f12).body] ⟨aO (fnT Tryz.f12).n [AV.int .i64 i,AV.adr [AV.imm eP l],AV.adr [AV.int .i64 t],AV.adr [AV.imm (eL eS) m]],[]⟩ =
 (bif decide (0≤t) && decide (t≤(↑l.length:Int)) then aB Tryz.prog n0 12 K (aF (fnT Tryz.f12) 3) (yF i l t m (ByteArray.mk #[48]) (List.drop 0 (List.take t.toNat l)) (↑(List.drop 0 (List.take t.toNat l)).length:Int) 0) else False):=by kernel_rfl
theorem a1O (i:Int) (l:List (Int × Int)) (t:Int) (m:List (List ByteArray)) (x0:ByteArray) (x1:List (Int × Int)) (x2 x3:Int) (n0:Nat) (K:AV→List aA→Prop) :
 aH tab (aM tab rT [] 400) (aL yD yE (aB Tryz.prog n0 12 K)) (aI tab (fnT Tryz.f12).res K) 400 (aU (fnT Tryz.f12) 3) (yF i l t m x0 x1 x2 x3) =
 (bif decide (x3<x2) then bif decide (0≤x3) && decide (x3<(↑x1.length:Int)) then bif decide (0≤[(x1.getD x3.toNat (0,0)).1,(x1.getD x3.toNat (0,0)).2].getD 0 0) && decide ([(x1.getD x3.toNat (0,0)).1,(x1.getD x3.toNat (0,0)).2].getD 0 0<(↑m.length:Int)) then bif decide (0≤i) && decide (i<(↑(List.length (m.getD (Int.toNat ([(x1.getD x3.toNat (0,0)).1,(x1.getD x3.toNat (0,0)).2].getD 0 0)) [])):Int)) then ∃ x y,x0=Sem.ratText x∧List.getD (m.getD (Int.toNat ([(x1.getD x3.toNat (0,0)).1,(x1.getD x3.toNat (0,0)).2].getD 0 0)) []) i.toNat ByteArray.empty=Sem.ratText y∧Sz 4000000000 x∧Sz 4000000000 y∧aB Tryz.prog n0 12 K (aF (fnT Tryz.f12) 3) (yF i l t m (Sem.ratText (x+y)) x1 x2 (IntKind.i64.wrap (x3+1))) else False else False else False else K (AV.str x0) []):=by kernel_rfl
def jY : List (Nat × List Nat):=[(16,[2,5,64,65,66]),(22,[2,5,9,10,11,12,13,64,65,66,74,75]),(28,[2,5,9,11,12,13,64,65,66,91,92])]
def jZ : List (Nat × ETy):=[(64,eP)]
noncomputable def rU (m:List (List ByteArray)) (n:Int) (x0:List (Int × Int)) (x1 x2:Int) (x3:List (Int × Int)):St:=aT 111 [(2,AV.ptr 0 0),(5,AV.ptr 1 0),(64,AV.imm eP x0),(65,AV.int .i64 x1),(66,AV.int .i64 x2)] [aA.box [AV.imm (eL eS) m],aA.box [AV.imm eP x3]]
noncomputable def rV (m:List (List ByteArray)) (n x0 x1:Int) (x2:List (Int × Int)) (x3 x4 x5 x6:Int) (x7:List (Int × Int)) (x8:List Int) (x9:Int):St:=aT 111 [(2,AV.ptr 0 0),(5,AV.ptr 1 0),(9,AV.parr 2),(10,AV.fn 10 [AV.ptr 1 0,AV.ptr 3 0,AV.ptr 0 0]),(11,AV.fn 12 [AV.ptr 1 0,AV.ptr 3 0,AV.ptr 0 0]),(12,AV.int .i64 x0),(13,AV.int .i64 x1),(64,AV.imm eP x2),(65,AV.int .i64 x3),(66,AV.int .i64 x4),(74,AV.int .i64 x5),(75,AV.int .i64 x6)] [aA.box [AV.imm (eL eS) m],aA.box [AV.imm eP x7],aA.typed eI x8 false,aA.box [AV.int .i64 x9]]
noncomputable def rW (m:List (List ByteArray)) (n x0 x1:Int) (x2:List (Int × Int)) (x3 x4 x5 x6:Int) (x7:List (Int × Int)) (x8:List Int) (x9:Int):St:=aT 111 [(2,AV.ptr 0 0),(5,AV.ptr 1 0),(9,AV.parr 2),(11,AV.fn 12 [AV.ptr 1 0,AV.ptr 3 0,AV.ptr 0 0]),(12,AV.int .i64 x0),(13,AV.int .i64 x1),(64,AV.imm eP x2),(65,AV.int .i64 x3),(66,AV.int .i64 x4),(91,AV.int .i64 x5),(92,AV.int .i64 x6)] [aA.box [AV.imm (eL eS) m],aA.box [AV.imm eP x7],aA.typed eI x8 false,aA.box [AV.int .i64 x9]]
theorem a1P (m:List (List ByteArray)) (n:Int) (n0:Nat) (K:AV→List aA→Prop) :
 aH tab (aM tab rS [] 400) (aL jY jZ (aB Tryz.prog n0 3 K)) (aI tab (fnT Tryz.f3).res K) 400 [.code (fnT Tryz.f3).body] ⟨aO (fnT Tryz.f3).n [AV.imm (eL eS) m,AV.int .i64 n],[]⟩ =
 ((m.length≤1000000000000000∧∀ (r:List ByteArray),r∈m→r.length≤1000000000000000) ∧
 ∀ (n_1:Int),
   bif decide (n_1 > 6000) then K (AV.bool true) [aA.box [AV.imm (eL eS) m]]
   else
    TxM m ∧
        TxM m ∧
         bif decide (d9 m=0) then bif decide (n<0) then bif decide (cT m n=4) then K (AV.bool (bif true then decide ((↑(bQ m n).length:Int)=0) else false)) [aA.box [AV.imm (eL eS) m],aA.box [AV.imm eP (bQ m n)]] else K (AV.bool false) [aA.box [AV.imm (eL eS) m],aA.box [AV.imm eP (bQ m n)]] else bif bif true then bif false then true else decide (n > 200) else false then bif decide (cT m n=4) then K (AV.bool (bif true then decide ((↑(bQ m n).length:Int)=0) else false)) [aA.box [AV.imm (eL eS) m],aA.box [AV.imm eP (bQ m n)]] else K (AV.bool false) [aA.box [AV.imm (eL eS) m],aA.box [AV.imm eP (bQ m n)]] else bif !decide (d9 m=0) then bif decide (cT m n=d9 m) then K (AV.bool (bif true then decide ((↑(bQ m n).length:Int)=0) else false)) [aA.box [AV.imm (eL eS) m],aA.box [AV.imm eP (bQ m n)]] else K (AV.bool false) [aA.box [AV.imm (eL eS) m],aA.box [AV.imm eP (bQ m n)]] else TxMM [m]∧bif lB 4 [m] then K (AV.bool true) [aA.box [AV.imm (eL eS) m],aA.box [AV.imm eP (bQ m n)],aA.typed (eL (eL eS)) [m] false] else bif bif false then true else decide (n > 12) then K (AV.bool true) [aA.box [AV.imm (eL eS) m],aA.box [AV.imm eP (bQ m n)],aA.typed (eL (eL eS)) [m] false] else bif !decide (cT m n=0) then K (AV.bool false) [aA.box [AV.imm (eL eS) m],aA.box [AV.imm eP (bQ m n)],aA.typed (eL (eL eS)) [m] false] else bif bif false then true else !decide ((↑(bQ m n).length:Int)=n) then K (AV.bool false) [aA.box [AV.imm (eL eS) m],aA.box [AV.imm eP (bQ m n)],aA.typed (eL (eL eS)) [m] false] else aB Tryz.prog n0 3 K (aF (fnT Tryz.f3) 16) (rU m n (bQ m n) (↑(bQ m n).length:Int) 0 (bQ m n))
         else bif !decide (d9 m=0) then bif decide (cT m n=d9 m) then K (AV.bool (bif true then decide ((↑(bQ m n).length:Int)=0) else false)) [aA.box [AV.imm (eL eS) m],aA.box [AV.imm eP (bQ m n)]] else K (AV.bool false) [aA.box [AV.imm (eL eS) m],aA.box [AV.imm eP (bQ m n)]] else TxMM [m]∧bif lB 4 [m] then K (AV.bool true) [aA.box [AV.imm (eL eS) m],aA.box [AV.imm eP (bQ m n)],aA.typed (eL (eL eS)) [m] false] else bif bif false then true else decide (n > 12) then K (AV.bool true) [aA.box [AV.imm (eL eS) m],aA.box [AV.imm eP (bQ m n)],aA.typed (eL (eL eS)) [m] false] else bif !decide (cT m n=0) then K (AV.bool false) [aA.box [AV.imm (eL eS) m],aA.box [AV.imm eP (bQ m n)],aA.typed (eL (eL eS)) [m] false] else bif bif false then true else !decide ((↑(bQ m n).length:Int)=n) then K (AV.bool false) [aA.box [AV.imm (eL eS) m],aA.box [AV.imm eP (bQ m n)],aA.typed (eL (eL eS)) [m] false] else aB Tryz.prog n0 3 K (aF (fnT Tryz.f3) 16) (rU m n (bQ m n) (↑(bQ m n).length:Int) 0 (bQ m n))):=by kernel_rfl
theorem a1Q (m:List (List ByteArray)) (n:Int) (x0:List (Int × Int)) (x1 x2:Int) (x3:List (Int × Int)) (n0:Nat) (K:AV→List aA→Prop) :
 aH tab (aM tab rS [] 400) (aL jY jZ (aB Tryz.prog n0 3 K)) (aI tab (fnT Tryz.f3).res K) 400 (aU (fnT Tryz.f3) 16) (rU m n x0 x1 x2 x3) =
 (bif decide (x2<x1) then bif decide (0≤x2) && decide (x2<(↑x0.length:Int)) then aB Tryz.prog n0 3 K (aF (fnT Tryz.f3) 22) (rV m n 0 0 x0 x1 x2 (↑m.length:Int) 0 x3 [(x0.getD x2.toNat (0,0)).1,(x0.getD x2.toNat (0,0)).2] x2) else False else K (AV.bool true) [aA.box [AV.imm (eL eS) m],aA.box [AV.imm eP x3]]):=by kernel_rfl
theorem a1R (m:List (List ByteArray)) (n x0 x1:Int) (x2:List (Int × Int)) (x3 x4 x5 x6:Int) (x7:List (Int × Int)) (x8:List Int) (x9:Int) (n0:Nat) (K:AV→List aA→Prop) :
 aH tab (aM tab rS [] 400) (aL jY jZ (aB Tryz.prog n0 3 K)) (aI tab (fnT Tryz.f3).res K) 400 (aU (fnT Tryz.f3) 22) (rV m n x0 x1 x2 x3 x4 x5 x6 x7 x8 x9) =
 (bif decide (x6<x5) then xY m x7 x9 x6∧xY m x7 x9 x0∧∃ x y,Sem.ratText (cF (ent m) x7 x9.toNat x6.toNat)=Sem.ratText x∧Sem.ratText (cF (ent m) x7 x9.toNat x0.toNat)=Sem.ratText y∧Sz 4000000000 x∧Sz 4000000000 y∧bif decide (Sem.sgn (x - y) > 0) then aB Tryz.prog n0 3 K (aF (fnT Tryz.f3) 22) (rV m n x6 x1 x2 x3 x4 x5 (IntKind.i64.wrap (x6+1)) x7 x8 x9) else aB Tryz.prog n0 3 K (aF (fnT Tryz.f3) 22) (rV m n x0 x1 x2 x3 x4 x5 (IntKind.i64.wrap (x6+1)) x7 x8 x9) else bif decide (0<(↑m.length:Int)) then aB Tryz.prog n0 3 K (aF (fnT Tryz.f3) 28) (rW m n x0 x1 x2 x3 x4 (↑(List.length (m.getD 0 [])):Int) 0 x7 x8 x9) else False):=by kernel_rfl
theorem a1S (m:List (List ByteArray)) (n x0 x1:Int) (x2:List (Int × Int)) (x3 x4 x5 x6:Int) (x7:List (Int × Int)) (x8:List Int) (x9:Int) (n0:Nat) (K:AV→List aA→Prop) :
 aH tab (aM tab rS [] 400) (aL jY jZ (aB Tryz.prog n0 3 K)) (aI tab (fnT Tryz.f3).res K) 400 (aU (fnT Tryz.f3) 28) (rW m n x0 x1 x2 x3 x4 x5 x6 x7 x8 x9) =
 (bif decide (x6<x5) then xZ m x7 x9 x6∧xZ m x7 x9 x1∧∃ x y,Sem.ratText (cQ (ent m) x7 x9.toNat x6.toNat)=Sem.ratText x∧Sem.ratText (cQ (ent m) x7 x9.toNat x1.toNat)=Sem.ratText y∧Sz 4000000000 x∧Sz 4000000000 y∧bif decide (Sem.sgn (x - y)<0) then aB Tryz.prog n0 3 K (aF (fnT Tryz.f3) 28) (rW m n x0 x6 x2 x3 x4 x5 (IntKind.i64.wrap (x6+1)) x7 x8 x9) else aB Tryz.prog n0 3 K (aF (fnT Tryz.f3) 28) (rW m n x0 x1 x2 x3 x4 x5 (IntKind.i64.wrap (x6+1)) x7 x8 x9) else bif x8.length.beq 2 then bif !bif decide (x8.getD 0 0=x0) then bif decide (x8.getD 1 0=x1) then true else false else false then K (AV.bool false) [aA.box [AV.imm (eL eS) m],aA.box [AV.imm eP x7],aA.typed eI x8 false,aA.box [AV.int .i64 x9]] else aB Tryz.prog n0 3 K (aF (fnT Tryz.f3) 16) (rU m n x2 x3 (IntKind.i64.wrap (x4+1)) x7) else False):=by kernel_rfl
end
end Go.Proofs.YtehakimmioclkaaGreatDoor.Mach
end
section
set_option linter.unusedSimpArgs false
set_option linter.unusedVariables false
namespace Go.Proofs.YtehakimmioclkaaGreatDoor.Lib
open Go Go.Proofs.YtehakimmioclkaaGreatDoor.Mach
section
theorem a1T {Q:Res} (h:aNY Q):Con Tryz.prog 5 [] Q:=Con.mono aSA fun v objs h' => by
 obtain ⟨h1,h2⟩:=h'
 rw [h1,h2]
 exact h
end
end Go.Proofs.YtehakimmioclkaaGreatDoor.Lib
end
section
set_option linter.unusedSimpArgs false
set_option linter.unusedVariables false
namespace Go.Proofs.YtehakimmioclkaaGreatDoor.Lib
open Go Go.Proofs.YtehakimmioclkaaGreatDoor.Mach Go.Proofs.YtehakimmioclkaaGreatDoorW.PrintWords Go.Proofs.YtehakimmioclkaaGreatDoor.Sem Go.Proofs.YtehakimmioclkaaGreatDoor.Pure
section
def oF : Res:=fun v _=>v = .bool true
theorem rX (H:List aA):aQ oF (.bool true) H:=aML rfl
theorem aC6 {b:Bool} (H:List aA) (h:b=true):aQ oF (.bool b) H:=by subst h; exact rX H
theorem yG : ∀ g xs Q,rT g xs Q→Con Tryz.prog g xs Q:=dB fun p hp=>by
 simp only [List.mem_cons,List.not_mem_nil,or_false] at hp
 rcases hp with rfl | rfl | rfl
 · exact bG fun _ _ _ h=>aC2 h
 · exact bG fun _ _ _ h=>aY8 h
 · exact bE fun _ _ h=>aZD h
section
variable {m:List (List ByteArray)} {l:List (Int × Int)} {i t n:Int} {Q:Res}
theorem Fair.sz (F:Fair m l) {a b:Nat} (ha:a<m.length) (hb:b<wide m):Sz 2000 (ent m a b):=((rQ F.g).1.ent a b ha hb).2
theorem Fair.szr (F:Fair m l) {a x:Nat} (ha:a<m.length) (hx:x≤l.length):Sz 2000000 (cF (ent m) l x a):=(aN0 F.at_ (fun _ _=>F.sz) ha hx).mono (by have:=F.n; omega)
theorem Fair.szc (F:Fair m l) {b x:Nat} (hb:b<wide m) (hx:x≤l.length):Sz 2000000 (cQ (ent m) l x b):=(aN1 F.at_ (fun _ _=>F.sz) hb hx).mono (by have:=F.n; omega)
theorem aN6 {x T:Nat} (hx:x<T):(l.take T).getD x p0=l.getD x p0:=by
 rw [List.getD_eq_getElem?_getD,List.getD_eq_getElem?_getD,List.getElem?_take_of_lt hx]
theorem a1U (h:aN4 i l t m Q):Con Tryz.prog 10 [.int .i64 i, .adr [.imm eP l], .adr [.int .i64 t], .adr [.imm (eL eS) m]] Q:=by
 obtain ⟨⟨F,ht0,ht1,hi0,hi1⟩,hq⟩:=h
 obtain ⟨T,rfl⟩:∃ T:Nat,t=(T:Int):=⟨t.toNat,by omega⟩
 obtain ⟨I,rfl⟩:∃ I:Nat,i=(I:Int):=⟨i.toNat,by omega⟩
 simp only [Int.toNat_natCast] at hq
 obtain ⟨M,m0,m12,w0,w12⟩:=rQ F.g
 have hI:I<m.length:=by omega
 have hT:T≤l.length:=by omega
 have hn:=F.n
 have hl:(l.take T).length=T:=by rw [List.length_take]; omega
 refine aW (gn:=fnT Tryz.f10) (by kernel_rfl) yG (inl:=[]) (LT:=yA) (NT:=yB) rfl fun n0=>?_
 rw [a1L]
 refine aN (aC ht0 (aC ht1 ?_))
 rw [List.drop_zero,Int.toNat_natCast,show (⟨#[48]⟩:ByteArray)=ratText (cF (ent m) l 0 I) from ratText_zero.symm]
 refine c8 (f:=10) (gn:=fnT Tryz.f10) (n0:=n0) (r:=3) (by kernel_rfl) yG (inl:=[]) (LT:=yA) (NT:=yB) (K:=aQ Q) (fun x:Nat=>yC (I:Int) l (T:Int) m (ratText (cF (ent m) l x I)) (l.take T) ((l.take T).length:Int) (x:Int)) (fun x=>T - x) (fun x=>x≤T) (fun x hx0 ih=>?_) 0 (Nat.zero_le _)
 rw [a1M]
 by_cases hx:x<T
 · obtain ⟨a1,a2,a3,a4⟩:=inG (F.at_ x (by omega))
   obtain ⟨k,hk⟩:∃ k:Nat,(l.getD x p0).2=(k:Int):=⟨(l.getD x p0).2.toNat,by omega⟩
   have hkw:k<wide m:=by omega
   obtain ⟨e1,e2⟩:=M.ent I k hI hkw
   have hr:=(M.row I hI).1
   have ih' := ih (x+1) (by omega) (by omega)
   rw [show cF (ent m) l (x+1) I=cF (ent m) l x I+ent m I (l.getD x p0).2.toNat from rfl,hk,Int.toNat_natCast] at ih'
   refine aC (by omega) (eA (by omega) (eA hI ?_))
   rw [Int.toNat_natCast,Int.toNat_natCast,aN6 hx,show [(l.getD x p0).1,(l.getD x p0).2].getD 1 0=(l.getD x p0).2 from rfl,hk,wrS (n:=T) hx (by omega)]
   exact eA (by omega) (by rw [Int.toNat_natCast]; exact ⟨_,_,rfl,e1,(F.szr hI (by omega)).mono (by decide),e2.mono (by decide),ih'⟩)
 · have hxx:x=T:=by omega
   subst hxx
   exact aG (by omega) (bO hq rfl rfl)
theorem a1V (h:aN5 i l t m Q):Con Tryz.prog 12 [.int .i64 i, .adr [.imm eP l], .adr [.int .i64 t], .adr [.imm (eL eS) m]] Q:=by
 obtain ⟨⟨F,ht0,ht1,hi0,hi1⟩,hq⟩:=h
 obtain ⟨T,rfl⟩:∃ T:Nat,t=(T:Int):=⟨t.toNat,by omega⟩
 obtain ⟨I,rfl⟩:∃ I:Nat,i=(I:Int):=⟨i.toNat,by omega⟩
 simp only [Int.toNat_natCast] at hq
 obtain ⟨M,m0,m12,w0,w12⟩:=rQ F.g
 have hI:I<wide m:=by omega
 have hT:T≤l.length:=by omega
 have hn:=F.n
 have hl:(l.take T).length=T:=by rw [List.length_take]; omega
 refine aW (gn:=fnT Tryz.f12) (by kernel_rfl) yG (inl:=[]) (LT:=yD) (NT:=yE) rfl fun n0=>?_
 rw [a1N]
 refine aN (aC ht0 (aC ht1 ?_))
 rw [List.drop_zero,Int.toNat_natCast,show (⟨#[48]⟩:ByteArray)=ratText (cQ (ent m) l 0 I) from ratText_zero.symm]
 refine c8 (f:=12) (gn:=fnT Tryz.f12) (n0:=n0) (r:=3) (by kernel_rfl) yG (inl:=[]) (LT:=yD) (NT:=yE) (K:=aQ Q) (fun x:Nat=>yF (I:Int) l (T:Int) m (ratText (cQ (ent m) l x I)) (l.take T) ((l.take T).length:Int) (x:Int)) (fun x=>T - x) (fun x=>x≤T) (fun x hx0 ih=>?_) 0 (Nat.zero_le _)
 rw [a1O]
 by_cases hx:x<T
 · obtain ⟨a1,a2,a3,a4⟩:=inG (F.at_ x (by omega))
   obtain ⟨k,hk⟩:∃ k:Nat,(l.getD x p0).1=(k:Int):=⟨(l.getD x p0).1.toNat,by omega⟩
   have hkw:k<m.length:=by omega
   obtain ⟨e1,e2⟩:=M.ent k I hkw hI
   have hr:=(M.row k hkw).1
   have ih' := ih (x+1) (by omega) (by omega)
   rw [show cQ (ent m) l (x+1) I=cQ (ent m) l x I+ent m (l.getD x p0).1.toNat I from rfl,hk,Int.toNat_natCast] at ih'
   refine aC (by omega) (eA (by omega) ?_)
   rw [Int.toNat_natCast,aN6 hx,show [(l.getD x p0).1,(l.getD x p0).2].getD 0 0=(l.getD x p0).1 from rfl,hk,wrS (n:=T) hx (by omega)]
   refine eA hkw ?_
   rw [Int.toNat_natCast]
   exact eA (by omega) (by rw [Int.toNat_natCast]; exact ⟨_,_,rfl,e1,(F.szc hI (by omega)).mono (by decide),e2.mono (by decide),ih'⟩)
 · have hxx:x=T:=by omega
   subst hxx
   exact aG (by omega) (bO hq rfl rfl)
end
theorem yH : ∀ g xs Q,rS g xs Q→Con Tryz.prog g xs Q:=dB fun p hp=>by
 simp only [List.mem_cons,List.not_mem_nil,or_false] at hp
 rcases hp with rfl | rfl | rfl | rfl | rfl | rfl | rfl | rfl
 · exact c0_ok fun _ h=>a1T h
 · exact bE fun _ _ h=>a03 h
 · exact bE fun _ _ h=>aNV h
 · exact bG fun _ _ _ h=>a04 h
 · exact bG fun _ _ _ h=>a1I h
 · exact bG fun _ _ _ h=>aZV h
 · exact aN3 fun _ _ _ _ _ h=>a1U h
 · exact aN3 fun _ _ _ _ _ h=>a1V h
section
variable {F:Nat→Nat→Rat} {n w:Nat}
theorem yI {t s:Nat} (hs:s<t):∀ T,t≤T→(bV F n w T).getD s p0=(bV F n w t).getD s p0
 | 0,h=>by omega
 | T+1,h=>by
   by_cases e:t=T+1
   · rw [e]
   · rw [bV,i5,gM,if_pos (by omega)]
     exact yI hs T (by omega)
theorem a1W {T t:Nat} (h:t<T):(bV F n w T).getD t p0=(((bestTo (cF F (bV F n w t) t) n:Nat):Int),((leastTo (cQ F (bV F n w t) t) w:Nat):Int)):=by
 rw [yI (t:=t+1) (by omega) T h,bV,i5,gM,if_neg (Nat.lt_irrefl _),if_pos rfl]
theorem a1X {T t:Nat} (h:t≤T):cF F (bV F n w T) t=cF F (bV F n w t) t:=by
 funext i
 exact rR t fun s hs=>by rw [yI hs T h]
theorem a1Y {T t:Nat} (h:t≤T):cQ F (bV F n w T) t=cQ F (bV F n w t) t:=by
 funext i
 exact rR t fun s hs=>by rw [yI hs T h]
end
section
variable {m:List (List ByteArray)} {n:Int}
theorem aC7 (h:cT m n≠0):bQ m n=[]:=if_neg h
theorem a1Z (ht:TxM m):Con Tryz.prog 3 [.imm (eL eS) m, .int .i64 n] oF:=by
 refine aW (gn:=fnT Tryz.f3) (by kernel_rfl) yH (inl:=[]) (LT:=jY) (NT:=jZ) rfl fun n0=>?_
 rw [a1P]
 refine ⟨⟨ht.1,fun r hr=>(ht.2 r hr).1⟩,fun c=>?_⟩
 by_cases hw:c > 6000
 · exact aC hw (rX _)
 refine aG hw ⟨ht,ht,?_⟩
 by_cases hG:d9 m=0
 case neg =>
  have hE:cT m n=d9 m:=if_pos hG
  refine aG hG (aR (aG hG (aC hE (aC6 _ ?_))))
  rw [aC7 (by rw [hE]; exact hG)]; rfl
 refine aC hG ?_
 by_cases c1:n<0
 · have hE:cT m n=4:=by unfold cT; rw [if_neg (fun h=>h hG),if_pos (.inl c1)]
   refine aC c1 (aC hE (aC6 _ ?_))
   rw [aC7 (by rw [hE]; decide)]; rfl
 refine aG c1 ?_
 rw [cond_true,cond_false]
 by_cases c2:n > 200
 · have hE:cT m n=4:=by unfold cT; rw [if_neg (fun h=>h hG),if_pos (.inr c2)]
   refine aC c2 (aC hE (aC6 _ ?_))
   rw [aC7 (by rw [hE]; decide)]; rfl
 have hE:cT m n=0:=by unfold cT; rw [if_neg (fun h=>h hG),if_neg (by omega)]
 have hV:bQ m n=bV (ent m) m.length (wide m) n.toNat:=by unfold bQ; rw [if_pos hE]
 refine aG c2 (aR (aC hG ⟨⟨by simp,fun r hr=>by rw [List.mem_singleton.1 hr]; exact ht⟩,?_⟩))
 by_cases hv:lB 4 [m]=true
 · exact aP hv (rX _)
 refine aY hv ?_
 rw [cond_false,cond_false]
 by_cases c3:n > 12
 · exact aC c3 (rX _)
 refine aG c3 (aR (aC hE (aR (aC ?_ ?_))))
 · rw [hV,gM]; omega
 obtain ⟨M,m0,m12,w0,w12⟩:=rQ hG
 rw [hV]
 obtain ⟨N,rfl⟩:∃ N:Nat,n=(N:Int):=⟨n.toNat,by omega⟩
 rw [Int.toNat_natCast]
 have hlen:=gM (F:=ent m) (n:=m.length) (w:=wide m) N
 have fair:Fair m (bV (ent m) m.length (wide m) N):=⟨hG,by omega,fun t hh=>xX m0 w0 N t hh⟩
 have hat:=fun t (h:t<N)=>a1W (F:=ent m) (n:=m.length) (w:=wide m) (T:=N) (t:=t) h
 have hrp:=fun t (h:t≤N)=>a1X (F:=ent m) (n:=m.length) (w:=wide m) (T:=N) (t:=t) h
 have hcp:=fun t (h:t≤N)=>a1Y (F:=ent m) (n:=m.length) (w:=wide m) (T:=N) (t:=t) h
 generalize hL:bV (ent m) m.length (wide m) N=L at *
 refine c8 (f:=3) (gn:=fnT Tryz.f3) (n0:=n0) (r:=16) (by kernel_rfl) yH (inl:=[]) (LT:=jY) (NT:=jZ) (K:=aQ oF) (fun t:Nat=>rU m (N:Int) L (L.length:Int) (t:Int) L) (fun t=>N - t) (fun t=>t≤N) (fun t ht0 ih=>?_) 0 (Nat.zero_le _)
 rw [a1Q]
 by_cases htN:t<N
 case neg=>exact aG (by omega) (rX _)
 refine aC (by omega) (eA (by omega) ?_)
 rw [Int.toNat_natCast]
 have ih' := ih (t+1) (by omega) (by omega)
 have ha:=hat t htN
 have szr:∀ i,i<m.length→Sz 2000000 (cF (ent m) L t i):=fun i hi=>fair.szr hi (by omega)
 have szc:∀ k,k<wide m→Sz 2000000 (cQ (ent m) L t k):=fun k hk=>fair.szc hk (by omega)
 rw [← hrp t (by omega),← hcp t (by omega)] at ha
 have rok:∀ k:Nat,k<m.length→xY m L (t:Int) (k:Int):=fun k hk=>⟨fair,by omega,by omega,by omega,by omega⟩
 have cok:∀ k:Nat,k<wide m→xZ m L (t:Int) (k:Int):=fun k hk=>⟨fair,by omega,by omega,by omega,by omega⟩
 have bl:=fun k (hk:k≤m.length)=>xV (cF (ent m) L t) m0 k hk
 have ll:=fun k (hk:k≤wide m)=>xW (cQ (ent m) L t) w0 k hk
 have bs:∀ k,bestTo (cF (ent m) L t) (k+1)=if 0<sgn (cF (ent m) L t k - cF (ent m) L t (bestTo (cF (ent m) L t) k)) then k else bestTo (cF (ent m) L t) k:=fun k=>rfl
 have ls:∀ k,leastTo (cQ (ent m) L t) (k+1)=if sgn (cQ (ent m) L t k - cQ (ent m) L t (leastTo (cQ (ent m) L t) k))<0 then k else leastTo (cQ (ent m) L t) k:=fun k=>rfl
 have b0' : bestTo (cF (ent m) L t) 0=0:=rfl
 have l0' : leastTo (cQ (ent m) L t) 0=0:=rfl
 have loop28:=c8 (f:=3) (gn:=fnT Tryz.f3) (n0:=n0) (r:=28) (by kernel_rfl) yH (inl:=[]) (LT:=jY) (NT:=jZ) (K:=aQ oF) (fun k:Nat=>rW m (N:Int) ((bestTo (cF (ent m) L t) m.length:Nat):Int) ((leastTo (cQ (ent m) L t) k:Nat):Int) L (L.length:Int) (t:Int) ((wide m:Nat):Int) (k:Int) L [(L.getD t p0).1,(L.getD t p0).2] (t:Int)) (fun k=>wide m - k) (fun k=>k≤wide m) (fun k hk0 ih2=>by
  rw [a1S]
  by_cases hk:k<wide m
  · have ih3:=ih2 (k+1) (by omega) (by omega)
    rw [ls k] at ih3
    have hb:=ll k (by omega)
    refine aC (by omega) ⟨cok k hk,cok _ hb,?_⟩
    rw [Int.toNat_natCast,Int.toNat_natCast,Int.toNat_natCast,wrS hk (by omega)]
    refine ⟨_,_,rfl,rfl,(szc k hk).mono (by decide),(szc _ hb).mono (by decide),?_⟩
    by_cases hs:sgn (cQ (ent m) L t k - cQ (ent m) L t (leastTo (cQ (ent m) L t) k))<0
    · rw [if_pos hs] at ih3
      exact aC hs ih3
    · rw [if_neg hs] at ih3
      exact aG hs ih3
  · have hkk:k=wide m:=by omega
    subst hkk
    refine aG (by omega) (aP rfl (aR ?_))
    rw [ha]
    rw [wrS (n:=N) htN (by omega)]
    exact aP (by rw [show [(((bestTo (cF (ent m) L t) m.length:Nat):Int),((leastTo (cQ (ent m) L t) (wide m):Nat):Int)).1,(((bestTo (cF (ent m) L t) m.length:Nat):Int),((leastTo (cQ (ent m) L t) (wide m):Nat):Int)).2].getD 0 0=((bestTo (cF (ent m) L t) m.length:Nat):Int) from rfl,show [(((bestTo (cF (ent m) L t) m.length:Nat):Int),((leastTo (cQ (ent m) L t) (wide m):Nat):Int)).1,(((bestTo (cF (ent m) L t) m.length:Nat):Int),((leastTo (cQ (ent m) L t) (wide m):Nat):Int)).2].getD 1 0=((leastTo (cQ (ent m) L t) (wide m):Nat):Int) from rfl,decide_eq_true rfl,decide_eq_true rfl]; rfl) ih') 0 (Nat.zero_le _)
 rw [l0'] at loop28
 have loop22:=c8 (f:=3) (gn:=fnT Tryz.f3) (n0:=n0) (r:=22) (by kernel_rfl) yH (inl:=[]) (LT:=jY) (NT:=jZ) (K:=aQ oF) (fun k:Nat=>rV m (N:Int) ((bestTo (cF (ent m) L t) k:Nat):Int) 0 L (L.length:Int) (t:Int) (m.length:Int) (k:Int) L [(L.getD t p0).1,(L.getD t p0).2] (t:Int)) (fun k=>m.length - k) (fun k=>k≤m.length) (fun k hk0 ih2=>by
  rw [a1R]
  by_cases hk:k<m.length
  · have ih3:=ih2 (k+1) (by omega) (by omega)
    rw [bs k] at ih3
    have hb:=bl k (by omega)
    refine aC (by omega) ⟨rok k hk,rok _ hb,?_⟩
    rw [Int.toNat_natCast,Int.toNat_natCast,Int.toNat_natCast,wrS hk (by omega)]
    refine ⟨_,_,rfl,rfl,(szr k hk).mono (by decide),(szr _ hb).mono (by decide),?_⟩
    by_cases hs:0<sgn (cF (ent m) L t k - cF (ent m) L t (bestTo (cF (ent m) L t) k))
    · rw [if_pos hs] at ih3
      exact aC hs ih3
    · rw [if_neg hs] at ih3
      exact aG hs ih3
  · have hkk:k=m.length:=by omega
    subst hkk
    exact aG (by omega) (aC (by omega) loop28)) 0 (Nat.zero_le _)
 rw [b0'] at loop22
 exact loop22
end
end
end Go.Proofs.YtehakimmioclkaaGreatDoor.Lib
end
