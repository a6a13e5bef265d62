/- Texts of this session, put together. -/
import Derived.Test.YtehakimmioclkaaGreatDoorRA4
section
set_option linter.unusedSimpArgs false
set_option linter.unusedVariables false
namespace Go.Proofs.YtehakimmioclkaaGreatDoor.Lib
open Go Go.Proofs.YtehakimmioclkaaGreatDoor.Mach Go.Proofs.YtehakimmioclkaaGreatDoorW.PrintWords Go.Proofs.YtehakimmioclkaaGreatDoor.Sem Go.Proofs.YtehakimmioclkaaGreatDoor.Pure
section
theorem lV {s t:ByteArray}:s.toList=t.toList↔s=t:=⟨aMP,fun h=>h ▸ rfl⟩
theorem aNW (n:Nat):∀ x∈(natText n).data.toList,48≤x.toNat∧x.toNat≤57:=fun x hx=>by
 have:=aL1 n (x.toNat:Int) (by unfold bytesOf; exact List.mem_map.2 ⟨x,hx,rfl⟩)
 omega
theorem lW (s:ByteArray):s ++ ⟨#[]⟩=s:=by apply ByteArray.ext; simp [ByteArray.data_append]
theorem lX (s:ByteArray):⟨#[]⟩ ++ s=s:=by apply ByteArray.ext; simp [ByteArray.data_append]
theorem a0Y (s:ByteArray):bE (⟨#[45]⟩ ++ s)=true∧aL (⟨#[45]⟩ ++ s)=s:=by
 have h1:bE (⟨#[45]⟩ ++ s)=true:=by
  unfold bE
  rw [decide_eq_true (by rw [ByteArray.size_append,show (ByteArray.mk #[45]).size=1 from rfl]; omega)]
  have:(⟨#[45]⟩ ++ s:ByteArray).extract 0 1=⟨#[45]⟩:=aMR ⟨#[45]⟩ s
  rw [this]; simp
 refine ⟨h1,?_⟩
 unfold aL
 rw [h1]
 exact aMS ⟨#[45]⟩ s
theorem a0Z {s:ByteArray} {c:UInt8} {r:List UInt8} (h:s.data.toList=c :: r) (hc:c≠45):bE s=false∧aL s=s:=by
 have h1:bE s=false:=by
  unfold bE
  have hl:s.data.toList.length=s.size:=by rw [Array.length_toList]; rfl
  rw [h] at hl
  rw [decide_eq_true (by simp only [List.length_cons] at hl; omega)]
  refine beq_eq_false_iff_ne.2 fun he=>?_
  rw [ByteArray.toList_eq,ByteArray.toList_eq,ByteArray.data_extract] at he
  have:(s.data.extract 0 1).toList=[c]:=by
   rw [Array.toList_extract,List.extract_eq_take_drop,h]; rfl
  rw [this] at he
  exact hc (by simpa using he)
 refine ⟨h1,?_⟩
 unfold aL
 rw [h1]; rfl
theorem aNX {s:ByteArray} (h:∀ x∈s.data.toList,x≠47):bF s=false∧bG s=s:=by
 have h1:bF s=false:=by
  unfold bF
  rw [aZ7 h]; rfl
 refine ⟨h1,?_⟩
 unfold bG
 rw [h1]; rfl
theorem a00 {a b:ByteArray} (h:∀ x∈a.data.toList,x≠47):bF (a ++ (⟨#[47]⟩ ++ b))=true∧bG (a ++ (⟨#[47]⟩ ++ b))=a∧bL (a ++ (⟨#[47]⟩ ++ b))=b:=by
 have hi:=aZ6 (b:=b) h
 have h1:bF (a ++ (⟨#[47]⟩ ++ b))=true:=by
  unfold bF
  rw [hi]
  exact decide_eq_true (by omega)
 refine ⟨h1,?_,?_⟩
 · unfold bG
   rw [h1,hi]
   exact aMR a _
 · unfold bL
   rw [h1,hi]
   have e:a ++ (⟨#[47]⟩ ++ b)=(a ++ ⟨#[47]⟩) ++ b:=(ByteArray.append_assoc).symm
   have e2:((a.size:Int)).toNat+1=(a ++ ⟨#[47]⟩:ByteArray).size:=by rw [ByteArray.size_append,show (ByteArray.mk #[47]).size=1 from rfl]; omega
   rw [e,e2]
   exact aMS _ _
theorem a01 (n:Nat):∃ c r,(natText n).data.toList=c :: r∧c≠45:=by
 have h:=sE n
 have hl:(natText n).data.toList.length=dg n:=by rw [Array.length_toList]; rfl
 match hd:(natText n).data.toList with
 | []=>rw [hd] at hl; simp at hl; omega
 | c :: r =>
   refine ⟨c,r,rfl,fun hc=>?_⟩
   have:=aNW n c (by rw [hd]; simp)
   rw [hc] at this
   exact absurd this (by decide)
theorem aEH (n:Nat):∀ x∈(natText n).data.toList,x≠47:=fun x hx hc=>by
 have:=aNW n x hx
 rw [hc] at this
 exact absurd this (by decide)
theorem aEI (neg:Bool) (u v:Nat):bE (rt neg u v)=neg∧bG (aL (rt neg u v))=natText u∧bF (aL (rt neg u v))=decide (v≠1)∧(v≠1→bL (aL (rt neg u v))=natText v):=by
 have key:bE (rt neg u v)=neg∧aL (rt neg u v)=natText u ++ (if v=1 then ⟨#[]⟩ else ⟨#[47]⟩ ++ natText v):=by
  unfold rt
  cases neg with
  | true=>rw [cond_true,ByteArray.append_assoc]; exact a0Y _
  | false =>
    rw [cond_false,lX]
    obtain ⟨c,r,h1,h2⟩:=a01 u
    exact a0Z (c:=c) (r:=r ++ (if v=1 then (⟨#[]⟩:ByteArray) else ⟨#[47]⟩ ++ natText v).data.toList) (by rw [show ∀ a b:ByteArray,(a ++ b).data=a.data ++ b.data from fun a b=>ByteArray.data_append,Array.toList_append,h1]; rfl) h2
 refine ⟨key.1,?_⟩
 rw [key.2]
 by_cases hv:v=1
 · rw [if_pos hv,lW,(aNX (aEH u)).1,(aNX (aEH u)).2]
   exact ⟨rfl,(decide_eq_false (by simpa using hv)).symm,fun h=>absurd hv h⟩
 · rw [if_neg hv]
   obtain ⟨c1,c2,c3⟩:=a00 (b:=natText v) (aEH u)
   rw [c1,c2,c3]
   exact ⟨rfl,(decide_eq_true hv).symm,fun _=>rfl⟩
theorem a02 (neg:Bool) (u v:Nat):(rt neg u v).size≤dg u+dg v+2∧dg u≤(rt neg u v).size∧dg v≤(rt neg u v).size+1:=by
 unfold rt
 rw [ByteArray.size_append,ByteArray.size_append]
 have e1:(bif neg then (⟨#[45]⟩:ByteArray) else ⟨#[]⟩).size≤1:=by cases neg <;> decide
 have eu:(natText u).size=dg u:=rfl
 have hv1:=sE v
 split
 · rename_i h
   subst h
   rw [sK,eu]
   have:(ByteArray.mk #[]).size=0:=rfl
   omega
 · rw [ByteArray.size_append]
   have:(ByteArray.mk #[47]).size=1:=rfl
   have ev:(natText v).size=dg v:=rfl
   omega
theorem aEJ (q:Rat):(ratText q).size≤szN q+szD q+2∧szN q≤(ratText q).size∧szD q≤(ratText q).size+1:=a02 _ _ _
theorem a03 {s:ByteArray} {Q:Res} (h:inS s Q):Con Tryz.prog 79 [.str s] Q:=by
 obtain ⟨q,rfl,sq,hq⟩:=h
 refine oR ?_ hq
 refine aU (gn:=fnT Tryz.f79) (by kernel_rfl) sL (inl:=[]) (LT:=aM7) (NT:=aM8) rfl fun n0=>?_
 rw [qin_E]
 obtain ⟨p1,p2,p3,p4⟩:=aEI (decide (q.num<0)) q.num.natAbs q.den
 have hs:=(aEJ q).1
 have hr:(aL (ratText q)).size≤(ratText q).size:=by
  unfold aL
  cases bE (ratText q)
  · exact Nat.le_refl _
  · rw [cond_true,ByteArray.size_extract]; omega
 have e1:=dI sq
 have e2:=dP sq
 have e3:szN q=dg q.num.natAbs:=rfl
 have e4:szD q=dg q.den:=rfl
 refine ⟨rfl,by omega,rfl,by omega,q.num.natAbs,p2,e1,oS,?_⟩
 have hd:=dO q
 by_cases h1:q.den=1
 · refine aX (by rw [show ratText q=rt (decide (q.num<0)) q.num.natAbs q.den from rfl,p3]; simpa using h1) ?_
   rw [show bE (ratText q)=decide (q.num<0) from p1]
   exact gO (z:=(decide (q.num<0),_,_)) ⟨rfl,rfl, .inl (show limbsOf 1=limbsOf q.den by rw [h1])⟩
 · refine aQ (by rw [show ratText q=rt (decide (q.num<0)) q.num.natAbs q.den from rfl,p3]; simpa using h1) ⟨q.den,p4 h1,e2,?_⟩
   rw [show bE (ratText q)=decide (q.num<0) from p1]
   exact gO (z:=(decide (q.num<0),_,_)) ⟨rfl,rfl, .inl rfl⟩
theorem yG {z:QT} {Q:Res} (h:sH z Q):Con Tryz.prog 48 [qa z] Q:=by
 obtain ⟨q,hz,sq,hq⟩:=h
 obtain ⟨b,n,d⟩:=z
 refine aU (gn:=fnT Tryz.f48) (by kernel_rfl) oT (inl:=[]) (LT:=aM9) (NT:=aNA) rfl fun n0=>?_
 refine (a0H b n d n0 _).symm ▸ ?_
 have hk:∀ r H,ratText q=r→aO Q (.str r) H:=fun r H h=>by rw [h] at hq; exact bI hq rfl rfl
 by_cases h0:q=0
 · refine aC ((gB hz).2 h0) (hk _ _ (by rw [h0]; exact xX))
 · refine aG (fun h=>h0 ((gB hz).1 h)) ⟨_,oU hz,dI sq,?_⟩
   have e1:=dI sq
   have e2:=dP sq
   have eu:(natText q.num.natAbs).size=dg q.num.natAbs:=rfl
   have ev:(natText q.den).size=dg q.den:=rfl
   have e47:(⟨#[47]⟩ ++ natText q.den:ByteArray).size=1+dg q.den:=ByteArray.size_append
   have e45:(⟨#[45]⟩ ++ natText q.num.natAbs:ByteArray).size=1+dg q.num.natAbs:=ByteArray.size_append
   have hb:b=decide (q.num<0):=hz.neg
   have hr:ratText q=rt b q.num.natAbs q.den:=by rw [hb]; rfl
   cases b with
   | true =>
     refine bQ (aC (by omega) ⟨q,hz,q.den,rfl,e2,?_⟩)
     by_cases h1:q.den=1
     · refine aR (aQ (by rw [beq_iff_eq,lV,h1]; exact natText_one) (hk _ _ ?_))
       rw [hr]; unfold rt
       rw [if_pos h1,lW]; rfl
     · refine aR (aX (by rw [beq_iff_eq,lV]; exact fun h=>h1 (sD (h.trans natText_one.symm))) (aC (by omega) (aC (by omega) (hk _ _ ?_))))
       rw [hr]; unfold rt
       rw [if_neg h1]; rfl
   | false =>
     refine bS ⟨q,hz,q.den,rfl,e2,?_⟩
     by_cases h1:q.den=1
     · refine aR (aQ (by rw [beq_iff_eq,lV,h1]; exact natText_one) (hk _ _ ?_))
       rw [hr]; unfold rt
       rw [if_pos h1,lW]; exact lX _
     · refine aR (aX (by rw [beq_iff_eq,lV]; exact fun h=>h1 (sD (h.trans natText_one.symm))) (aC (by omega) (aC (by omega) (hk _ _ ?_))))
       rw [hr]; unfold rt
       rw [if_neg h1,cond_false,lX]
theorem aNY {z:QT} {Q:Res} (h:fitS z Q):Con Tryz.prog 76 [qa z] Q:=by
 obtain ⟨q,hz,sq,hq⟩:=h
 obtain ⟨b,n,d⟩:=z
 refine aU (gn:=fnT Tryz.f76) (by kernel_rfl) oT (inl:=[]) (LT:=aNB) (NT:=aNC) rfl fun n0=>?_
 refine (a0I b n d n0 _).symm ▸ ?_
 have e1:=dI sq
 have e2:=dP sq
 unfold cX at hq
 have hN:szN q=dg q.num.natAbs:=rfl
 have hD:szD q=dg q.den:=rfl
 rw [hN,hD] at hq
 refine ⟨_,oU hz,e1,?_⟩
 by_cases h1:dg q.num.natAbs > 2000
 · rw [if_pos (.inl h1)] at hq
   exact aC (by omega) (bI hq rfl rfl)
 · refine aG (by omega) ?_
   have key:∃ m,d=limbsOf m∧dg m≤9000000000∧(dg m > 2000↔dg q.den > 2000):=by
    rcases hz.den with hd | ⟨hd,hd1⟩
    · exact ⟨_,hd,e2,Iff.rfl⟩
    · refine ⟨0,hd.trans limbsOf_zero.symm,by rw [aED]; decide,?_⟩
      rw [hd1,aED,sK]
   obtain ⟨m,hm1,hm2,hm3⟩:=key
   refine ⟨m,hm1,hm2,?_⟩
   by_cases h2:dg q.den > 2000
   · rw [if_pos (.inr h2)] at hq
     exact aQ (decide_eq_true (by have:=hm3.2 h2; omega)) (bI hq rfl rfl)
   · rw [if_neg (by rintro (h | h) <;> omega)] at hq
     exact aX (fun h=>h2 (hm3.1 (by have:=of_decide_eq_true h; omega))) (bI hq rfl rfl)
end
section
theorem aNZ : ∀ g xs Q,aEA g xs Q→Con Tryz.prog g xs Q:=dA fun p hp=>by
 simp only [List.mem_cons,List.not_mem_nil,or_false] at hp
 rcases hp with rfl | rfl | rfl | rfl | rfl
 · exact aZ fun _ _ _ h=>aEG h
 · exact bD fun _ _ h=>a0X h
 · exact bD fun _ _ h=>aEF h
 · exact bD fun _ _ h=>yG h
 · exact bD fun _ _ h=>aNY h
theorem aEK {k:Nat} {q:Rat} (h:Sz k q):Sz k (-q):=by
 refine ⟨?_,?_⟩
 · show dg (-q).num.natAbs≤k
   rw [Rat.neg_num,Int.natAbs_neg]; exact h.1
 · show dg (-q).den≤k
   rw [Rat.neg_den]; exact h.2
theorem aN0 {z w:QT} {Q:Res} (h:subQ z w Q):Con Tryz.prog 52 [qa z,qa w] Q:=by
 obtain ⟨x,y,hz,hw,sx,sy,hq⟩:=h
 refine oR ?_ hq
 obtain ⟨b,n,d⟩:=z
 obtain ⟨b', n', d'⟩:=w
 refine aU (gn:=fnT Tryz.f52) (by kernel_rfl) aNZ (inl:=[]) (LT:=aNL) (NT:=aNM) rfl fun n0=>?_
 refine (a0N b n d b' n' d' n0 _).symm ▸ ?_
 refine ⟨y,hw,fun r hr=>⟨x, -y,hz,hr,sx,aEK sy,fun r hr=>?_⟩⟩
 rw [Rat.sub_eq_add_neg]
 exact gO hr
theorem a04 : ∀ g xs Q,aM1 g xs Q→Con Tryz.prog g xs Q:=dA fun p hp=>by
 simp only [List.mem_cons,List.not_mem_nil,or_false] at hp
 rcases hp with rfl | rfl
 · exact aZ fun _ _ _ h=>aN0 h
 · exact bD fun _ _ h=>aEF h
theorem aN1 {z w:QT} {Q:Res} (h:cmpQ z w Q):Con Tryz.prog 31 [qa z,qa w] Q:=by
 obtain ⟨x,y,hz,hw,sx,sy,hq⟩:=h
 obtain ⟨b,n,d⟩:=z
 obtain ⟨b', n', d'⟩:=w
 refine aU (gn:=fnT Tryz.f31) (by kernel_rfl) a04 (inl:=[]) (LT:=aNP) (NT:=aNQ) rfl fun n0=>?_
 refine (a0P b n d b' n' d' n0 _).symm ▸ ?_
 exact ⟨x,y,hz,hw,sx,sy,fun r hr=>⟨x - y,hr,bI hq rfl rfl⟩⟩
theorem a05 {z:QT} {Q:Res} (h:aMX z Q):Con Tryz.prog 50 [qa z] Q:=by
 obtain ⟨q,hz,sq,hq⟩:=h
 obtain ⟨b,n,d⟩:=z
 refine aU (gn:=fnT Tryz.f50) (by kernel_rfl) aNZ (inl:=[]) (LT:=aND) (NT:=aNE) rfl fun n0=>?_
 refine (a0J b n d n0 _).symm ▸ ?_
 refine ⟨q,hz,sq,?_⟩
 unfold kL at hq
 by_cases h0:cX q=0
 · rw [if_pos h0,h0] at hq
   exact aR (aC h0 ⟨q,hz,sq,bI hq rfl rfl⟩)
 · rw [if_neg h0] at hq
   exact aR (aG h0 (bI hq rfl rfl))
theorem aN2 {n:Nat} (h:n<10 ^ 20):dg n≤20:=sF (by decide) h
theorem oV {s:ByteArray} (h:natErr s=0):∃ n,s=natText n∧dg n≤2000:=by
 rcases aL2 s with ⟨n,hn,he⟩ | ⟨he,_⟩
 · refine ⟨n,hn,?_⟩
   rw [he] at h
   split at h
   · cases h
   · omega
 · rw [he] at h; cases h
theorem a06 {n:Nat} (h:dg n≤2000):natErr (natText n)=0:=by rw [aZ0,if_neg (by omega)]
theorem aEL (s:ByteArray):(aL s).size≤s.size:=by
 unfold aL
 cases bE s
 · exact Nat.le_refl _
 · rw [cond_true,ByteArray.size_extract]; omega
theorem aN3 (s:ByteArray):(bG s).size≤s.size:=by
 unfold bG
 have:=sG s 47
 cases bF s
 · exact Nat.le_refl _
 · rw [cond_true,ByteArray.size_extract]; omega
theorem aEM (s:ByteArray):(bL s).size≤s.size:=by
 unfold bL
 cases bF s
 · exact Nat.zero_le _
 · rw [cond_true,ByteArray.size_extract]; omega
theorem aN4 {p c:Bool} {A T:Prop} (h1:p=true→c=true→A) (h2:¬ (p=true∧c=true)→T):bif p then (bif c then A else T) else T:=by
 cases p with
 | false=>exact h2 (by simp)
 | true =>
   cases c with
   | true=>exact h1 rfl rfl
   | false=>exact h2 (by simp)
theorem iI {a:ByteArray}:(a.toList == (ByteArray.mk #[48]).toList)=true↔a=zeroS:=by rw [beq_iff_eq,lV]
theorem sM {a:ByteArray}:(a.toList == (ByteArray.mk #[49]).toList)=true↔a=⟨#[49]⟩:=by rw [beq_iff_eq,lV]
theorem a07 {s:ByteArray} {Q:Res} (h:yA s Q):Con Tryz.prog 88 [.str s] Q:=by
 obtain ⟨hs,hq⟩:=h
 unfold Tx at hs
 refine aU (gn:=fnT Tryz.f88) (by kernel_rfl) sL (inl:=[]) (LT:=aNR) (NT:=aNS) rfl fun n0=>?_
 rw [a0Q]
 have r1:=aEL s
 have r2:=aN3 (aL s)
 have r3:=aEM (aL s)
 have hk:∀ v,eY s=v→aO Q (.int .i64 v) []:=fun v h=>by rw [h] at hq; exact bI hq rfl rfl
 refine ⟨rfl,by omega,rfl,by omega,by omega,?_⟩
 unfold eY at hk
 generalize bG (aL s)=a at *
 generalize bL (aL s)=b at *
 cases hI:bF (aL s) with
 | true =>
   refine bQ ⟨by omega,?_⟩
   simp only [hI,true_and] at hk
   by_cases h1:natErr a=5
   · exact aC h1 (hk 5 (if_pos (.inl h1)))
   refine aG h1 ?_
   by_cases h2:natErr b=5
   · exact aQ (decide_eq_true h2) (hk 5 (if_pos (.inr (.inl h2))))
   refine aX (fun h=>h2 (of_decide_eq_true h)) ?_
   refine aN4 (fun hp hc=>hk 5 (if_pos (.inr (.inr ⟨hp,iI.1 hc⟩)))) fun hpc=>?_
   have h3:¬ (natErr a=5∨natErr b=5∨(bE s=true∧a=zeroS)):=by
    rintro (h | h | h)
    · exact h1 h
    · exact h2 h
    · exact hpc ⟨h.1,iI.2 h.2⟩
   rw [if_neg h3] at hk
   by_cases e1:natErr a=0
   · refine aR (aC e1 ?_)
     by_cases e2:natErr b=0
     · refine aX (by simp [e2]) (bQ ?_)
       rw [if_neg (by rintro (h | h) <;> exact h (by assumption))] at hk
       by_cases f1:b=zeroS
       · exact aQ (iI.2 f1) (hk 3 (if_pos (.inl f1)))
       refine aX (fun h=>f1 (iI.1 h)) ?_
       by_cases f2:b=⟨#[49]⟩
       · exact aQ (sM.2 f2) (hk 3 (if_pos (.inr (.inl f2))))
       refine aX (fun h=>f2 (sM.1 h)) ?_
       obtain ⟨u,rfl,hu⟩:=oV e1
       obtain ⟨v,rfl,hv⟩:=oV e2
       have hv0:0<v:=Nat.pos_of_ne_zero fun h=>f1 (by rw [h]; exact natText_zero)
       have hgb:dg (Nat.gcd u v)≤9000000000:=Nat.le_trans (fP (Nat.le_of_dvd hv0 (Nat.gcd_dvd_right u v))) (by omega)
       rw [kK,kK] at hk
       refine ⟨u,rfl,by unfold Bd; omega,v,rfl,by unfold Bd; omega,_,_,rfl,rfl,by omega,by omega,oS,_,_,rfl,rfl,hgb,?_⟩
       by_cases f3:Nat.gcd u v=1
       · refine aX (by simp [f3,aEE.2]; exact aEE.2 rfl) (hk 0 (if_neg ?_))
         rintro (h | h | h)
         · exact f1 h
         · exact f2 h
         · exact h f3
       · refine aQ ?_ (hk 3 (if_pos (.inr (.inr f3))))
         have:¬ cmpI ((Nat.gcd u v:Nat):Int) ((1:Nat):Int)=0:=fun h=>f3 (aEE.1 h).symm
         simp only [cond_true,cond_false,Bool.not_eq_true', decide_eq_false_iff_not]
         exact this
     · exact aQ (by simp [e2]) (hk 2 (if_pos (.inr e2)))
   · exact aR (aG e1 (hk 2 (if_pos (.inl e1))))
 | false =>
   refine bS ?_
   simp only [hI,Bool.false_eq_true,false_and,or_false,false_or] at hk
   by_cases h1:natErr a=5
   · exact aC h1 (hk 5 (if_pos (.inl h1)))
   refine aG h1 ?_
   refine aN4 (fun hp hc=>hk 5 (if_pos (.inr ⟨hp,iI.1 hc⟩))) fun hpc=>?_
   have h3:¬ (natErr a=5∨(bE s=true∧a=zeroS)):=by
    rintro (h | h)
    · exact h1 h
    · exact hpc ⟨h.1,iI.2 h.2⟩
   rw [if_neg h3] at hk
   by_cases e1:natErr a=0
   · refine aR (aC e1 (bS ?_))
     exact hk 0 (by rw [if_neg (by simpa using e1)]; simp)
   · exact aR (aG e1 (hk 2 (if_pos e1)))
end
end Go.Proofs.YtehakimmioclkaaGreatDoor.Lib
end
section
set_option linter.unusedSimpArgs false
set_option linter.unusedVariables false
namespace Go.Proofs.YtehakimmioclkaaGreatDoor.Mach
open Go Go.Proofs.YtehakimmioclkaaGreatDoor Go.Proofs.YtehakimmioclkaaGreatDoor.Lib
section
set_option maxRecDepth 1000000
def oW : List (Nat × List Nat):=[(6,[5,6,16,17])]
def oX : List (Nat × ETy):=[]
noncomputable def yH (s x0:ByteArray) (x1:Bool) (x2 x3:Int):St:=aS 35 [(5,AV.str x0),(6,AV.bool x1),(16,AV.int .i64 x2),(17,AV.int .i64 x3)] []
noncomputable def yI (s:ByteArray) (x0:Bool) (x1 x2:Int):St:=aS 35 [(5,AV.str s),(6,AV.bool x0),(16,AV.int .i64 x1),(17,AV.int .i64 x2)] []
theorem a08 (s:ByteArray) (n0:Nat) (K:AV→List aA→Prop) :
 aH tab (aM tab bP [] 400) (aK oW oX (aB Tryz.prog n0 37 K)) (aI tab (fnT Tryz.f37).res K) 400 [.code (fnT Tryz.f37).body] ⟨aP (fnT Tryz.f37).n [AV.str s],[]⟩ =
 (bif decide (0<(↑s.size:Int)) then bif decide ((↑(s.data.toList.getD 0 0).toNat:Int)=45) then bif decide (1≤(↑s.size:Int)) && decide ((↑s.size:Int)≤(↑s.size:Int)) then aB Tryz.prog n0 37 K (aE (fnT Tryz.f37) 6) (yH s (s.extract 1 (↑s.size:Int).toNat) (decide ((↑(s.data.toList.getD 0 0).toNat:Int)=45)) (↑(s.extract 1 (↑s.size:Int).toNat).size:Int) 0) else False else aB Tryz.prog n0 37 K (aE (fnT Tryz.f37) 6) (yI s (decide ((↑(s.data.toList.getD 0 0).toNat:Int)=45)) (↑s.size:Int) 0) else False):=by kernel_rfl
theorem a09 (s x0:ByteArray) (x1:Bool) (x2 x3:Int) (n0:Nat) (K:AV→List aA→Prop) :
 aH tab (aM tab bP [] 400) (aK oW oX (aB Tryz.prog n0 37 K)) (aI tab (fnT Tryz.f37).res K) 400 (aT (fnT Tryz.f37) 6) (yH s x0 x1 x2 x3) =
 (bif decide (x3<x2) then bif decide (0≤x3) && decide (x3<(↑x0.size:Int)) then bif decide ((↑(x0.data.toList.getD x3.toNat 0).toNat:Int)=47) then bif decide (0≤x3) && decide (x3≤(↑x0.size:Int)) then bif decide (0≤IntKind.i64.wrap (x3+1)) && decide (IntKind.i64.wrap (x3+1)≤(↑x0.size:Int)) && decide ((↑x0.size:Int)≤(↑x0.size:Int)) then K (AV.tup [AV.bool x1,AV.str (x0.extract 0 x3.toNat),AV.str (x0.extract (IntKind.i64.wrap (x3+1)).toNat (↑x0.size:Int).toNat)]) [] else False else False else aB Tryz.prog n0 37 K (aE (fnT Tryz.f37) 6) (yH s x0 x1 x2 (IntKind.i64.wrap (x3+1))) else False else K (AV.tup [AV.bool x1,AV.str x0,AV.str (ByteArray.mk #[49])]) []):=by kernel_rfl
theorem a1A (s:ByteArray) (x0:Bool) (x1 x2:Int) (n0:Nat) (K:AV→List aA→Prop) :
 aH tab (aM tab bP [] 400) (aK oW oX (aB Tryz.prog n0 37 K)) (aI tab (fnT Tryz.f37).res K) 400 (aT (fnT Tryz.f37) 6) (yI s x0 x1 x2) =
 (bif decide (x2<x1) then bif decide (0≤x2) && decide (x2<(↑s.size:Int)) then bif decide ((↑(s.data.toList.getD x2.toNat 0).toNat:Int)=47) then bif decide (0≤x2) && decide (x2≤(↑s.size:Int)) then bif decide (0≤IntKind.i64.wrap (x2+1)) && decide (IntKind.i64.wrap (x2+1)≤(↑s.size:Int)) && decide ((↑s.size:Int)≤(↑s.size:Int)) then K (AV.tup [AV.bool x0,AV.str (s.extract 0 x2.toNat),AV.str (s.extract (IntKind.i64.wrap (x2+1)).toNat (↑s.size:Int).toNat)]) [] else False else False else aB Tryz.prog n0 37 K (aE (fnT Tryz.f37) 6) (yI s x0 x1 (IntKind.i64.wrap (x2+1))) else False else K (AV.tup [AV.bool x0,AV.str s,AV.str (ByteArray.mk #[49])]) []):=by kernel_rfl
def aN5 : List (Nat × List Nat):=[]
def aN6 : List (Nat × ETy):=[]
theorem a1B (neg:Bool) (n d:ByteArray) (n0:Nat) (K:AV→List aA→Prop) :
 aH tab (aM tab oP [] 400) (aK aN5 aN6 (aB Tryz.prog n0 39 K)) (aI tab (fnT Tryz.f39).res K) 400 [.code (fnT Tryz.f39).body] ⟨aP (fnT Tryz.f39).n [AV.bool neg,AV.str n,AV.str d],[]⟩ =
 (bif n.toList == (ByteArray.mk #[48]).toList then K (AV.str (ByteArray.mk #[48])) [] else ∃ u v,n=Sem.natText u∧d=Sem.natText v∧Sem.dg u≤9000000000∧Sem.dg v≤9000000000∧∃ u_1 v_1,n=Sem.natText u_1∧Sem.natText (u.gcd v)=Sem.natText v_1∧Sem.dg u_1≤9000000000∧Sem.dg v_1≤9000000000∧0<v_1∧∃ u_2 v_2,d=Sem.natText u_2∧Sem.natText (u.gcd v)=Sem.natText v_2∧Sem.dg u_2≤9000000000∧Sem.dg v_2≤9000000000∧0<v_2∧bif neg then bif decide (1+(Sem.natText (u_1 / v_1)).size≤9223372036854775807) then bif (Sem.natText (u_2 / v_2)).toList == (ByteArray.mk #[49]).toList then K (AV.str (ByteArray.mk #[45] ++ Sem.natText (u_1 / v_1))) [] else bif decide ((ByteArray.mk #[45] ++ Sem.natText (u_1 / v_1)).size+1≤9223372036854775807) then bif decide ((ByteArray.mk #[45] ++ Sem.natText (u_1 / v_1) ++ ByteArray.mk #[47]).size+(Sem.natText (u_2 / v_2)).size≤9223372036854775807) then K (AV.str (ByteArray.mk #[45] ++ Sem.natText (u_1 / v_1) ++ ByteArray.mk #[47] ++ Sem.natText (u_2 / v_2))) [] else False else False else False else bif (Sem.natText (u_2 / v_2)).toList == (ByteArray.mk #[49]).toList then K (AV.str (Sem.natText (u_1 / v_1))) [] else bif decide ((Sem.natText (u_1 / v_1)).size+1≤9223372036854775807) then bif decide ((Sem.natText (u_1 / v_1) ++ ByteArray.mk #[47]).size+(Sem.natText (u_2 / v_2)).size≤9223372036854775807) then K (AV.str (Sem.natText (u_1 / v_1) ++ ByteArray.mk #[47] ++ Sem.natText (u_2 / v_2))) [] else False else False):=by kernel_rfl
def kN : List (Nat × List Nat):=[(6,[3,4,5,6,7,24,25])]
def kO : List (Nat × ETy):=[]
noncomputable def oY (s x0:ByteArray) (x1:Int) (x2 x3:ByteArray) (x4 x5:Int):St:=aS 86 [(3,AV.str x0),(4,AV.bool true),(5,AV.int .i64 x1),(6,AV.str x2),(7,AV.str x3),(24,AV.int .i64 x4),(25,AV.int .i64 x5)] []
noncomputable def oZ (s:ByteArray) (x0:Int) (x1:ByteArray) (x2 x3:Int):St:=aS 86 [(3,AV.str s),(4,AV.bool false),(5,AV.int .i64 x0),(6,AV.str s),(7,AV.str x1),(24,AV.int .i64 x2),(25,AV.int .i64 x3)] []
noncomputable def o0 (s:ByteArray) (x0:Int) (x1 x2:ByteArray) (x3 x4:Int):St:=aS 86 [(3,AV.str s),(4,AV.bool false),(5,AV.int .i64 x0),(6,AV.str x1),(7,AV.str x2),(24,AV.int .i64 x3),(25,AV.int .i64 x4)] []
theorem a1C (s:ByteArray) (n0:Nat) (K:AV→List aA→Prop) :
 aH tab (aM tab oP [] 400) (aK kN kO (aB Tryz.prog n0 95 K)) (aI tab (fnT Tryz.f95).res K) 400 [.code (fnT Tryz.f95).body] ⟨aP (fnT Tryz.f95).n [AV.str s],[]⟩ =
 (bif decide ((↑s.size:Int) > 0) then bif decide (0<(↑s.size:Int)) then bif bif true then decide ((↑(s.data.toList.getD 0 0).toNat:Int)=45) else false then bif decide (1≤(↑s.size:Int)) && decide ((↑s.size:Int)≤(↑s.size:Int)) then aB Tryz.prog n0 95 K (aE (fnT Tryz.f95) 6) (oY s (s.extract 1 (↑s.size:Int).toNat) 1 (s.extract 1 (↑s.size:Int).toNat) (ByteArray.mk #[50]) (↑(s.extract 1 (↑s.size:Int).toNat).size:Int) 0) else False else aB Tryz.prog n0 95 K (aE (fnT Tryz.f95) 6) (oZ s 1 (ByteArray.mk #[50]) (↑s.size:Int) 0) else False else aB Tryz.prog n0 95 K (aE (fnT Tryz.f95) 6) (oZ s 1 (ByteArray.mk #[50]) (↑s.size:Int) 0)):=by kernel_rfl
theorem a1D (s x0:ByteArray) (x1:Int) (x2 x3:ByteArray) (x4 x5:Int) (n0:Nat) (K:AV→List aA→Prop) :
 aH tab (aM tab oP [] 400) (aK kN kO (aB Tryz.prog n0 95 K)) (aI tab (fnT Tryz.f95).res K) 400 (aT (fnT Tryz.f95) 6) (oY s x0 x1 x2 x3 x4 x5) =
 (bif decide (x5<x4) then bif decide (0≤x5) && decide (x5<(↑x0.size:Int)) then bif decide ((↑(x0.data.toList.getD x5.toNat 0).toNat:Int)=47) then bif bif true then decide (x1=1) else false then bif decide (0≤x5) && decide (x5≤(↑x0.size:Int)) then bif decide (0≤IntKind.i64.wrap (x5+1)) && decide (IntKind.i64.wrap (x5+1)≤(↑x0.size:Int)) && decide ((↑x0.size:Int)≤(↑x0.size:Int)) then aB Tryz.prog n0 95 K (aE (fnT Tryz.f95) 6) (oY s x0 2 (x0.extract 0 x5.toNat) (x0.extract (IntKind.i64.wrap (x5+1)).toNat (↑x0.size:Int).toNat) x4 (IntKind.i64.wrap (x5+1))) else False else False else aB Tryz.prog n0 95 K (aE (fnT Tryz.f95) 6) (oY s x0 x1 x2 x3 x4 (IntKind.i64.wrap (x5+1))) else aB Tryz.prog n0 95 K (aE (fnT Tryz.f95) 6) (oY s x0 x1 x2 x3 x4 (IntKind.i64.wrap (x5+1))) else False else x2.size≤1000000000000000∧x3.size≤1000000000000000∧bif decide (Pure.natErr x2=5) then K (AV.int .i64 5) [] else bif bif false then true else decide (Pure.natErr x3=5) then K (AV.int .i64 5) [] else bif bif false then true else bif true then x2.toList == (ByteArray.mk #[48]).toList else false then K (AV.int .i64 5) [] else bif !decide (Pure.natErr x2=0) then K (AV.int .i64 2) [] else bif bif false then true else !decide (Pure.natErr x3=0) then K (AV.int .i64 2) [] else bif decide (x1=2) then bif x3.toList == (ByteArray.mk #[48]).toList then K (AV.int .i64 3) [] else bif bif false then true else x3.toList == (ByteArray.mk #[49]).toList then K (AV.int .i64 3) [] else ∃ u v,x2=Sem.natText u∧x3=Sem.natText v∧Sem.dg u≤9000000000∧Sem.dg v≤9000000000∧bif bif true then bif false then true else !(Sem.natText (u.gcd v)).toList == (ByteArray.mk #[49]).toList else false then K (AV.int .i64 3) [] else K (AV.int .i64 0) [] else K (AV.int .i64 0) []):=by kernel_rfl
theorem a1E (s:ByteArray) (x0:Int) (x1:ByteArray) (x2 x3:Int) (n0:Nat) (K:AV→List aA→Prop) :
 aH tab (aM tab oP [] 400) (aK kN kO (aB Tryz.prog n0 95 K)) (aI tab (fnT Tryz.f95).res K) 400 (aT (fnT Tryz.f95) 6) (oZ s x0 x1 x2 x3) =
 (bif decide (x3<x2) then bif decide (0≤x3) && decide (x3<(↑s.size:Int)) then bif decide ((↑(s.data.toList.getD x3.toNat 0).toNat:Int)=47) then bif bif true then decide (x0=1) else false then bif decide (0≤x3) && decide (x3≤(↑s.size:Int)) then bif decide (0≤IntKind.i64.wrap (x3+1)) && decide (IntKind.i64.wrap (x3+1)≤(↑s.size:Int)) && decide ((↑s.size:Int)≤(↑s.size:Int)) then aB Tryz.prog n0 95 K (aE (fnT Tryz.f95) 6) (o0 s 2 (s.extract 0 x3.toNat) (s.extract (IntKind.i64.wrap (x3+1)).toNat (↑s.size:Int).toNat) x2 (IntKind.i64.wrap (x3+1))) else False else False else aB Tryz.prog n0 95 K (aE (fnT Tryz.f95) 6) (oZ s x0 x1 x2 (IntKind.i64.wrap (x3+1))) else aB Tryz.prog n0 95 K (aE (fnT Tryz.f95) 6) (oZ s x0 x1 x2 (IntKind.i64.wrap (x3+1))) else False else s.size≤1000000000000000∧x1.size≤1000000000000000∧bif decide (Pure.natErr s=5) then K (AV.int .i64 5) [] else bif bif false then true else decide (Pure.natErr x1=5) then K (AV.int .i64 5) [] else bif !decide (Pure.natErr s=0) then K (AV.int .i64 2) [] else bif bif false then true else !decide (Pure.natErr x1=0) then K (AV.int .i64 2) [] else bif decide (x0=2) then bif x1.toList == (ByteArray.mk #[48]).toList then K (AV.int .i64 3) [] else bif bif false then true else x1.toList == (ByteArray.mk #[49]).toList then K (AV.int .i64 3) [] else ∃ u v,s=Sem.natText u∧x1=Sem.natText v∧Sem.dg u≤9000000000∧Sem.dg v≤9000000000∧bif bif true then bif false then true else !(Sem.natText (u.gcd v)).toList == (ByteArray.mk #[49]).toList else false then K (AV.int .i64 3) [] else K (AV.int .i64 0) [] else K (AV.int .i64 0) []):=by kernel_rfl
theorem a1F (s:ByteArray) (x0:Int) (x1 x2:ByteArray) (x3 x4:Int) (n0:Nat) (K:AV→List aA→Prop) :
 aH tab (aM tab oP [] 400) (aK kN kO (aB Tryz.prog n0 95 K)) (aI tab (fnT Tryz.f95).res K) 400 (aT (fnT Tryz.f95) 6) (o0 s x0 x1 x2 x3 x4) =
 (bif decide (x4<x3) then bif decide (0≤x4) && decide (x4<(↑s.size:Int)) then bif decide ((↑(s.data.toList.getD x4.toNat 0).toNat:Int)=47) then bif bif true then decide (x0=1) else false then bif decide (0≤x4) && decide (x4≤(↑s.size:Int)) then bif decide (0≤IntKind.i64.wrap (x4+1)) && decide (IntKind.i64.wrap (x4+1)≤(↑s.size:Int)) && decide ((↑s.size:Int)≤(↑s.size:Int)) then aB Tryz.prog n0 95 K (aE (fnT Tryz.f95) 6) (o0 s 2 (s.extract 0 x4.toNat) (s.extract (IntKind.i64.wrap (x4+1)).toNat (↑s.size:Int).toNat) x3 (IntKind.i64.wrap (x4+1))) else False else False else aB Tryz.prog n0 95 K (aE (fnT Tryz.f95) 6) (o0 s x0 x1 x2 x3 (IntKind.i64.wrap (x4+1))) else aB Tryz.prog n0 95 K (aE (fnT Tryz.f95) 6) (o0 s x0 x1 x2 x3 (IntKind.i64.wrap (x4+1))) else False else x1.size≤1000000000000000∧x2.size≤1000000000000000∧bif decide (Pure.natErr x1=5) then K (AV.int .i64 5) [] else bif bif false then true else decide (Pure.natErr x2=5) then K (AV.int .i64 5) [] else bif !decide (Pure.natErr x1=0) then K (AV.int .i64 2) [] else bif bif false then true else !decide (Pure.natErr x2=0) then K (AV.int .i64 2) [] else bif decide (x0=2) then bif x2.toList == (ByteArray.mk #[48]).toList then K (AV.int .i64 3) [] else bif bif false then true else x2.toList == (ByteArray.mk #[49]).toList then K (AV.int .i64 3) [] else ∃ u v,x1=Sem.natText u∧x2=Sem.natText v∧Sem.dg u≤9000000000∧Sem.dg v≤9000000000∧bif bif true then bif false then true else !(Sem.natText (u.gcd v)).toList == (ByteArray.mk #[49]).toList else false then K (AV.int .i64 3) [] else K (AV.int .i64 0) [] else K (AV.int .i64 0) []):=by kernel_rfl
def yJ : List (Nat × List Nat):=[(2,[6,7,8])]
def yK : List (Nat × ETy):=[(6,eS)]
noncomputable def yL (l:List ByteArray) (x0 x1:Int):St:=aS 18 [(6,AV.imm eS l),(7,AV.int .i64 x0),(8,AV.int .i64 x1)] []
theorem a1G (l:List ByteArray) (n0:Nat) (K:AV→List aA→Prop) :
 aH tab (aM tab sJ [] 400) (aK yJ yK (aB Tryz.prog n0 84 K)) (aI tab (fnT Tryz.f84).res K) 400 [.code (fnT Tryz.f84).body] ⟨aP (fnT Tryz.f84).n [AV.imm eS l],[]⟩ =
 (aB Tryz.prog n0 84 K (aE (fnT Tryz.f84) 2) (yL l (↑l.length:Int) 0)):=by kernel_rfl
theorem a1H (l:List ByteArray) (x0 x1:Int) (n0:Nat) (K:AV→List aA→Prop) :
 aH tab (aM tab sJ [] 400) (aK yJ yK (aB Tryz.prog n0 84 K)) (aI tab (fnT Tryz.f84).res K) 400 (aT (fnT Tryz.f84) 2) (yL l x0 x1) =
 (bif decide (x1<x0) then bif decide (0≤x1) && decide (x1<(↑l.length:Int)) then Tx (l.getD x1.toNat ByteArray.empty)∧bif !decide (eY (l.getD x1.toNat ByteArray.empty)=0) then K (AV.int .i64 (eY (l.getD x1.toNat ByteArray.empty))) [] else aB Tryz.prog n0 84 K (aE (fnT Tryz.f84) 2) (yL l x0 (IntKind.i64.wrap (x1+1))) else False else K (AV.int .i64 0) []):=by kernel_rfl
def aN7 : List (Nat × List Nat):=[]
def aN8 : List (Nat × ETy):=[]
theorem a1I (s:ByteArray) (n0:Nat) (K:AV→List aA→Prop) :
 aH tab (aM tab oQ [] 400) (aK aN7 aN8 (aB Tryz.prog n0 73 K)) (aI tab (fnT Tryz.f73).res K) 400 [.code (fnT Tryz.f73).body] ⟨aP (fnT Tryz.f73).n [AV.str s],[]⟩ =
 (∃ q,s=Sem.ratText q∧Sz 9000000000 q∧∃ u v,Sem.natText q.num.natAbs=Sem.natText u∧Sem.natText q.den=Sem.natText v∧0<v∧Sem.dg u≤9000000000∧Sem.dg v≤9000000000∧K (AV.str (Sem.ratText (Sem.mkq (!decide (q.num<0)) u v))) []):=by kernel_rfl
def aN9 : List (Nat × List Nat):=[]
def aOA : List (Nat × ETy):=[]
theorem a1J (s t:ByteArray) (n0:Nat) (K:AV→List aA→Prop) :
 aH tab (aM tab oQ [] 400) (aK aN9 aOA (aB Tryz.prog n0 11 K)) (aI tab (fnT Tryz.f11).res K) 400 [.code (fnT Tryz.f11).body] ⟨aP (fnT Tryz.f11).n [AV.str s,AV.str t],[]⟩ =
 (∃ q,s=Sem.ratText q∧Sz 9000000000 q∧∃ q_1,t=Sem.ratText q_1∧Sz 9000000000 q_1∧∃ u v,Sem.natText q.num.natAbs=Sem.natText u∧Sem.natText q_1.den=Sem.natText v∧Sem.dg u≤5000000000∧Sem.dg v≤5000000000∧∃ u_1 v_1,Sem.natText q_1.num.natAbs=Sem.natText u_1∧Sem.natText q.den=Sem.natText v_1∧Sem.dg u_1≤5000000000∧Sem.dg v_1≤5000000000∧∃ u_2 v_2,Sem.natText q.den=Sem.natText u_2∧Sem.natText q_1.den=Sem.natText v_2∧Sem.dg u_2≤5000000000∧Sem.dg v_2≤5000000000∧bif decide (q.num<0) == decide (q_1.num<0) then ∃ u_3 v_3,Sem.natText (u * v)=Sem.natText u_3∧Sem.natText (u_1 * v_1)=Sem.natText v_3∧Sem.dg u_3≤10000000000∧Sem.dg v_3≤10000000000∧∃ u v,Sem.natText (u_3+v_3)=Sem.natText u∧Sem.natText (u_2 * v_2)=Sem.natText v∧0<v∧Sem.dg u≤9000000000∧Sem.dg v≤9000000000∧K (AV.str (Sem.ratText (Sem.mkq (decide (q.num<0)) u v))) [] else ∃ u_3 v_3,Sem.natText (u * v)=Sem.natText u_3∧Sem.natText (u_1 * v_1)=Sem.natText v_3∧bif decide (Pure.cmpI (↑u_3:Int) (↑v_3:Int)<0) then ∃ u_4 v_4,Sem.natText (u_1 * v_1)=Sem.natText u_4∧Sem.natText (u * v)=Sem.natText v_4∧Sem.dg u_4≤10000000000∧v_4≤u_4∧∃ u v,Sem.natText (u_4 - v_4)=Sem.natText u∧Sem.natText (u_2 * v_2)=Sem.natText v∧0<v∧Sem.dg u≤9000000000∧Sem.dg v≤9000000000∧K (AV.str (Sem.ratText (Sem.mkq (decide (q_1.num<0)) u v))) [] else ∃ u_4 v_4,Sem.natText (u * v)=Sem.natText u_4∧Sem.natText (u_1 * v_1)=Sem.natText v_4∧Sem.dg u_4≤10000000000∧v_4≤u_4∧∃ u v,Sem.natText (u_4 - v_4)=Sem.natText u∧Sem.natText (u_2 * v_2)=Sem.natText v∧0<v∧Sem.dg u≤9000000000∧Sem.dg v≤9000000000∧K (AV.str (Sem.ratText (Sem.mkq (decide (q.num<0)) u v))) []):=by kernel_rfl
def aOB : List (Nat × List Nat):=[]
def aOC : List (Nat × ETy):=[]
theorem a1K (s t:ByteArray) (n0:Nat) (K:AV→List aA→Prop) :
 aH tab (aM tab sJ [] 400) (aK aOB aOC (aB Tryz.prog n0 44 K)) (aI tab (fnT Tryz.f44).res K) 400 [.code (fnT Tryz.f44).body] ⟨aP (fnT Tryz.f44).n [AV.str s,AV.str t],[]⟩ =
 (∃ q,t=Sem.ratText q∧Sz 4000000000 q∧∃ x y,s=Sem.ratText x∧Sem.ratText (-q)=Sem.ratText y∧Sz 4000000000 x∧Sz 4000000000 y∧K (AV.str (Sem.ratText (x+y))) []):=by kernel_rfl
def aOD : List (Nat × List Nat):=[]
def aOE : List (Nat × ETy):=[]
theorem a1L (s t:ByteArray) (n0:Nat) (K:AV→List aA→Prop) :
 aH tab (aM tab oQ [] 400) (aK aOD aOE (aB Tryz.prog n0 51 K)) (aI tab (fnT Tryz.f51).res K) 400 [.code (fnT Tryz.f51).body] ⟨aP (fnT Tryz.f51).n [AV.str s,AV.str t],[]⟩ =
 (∃ q,s=Sem.ratText q∧Sz 9000000000 q∧∃ q_1,t=Sem.ratText q_1∧Sz 9000000000 q_1∧∃ u v,Sem.natText q.num.natAbs=Sem.natText u∧Sem.natText q_1.num.natAbs=Sem.natText v∧Sem.dg u≤5000000000∧Sem.dg v≤5000000000∧∃ u_1 v_1,Sem.natText q.den=Sem.natText u_1∧Sem.natText q_1.den=Sem.natText v_1∧Sem.dg u_1≤5000000000∧Sem.dg v_1≤5000000000∧∃ u_2 v_2,Sem.natText (u * v)=Sem.natText u_2∧Sem.natText (u_1 * v_1)=Sem.natText v_2∧0<v_2∧Sem.dg u_2≤9000000000∧Sem.dg v_2≤9000000000∧K (AV.str (Sem.ratText (Sem.mkq (!decide (q.num<0) == decide (q_1.num<0)) u_2 v_2))) []):=by kernel_rfl
def aOF : List (Nat × List Nat):=[]
def aOG : List (Nat × ETy):=[]
theorem a1M (s t:ByteArray) (n0:Nat) (K:AV→List aA→Prop) :
 aH tab (aM tab oQ [] 400) (aK aOF aOG (aB Tryz.prog n0 18 K)) (aI tab (fnT Tryz.f18).res K) 400 [.code (fnT Tryz.f18).body] ⟨aP (fnT Tryz.f18).n [AV.str s,AV.str t],[]⟩ =
 (∃ q,s=Sem.ratText q∧Sz 9000000000 q∧∃ q_1,t=Sem.ratText q_1∧Sz 9000000000 q_1∧∃ u v,Sem.natText q.num.natAbs=Sem.natText u∧Sem.natText q_1.den=Sem.natText v∧Sem.dg u≤5000000000∧Sem.dg v≤5000000000∧∃ u_1 v_1,Sem.natText q.den=Sem.natText u_1∧Sem.natText q_1.num.natAbs=Sem.natText v_1∧Sem.dg u_1≤5000000000∧Sem.dg v_1≤5000000000∧∃ u_2 v_2,Sem.natText (u * v)=Sem.natText u_2∧Sem.natText (u_1 * v_1)=Sem.natText v_2∧0<v_2∧Sem.dg u_2≤9000000000∧Sem.dg v_2≤9000000000∧K (AV.str (Sem.ratText (Sem.mkq (!decide (q.num<0) == decide (q_1.num<0)) u_2 v_2))) []):=by kernel_rfl
def aOH : List (Nat × List Nat):=[]
def aOI : List (Nat × ETy):=[]
theorem a1N (s:ByteArray) (n0:Nat) (K:AV→List aA→Prop) :
 aH tab (aM tab oQ [] 400) (aK aOH aOI (aB Tryz.prog n0 43 K)) (aI tab (fnT Tryz.f43).res K) 400 [.code (fnT Tryz.f43).body] ⟨aP (fnT Tryz.f43).n [AV.str s],[]⟩ =
 (∃ q,s=Sem.ratText q∧Sz 9000000000 q∧bif (Sem.natText q.num.natAbs).toList == (ByteArray.mk #[48]).toList then K (AV.int .i64 0) [] else bif decide (q.num<0) then K (AV.int .i64 (-1)) [] else K (AV.int .i64 1) []):=by kernel_rfl
def aOJ : List (Nat × List Nat):=[]
def aOK : List (Nat × ETy):=[]
theorem a1O (s t:ByteArray) (n0:Nat) (K:AV→List aA→Prop) :
 aH tab (aM tab aM2 [] 400) (aK aOJ aOK (aB Tryz.prog n0 13 K)) (aI tab (fnT Tryz.f13).res K) 400 [.code (fnT Tryz.f13).body] ⟨aP (fnT Tryz.f13).n [AV.str s,AV.str t],[]⟩ =
 (∃ x y,s=Sem.ratText x∧t=Sem.ratText y∧Sz 4000000000 x∧Sz 4000000000 y∧∃ q,Sem.ratText (x - y)=Sem.ratText q∧Sz 9000000000 q∧K (AV.int .i64 (Sem.sgn q)) []):=by kernel_rfl
end
end Go.Proofs.YtehakimmioclkaaGreatDoor.Mach
end
section
set_option linter.unusedSimpArgs false
set_option linter.unusedVariables false
namespace Go.Proofs.YtehakimmioclkaaGreatDoor.Lib
open Go Go.Proofs.YtehakimmioclkaaGreatDoor.Mach Go.Proofs.YtehakimmioclkaaGreatDoorW.PrintWords Go.Proofs.YtehakimmioclkaaGreatDoor.Sem Go.Proofs.YtehakimmioclkaaGreatDoor.Pure
section
theorem iJ {Q:Res} {s:ByteArray} {H:List aA} (h:Q (.str s) []):aO Q (.str s) H:=bI h rfl rfl
theorem cL {Q:Res} {k:IntKind} {n:Int} {H:List aA} (h:Q (.int k n) []):aO Q (.int k n) H:=bI h rfl rfl
theorem aOL {Q:Res} {n:Bool} {H:List aA} (h:Q (.bool n) []):aO Q (.bool n) H:=bI h rfl rfl
theorem aOM (s:ByteArray) (i:Nat) (h:i<s.size):s[i]! = s.data.toList.getD i 0:=by
 rw [xV s i h,List.getD_eq_getElem?_getD,List.getD_eq_getElem?_getD,List.getElem?_eq_getElem (by rw [Array.length_toList]; exact h)]
 rfl
theorem aON {s:ByteArray} {i:Nat} (hi:i<s.size) (h:s.data.toList.getD i 0=47):0≤firstIdx s 47∧firstIdx s 47≤i:=by
 rw [← aOM s i hi] at h
 unfold firstIdx
 split
 · rename_i j hj
   obtain ⟨h1,h2,h3⟩:=List.find?_range_eq_some.1 hj
   refine ⟨by omega,?_⟩
   have:j≤i:=Nat.le_of_not_lt fun hl=>by
    have:=h3 i hl
    rw [h] at this
    simp at this
   omega
 · rename_i hn
   have:=(List.find?_eq_none.1 hn) i (by simpa using hi)
   rw [h] at this
   simp at this
theorem aEN {s:ByteArray} {i:Nat} (hi:i<s.size) (h:s.data.toList.getD i 0≠47):firstIdx s 47≠i:=by
 rw [← aOM s i hi] at h
 unfold firstIdx
 split
 · rename_i j hj
   obtain ⟨h1,h2,h3⟩:=List.find?_range_eq_some.1 hj
   intro he
   have:j=i:=by omega
   rw [this] at h1
   exact h (by simpa using h1)
 · omega
theorem b47 {s:ByteArray} {i:Nat}:(((s.data.toList.getD i 0).toNat:Int)=47)↔s.data.toList.getD i 0=47 :=
 ⟨fun h => by have:(s.data.toList.getD i 0).toNat=(47:UInt8).toNat:=by rw [show (47:UInt8).toNat=47 from rfl]; omega
              exact UInt8.toNat_inj.1 this,fun h=>by rw [h]; rfl⟩
theorem b45 {s:ByteArray} (hs:0<s.size):(((s.data.toList.getD 0 0).toNat:Int)=45)↔bE s=true:=by
 unfold bE
 rw [decide_eq_true (show 1≤s.size by omega),cond_true,beq_iff_eq,ByteArray.toList_eq,ByteArray.toList_eq,ByteArray.data_extract,Array.toList_extract,List.extract_eq_take_drop]
 have hl:s.data.toList.length=s.size:=by rw [Array.length_toList]; rfl
 match hd:s.data.toList with
 | []=>rw [hd] at hl; simp at hl; omega
 | c :: r =>
   simp only [List.getD_cons_zero,List.drop_zero,Nat.sub_zero,List.take_succ_cons,List.take_zero,List.cons.injEq,and_true]
   exact ⟨fun h=>UInt8.toNat_inj.1 (by rw [show (45:UInt8).toNat=45 from rfl]; omega),fun h=>by rw [h]; rfl⟩
theorem aOO (r:ByteArray) (hr:r.size≤1000000000000) {S:Nat→St} {f:FuncId} {gn:FnT} (hg:find tab.fn f=some gn) {LT:List (Nat × List Nat)} {NT:List (Nat × ETy)} {C:FuncId→List AV→Res→Prop} (hC:∀ g xs Q,C g xs Q→Con Tryz.prog g xs Q) {K:Res} {n0 reg:Nat} {A B:Prop}
 (hE:∀ x:Nat,x≤r.size→(bif decide ((x:Int)<(r.size:Int)) then (bif decide (((r.data.toList.getD x 0).toNat:Int)=47) then (firstIdx r 47=x∧A) else aB Tryz.prog n0 f K (aE gn reg) (S (x+1))) else B)→aH tab (aM tab C [] 400) (aK LT NT (aB Tryz.prog n0 f K)) (aI tab gn.res K) 400 (aT gn reg) (S x))
 (hA:bF r=true→A) (hB:bF r=false→B):aB Tryz.prog n0 f K (aE gn reg) (S 0):=by
 refine cO hg hC (inl:=[]) (LT:=LT) (NT:=NT) (S:=S) (fun x=>r.size - x) (fun x=>x≤r.size∧(firstIdx r 47<0∨(x:Int)≤firstIdx r 47)) (fun x hp ih=>hE x hp.1 ?_) 0 ⟨Nat.zero_le _,by omega⟩
 obtain ⟨hp,hq⟩:=hp
 have hl:=sG r 47
 by_cases hx:x<r.size
 · refine aC (by omega) ?_
   by_cases h47:r.data.toList.getD x 0=47
   · have:=aON hx h47
     refine aC (b47.2 h47) ⟨by omega,hA ?_⟩
     unfold bF
     exact decide_eq_true (by omega)
   · refine aG (fun h=>h47 (b47.1 h)) (ih (x+1) ⟨by omega,?_⟩ (by omega))
     have:=aEN hx h47
     omega
 · refine aG (by omega) (hB ?_)
   unfold bF
   exact decide_eq_false (by omega)
theorem aEO {s:ByteArray} (h:bE s=true):aL s=s.extract 1 s.size:=by unfold aL; rw [h]; rfl
theorem aEP {s:ByteArray} (h:¬ bE s=true):aL s=s:=by
 unfold aL
 cases hb:bE s
 · rfl
 · exact absurd hb h
theorem sN {r:ByteArray} {x:Nat} (he:firstIdx r 47=x):r.extract 0 x=bG r∧r.extract (x+1) r.size=bL r:=by
 have hI:bF r=true:=by unfold bF; exact decide_eq_true (by omega)
 unfold bG bL
 rw [hI,he,Int.toNat_natCast]
 exact ⟨rfl,rfl⟩
theorem a1P {s:ByteArray} {Q:Res} (h:aMY s Q):Con Tryz.prog 37 [.str s] Q:=by
 obtain ⟨q,rfl,sq,hq⟩:=h
 refine aU (gn:=fnT Tryz.f37) (by kernel_rfl) bR (inl:=[]) (LT:=oW) (NT:=oX) rfl fun n0=>?_
 rw [a08]
 obtain ⟨p1,p2,p3,p4⟩:=aEI (decide (q.num<0)) q.num.natAbs q.den
 have hs:=aEJ q
 have hp:=sE q.num.natAbs
 have e1:=dI sq
 have e2:=dP sq
 have e3:szN q=dg q.num.natAbs:=rfl
 have e4:szD q=dg q.den:=rfl
 have hr:=aEL (ratText q)
 change bE (ratText q)=_ at p1
 change bG (aL (ratText q))=_ at p2
 change bF (aL (ratText q))=_ at p3
 change q.den≠1→bL (aL (ratText q))=_ at p4
 generalize ratText q=s at *
 have hA:∀ b r,b=decide (q.num<0)→r=aL s→bF r=true→aO Q (.tup [.bool b, .str (bG r), .str (bL r)]) []:=by
  rintro b r rfl rfl hI
  rw [p3] at hI
  rw [p2,p4 (of_decide_eq_true hI)]
  exact bI hq rfl rfl
 have hB:∀ b r,b=decide (q.num<0)→r=aL s→bF r=false→aO Q (.tup [.bool b, .str r, .str ⟨#[49]⟩]) []:=by
  rintro b r rfl rfl hI
  have ha:bG (aL s)=aL s:=by unfold bG; rw [hI]; rfl
  rw [p3] at hI
  have h1:q.den=1:=by simpa using hI
  rw [h1,natText_one] at hq
  rw [← ha,p2]
  exact bI hq rfl rfl
 refine aC (by omega) ?_
 by_cases hb:bE s=true
 · refine aC ((b45 (by omega)).2 hb) ?_
   refine aN (aC (by omega) (aC (by omega) ?_))
   rw [decide_eq_true ((b45 (by omega)).2 hb),Int.toNat_natCast,← aEO hb]
   have hbb:true=decide (q.num<0):=by rw [← p1,hb]
   refine aOO (aL s) (by omega) (S:=fun x:Nat=>yH s (aL s) true ((aL s).size:Int) (x:Int)) (by kernel_rfl) (LT:=oW) (NT:=oX) bR (fun x hx h=>?_) (hA true (aL s) hbb rfl) (hB true (aL s) hbb rfl)
   rw [a09]
   by_cases hlt:x<(aL s).size
   · refine aC (by omega) (aN (aC (by omega) (aC (by omega) ?_)))
     rw [decide_eq_true (by omega),cond_true] at h
     rw [Int.toNat_natCast]
     rw [show IntKind.i64.wrap ((x:Int)+1)=((x+1:Nat):Int) by rw [wr (by omega) (by omega)]; omega]
     by_cases h47:(((aL s).data.toList.getD x 0).toNat:Int)=47
     · rw [decide_eq_true h47,cond_true] at h
       refine aC h47 (aN (aC (by omega) (aC (by omega) (aN (aN (aC (by omega) (aC (by omega) (aC (by omega) ?_))))))))
       rw [Int.toNat_natCast,Int.toNat_natCast,(sN h.1).1,(sN h.1).2]
       exact h.2
     · rw [decide_eq_false h47,cond_false] at h
       exact aG h47 h
   · rw [decide_eq_false (by omega),cond_false] at h
     exact aG (by omega) h
 · refine aG (fun h=>hb ((b45 (by omega)).1 h)) ?_
   rw [decide_eq_false (fun h=>hb ((b45 (by omega)).1 h))]
   have hbb:false=decide (q.num<0):=by
    rw [← p1]
    cases hc:bE s
    · rfl
    · exact absurd hc hb
   have hss:=aEP hb
   refine aOO s (by omega) (S:=fun x:Nat=>yI s false (s.size:Int) (x:Int)) (by kernel_rfl) (LT:=oW) (NT:=oX) bR (fun x hx h=>?_) (hA false s hbb hss.symm) (hB false s hbb hss.symm)
   rw [a1A]
   by_cases hlt:x<(s).size
   · refine aC (by omega) (aN (aC (by omega) (aC (by omega) ?_)))
     rw [decide_eq_true (by omega),cond_true] at h
     rw [Int.toNat_natCast]
     rw [show IntKind.i64.wrap ((x:Int)+1)=((x+1:Nat):Int) by rw [wr (by omega) (by omega)]; omega]
     by_cases h47:(((s).data.toList.getD x 0).toNat:Int)=47
     · rw [decide_eq_true h47,cond_true] at h
       refine aC h47 (aN (aC (by omega) (aC (by omega) (aN (aN (aC (by omega) (aC (by omega) (aC (by omega) ?_))))))))
       rw [Int.toNat_natCast,Int.toNat_natCast,(sN h.1).1,(sN h.1).2]
       exact h.2
     · rw [decide_eq_false h47,cond_false] at h
       exact aG h47 h
   · rw [decide_eq_false (by omega),cond_false] at h
     exact aG (by omega) h
theorem sO : ∀ g xs Q,oP g xs Q→Con Tryz.prog g xs Q:=dA fun p hp=>by
 simp only [List.mem_cons,List.not_mem_nil,or_false] at hp
 rcases hp with rfl | rfl | rfl | rfl | rfl | rfl | rfl
 · exact bD fun _ _ h=>aZ2 h
 · exact aZ fun _ _ _ h=>aMJ h
 · exact aZ fun _ _ _ h=>aME h
 · exact aZ fun _ _ _ h=>aMF h
 · exact aZ fun _ _ _ h=>aMG h
 · exact aZ fun _ _ _ h=>aMH h
 · exact aZ fun _ _ _ h=>aMI h
theorem is0 {n:Nat}:((natText n).toList == (ByteArray.mk #[48]).toList)=true↔n=0:=by
 rw [iI]
 exact ⟨fun h=>sD (h.trans natText_zero.symm),fun h=>by rw [h]; exact natText_zero⟩
theorem is1 {n:Nat}:((natText n).toList == (ByteArray.mk #[49]).toList)=true↔n=1:=by
 rw [sM]
 exact ⟨fun h=>sD (h.trans natText_one.symm),fun h=>by rw [h]; exact natText_one⟩
theorem a1Q {neg:Bool} {n d:ByteArray} {Q:Res} (h:aMZ neg n d Q):Con Tryz.prog 39 [.bool neg, .str n, .str d] Q:=by
 obtain ⟨u,v,rfl,rfl,hv,hbu,hbv,hq⟩:=h
 refine aU (gn:=fnT Tryz.f39) (by kernel_rfl) sO (inl:=[]) (LT:=aN5) (NT:=aN6) rfl fun n0=>?_
 rw [a1B]
 have hk:∀ r,ratText (mkq neg u v)=r→aO Q (.str r) []:=fun r h=>by rw [h] at hq; exact iJ hq
 by_cases h0:u=0
 · exact aQ (is0.2 h0) (hk _ (by rw [h0,aD6]; exact xX))
 refine aX (fun h=>h0 (is0.1 h)) ?_
 have hg:0<Nat.gcd u v:=Nat.gcd_pos_of_pos_right u hv
 have hgb:dg (Nat.gcd u v)≤9000000000:=Nat.le_trans (fP (Nat.le_of_dvd hv (Nat.gcd_dvd_right u v))) hbv
 have hr:=aD9 (neg:=neg) hv (show 0<u by omega)
 rw [hr] at hk
 have s1:dg (u / Nat.gcd u v)≤9000000000:=Nat.le_trans (fP (Nat.div_le_self _ _)) hbu
 have s2:dg (v / Nat.gcd u v)≤9000000000:=Nat.le_trans (fP (Nat.div_le_self _ _)) hbv
 refine ⟨u,v,rfl,rfl,hbu,hbv,_,_,rfl,rfl,hbu,hgb,hg,_,_,rfl,rfl,hbv,hgb,hg,?_⟩
 generalize u / Nat.gcd u v=x at *
 generalize v / Nat.gcd u v=y at *
 have ex:(natText x).size=dg x:=rfl
 have ey:(natText y).size=dg y:=rfl
 have e45:(⟨#[45]⟩ ++ natText x:ByteArray).size=1+dg x:=ByteArray.size_append
 have e47:(natText x ++ ⟨#[47]⟩:ByteArray).size=dg x+1:=ByteArray.size_append
 have e457:(⟨#[45]⟩ ++ natText x ++ ⟨#[47]⟩:ByteArray).size=1+dg x+1:=by rw [ByteArray.size_append,e45]; rfl
 unfold rt at hk
 cases neg with
 | true =>
   refine bQ (aC (by omega) ?_)
   by_cases h1:y=1
   · rw [if_pos h1,lW] at hk
     exact aQ (is1.2 h1) (hk _ rfl)
   · rw [if_neg h1,← ByteArray.append_assoc] at hk
     exact aX (fun h=>h1 (is1.1 h)) (aC (by omega) (aC (by omega) (hk _ rfl)))
 | false =>
   refine bS ?_
   by_cases h1:y=1
   · rw [if_pos h1,lW,cond_false,lX] at hk
     exact aQ (is1.2 h1) (hk _ rfl)
   · rw [if_neg h1,← ByteArray.append_assoc,cond_false,lX] at hk
     exact aX (fun h=>h1 (is1.1 h)) (aC (by omega) (aC (by omega) (hk _ rfl)))
theorem sP : ∀ g xs Q,oQ g xs Q→Con Tryz.prog g xs Q:=dA fun p hp=>by
 simp only [List.mem_cons,List.not_mem_nil,or_false] at hp
 rcases hp with rfl | rfl | rfl | rfl | rfl | rfl | rfl | rfl
 · exact aZ fun _ _ _ h=>aMJ h
 · exact aZ fun _ _ _ h=>aME h
 · exact aZ fun _ _ _ h=>aMF h
 · exact aZ fun _ _ _ h=>aMG h
 · exact aZ fun _ _ _ h=>aMH h
 · exact aZ fun _ _ _ h=>aMI h
 · exact bD fun _ _ h=>a1P h
 · exact aI5 fun _ _ _ _ h=>a1Q h
end
section
theorem Sz.mono {k m:Nat} {q:Rat} (h:Sz k q) (hk:k≤m):Sz m q:=⟨Nat.le_trans h.1 hk,Nat.le_trans h.2 hk⟩
theorem a1R (q:Rat):mkq (!decide (q.num<0)) q.num.natAbs q.den = -q:=by
 rw [← a0B,eX]
theorem a1S {s:ByteArray} {Q:Res} (h:xneg s Q):Con Tryz.prog 73 [.str s] Q:=by
 obtain ⟨q,rfl,sq,hq⟩:=h
 refine aU (gn:=fnT Tryz.f73) (by kernel_rfl) sP (inl:=[]) (LT:=aN7) (NT:=aN8) rfl fun n0=>?_
 rw [a1I]
 have e1:=dI sq
 have e2:=dP sq
 rw [← a1R] at hq
 exact ⟨q,rfl,sq.mono (by decide),_,_,rfl,rfl,dO q,by omega,by omega,iJ hq⟩
theorem aEQ {s t:ByteArray} {Q:Res} (h:yB s t Q):Con Tryz.prog 11 [.str s, .str t] Q:=by
 obtain ⟨x,y,rfl,rfl,sx,sy,hq⟩:=h
 refine aU (gn:=fnT Tryz.f11) (by kernel_rfl) sP (inl:=[]) (LT:=aN9) (NT:=aOA) rfl fun n0=>?_
 rw [a1J]
 have e1:=dI sx; have e2:=dP sx; have e3:=dI sy; have e4:=dP sy
 have m1:=fQ e1 e4
 have m2:=fQ e3 e2
 have m3:=fQ e2 e4
 have px:=dO x
 have py:=dO y
 have hsum:x+y=mkq (decide (x.num<0)) x.num.natAbs x.den+mkq (decide (y.num<0)) y.num.natAbs y.den:=by rw [eX,eX]
 rw [xW _ _ _ _ _ _ px py] at hsum
 refine ⟨x,rfl,sx.mono (by decide),y,rfl,sy.mono (by decide),_,_,rfl,rfl,by omega,by omega,_,_,rfl,rfl,by omega,by omega,_,_,rfl,rfl,by omega,by omega,?_⟩
 by_cases hb:decide (x.num<0)=decide (y.num<0)
 · rw [if_pos hb] at hsum
   rw [hsum] at hq
   refine aQ (by rw [hb,beq_self_eq_true]) ⟨_,_,rfl,rfl,by omega,by omega,_,_,rfl,rfl,Nat.mul_pos px py,?_,by omega,iJ hq⟩
   have:=xT m1 m2; omega
 · rw [if_neg hb] at hsum
   refine aX (by simpa using hb) ⟨_,_,rfl,rfl,?_⟩
   by_cases hc:y.num.natAbs * x.den≤x.num.natAbs * y.den
   · rw [if_pos hc] at hsum
     rw [hsum] at hq
     refine aG (fun h=>by have:=yF.2 hc; omega) ⟨_,_,rfl,rfl,by omega,hc,_,_,rfl,rfl,Nat.mul_pos px py,?_,by omega,iJ hq⟩
     have:=fP (Nat.sub_le (x.num.natAbs * y.den) (y.num.natAbs * x.den)); omega
   · rw [if_neg hc] at hsum
     rw [hsum] at hq
     refine aC (Int.not_le.1 fun h=>hc (yF.1 h)) ⟨_,_,rfl,rfl,by omega,by omega,_,_,rfl,rfl,Nat.mul_pos px py,?_,by omega,iJ hq⟩
     have:=fP (Nat.sub_le (y.num.natAbs * x.den) (x.num.natAbs * y.den)); omega
theorem a1T {s t:ByteArray} {Q:Res} (h:xmul s t Q):Con Tryz.prog 51 [.str s, .str t] Q:=by
 obtain ⟨x,y,rfl,rfl,sx,sy,hq⟩:=h
 refine aU (gn:=fnT Tryz.f51) (by kernel_rfl) sP (inl:=[]) (LT:=aOD) (NT:=aOE) rfl fun n0=>?_
 rw [a1L]
 have e1:=dI sx; have e2:=dP sx; have e3:=dI sy; have e4:=dP sy
 have m1:=fQ e1 e3
 have m3:=fQ e2 e4
 have hprod:x * y=mkq (decide (x.num<0)) x.num.natAbs x.den * mkq (decide (y.num<0)) y.num.natAbs y.den:=by rw [eX,eX]
 rw [aD7] at hprod
 rw [hprod] at hq
 exact ⟨x,rfl,sx.mono (by decide),y,rfl,sy.mono (by decide),_,_,rfl,rfl,by omega,by omega,_,_,rfl,rfl,by omega,by omega,_,_,rfl,rfl,Nat.mul_pos (dO x) (dO y),by omega,by omega,iJ hq⟩
theorem a1U {s t:ByteArray} {Q:Res} (h:xdiv s t Q):Con Tryz.prog 18 [.str s, .str t] Q:=by
 obtain ⟨x,y,rfl,rfl,sx,sy,h1,hq⟩:=h
 refine aU (gn:=fnT Tryz.f18) (by kernel_rfl) sP (inl:=[]) (LT:=aOF) (NT:=aOG) rfl fun n0=>?_
 rw [a1M]
 have e1:=dI sx; have e2:=dP sx; have e3:=dI sy; have e4:=dP sy
 have m1:=fQ e1 e4
 have m3:=fQ e2 e3
 have hy:0<y.num.natAbs:=by
  have:y.num≠0:=fun h=>h1 (Rat.num_eq_zero.1 h)
  omega
 have hquo:x / y=mkq (decide (x.num<0)) x.num.natAbs x.den / mkq (decide (y.num<0)) y.num.natAbs y.den:=by rw [eX,eX]
 rw [aD8 _ _ _ _ _ _ (dO x) hy (dO y)] at hquo
 rw [hquo] at hq
 exact ⟨x,rfl,sx.mono (by decide),y,rfl,sy.mono (by decide),_,_,rfl,rfl,by omega,by omega,_,_,rfl,rfl,by omega,by omega,_,_,rfl,rfl,Nat.mul_pos (dO x) hy,by omega,by omega,iJ hq⟩
theorem a1V {s:ByteArray} {Q:Res} (h:aM0 s Q):Con Tryz.prog 43 [.str s] Q:=by
 obtain ⟨q,rfl,sq,hq⟩:=h
 refine aU (gn:=fnT Tryz.f43) (by kernel_rfl) sP (inl:=[]) (LT:=aOH) (NT:=aOI) rfl fun n0=>?_
 rw [a1N]
 unfold sgn at hq
 refine ⟨q,rfl,sq,?_⟩
 by_cases h0:q.num=0
 · rw [if_pos h0] at hq
   exact aQ (is0.2 (by omega)) (cL hq)
 · rw [if_neg h0] at hq
   refine aX (fun h=>h0 (by have:=is0.1 h; omega)) ?_
   by_cases h1:q.num<0
   · rw [if_pos h1] at hq
     exact aC h1 (cL hq)
   · rw [if_neg h1] at hq
     exact aG h1 (cL hq)
end
end Go.Proofs.YtehakimmioclkaaGreatDoor.Lib
end
section
set_option linter.unusedSimpArgs false
set_option linter.unusedVariables false
namespace Go.Proofs.YtehakimmioclkaaGreatDoor.Lib
open Go Go.Proofs.YtehakimmioclkaaGreatDoor.Mach Go.Proofs.YtehakimmioclkaaGreatDoorW.PrintWords Go.Proofs.YtehakimmioclkaaGreatDoor.Sem Go.Proofs.YtehakimmioclkaaGreatDoor.Pure Go.Proofs.YtehakimmioclkaaGreatDoor.NatVal
section
theorem a1W {n:Int} (h:n<0):ratText (n:Rat)=⟨#[45]⟩ ++ natText n.natAbs:=by
 unfold ratText rt
 rw [Rat.num_intCast,Rat.den_intCast,decide_eq_true h,if_pos rfl,lW]
 rfl
theorem a1X {n:Int} (h:0≤n):ratText (n:Rat)=natText n.toNat:=by
 rw [← aMU]
 congr 1
 obtain ⟨m,rfl⟩:=Int.eq_ofNat_of_zero_le h
 rw [Int.toNat_natCast]; rfl
theorem a1Y : natText 9223372036854775808=⟨#[57,50,50,51,51,55,50,48,51,54,56,53,52,55,55,53,56,48,56]⟩:=by
 refine (iH ?_).symm
 refine ⟨?_,?_,by decide,fun _=>by decide⟩
 · unfold asc; decide
 · decide
theorem a1Z {n:Int} {Q:Res} (h:xint n Q):Con Tryz.prog 19 [.int .i64 n] Q:=by
 obtain ⟨⟨h1,h2⟩,hq⟩:=h
 by_cases h0:0≤n
 · rw [a1X h0] at hq
   exact aMK ⟨⟨h0,h2⟩,hq⟩
 · rw [a1W (by omega)] at hq
   refine aU (gn:=fnT Tryz.f19) (by kernel_rfl) aX5 (inl:=[]) (LT:=aKO) (NT:=aKP) rfl fun n0=>?_
   rw [aXR]
   refine aG h0 ?_
   by_cases hm:n = -9223372036854775808
   · refine aC hm (iJ ?_)
     rw [hm,show (-9223372036854775808:Int).natAbs=9223372036854775808 from rfl,a1Y] at hq
     exact hq
   · refine aG hm ?_
     rw [wr (by omega) (by omega)]
     obtain ⟨r,g1,g2,_⟩:=aLW (0 - n).toNat (by omega)
     rw [iH g2,Int.toNat_of_nonneg (by omega)] at g1
     obtain ⟨k,hk⟩:=g1.rounds
     refine ⟨by omega,k,_,hk,aC ?_ (iJ ?_)⟩
     · have:(natText (0 - n).toNat).size=dg (0 - n).toNat:=rfl
       have:=aN2 (n:=(0 - n).toNat) (by omega)
       omega
     · rw [show (0 - n).toNat=n.natAbs by omega]
       exact hq
theorem a10 : natErr (⟨#[50]⟩:ByteArray)=0:=by
 rw [← aZZ]
 exact a06 (Nat.le_trans (sF (k:=1) (by decide) (by decide)) (by decide))
noncomputable def sQ (neg:Bool) (a b:ByteArray) (m:Int):Int :=
 if natErr a=5∨natErr b=5∨(neg=true∧a=zeroS) then 5 else if natErr a≠0∨natErr b≠0 then 2
 else if m=2∧(b=zeroS∨b=⟨#[49]⟩∨Nat.gcd (i7 a) (i7 b)≠1) then 3 else 0
theorem a11 (s:ByteArray):eY s=sQ (bE s) (bG (aL s)) (bif bF (aL s) then bL (aL s) else ⟨#[50]⟩) (bif bF (aL s) then 2 else 1):=by
 unfold eY sQ
 cases hI:bF (aL s) with
 | true=>simp only [true_and,cond_true]
 | false =>
   have:=a10
   simp only [Bool.false_eq_true,false_and,or_false,false_or,cond_false,this]
   simp
section
variable {a b:ByteArray} {m:Int} {neg:Bool} {K:Res}
theorem aOP (hk:∀ v,sQ neg a b m=v→K (.int .i64 v) []) (hm:m=1∨m=2) (h5:¬ (natErr a=5∨natErr b=5∨(neg=true∧a=zeroS))) :
 bif !decide (natErr a=0) then K (AV.int IntKind.i64 2) [] else bif bif false then true else !decide (natErr b=0) then K (AV.int IntKind.i64 2) [] else bif decide (m=2) then bif b.toList == (ByteArray.mk #[48]).toList then K (AV.int IntKind.i64 3) [] else bif bif false then true else b.toList == (ByteArray.mk #[49]).toList then K (AV.int IntKind.i64 3) [] else ∃ u v,a=Sem.natText u∧b=Sem.natText v∧Sem.dg u≤9000000000∧Sem.dg v≤9000000000∧bif bif true then bif false then true else !(Sem.natText (u.gcd v)).toList == (ByteArray.mk #[49]).toList else false then K (AV.int IntKind.i64 3) [] else K (AV.int IntKind.i64 0) [] else K (AV.int IntKind.i64 0) []:=by
 unfold sQ at hk
 rw [if_neg h5] at hk
 by_cases e1:natErr a=0
 · refine aR (aC e1 ?_)
   by_cases e2:natErr b=0
   · refine aX (by simp [e2]) ?_
     rw [if_neg (by rintro (h | h) <;> exact h (by assumption))] at hk
     rcases hm with hm | hm
     · exact aG (by omega) (hk 0 (if_neg fun h=>by omega))
     · refine aC hm ?_
       by_cases f1:b=zeroS
       · exact aQ (iI.2 f1) (hk 3 (if_pos ⟨hm, .inl f1⟩))
       refine aX (fun h=>f1 (iI.1 h)) ?_
       by_cases f2:b=⟨#[49]⟩
       · exact aQ (sM.2 f2) (hk 3 (if_pos ⟨hm, .inr (.inl f2)⟩))
       refine aX (fun h=>f2 (sM.1 h)) ?_
       obtain ⟨u,rfl,hu⟩:=oV e1
       obtain ⟨v,rfl,hv⟩:=oV e2
       rw [kK,kK] at hk
       refine ⟨u,v,rfl,rfl,by omega,by omega,?_⟩
       by_cases f3:Nat.gcd u v=1
       · refine aX (by rw [cond_true,cond_false,Bool.not_eq_true', ← Bool.not_eq_true]; exact fun h=>h (is1.2 f3)) (hk 0 (if_neg ?_))
         rintro ⟨_,h | h | h⟩
         · exact f1 h
         · exact f2 h
         · exact h f3
       · exact aQ (by rw [cond_true,cond_false,Bool.not_eq_true', ← Bool.not_eq_true]; exact fun h=>f3 (is1.1 h)) (hk 3 (if_pos ⟨hm, .inr (.inr f3)⟩))
   · exact aQ (by simp [e2]) (hk 2 (if_pos (.inr e2)))
 · exact aR (aG e1 (hk 2 (if_pos (.inl e1))))
end
noncomputable def cM (r:ByteArray) (x:Nat):ByteArray × ByteArray × Int:=if 0≤firstIdx r 47∧firstIdx r 47<x then (bG r,bL r,2) else (r,⟨#[50]⟩,1)
theorem aOQ (r:ByteArray):cM r 0=(r,⟨#[50]⟩,1):=if_neg fun h=>by omega
theorem a12 (r:ByteArray):cM r r.size=(bG r,bif bF r then bL r else ⟨#[50]⟩,bif bF r then 2 else 1):=by
 have:=sG r 47
 unfold cM
 cases hI:bF r with
 | true =>
   rw [if_pos ⟨by unfold bF at hI; exact of_decide_eq_true hI,this.2⟩]; rfl
 | false =>
   have ha:bG r=r:=by unfold bG; rw [hI]; rfl
   rw [if_neg fun h=>by unfold bF at hI; exact of_decide_eq_false hI h.1,ha]; rfl
theorem aOR {r:ByteArray} {x:Nat} (hx:x<r.size) (h:r.data.toList.getD x 0=47) (h1:(cM r x).2.2=1):cM r x=(r,⟨#[50]⟩,1)∧cM r (x+1)=(r.extract 0 x,r.extract (x+1) r.size,2):=by
 have hn:¬ (0≤firstIdx r 47∧firstIdx r 47<x):=fun hc=>by
  unfold cM at h1
  rw [if_pos hc] at h1
  simp at h1
 have:=aON hx h
 refine ⟨if_neg hn,?_⟩
 obtain ⟨c1,c2⟩:=sN (r:=r) (x:=x) (by omega)
 unfold cM
 rw [if_pos ⟨this.1,by omega⟩,c1,c2]
theorem yM {r:ByteArray} {x:Nat} (hx:x<r.size) (h:r.data.toList.getD x 0≠47∨(cM r x).2.2≠1):cM r (x+1)=cM r x:=by
 unfold cM at h ⊢
 by_cases hc:0≤firstIdx r 47∧firstIdx r 47<x
 · rw [if_pos hc,if_pos ⟨hc.1,by omega⟩]
 · rw [if_neg hc] at h ⊢
   rcases h with h | h
   · have:=aEN hx h
     rw [if_neg (by omega)]
   · exact absurd rfl h
theorem a13 (r:ByteArray) (x:Nat):(cM r x).2.2=1∨(cM r x).2.2=2:=by
 unfold cM
 split
 · exact .inr rfl
 · exact .inl rfl
theorem a14 (r:ByteArray) (x:Nat):(cM r x).1.size≤r.size∧(cM r x).2.1.size≤r.size+1:=by
 unfold cM
 have h1:=aN3 r
 have h2:=aEM r
 split
 · exact ⟨h1,Nat.le_succ_of_le h2⟩
 · exact ⟨Nat.le_refl _,by show (ByteArray.mk #[50]).size≤_; rw [show (ByteArray.mk #[50]).size=1 from rfl]; omega⟩
theorem wrS {x n:Nat} (h:x<n) (hn:n≤1000000000000000000):IntKind.i64.wrap ((x:Int)+1)=((x+1:Nat):Int):=by rw [wr (by omega) (by omega)]; omega
theorem a15 {s:ByteArray} {Q:Res} (h:yA s Q):Con Tryz.prog 95 [.str s] Q:=by
 obtain ⟨hs,hq⟩:=h
 unfold Tx at hs
 refine aU (gn:=fnT Tryz.f95) (by kernel_rfl) sO (inl:=[]) (LT:=kN) (NT:=kO) rfl fun n0=>?_
 rw [a1C]
 rw [a11] at hq
 have hk:∀ v,sQ (bE s) (bG (aL s)) (bif bF (aL s) then bL (aL s) else ⟨#[50]⟩) (bif bF (aL s) then 2 else 1)=v→aO Q (.int .i64 v) []:=fun v h=>by rw [h] at hq; exact cL hq
 have hr:=aEL s
 have hsz:∀ x,(cM (aL s) x).1.size≤1000000000000000∧(cM (aL s) x).2.1.size≤1000000000000000:=fun x=>by
  have:=a14 (aL s) x
  have h2:(cM (aL s) x).2.1.size≤1000000000000000:=by
   unfold cM
   split
   · exact Nat.le_trans (aEM _) (by omega)
   · show (ByteArray.mk #[50]).size≤_; decide
  exact ⟨by omega,h2⟩
 have hm:=a13 (aL s) (aL s).size
 have hall:=a12 (aL s)
 by_cases hb:bE s=true
 · have hs0:0<s.size:=Nat.pos_of_ne_zero fun h=>by
    unfold bE at hb
    rw [h] at hb
    simp at hb
   refine aC (by omega) (aC (by omega) (aQ (by rw [cond_true]; exact decide_eq_true ((b45 hs0).2 hb)) (aN (aC (by omega) (aC (by omega) ?_)))))
   rw [Int.toNat_natCast,← aEO hb]
   have go:=cO (f:=95) (gn:=fnT Tryz.f95) (n0:=n0) (K:=aO Q) (r:=6) (by kernel_rfl) sO (inl:=[]) (LT:=kN) (NT:=kO) (fun x:Nat=>oY s (aL s) (cM (aL s) x).2.2 (cM (aL s) x).1 (cM (aL s) x).2.1 ((aL s).size:Int) (x:Int)) (fun x=>(aL s).size - x) (fun x=>x≤(aL s).size) (fun x hp ih=>by
    rw [a1D]
    by_cases hx:x<(aL s).size
    · refine aC (by omega) (aN (aC (by omega) (aC (by omega) ?_)))
      have ih' := ih (x+1) (by omega) (by omega)
      rw [Int.toNat_natCast,wrS hx (by omega)]
      by_cases h47:(aL s).data.toList.getD x 0=47
      · refine aC (b47.2 h47) ?_
        by_cases h1:(cM (aL s) x).2.2=1
        · refine aQ (by rw [cond_true]; exact decide_eq_true h1) (aN (aC (by omega) (aC (by omega) (aN (aN (aC (by omega) (aC (by omega) (aC (by omega) ?_))))))))
          obtain ⟨f1,f2⟩:=aOR hx h47 h1
          rw [f2] at ih'
          rw [Int.toNat_natCast,Int.toNat_natCast]
          exact ih'
        · refine aX (by rw [cond_true]; exact fun h=>h1 (of_decide_eq_true h)) ?_
          rw [yM hx (.inr h1)] at ih'
          exact ih'
      · refine aG (fun h=>h47 (b47.1 h)) ?_
        rw [yM hx (.inl h47)] at ih'
        exact ih'
    · refine aG (by omega) ?_
      have hxx:x=(aL s).size:=by omega
      have hz:=hsz x
      rw [hxx] at hz ⊢
      rw [hall] at hm hz ⊢
      refine ⟨hz.1,hz.2,?_⟩
      rw [hb] at hk
      simp only at hm hz ⊢
      generalize bG (aL s)=a at *
      generalize (bif bF (aL s) then bL (aL s) else ⟨#[50]⟩)=b at *
      generalize (bif bF (aL s) then 2 else 1)=m at *
      by_cases h1:natErr a=5
      · exact aC h1 (hk 5 (if_pos (.inl h1)))
      refine aG h1 ?_
      by_cases h2:natErr b=5
      · exact aQ (decide_eq_true h2) (hk 5 (if_pos (.inr (.inl h2))))
      refine aX (fun h=>h2 (of_decide_eq_true h)) ?_
      by_cases h3:a=zeroS
      · exact aQ (iI.2 h3) (hk 5 (if_pos (.inr (.inr ⟨rfl,h3⟩))))
      refine aX (fun h=>h3 (iI.1 h)) ?_
      refine aOP hk hm ?_
      rintro (h | h | ⟨_,h⟩)
      · exact h1 h
      · exact h2 h
      · exact h3 h) 0 (Nat.zero_le _)
   rw [aOQ] at go
   exact go
 · have hss:=aEP hb
   have hbf:bE s=false:=by
    cases hc:bE s
    · rfl
    · exact absurd hc hb
   rw [hss] at hall hsz hm hk
   rw [hbf] at hk
   have fin:∀ a b m,cM s s.size=(a,b,m)→a.size≤1000000000000000∧b.size≤1000000000000000∧bif decide (Pure.natErr a=5) then aO Q (AV.int IntKind.i64 5) [] else bif bif false then true else decide (Pure.natErr b=5) then aO Q (AV.int IntKind.i64 5) [] else bif !decide (natErr a=0) then aO Q (AV.int IntKind.i64 2) [] else bif bif false then true else !decide (natErr b=0) then aO Q (AV.int IntKind.i64 2) [] else bif decide (m=2) then bif b.toList == (ByteArray.mk #[48]).toList then aO Q (AV.int IntKind.i64 3) [] else bif bif false then true else b.toList == (ByteArray.mk #[49]).toList then aO Q (AV.int IntKind.i64 3) [] else ∃ u v,a=Sem.natText u∧b=Sem.natText v∧Sem.dg u≤9000000000∧Sem.dg v≤9000000000∧bif bif true then bif false then true else !(Sem.natText (u.gcd v)).toList == (ByteArray.mk #[49]).toList else false then aO Q (AV.int IntKind.i64 3) [] else aO Q (AV.int IntKind.i64 0) [] else aO Q (AV.int IntKind.i64 0) []:=fun a b m he=>by
    have hz:=hsz s.size
    rw [he] at hz hm
    rw [hall] at he
    obtain ⟨ha,he⟩:=Prod.mk.inj he
    obtain ⟨hb', hm'⟩:=Prod.mk.inj he
    rw [ha,hb', hm'] at hk
    refine ⟨hz.1,hz.2,?_⟩
    by_cases h1:natErr a=5
    · exact aC h1 (hk 5 (if_pos (.inl h1)))
    refine aG h1 ?_
    by_cases h2:natErr b=5
    · exact aQ (decide_eq_true h2) (hk 5 (if_pos (.inr (.inl h2))))
    refine aX (fun h=>h2 (of_decide_eq_true h)) ?_
    refine aOP hk hm ?_
    rintro (h | h | ⟨h,_⟩)
    · exact h1 h
    · exact h2 h
    · cases h
   have go2:=cO (f:=95) (gn:=fnT Tryz.f95) (n0:=n0) (K:=aO Q) (r:=6) (by kernel_rfl) sO (inl:=[]) (LT:=kN) (NT:=kO) (fun x:Nat=>o0 s (cM s x).2.2 (cM s x).1 (cM s x).2.1 (s.size:Int) (x:Int)) (fun x=>s.size - x) (fun x=>x≤s.size∧(cM s x).2.2=2) (fun x hp ih=>by
    rw [a1F]
    obtain ⟨hp,h2⟩:=hp
    by_cases hx:x<s.size
    · have h1:¬ (cM s x).2.2=1:=by omega
      have hsk:=yM hx (.inr h1)
      refine aC (by omega) (aN (aC (by omega) (aC (by omega) ?_)))
      have ih' := ih (x+1) ⟨by omega,by rw [hsk]; exact h2⟩ (by omega)
      rw [Int.toNat_natCast,wrS hx (by omega)]
      rw [hsk] at ih'
      by_cases h47:s.data.toList.getD x 0=47
      · exact aC (b47.2 h47) (aX (by rw [cond_true]; exact fun h=>h1 (of_decide_eq_true h)) ih')
      · exact aG (fun h=>h47 (b47.1 h)) ih'
    · refine aG (by omega) ?_
      have hxx:x=s.size:=by omega
      subst hxx
      exact fin _ _ _ rfl)
   have go:=cO (f:=95) (gn:=fnT Tryz.f95) (n0:=n0) (K:=aO Q) (r:=6) (by kernel_rfl) sO (inl:=[]) (LT:=kN) (NT:=kO) (fun x:Nat=>oZ s 1 ⟨#[50]⟩ (s.size:Int) (x:Int)) (fun x=>s.size - x) (fun x=>x≤s.size∧cM s x=(s,⟨#[50]⟩,1)) (fun x hp ih=>by
    rw [a1E]
    obtain ⟨hp,h2⟩:=hp
    by_cases hx:x<s.size
    · have h1:(cM s x).2.2=1:=by rw [h2]
      refine aC (by omega) (aN (aC (by omega) (aC (by omega) ?_)))
      rw [Int.toNat_natCast,wrS hx (by omega)]
      by_cases h47:s.data.toList.getD x 0=47
      · refine aC (b47.2 h47) (aQ (by rw [cond_true]; rfl) (aN (aC (by omega) (aC (by omega) (aN (aN (aC (by omega) (aC (by omega) (aC (by omega) ?_)))))))))
        obtain ⟨f1,f2⟩:=aOR hx h47 h1
        have:=go2 (x+1) ⟨by omega,by rw [f2]⟩
        simp only [f2] at this
        rw [Int.toNat_natCast,Int.toNat_natCast]
        exact this
      · exact aG (fun h=>h47 (b47.1 h)) (ih (x+1) ⟨by omega,by rw [yM hx (.inl h47)]; exact h2⟩ (by omega))
    · refine aG (by omega) ?_
      have hxx:x=s.size:=by omega
      subst hxx
      exact fin _ _ _ h2) 0 ⟨Nat.zero_le _,aOQ s⟩
   by_cases hs0:0<s.size
   · refine aC (by omega) (aC (by omega) (aX (by rw [cond_true]; exact fun h=>hb ((b45 hs0).1 (of_decide_eq_true h))) go))
   · exact aG (by omega) go
end
end Go.Proofs.YtehakimmioclkaaGreatDoor.Lib
end
section
set_option linter.unusedSimpArgs false
set_option linter.unusedVariables false
namespace Go.Proofs.YtehakimmioclkaaGreatDoor.Lib
open Go Go.Proofs.YtehakimmioclkaaGreatDoor.Mach Go.Proofs.YtehakimmioclkaaGreatDoorW.PrintWords Go.Proofs.YtehakimmioclkaaGreatDoor.Sem Go.Proofs.YtehakimmioclkaaGreatDoor.Pure
section
theorem a16 {s:ByteArray} (h:bE s=true):s=⟨#[45]⟩ ++ aL s:=by
 rw [aEO h]
 have hd:=h
 unfold bE at hd
 by_cases h1:1≤s.size
 · rw [decide_eq_true h1,cond_true,beq_iff_eq,lV] at hd
   rw [← hd]
   apply ByteArray.ext
   rw [ByteArray.data_append,ByteArray.data_extract,ByteArray.data_extract,Array.extract_append_extract]
   have:s.size=s.data.size:=rfl
   rw [this,Nat.min_eq_left (by omega),Nat.max_eq_right (by omega),Array.extract_size]
 · rw [decide_eq_false h1] at hd
   cases hd
theorem a17 {s:ByteArray} (h:bF s=true):s=bG s ++ (⟨#[47]⟩ ++ bL s):=by
 unfold bG bL
 rw [h,cond_true,cond_true]
 unfold bF at h
 have h0:=of_decide_eq_true h
 have hl:=(sG s 47).2
 have hb:s.data.toList.getD (firstIdx s 47).toNat 0=47:=Classical.byContradiction fun hc=>by
  have:=aEN (s:=s) (i:=(firstIdx s 47).toNat) (by omega) hc
  omega
 generalize hi:(firstIdx s 47).toNat=i at *
 have hi' : i<s.size:=by omega
 have hz:s.size=s.data.size:=rfl
 have hll:s.data.toList.length=s.size:=by rw [Array.length_toList]; rfl
 apply ByteArray.ext
 apply Array.ext'
 rw [ByteArray.data_append,ByteArray.data_append,ByteArray.data_extract,ByteArray.data_extract,Array.toList_append,Array.toList_append,Array.toList_extract,Array.toList_extract,List.extract_eq_take_drop,List.extract_eq_take_drop,List.drop_zero,Nat.sub_zero]
 rw [List.take_of_length_le (l:=s.data.toList.drop (i+1)) (by rw [List.length_drop]; omega)]
 have:s.data.toList.drop i=47 :: s.data.toList.drop (i+1):=by
  rw [List.drop_eq_getElem_cons (by omega)]
  congr 1
  rw [List.getD_eq_getElem?_getD,List.getElem?_eq_getElem (by omega)] at hb
  exact hb
 show s.data.toList=_ ++ ([47] ++ _)
 rw [List.singleton_append,← this,List.take_append_drop]
theorem a18 (q:Rat):kM (ratText q)=q:=by
 obtain ⟨p1,p2,p3,p4⟩:=aEI (decide (q.num<0)) q.num.natAbs q.den
 change bE (ratText q)=_ at p1
 change bG (aL (ratText q))=_ at p2
 change bF (aL (ratText q))=_ at p3
 change q.den≠1→bL (aL (ratText q))=_ at p4
 unfold kM
 rw [p1,p2,kK]
 by_cases h:q.den=1
 · rw [if_neg (by rw [p3]; simpa using h)]
   rw [← h]; exact eX q
 · rw [if_pos (by rw [p3]; simpa using h),p4 h,kK]
   exact eX q
theorem a19 {s:ByteArray} (h:eY s=0):s=ratText (kM s)∧Sz 2000 (kM s):=by
 suffices h:∃ q,s=ratText q∧Sz 2000 q by
  obtain ⟨q,rfl,hs⟩:=h
  rw [a18]
  exact ⟨rfl,hs⟩
 unfold eY at h
 by_cases h1:natErr (bG (aL s))=5∨(bF (aL s)=true∧natErr (bL (aL s))=5)∨(bE s=true∧bG (aL s)=zeroS)
 · rw [if_pos h1] at h; cases h
 rw [if_neg h1] at h
 by_cases h2:natErr (bG (aL s))≠0∨(bF (aL s)=true∧natErr (bL (aL s))≠0)
 · rw [if_pos h2] at h; cases h
 rw [if_neg h2] at h
 by_cases h3:bF (aL s)=true∧(bL (aL s)=zeroS∨bL (aL s)=⟨#[49]⟩∨Nat.gcd (i7 (bG (aL s))) (i7 (bL (aL s)))≠1)
 · rw [if_pos h3] at h; cases h
 obtain ⟨u,hu,hud⟩:=oV (Classical.byContradiction fun hc=>h2 (.inl hc))
 have hsj:s=(bif bE s then ⟨#[45]⟩ else ⟨#[]⟩) ++ aL s:=by
  cases hb:bE s with
  | true=>rw [cond_true]; exact a16 hb
  | false=>rw [cond_false,lX]; exact (aEP (by rw [hb]; decide)).symm
 have hneg:u=0→bE s=false:=fun h0=>by
  cases hb:bE s with
  | false=>rfl
  | true=>exact absurd (.inr (.inr ⟨hb,by rw [hu,h0,natText_zero]⟩)) h1
 cases hI:bF (aL s) with
 | true =>
   obtain ⟨v,hv,hvd⟩:=oV (Classical.byContradiction fun hc=>h2 (.inr ⟨hI,hc⟩))
   have hv0:v≠0:=fun h0=>h3 ⟨hI, .inl (by rw [hv,h0,natText_zero])⟩
   have hv1:v≠1:=fun h0=>h3 ⟨hI, .inr (.inl (by rw [hv,h0,natText_one]))⟩
   have hg:Nat.gcd u v=1:=Classical.byContradiction fun hc=>h3 ⟨hI, .inr (.inr (by rw [hu,hv,kK,kK]; exact hc))⟩
   have hu0:0<u:=Nat.pos_of_ne_zero fun h0=>by rw [h0,Nat.gcd_zero_left] at hg; exact hv1 hg
   refine ⟨mkq (bE s) u v,?_,?_,?_⟩
   · rw [aD9 (by omega) hu0,hg,Nat.div_one,Nat.div_one]
     unfold rt
     rw [if_neg hv1,ByteArray.append_assoc,← hu,← hv,← a17 hI]
     exact hsj
   · exact Nat.le_trans (oM (by omega)) hud
   · exact Nat.le_trans (oN (by omega)) hvd
 | false =>
   have hA:bG (aL s)=aL s:=by unfold bG; rw [hI]; rfl
   refine ⟨mkq (bE s) u 1,?_,?_,?_⟩
   · by_cases hu0:u=0
     · rw [hu0,aD6,xX,← natText_zero]
       rw [hneg hu0,cond_false,lX] at hsj
       rw [hsj,← hA,hu,hu0]
     · rw [aD9 (by omega) (by omega),Nat.gcd_one_right,Nat.div_one,Nat.div_one]
       unfold rt
       rw [if_pos rfl,lW,← hu,hA]
       exact hsj
   · exact Nat.le_trans (oM (by omega)) hud
   · exact Nat.le_trans (oN (by omega)) (by rw [sK]; decide)
end
section
theorem aOS {l:List ByteArray} {x:Nat} (hx:x<l.length):eR (l.drop x)=if eY (l.getD x ByteArray.empty)=0 then eR (l.drop (x+1)) else eY (l.getD x ByteArray.empty):=by
 rw [List.drop_eq_getElem_cons hx,List.getD_eq_getElem?_getD,List.getElem?_eq_getElem hx]
 rfl
theorem gC {α:Type} {l:List α} {x:Nat} {d:α} (hx:x<l.length):l.getD x d∈l:=by
 rw [List.getD_eq_getElem?_getD,List.getElem?_eq_getElem hx]
 exact List.getElem_mem hx
theorem aOT : ∀ g xs Q,aEB g xs Q→Con Tryz.prog g xs Q:=dA fun p hp=>by
 simp only [List.mem_cons,List.not_mem_nil,or_false] at hp
 rcases hp with rfl
 exact bD fun _ _ h=>a07 h
theorem a2A {l:List ByteArray} {Q:Res} (h:sI l Q):Con Tryz.prog 78 [.imm eS l] Q:=by
 obtain ⟨⟨hl,ht⟩,hq⟩:=h
 refine aU (gn:=fnT Tryz.f78) (by kernel_rfl) aOT (inl:=[]) (LT:=yC) (NT:=yD) rfl fun n0=>?_
 rw [a0R]
 refine cO (f:=78) (gn:=fnT Tryz.f78) (n0:=n0) (K:=aO Q) (r:=2) (by kernel_rfl) aOT (inl:=[]) (LT:=yC) (NT:=yD) (fun x:Nat=>yE l (l.length:Int) (x:Int)) (fun x=>l.length - x) (fun x=>x≤l.length∧eR (l.drop x)=eR l) (fun x hp ih=>?_) 0 ⟨Nat.zero_le _,rfl⟩
 obtain ⟨hp,he⟩:=hp
 rw [a0S]
 by_cases hx:x<l.length
 · rw [aOS hx] at he
   refine aC (by omega) (aN (aC (by omega) (aC (by omega) ?_)))
   rw [Int.toNat_natCast,wrS hx (by omega)]
   refine ⟨ht _ (gC hx),?_⟩
   by_cases h0:eY (l.getD x ByteArray.empty)=0
   · rw [if_pos h0] at he
     exact aR (aC h0 (ih (x+1) ⟨by omega,he⟩ (by omega)))
   · rw [if_neg h0] at he
     rw [← he] at hq
     exact aR (aG h0 (cL hq))
 · refine aG (by omega) (cL ?_)
   rw [List.drop_eq_nil_of_le (by omega)] at he
   rw [← he] at hq
   exact hq
theorem a2B {l:List ByteArray} {Q:Res} (h:sI l Q) (hC:∀ g xs Q,sJ g xs Q→Con Tryz.prog g xs Q):Con Tryz.prog 84 [.imm eS l] Q:=by
 obtain ⟨⟨hl,ht⟩,hq⟩:=h
 refine aU (gn:=fnT Tryz.f84) (by kernel_rfl) hC (inl:=[]) (LT:=yJ) (NT:=yK) rfl fun n0=>?_
 rw [a1G]
 refine cO (f:=84) (gn:=fnT Tryz.f84) (n0:=n0) (K:=aO Q) (r:=2) (by kernel_rfl) hC (inl:=[]) (LT:=yJ) (NT:=yK) (fun x:Nat=>yL l (l.length:Int) (x:Int)) (fun x=>l.length - x) (fun x=>x≤l.length∧eR (l.drop x)=eR l) (fun x hp ih=>?_) 0 ⟨Nat.zero_le _,rfl⟩
 obtain ⟨hp,he⟩:=hp
 rw [a1H]
 by_cases hx:x<l.length
 · rw [aOS hx] at he
   refine aC (by omega) (aN (aC (by omega) (aC (by omega) ?_)))
   rw [Int.toNat_natCast,wrS hx (by omega)]
   refine ⟨ht _ (gC hx),?_⟩
   by_cases h0:eY (l.getD x ByteArray.empty)=0
   · rw [if_pos h0] at he
     exact aR (aC h0 (ih (x+1) ⟨by omega,he⟩ (by omega)))
   · rw [if_neg h0] at he
     rw [← he] at hq
     exact aR (aG h0 (cL hq))
 · refine aG (by omega) (cL ?_)
   rw [List.drop_eq_nil_of_le (by omega)] at he
   rw [← he] at hq
   exact hq
theorem aOU : ∀ g xs Q,sJ g xs Q→Con Tryz.prog g xs Q:=dA fun p hp=>by
 simp only [List.mem_cons,List.not_mem_nil,or_false] at hp
 rcases hp with rfl | rfl | rfl | rfl
 · exact bD fun _ _ h=>a1S h
 · exact aZ fun _ _ _ h=>aEQ h
 · exact bD fun _ _ h=>a15 h
 · exact bD fun _ _ h=>aMK h
theorem a2C {l:List ByteArray} {Q:Res} (h:sI l Q):Con Tryz.prog 84 [.imm eS l] Q:=a2B h aOU
theorem a2D {s t:ByteArray} {Q:Res} (h:xsub s t Q):Con Tryz.prog 44 [.str s, .str t] Q:=by
 obtain ⟨x,y,rfl,rfl,sx,sy,hq⟩:=h
 refine aU (gn:=fnT Tryz.f44) (by kernel_rfl) aOU (inl:=[]) (LT:=aOB) (NT:=aOC) rfl fun n0=>?_
 rw [a1K]
 rw [Rat.sub_eq_add_neg] at hq
 exact ⟨y,rfl,sy,x, -y,rfl,rfl,sx,aEK sy,iJ hq⟩
theorem a2E {x y:Rat} (sx:Sz 4000000000 x) (sy:Sz 4000000000 y):Sz 9000000000 (x+y):=by
 have e1:=dI sx; have e2:=dP sx; have e3:=dI sy; have e4:=dP sy
 have m1:=fQ e1 e4
 have m2:=fQ e3 e2
 have m3:=fQ e2 e4
 have px:=dO x
 have py:=dO y
 have hsum:x+y=mkq (decide (x.num<0)) x.num.natAbs x.den+mkq (decide (y.num<0)) y.num.natAbs y.den:=by rw [eX,eX]
 rw [xW _ _ _ _ _ _ px py] at hsum
 have hD:∀ b u,szD (mkq b u (x.den * y.den))≤9000000000:=fun b u=>Nat.le_trans (oN (Nat.mul_pos px py)) (by omega)
 have hN:∀ b u,dg u≤9000000000→szN (mkq b u (x.den * y.den))≤9000000000:=fun b u h=>Nat.le_trans (oM (Nat.mul_pos px py)) h
 have a1:=xT m1 m2
 have a2:=fP (Nat.sub_le (x.num.natAbs * y.den) (y.num.natAbs * x.den))
 have a3:=fP (Nat.sub_le (y.num.natAbs * x.den) (x.num.natAbs * y.den))
 rw [hsum]
 split
 · exact ⟨hN _ _ (by omega),hD _ _⟩
 · split
   · exact ⟨hN _ _ (by omega),hD _ _⟩
   · exact ⟨hN _ _ (by omega),hD _ _⟩
theorem a2F {x y:Rat} (sx:Sz 4000000000 x) (sy:Sz 4000000000 y):Sz 9000000000 (x - y):=by
 rw [Rat.sub_eq_add_neg]
 exact a2E sx (aEK sy)
theorem sz_zero : Sz 1 0:=by
 refine ⟨?_,?_⟩
 · show dg (Rat.num 0).natAbs≤1
   rw [show (Rat.num 0).natAbs=0 from rfl,aED]
   exact Nat.le_refl _
 · show dg (Rat.den 0)≤1
   rw [show Rat.den 0=1 from rfl,sK]
   exact Nat.le_refl _
theorem a2G : ∀ g xs Q,aM2 g xs Q→Con Tryz.prog g xs Q:=dA fun p hp=>by
 simp only [List.mem_cons,List.not_mem_nil,or_false] at hp
 rcases hp with rfl | rfl
 · exact aZ fun _ _ _ h=>a2D h
 · exact bD fun _ _ h=>a1V h
theorem a2H {s t:ByteArray} {Q:Res} (h:xcmp s t Q):Con Tryz.prog 13 [.str s, .str t] Q:=by
 obtain ⟨x,y,rfl,rfl,sx,sy,hq⟩:=h
 refine aU (gn:=fnT Tryz.f13) (by kernel_rfl) a2G (inl:=[]) (LT:=aOJ) (NT:=aOK) rfl fun n0=>?_
 rw [a1O]
 exact ⟨x,y,rfl,rfl,sx,sy,x - y,rfl,a2F sx sy,cL hq⟩
end
section

end
end Go.Proofs.YtehakimmioclkaaGreatDoor.Lib
end
section
set_option linter.unusedSimpArgs false
set_option linter.unusedVariables false
namespace Go.Proofs.YtehakimmioclkaaGreatDoor.Mach
open Go Go.Proofs.YtehakimmioclkaaGreatDoor Go.Proofs.YtehakimmioclkaaGreatDoor.Lib
section
set_option maxRecDepth 1000000

end
end Go.Proofs.YtehakimmioclkaaGreatDoor.Mach
end
section
set_option linter.unusedSimpArgs false
set_option linter.unusedVariables false
namespace Go.Proofs.YtehakimmioclkaaGreatDoor.Lib
open Go Go.Proofs.YtehakimmioclkaaGreatDoor.Mach Go.Proofs.YtehakimmioclkaaGreatDoorW.PrintWords Go.Proofs.YtehakimmioclkaaGreatDoor.Sem Go.Proofs.YtehakimmioclkaaGreatDoor.Pure
section
theorem a2I {e:ETy} {l:List e.D} {fz:Bool} {k:IntKind} {n:Int}:u5 [.typed e l fz] (.tup [.own 0, .int k n]) (.tup [.imm e l, .int k n]) :=
 ⟨_,rfl, .cons ⟨e,l,fz,rfl,rfl⟩ (.cons rfl .nil)⟩
theorem a2J {e:ETy} {k:IntKind} {n:Int} {objs:List aA}:u5 objs (.tup [.nils, .int k n]) (.tup [.imm e [], .int k n]) :=
 ⟨_,rfl, .cons (Or.inr ⟨e,rfl⟩) (.cons rfl .nil)⟩
def outL (e:ETy) (l:List e.D) (n:Int):Res:=fun v o=>(v = .tup [.own 0, .int .i64 n]∧∃ fz,o=[.typed e l fz])∨(l=[]∧v = .tup [.nils, .int .i64 n])
theorem a2K {e:ETy} {l:List e.D} {n:Int} {P:Program} {g:FuncId} {args:List AV} {Q:Res} (h:Con P g args (outL e l n)) (hQ:Q (.tup [.imm e l, .int .i64 n]) []):Con P g args Q :=
 h.sealTo fun v o hv=>by
  rcases hv with ⟨rfl,fz,rfl⟩ | ⟨rfl,rfl⟩
  · exact ⟨_,a2I,hQ⟩
  · exact ⟨_,a2J,hQ⟩
theorem a2L {e:ETy} {l:List e.D} {fz:Bool} {n:Int} {id:Nat} {H:List aA} (ho:aF H id = .typed e l fz):aO (outL e l n) (.tup [.own id, .int .i64 n]) H :=
 ⟨.tup [.own 0, .int .i64 n],[.typed e l fz],Or.inl ⟨rfl,fz,rfl⟩,rfl,rfl,[id],rfl,by simp,fun k i hk=>by
  match k,hk with
  | 0,hk=>cases hk; exact congrArg some ho.symm,rfl⟩
theorem a2M {e:ETy} {l:List e.D} {n:Int} {H:List aA} (h:l=[]):aO (outL e l n) (.tup [.nils, .int .i64 n]) H:=bI (Or.inr ⟨h,rfl⟩) rfl rfl
theorem aOV : ∀ {l:List ByteArray},eR l=0→∀ s∈l,eY s=0
 | [],_,s,hs=>absurd hs (by simp)
 | a :: l,h,s,hs=>by
   unfold eR at h
   split at h
   · rename_i h0
     rcases List.mem_cons.1 hs with rfl | hs
     · exact h0
     · exact aOV h s hs
   · rename_i h0; exact absurd h h0
theorem aOW {q:Rat} (h:Sz 2000 q):cX q=0:=by
 unfold cX
 rw [if_neg]
 have:=h.1
 have:=h.2
 rintro (h | h) <;> omega
theorem a2N {l:List ByteArray} {x:Nat} (hx:x<l.length):l.drop x=l.getD x ByteArray.empty :: l.drop (x+1):=by
 rw [List.drop_eq_getElem_cons hx,List.getD_eq_getElem?_getD,List.getElem?_eq_getElem hx]; rfl
theorem aOX {l:List ByteArray} {x:Nat} (h:eR l=0) (hx:x<l.length):l.getD x ByteArray.empty=ratText (kM (l.getD x ByteArray.empty))∧Sz 2000 (kM (l.getD x ByteArray.empty)):=a19 (aOV h _ (gC hx))
end
section
abbrev eQ : ETy := .more .bool (.more (.slice eW) (.one (.slice eW)))
abbrev eP : ETy := .more (.int .i64) (.one (.int .i64))
abbrev z0 : QT:=(false,[],[])
abbrev b0 : ByteArray:=ByteArray.empty
abbrev p0 : Int × Int:=(0,0)
def vLQ : cR (List QT):=iZ eQ
def vG : cR (List (List QT)):=iZ (eL eQ)
def vP : cR (List (Int × Int)):=iZ eP
def vTT : cR (List (List (List ByteArray))):=iZ (eL (eL eS))
structure QF (zs:List QT) (n:Nat) (f:Nat→Rat):Prop where
 len:zs.length=n
 at_:∀ i,i<n→QV (zs.getD i z0) (f i)
structure GF (g:List (List QT)) (n w:Nat) (f:Nat→Nat→Rat):Prop where
 len:g.length=n
 at_:∀ i,i<n→QF (g.getD i []) w (f i)
structure TF (v:List ByteArray) (n:Nat) (f:Nat→Rat):Prop where
 len:v.length=n
 at_:∀ i,i<n→v.getD i b0=ratText (f i)
def bY (f:Nat→Rat):Nat→Rat
 | 0=>0
 | n+1=>bY f n+f n
def wide (m:List (List ByteArray)):Nat:=(m.getD 0 []).length
noncomputable def gD (v:List ByteArray):Int:=if 40<v.length then 2 else eR v
noncomputable def lY (w:Nat) (r:List ByteArray):Int:=if r.length≠w then 3 else gD r
noncomputable def i9 (w:Nat):List (List ByteArray)→Int
 | []=>0
 | r :: l=>if lY w r=0 then i9 w l else lY w r
noncomputable def eZ (m:List (List ByteArray)):Int:=if 40<m.length then 2 else i9 (wide m) m
noncomputable def e9 (m:List (List ByteArray)):Int:=if 12<m.length then 2 else if eZ m≠0 then eZ m else if wide m=0 then 8 else if 12<wide m then 2 else 0
def TxM (m:List (List ByteArray)):Prop:=m.length≤1000000000000000∧∀ r∈m,TxL r
noncomputable def vent (v:List ByteArray) (i:Nat):Rat:=kM (v.getD i b0)
noncomputable def ent (m:List (List ByteArray)) (i k:Nat):Rat:=kM ((m.getD i []).getD k b0)
def sR (v:List ByteArray) (Q:Res):Prop:=TxL v∧Q (.int .i64 (gD v)) []
def yN (m:List (List ByteArray)) (Q:Res):Prop:=TxM m∧Q (.int .i64 (eZ m)) []
def yO (m:List (List ByteArray)) (Q:Res):Prop:=TxM m∧Q (.int .i64 (e9 m)) []
def jS (m:List (List ByteArray)) (Q:Res):Prop:=Q (.int .i64 (wide m:Nat)) []
def TxN (n:Nat):Prop:=n≤1000000000000
def rowS (v:List ByteArray) (Q:Res):Prop:=(eR v=0∧TxN v.length)∧∀ zs:List QT,QF zs v.length (vent v)→Q (.own 0) [.typed eQ zs false]
def aER (m:List (List ByteArray)) (Q:Res):Prop:=eZ m=0∧∀ g:List (List QT),GF g m.length (wide m) (ent m)→Q (.own 0) [.typed (eL eQ) g false]
noncomputable def o4 (n:Nat) (f:Nat→Rat):Int:=if ∀ i,i<n→cX (f i)=0 then 0 else 2
noncomputable def dB (n:Nat) (f:Nat→Rat):List ByteArray:=(List.range n).map fun i=>ratText (f i)
noncomputable def sT (n:Nat) (f:Nat→Rat):List ByteArray:=if o4 n f=0 then dB n f else []
def SzF (k n:Nat) (f:Nat→Rat):Prop:=∀ i,i<n→Sz k (f i)
def aES (zs:List QT) (Q:Res):Prop:=∃ (n:Nat) (f:Nat→Rat),QF zs n f∧TxN n∧SzF 9000000000 n f∧Q (.tup [.imm eS (sT n f), .int .i64 (o4 n f)]) []
def SzS (n s:Nat):Prop:=n * (2 * s+2)≤2000000000
def aOY (a b:List ByteArray) (Q:Res):Prop:=∃ (n k s:Nat) (f h:Nat→Rat),TF a n f∧TF b k h∧n≤k∧SzF s n f∧SzF s n h∧SzS n s∧Q (.str (ratText (bY (fun i=>f i * h i) n))) []
def gE (m:List (List ByteArray)) (k:Nat):List ByteArray:=m.map fun r=>r.getD k b0
def xcolS (m:List (List ByteArray)) (k:Int) (Q:Res):Prop:=∃ j:Nat,k=(j:Int)∧TxN m.length∧(∀ r∈m,j<r.length∧TxN r.length)∧Q (.imm eS (gE m j)) []
def aOZ (l:List (List ByteArray)) (Q:Res):Prop:=(l.length≤1000000000000000∧∀ r∈l,r.length≤1000000000000000)∧∀ n:Int,Q (.int .i64 n) []
def aO0 (f:Nat):AV→Option Unit
 | .fn g cs=>(match cs with | []=>(if g=f then some () else none) | _=>none)
 | _=>none
def vCl (f:Nat):cR Unit:=⟨aO0 f,fun _ => .fn f [],fun {x a} h {c w v} hx=>by
 unfold aO0 at h
 split at h
 · split at h
   · split at h
     · rename_i hg; subst hg; exact hx
     · cases h
   · cases h
 · cases h⟩
def lZ (k:Nat) (l:List ByteArray):Int:=match l.findIdx? fun s=>decide (k<s.size) with | some i=>(i:Int) | none => -1
def aO1 (l:List ByteArray) (_:Unit) (Q:Res):Prop:=l.length≤1000000000000000∧Q (.int .i64 (lZ 12 l)) []
def o5 (n:Int) (v:List ByteArray):Bool:=decide ((v.length:Int) > n) || decide (lZ 12 v ≥ 0)
def o6 (n:Int) (m:List (List ByteArray)):Bool:=decide ((m.length:Int) > n) || m.any (o5 n)
def iK (n:Int) (ms:List (List (List ByteArray))):Bool:=ms.any (o6 n)
def TxMM (ms:List (List (List ByteArray))):Prop:=ms.length≤1000000000000000∧∀ m∈ms,TxM m
def aO2 (n:Int) (ms:List (List (List ByteArray))) (Q:Res):Prop:=TxMM ms∧Q (.bool (iK n ms)) []
noncomputable def eT : FuncId→List AV→Res→Prop:=cV [(78,c1 vLS sI),(79,c1 vS inS),(76,c1 vQ fitS),(48,c1 vQ sH),(84,c1 vLS sI),(11,c2 vS vS yB),(51,c2 vS vS xmul),(68,c2 vLS (vCl 36) aO1)]
noncomputable def l3 : FuncId→List AV→Res→Prop:=cV [(54,c1 vLS sR),(55,c1 vLS rowS),(67,c1 vLS sR),(34,c1 vT jS),(60,c1 vT jS)]
noncomputable def aET : FuncId→List AV→Res→Prop:=cV [(59,c1 vT yN),(60,c1 vT jS),(34,c1 vT jS),(33,c1 vT yN)]
end
end Go.Proofs.YtehakimmioclkaaGreatDoor.Lib
end
section
set_option linter.unusedSimpArgs false
set_option linter.unusedVariables false
namespace Go.Proofs.YtehakimmioclkaaGreatDoor.Mach
open Go Go.Proofs.YtehakimmioclkaaGreatDoor Go.Proofs.YtehakimmioclkaaGreatDoor.Lib
section
set_option maxRecDepth 1000000
def aO3 : List (Nat × List Nat):=[]
def aO4 : List (Nat × ETy):=[]
theorem a2O (n:Int) (n0:Nat) (K:AV→List aA→Prop) :
 aH tab (aM tab oO [] 400) (aK aO3 aO4 (aB Tryz.prog n0 46 K)) (aI tab (fnT Tryz.f46).res K) 400 [.code (fnT Tryz.f46).body] ⟨aP (fnT Tryz.f46).n [AV.int .i64 n],[]⟩ =
 (bif decide (n<0) then gA (IntKind.i64.wrap (0 - n))∧gA 1∧K (AV.agg [AV.bool true,AV.imm eW (Sem.limbsOf (IntKind.i64.wrap (0 - n)).toNat),AV.imm eW (Sem.limbsOf 1)]) [aA.box [AV.bool true,AV.imm eW (Sem.limbsOf (IntKind.i64.wrap (0 - n)).toNat),AV.imm eW (Sem.limbsOf 1)]] else gA n∧gA 1∧K (AV.agg [AV.bool false,AV.imm eW (Sem.limbsOf n.toNat),AV.imm eW (Sem.limbsOf 1)]) [aA.box [AV.bool false,AV.imm eW (Sem.limbsOf n.toNat),AV.imm eW (Sem.limbsOf 1)]]):=by kernel_rfl
def aO5 : List (Nat × List Nat):=[]
def aO6 : List (Nat × ETy):=[]
theorem a2P (v:List ByteArray) (n0:Nat) (K:AV→List aA→Prop) :
 aH tab (aM tab eT [] 400) (aK aO5 aO6 (aB Tryz.prog n0 54 K)) (aI tab (fnT Tryz.f54).res K) 400 [.code (fnT Tryz.f54).body] ⟨aP (fnT Tryz.f54).n [AV.imm eS v],[]⟩ =
 (bif decide ((↑v.length:Int) > 40) then K (AV.int .i64 2) [] else TxL v∧K (AV.int .i64 (eR v)) []):=by kernel_rfl
def yP : List (Nat × List Nat):=[(4,[0,9,10,11])]
def yQ : List (Nat × ETy):=[(9,ETy.one (CTy.slice eS))]
noncomputable def yR (m:List (List ByteArray)) (x0 x1:Int):St:=aS 28 [(0,AV.imm (ETy.one (CTy.slice eS)) m),(9,AV.imm (ETy.one (CTy.slice eS)) m),(10,AV.int .i64 x0),(11,AV.int .i64 x1)] []
theorem a2Q (m:List (List ByteArray)) (n0:Nat) (K:AV→List aA→Prop) :
 aH tab (aM tab l3 [] 400) (aK yP yQ (aB Tryz.prog n0 59 K)) (aI tab (fnT Tryz.f59).res K) 400 [.code (fnT Tryz.f59).body] ⟨aP (fnT Tryz.f59).n [AV.imm (ETy.one (CTy.slice eS)) m],[]⟩ =
 (bif decide ((↑m.length:Int) > 40) then K (AV.int .i64 2) [] else aB Tryz.prog n0 59 K (aE (fnT Tryz.f59) 4) (yR m (↑m.length:Int) 0)):=by kernel_rfl
theorem a2R (m:List (List ByteArray)) (x0 x1:Int) (n0:Nat) (K:AV→List aA→Prop) :
 aH tab (aM tab l3 [] 400) (aK yP yQ (aB Tryz.prog n0 59 K)) (aI tab (fnT Tryz.f59).res K) 400 (aT (fnT Tryz.f59) 4) (yR m x0 x1) =
 (bif decide (x1<x0) then bif decide (0≤x1) && decide (x1<(↑m.length:Int)) then bif decide (0<(↑m.length:Int)) then bif !decide ((↑(List.length (m.getD x1.toNat [])):Int)=(↑(List.length (m.getD 0 [])):Int)) then K (AV.int .i64 3) [] else TxL (m.getD x1.toNat [])∧bif !decide (gD (m.getD x1.toNat [])=0) then K (AV.int .i64 (gD (m.getD x1.toNat []))) [] else aB Tryz.prog n0 59 K (aE (fnT Tryz.f59) 4) (yR m x0 (IntKind.i64.wrap (x1+1))) else False else False else K (AV.int .i64 0) []):=by kernel_rfl
def aO7 : List (Nat × List Nat):=[]
def aO8 : List (Nat × ETy):=[]
theorem a2S (m:List (List ByteArray)) (n0:Nat) (K:AV→List aA→Prop) :
 aH tab (aM tab eT [] 400) (aK aO7 aO8 (aB Tryz.prog n0 60 K)) (aI tab (fnT Tryz.f60).res K) 400 [.code (fnT Tryz.f60).body] ⟨aP (fnT Tryz.f60).n [AV.imm (ETy.one (CTy.slice eS)) m],[]⟩ =
 (bif decide ((↑m.length:Int)=0) then K (AV.int .i64 0) [] else bif decide (0<(↑m.length:Int)) then K (AV.int .i64 (↑(List.length (m.getD 0 [])):Int)) [] else False):=by kernel_rfl
def yS : List (Nat × List Nat):=[(3,[3,6,7,8])]
def yT : List (Nat × ETy):=[(3,eQ),(6,eS)]
noncomputable def sU (v:List ByteArray) (x0 x1:Int) (x2:List (Bool × List Int × List Int)):St:=aS 19 [(3,AV.own 0),(6,AV.imm eS v),(7,AV.int .i64 x0),(8,AV.int .i64 x1)] [aA.typed eQ x2 false]
theorem a2T (v:List ByteArray) (n0:Nat) (K:AV→List aA→Prop) :
 aH tab (aM tab eT [] 400) (aK yS yT (aB Tryz.prog n0 55 K)) (aI tab (fnT Tryz.f55).res K) 400 [.code (fnT Tryz.f55).body] ⟨aP (fnT Tryz.f55).n [AV.imm eS v],[]⟩ =
 (aB Tryz.prog n0 55 K (aE (fnT Tryz.f55) 3) (sU v (↑v.length:Int) 0 [])):=by kernel_rfl
theorem a2U (v:List ByteArray) (x0 x1:Int) (x2:List (Bool × List Int × List Int)) (n0:Nat) (K:AV→List aA→Prop) :
 aH tab (aM tab eT [] 400) (aK yS yT (aB Tryz.prog n0 55 K)) (aI tab (fnT Tryz.f55).res K) 400 (aT (fnT Tryz.f55) 3) (sU v x0 x1 x2) =
 (bif decide (x1<x0) then bif decide (0≤x1) && decide (x1<(↑v.length:Int)) then ∃ q,v.getD x1.toNat ByteArray.empty=Sem.ratText q∧Sz 4000000000 q∧∀ (z:Bool × List Int × List Int),Sem.QV z q→bif bif (x2.length+[(z.1,z.2.1,z.2.2)].length).ble 9223372036854775807 then ((x2.length+[(z.1,z.2.1,z.2.2)].length) * 56).ble 140737488355328 else false then aB Tryz.prog n0 55 K (aE (fnT Tryz.f55) 3) (sU v x0 (IntKind.i64.wrap (x1+1)) (x2 ++ [(z.1,z.2.1,z.2.2)])) else False else False else K (AV.own 0) [aA.typed eQ x2 false]):=by kernel_rfl
def yU : List (Nat × List Nat):=[(3,[3,6,7,8])]
def yV : List (Nat × ETy):=[(3,ETy.one (CTy.slice eQ)),(6,ETy.one (CTy.slice eS))]
noncomputable def sV (m:List (List ByteArray)) (x0 x1:Int) (x2:List (List (Bool × List Int × List Int))):St:=aS 19 [(3,AV.own 0),(6,AV.imm (ETy.one (CTy.slice eS)) m),(7,AV.int .i64 x0),(8,AV.int .i64 x1)] [aA.typed (ETy.one (CTy.slice eQ)) x2 false]
theorem a2V (m:List (List ByteArray)) (n0:Nat) (K:AV→List aA→Prop) :
 aH tab (aM tab l3 [] 400) (aK yU yV (aB Tryz.prog n0 30 K)) (aI tab (fnT Tryz.f30).res K) 400 [.code (fnT Tryz.f30).body] ⟨aP (fnT Tryz.f30).n [AV.imm (ETy.one (CTy.slice eS)) m],[]⟩ =
 (aB Tryz.prog n0 30 K (aE (fnT Tryz.f30) 3) (sV m (↑m.length:Int) 0 [])):=by kernel_rfl
theorem a2W (m:List (List ByteArray)) (x0 x1:Int) (x2:List (List (Bool × List Int × List Int))) (n0:Nat) (K:AV→List aA→Prop) :
 aH tab (aM tab l3 [] 400) (aK yU yV (aB Tryz.prog n0 30 K)) (aI tab (fnT Tryz.f30).res K) 400 (aT (fnT Tryz.f30) 3) (sV m x0 x1 x2) =
 (bif decide (x1<x0) then bif decide (0≤x1) && decide (x1<(↑m.length:Int)) then (eR (m.getD x1.toNat [])=0∧TxN (List.length (m.getD x1.toNat [])))∧∀ (zs:List QT),QF zs (List.length (m.getD x1.toNat [])) (vent (m.getD x1.toNat []))→bif bif (x2.length+[zs].length).ble 9223372036854775807 then ((x2.length+[zs].length) * 24).ble 140737488355328 else false then aB Tryz.prog n0 30 K (aE (fnT Tryz.f30) 3) (sV m x0 (IntKind.i64.wrap (x1+1)) (x2 ++ [zs])) else False else False else K (AV.own 0) [aA.typed (ETy.one (CTy.slice eQ)) x2 false]):=by kernel_rfl
def yW : List (Nat × List Nat):=[(3,[4,8,9,10])]
def yX : List (Nat × ETy):=[(4,eS),(8,eQ)]
noncomputable def yY (l:List (Bool × List Int × List Int)) (x0 x1:Int) (x2:List ByteArray):St:=aS 26 [(4,AV.own 0),(8,AV.imm eQ l),(9,AV.int .i64 x0),(10,AV.int .i64 x1)] [aA.typed eS x2 false]
theorem a2X (l:List (Bool × List Int × List Int)) (n0:Nat) (K:AV→List aA→Prop) :
 aH tab (aM tab eT [] 400) (aK yW yX (aB Tryz.prog n0 53 K)) (aI tab (fnT Tryz.f53).res K) 400 [.code (fnT Tryz.f53).body] ⟨aP (fnT Tryz.f53).n [AV.imm eQ l],[]⟩ =
 (aB Tryz.prog n0 53 K (aE (fnT Tryz.f53) 3) (yY l (↑l.length:Int) 0 [])):=by kernel_rfl
theorem a2Y (l:List (Bool × List Int × List Int)) (x0 x1:Int) (x2:List ByteArray) (n0:Nat) (K:AV→List aA→Prop) :
 aH tab (aM tab eT [] 400) (aK yW yX (aB Tryz.prog n0 53 K)) (aI tab (fnT Tryz.f53).res K) 400 (aT (fnT Tryz.f53) 3) (yY l x0 x1 x2) =
 (bif decide (x1<x0) then bif decide (0≤x1) && decide (x1<(↑l.length:Int)) then ∃ q,Sem.QV ((l.getD x1.toNat (false,[],[])).1,(l.getD x1.toNat (false,[],[])).2.1,(l.getD x1.toNat (false,[],[])).2.2) q∧Sz 9000000000 q∧bif !decide (cX q=0) then K (AV.tup [AV.nils,AV.int .i64 (cX q)]) [aA.typed eS x2 false,aA.box [AV.bool (l.getD x1.toNat (false,[],[])).1,AV.imm eW (l.getD x1.toNat (false,[],[])).2.1,AV.imm eW (l.getD x1.toNat (false,[],[])).2.2]] else ∃ q,Sem.QV ((l.getD x1.toNat (false,[],[])).1,(l.getD x1.toNat (false,[],[])).2.1,(l.getD x1.toNat (false,[],[])).2.2) q∧Sz 9000000000 q∧bif bif (x2.length+[Sem.ratText q].length).ble 9223372036854775807 then ((x2.length+[Sem.ratText q].length) * 16).ble 140737488355328 else false then aB Tryz.prog n0 53 K (aE (fnT Tryz.f53) 3) (yY l x0 (IntKind.i64.wrap (x1+1)) (x2 ++ [Sem.ratText q])) else False else False else K (AV.tup [AV.own 0,AV.int .i64 0]) [aA.typed eS x2 false]):=by kernel_rfl
def aO9 : List (Nat × List Nat):=[]
def aPA : List (Nat × ETy):=[]
theorem a2Z (m:List (List ByteArray)) (n0:Nat) (K:AV→List aA→Prop) :
 aH tab (aM tab aET [] 400) (aK aO9 aPA (aB Tryz.prog n0 29 K)) (aI tab (fnT Tryz.f29).res K) 400 [.code (fnT Tryz.f29).body] ⟨aP (fnT Tryz.f29).n [AV.imm (ETy.one (CTy.slice eS)) m],[]⟩ =
 (bif decide ((↑m.length:Int) > 12) then K (AV.int .i64 2) [] else TxM m∧bif !decide (eZ m=0) then K (AV.int .i64 (eZ m)) [] else bif decide ((↑(wide m):Int)=0) then K (AV.int .i64 8) [] else bif decide (0<(↑m.length:Int)) then bif decide ((↑(List.length (m.getD 0 [])):Int) > 12) then K (AV.int .i64 2) [] else K (AV.int .i64 0) [] else False):=by kernel_rfl
def aPB : List (Nat × List Nat):=[]
def aPC : List (Nat × ETy):=[]
theorem a20 (v:List ByteArray) (n0:Nat) (K:AV→List aA→Prop) :
 aH tab (aM tab eT [] 400) (aK aPB aPC (aB Tryz.prog n0 67 K)) (aI tab (fnT Tryz.f67).res K) 400 [.code (fnT Tryz.f67).body] ⟨aP (fnT Tryz.f67).n [AV.imm eS v],[]⟩ =
 (bif decide ((↑v.length:Int) > 40) then K (AV.int .i64 2) [] else TxL v∧K (AV.int .i64 (eR v)) []):=by kernel_rfl
def yZ : List (Nat × List Nat):=[(4,[0,9,10])]
def zA : List (Nat × ETy):=[]
noncomputable def zB (m:List (List ByteArray)) (x0 x1:Int):St:=aS 32 [(0,AV.imm (ETy.one (CTy.slice eS)) m),(9,AV.int .i64 x0),(10,AV.int .i64 x1)] []
theorem a21 (m:List (List ByteArray)) (n0:Nat) (K:AV→List aA→Prop) :
 aH tab (aM tab l3 [] 400) (aK yZ zA (aB Tryz.prog n0 33 K)) (aI tab (fnT Tryz.f33).res K) 400 [.code (fnT Tryz.f33).body] ⟨aP (fnT Tryz.f33).n [AV.imm (ETy.one (CTy.slice eS)) m],[]⟩ =
 (bif decide ((↑m.length:Int) > 40) then K (AV.int .i64 2) [] else aB Tryz.prog n0 33 K (aE (fnT Tryz.f33) 4) (zB m (↑m.length:Int) 0)):=by kernel_rfl
theorem a22 (m:List (List ByteArray)) (x0 x1:Int) (n0:Nat) (K:AV→List aA→Prop) :
 aH tab (aM tab l3 [] 400) (aK yZ zA (aB Tryz.prog n0 33 K)) (aI tab (fnT Tryz.f33).res K) 400 (aT (fnT Tryz.f33) 4) (zB m x0 x1) =
 (bif decide (x1<x0) then bif decide (0≤x1) && decide (x1<(↑m.length:Int)) then bif decide (0<(↑m.length:Int)) then bif !decide ((↑(List.length (m.getD x1.toNat [])):Int)=(↑(List.length (m.getD 0 [])):Int)) then K (AV.int .i64 3) [] else bif decide (0≤x1) && decide (x1<(↑m.length:Int)) then TxL (m.getD x1.toNat [])∧bif !decide (gD (m.getD x1.toNat [])=0) then K (AV.int .i64 (gD (m.getD x1.toNat []))) [] else aB Tryz.prog n0 33 K (aE (fnT Tryz.f33) 4) (zB m x0 (IntKind.i64.wrap (x1+1))) else False else False else False else K (AV.int .i64 0) []):=by kernel_rfl
def aPD : List (Nat × List Nat):=[]
def aPE : List (Nat × ETy):=[]
theorem a23 (m:List (List ByteArray)) (n0:Nat) (K:AV→List aA→Prop) :
 aH tab (aM tab eT [] 400) (aK aPD aPE (aB Tryz.prog n0 34 K)) (aI tab (fnT Tryz.f34).res K) 400 [.code (fnT Tryz.f34).body] ⟨aP (fnT Tryz.f34).n [AV.imm (ETy.one (CTy.slice eS)) m],[]⟩ =
 (bif decide ((↑m.length:Int) > 0) then bif decide (0<(↑m.length:Int)) then K (AV.int .i64 (↑(List.length (m.getD 0 [])):Int)) [] else False else K (AV.int .i64 0) []):=by kernel_rfl
def zC : List (Nat × List Nat):=[(3,[0,1,5,6])]
def zD : List (Nat × ETy):=[]
noncomputable def zE (a b:List ByteArray) (x0:ByteArray) (x1:Int):St:=aS 26 [(0,AV.imm eS a),(1,AV.imm eS b),(5,AV.str x0),(6,AV.int .i64 x1)] []
theorem a24 (a b:List ByteArray) (n0:Nat) (K:AV→List aA→Prop) :
 aH tab (aM tab eT [] 400) (aK zC zD (aB Tryz.prog n0 20 K)) (aI tab (fnT Tryz.f20).res K) 400 [.code (fnT Tryz.f20).body] ⟨aP (fnT Tryz.f20).n [AV.imm eS a,AV.imm eS b],[]⟩ =
 (aB Tryz.prog n0 20 K (aE (fnT Tryz.f20) 3) (zE a b (ByteArray.mk #[48]) (IntKind.i64.wrap ((↑a.length:Int) - 1)))):=by kernel_rfl
theorem a25 (a b:List ByteArray) (x0:ByteArray) (x1:Int) (n0:Nat) (K:AV→List aA→Prop) :
 aH tab (aM tab eT [] 400) (aK zC zD (aB Tryz.prog n0 20 K)) (aI tab (fnT Tryz.f20).res K) 400 (aT (fnT Tryz.f20) 3) (zE a b x0 x1) =
 (bif decide (x1 ≥ 0) then bif decide (0≤x1) && decide (x1<(↑a.length:Int)) then bif decide (0≤x1) && decide (x1<(↑b.length:Int)) then ∃ x y,a.getD x1.toNat ByteArray.empty=Sem.ratText x∧b.getD x1.toNat ByteArray.empty=Sem.ratText y∧Sz 4000000000 x∧Sz 4000000000 y∧∃ x_1 y_1,Sem.ratText (x * y)=Sem.ratText x_1∧x0=Sem.ratText y_1∧Sz 4000000000 x_1∧Sz 4000000000 y_1∧aB Tryz.prog n0 20 K (aE (fnT Tryz.f20) 3) (zE a b (Sem.ratText (x_1+y_1)) (IntKind.i64.wrap (x1 - 1))) else False else False else K (AV.str x0) []):=by kernel_rfl
def zF : List (Nat × List Nat):=[(3,[1,5,8,9,10])]
def zG : List (Nat × ETy):=[(5,eS),(8,ETy.one (CTy.slice eS))]
noncomputable def zH (m:List (List ByteArray)) (k x0 x1:Int) (x2:List ByteArray):St:=aS 23 [(1,AV.int .i64 k),(5,AV.own 0),(8,AV.imm (ETy.one (CTy.slice eS)) m),(9,AV.int .i64 x0),(10,AV.int .i64 x1)] [aA.typed eS x2 false]
theorem a26 (m:List (List ByteArray)) (k:Int) (n0:Nat) (K:AV→List aA→Prop) :
 aH tab (aM tab eT [] 400) (aK zF zG (aB Tryz.prog n0 21 K)) (aI tab (fnT Tryz.f21).res K) 400 [.code (fnT Tryz.f21).body] ⟨aP (fnT Tryz.f21).n [AV.imm (ETy.one (CTy.slice eS)) m,AV.int .i64 k],[]⟩ =
 (aB Tryz.prog n0 21 K (aE (fnT Tryz.f21) 3) (zH m k (↑m.length:Int) 0 [])):=by kernel_rfl
theorem a27 (m:List (List ByteArray)) (k x0 x1:Int) (x2:List ByteArray) (n0:Nat) (K:AV→List aA→Prop) :
 aH tab (aM tab eT [] 400) (aK zF zG (aB Tryz.prog n0 21 K)) (aI tab (fnT Tryz.f21).res K) 400 (aT (fnT Tryz.f21) 3) (zH m k x0 x1 x2) =
 (bif decide (x1<x0) then bif decide (0≤x1) && decide (x1<(↑m.length:Int)) then bif decide (0≤k) && decide (k<(↑(List.length (m.getD x1.toNat [])):Int)) then bif bif (x2.length+[List.getD (m.getD x1.toNat []) k.toNat ByteArray.empty].length).ble 9223372036854775807 then ((x2.length+[List.getD (m.getD x1.toNat []) k.toNat ByteArray.empty].length) * 16).ble 140737488355328 else false then aB Tryz.prog n0 21 K (aE (fnT Tryz.f21) 3) (zH m k x0 (IntKind.i64.wrap (x1+1)) (x2 ++ [List.getD (m.getD x1.toNat []) k.toNat ByteArray.empty])) else False else False else False else K (AV.own 0) [aA.typed eS x2 false]):=by kernel_rfl
def aPF : List (Nat × List Nat):=[]
def aPG : List (Nat × ETy):=[]
theorem a28 (m:List (List ByteArray)) (n0:Nat) (K:AV→List aA→Prop) :
 aH tab (aM tab aET [] 400) (aK aPF aPG (aB Tryz.prog n0 8 K)) (aI tab (fnT Tryz.f8).res K) 400 [.code (fnT Tryz.f8).body] ⟨aP (fnT Tryz.f8).n [AV.imm (ETy.one (CTy.slice eS)) m],[]⟩ =
 (bif decide ((↑m.length:Int) > 12) then K (AV.int .i64 2) [] else TxM m∧bif !decide (eZ m=0) then K (AV.int .i64 (eZ m)) [] else bif decide ((↑(wide m):Int)=0) then K (AV.int .i64 8) [] else bif decide ((↑(wide m):Int) > 12) then K (AV.int .i64 2) [] else K (AV.int .i64 0) []):=by kernel_rfl
def o7 : List (Nat × List Nat):=[(3,[3,8,9,10]),(6,[3,8,9,10,14,15,16])]
def o8 : List (Nat × ETy):=[(8,ETy.one (CTy.slice eS)),(14,eS)]
noncomputable def sW (l:List (List ByteArray)) (x0 x1 x2:Int):St:=aS 27 [(3,AV.int .i64 x0),(8,AV.imm (ETy.one (CTy.slice eS)) l),(9,AV.int .i64 x1),(10,AV.int .i64 x2)] []
noncomputable def sX (l:List (List ByteArray)) (x0 x1 x2:Int) (x3:List ByteArray) (x4 x5:Int):St:=aS 27 [(3,AV.int .i64 x0),(8,AV.imm (ETy.one (CTy.slice eS)) l),(9,AV.int .i64 x1),(10,AV.int .i64 x2),(14,AV.imm eS x3),(15,AV.int .i64 x4),(16,AV.int .i64 x5)] []
theorem a29 (l:List (List ByteArray)) (n0:Nat) (K:AV→List aA→Prop) :
 aH tab (aM tab eT [] 400) (aK o7 o8 (aB Tryz.prog n0 6 K)) (aI tab (fnT Tryz.f6).res K) 400 [.code (fnT Tryz.f6).body] ⟨aP (fnT Tryz.f6).n [AV.imm (ETy.one (CTy.slice eS)) l],[]⟩ =
 (aB Tryz.prog n0 6 K (aE (fnT Tryz.f6) 3) (sW l 0 (↑l.length:Int) 0)):=by kernel_rfl
theorem a3A (l:List (List ByteArray)) (x0 x1 x2:Int) (n0:Nat) (K:AV→List aA→Prop) :
 aH tab (aM tab eT [] 400) (aK o7 o8 (aB Tryz.prog n0 6 K)) (aI tab (fnT Tryz.f6).res K) 400 (aT (fnT Tryz.f6) 3) (sW l x0 x1 x2) =
 (bif decide (x2<x1) then bif decide (0≤x2) && decide (x2<(↑l.length:Int)) then aB Tryz.prog n0 6 K (aE (fnT Tryz.f6) 6) (sX l x0 x1 x2 (l.getD x2.toNat []) (↑(List.length (l.getD x2.toNat [])):Int) 0) else False else K (AV.int .i64 x0) []):=by kernel_rfl
theorem a3B (l:List (List ByteArray)) (x0 x1 x2:Int) (x3:List ByteArray) (x4 x5:Int) (n0:Nat) (K:AV→List aA→Prop) :
 aH tab (aM tab eT [] 400) (aK o7 o8 (aB Tryz.prog n0 6 K)) (aI tab (fnT Tryz.f6).res K) 400 (aT (fnT Tryz.f6) 6) (sX l x0 x1 x2 x3 x4 x5) =
 (bif decide (x5<x4) then bif decide (0≤x5) && decide (x5<(↑x3.length:Int)) then aB Tryz.prog n0 6 K (aE (fnT Tryz.f6) 6) (sX l (IntKind.i64.wrap (x0+(↑(ByteArray.size (x3.getD x5.toNat ByteArray.empty)):Int))) x1 x2 x3 x4 (IntKind.i64.wrap (x5+1))) else False else aB Tryz.prog n0 6 K (aE (fnT Tryz.f6) 3) (sW l x0 x1 (IntKind.i64.wrap (x2+1)))):=by kernel_rfl
def zI : List (Nat × List Nat):=[(2,[0,1,7,8])]
def zJ : List (Nat × ETy):=[]
noncomputable def zK (l:List ByteArray) (x0 x1:Int):St:=aS 19 [(0,AV.imm eS l),(1,AV.fn 36 []),(7,AV.int .i64 x0),(8,AV.int .i64 x1)] []
theorem a3C (l:List ByteArray) (n0:Nat) (K:AV→List aA→Prop) :
 aH tab (aM tab bP [36] 400) (aK zI zJ (aB Tryz.prog n0 68 K)) (aI tab (fnT Tryz.f68).res K) 400 [.code (fnT Tryz.f68).body] ⟨aP (fnT Tryz.f68).n [AV.imm eS l,AV.fn 36 []],[]⟩ =
 (aB Tryz.prog n0 68 K (aE (fnT Tryz.f68) 2) (zK l (↑l.length:Int) 0)):=by kernel_rfl
theorem a3D (l:List ByteArray) (x0 x1:Int) (n0:Nat) (K:AV→List aA→Prop) :
 aH tab (aM tab bP [36] 400) (aK zI zJ (aB Tryz.prog n0 68 K)) (aI tab (fnT Tryz.f68).res K) 400 (aT (fnT Tryz.f68) 2) (zK l x0 x1) =
 (bif decide (x1<x0) then bif decide (0≤x1) && decide (x1<(↑l.length:Int)) then bif decide ((↑(ByteArray.size (l.getD x1.toNat ByteArray.empty)):Int) > 12) then K (AV.int .i64 x1) [] else aB Tryz.prog n0 68 K (aE (fnT Tryz.f68) 2) (zK l x0 (IntKind.i64.wrap (x1+1))) else False else K (AV.int .i64 (-1)) []):=by kernel_rfl
def o9 : List (Nat × List Nat):=[(2,[0,9,10,11]),(7,[0,9,10,11,19,20,21])]
def pA : List (Nat × ETy):=[(9,ETy.one (CTy.slice (ETy.one (CTy.slice eS)))),(19,ETy.one (CTy.slice eS))]
noncomputable def zL (n:Int) (l:List (List (List ByteArray))) (x0 x1:Int):St:=aS 35 [(0,AV.int .i64 n),(9,AV.imm (ETy.one (CTy.slice (ETy.one (CTy.slice eS)))) l),(10,AV.int .i64 x0),(11,AV.int .i64 x1)] []
noncomputable def zM (n:Int) (l:List (List (List ByteArray))) (x0 x1:Int) (x2:List (List ByteArray)) (x3 x4:Int):St:=aS 35 [(0,AV.int .i64 n),(9,AV.imm (ETy.one (CTy.slice (ETy.one (CTy.slice eS)))) l),(10,AV.int .i64 x0),(11,AV.int .i64 x1),(19,AV.imm (ETy.one (CTy.slice eS)) x2),(20,AV.int .i64 x3),(21,AV.int .i64 x4)] []
theorem a3E (n:Int) (l:List (List (List ByteArray))) (n0:Nat) (K:AV→List aA→Prop) :
 aH tab (aM tab eT [35] 400) (aK o9 pA (aB Tryz.prog n0 9 K)) (aI tab (fnT Tryz.f9).res K) 400 [.code (fnT Tryz.f9).body] ⟨aP (fnT Tryz.f9).n [AV.int .i64 n,AV.imm (ETy.one (CTy.slice (ETy.one (CTy.slice eS)))) l],[]⟩ =
 (aB Tryz.prog n0 9 K (aE (fnT Tryz.f9) 2) (zL n l (↑l.length:Int) 0)):=by kernel_rfl
theorem a3F (n:Int) (l:List (List (List ByteArray))) (x0 x1:Int) (n0:Nat) (K:AV→List aA→Prop) :
 aH tab (aM tab eT [35] 400) (aK o9 pA (aB Tryz.prog n0 9 K)) (aI tab (fnT Tryz.f9).res K) 400 (aT (fnT Tryz.f9) 2) (zL n l x0 x1) =
 (bif decide (x1<x0) then bif decide (0≤x1) && decide (x1<(↑l.length:Int)) then bif decide ((↑(List.length (l.getD x1.toNat [])):Int) > n) then K (AV.bool true) [] else aB Tryz.prog n0 9 K (aE (fnT Tryz.f9) 7) (zM n l x0 x1 (l.getD x1.toNat []) (↑(List.length (l.getD x1.toNat [])):Int) 0) else False else K (AV.bool false) []):=by kernel_rfl
theorem a3G (n:Int) (l:List (List (List ByteArray))) (x0 x1:Int) (x2:List (List ByteArray)) (x3 x4:Int) (n0:Nat) (K:AV→List aA→Prop) :
 aH tab (aM tab eT [35] 400) (aK o9 pA (aB Tryz.prog n0 9 K)) (aI tab (fnT Tryz.f9).res K) 400 (aT (fnT Tryz.f9) 7) (zM n l x0 x1 x2 x3 x4) =
 (bif decide (x4<x3) then bif decide (0≤x4) && decide (x4<(↑x2.length:Int)) then bif decide ((↑(List.length (x2.getD x4.toNat [])):Int) > n) then K (AV.bool true) [] else List.length (x2.getD x4.toNat [])≤1000000000000000∧bif bif false then true else decide (lZ 12 (x2.getD x4.toNat []) ≥ 0) then K (AV.bool true) [] else aB Tryz.prog n0 9 K (aE (fnT Tryz.f9) 7) (zM n l x0 x1 x2 x3 (IntKind.i64.wrap (x4+1))) else False else aB Tryz.prog n0 9 K (aE (fnT Tryz.f9) 2) (zL n l x0 (IntKind.i64.wrap (x1+1)))):=by kernel_rfl
end
end Go.Proofs.YtehakimmioclkaaGreatDoor.Mach
end
section
set_option linter.unusedSimpArgs false
set_option linter.unusedVariables false
namespace Go.Proofs.YtehakimmioclkaaGreatDoor.Lib
open Go Go.Proofs.YtehakimmioclkaaGreatDoor.Mach Go.Proofs.YtehakimmioclkaaGreatDoorW.PrintWords Go.Proofs.YtehakimmioclkaaGreatDoor.Sem Go.Proofs.YtehakimmioclkaaGreatDoor.Pure
section
theorem sY {n b:Nat} (h:n≤1000000000001) (hb:b≤100):(bif n.ble 9223372036854775807 then (n * b).ble 140737488355328 else false)=true:=by
 rw [(eH _ _).2 (show n≤9223372036854775807 by omega)]
 exact (eH _ _).2 (Nat.le_trans (Nat.mul_le_mul h hb) (by decide))
theorem zN {α:Type} {l:List α} {a:α} {n m:Nat} (h:l.length=n) (hn:n+1≤m):l.length+[a].length≤m:=by
 rw [h]; exact hn
theorem aPH {α:Type} {l:List α} {a d:α} {i:Nat}:(l ++ [a]).getD i d=if i<l.length then l.getD i d else if i=l.length then a else d:=by
 rw [List.getD_eq_getElem?_getD,List.getD_eq_getElem?_getD]
 by_cases h:i<l.length
 · rw [if_pos h,List.getElem?_append_left h]
 · rw [if_neg h,List.getElem?_append_right (by omega)]
   by_cases h1:i=l.length
   · rw [if_pos h1,h1]; simp
   · rw [if_neg h1,List.getElem?_eq_none (by simp; omega)]; rfl
theorem QF.nil (f:Nat→Rat):QF [] 0 f:=⟨rfl,fun i hi=>absurd hi (Nat.not_lt_zero _)⟩
theorem QF.push {zs:List QT} {n:Nat} {f:Nat→Rat} {z:QT} (h:QF zs n f) (hz:QV z (f n)):QF (zs ++ [z]) (n+1) f :=
 ⟨by rw [List.length_append,h.len]; rfl,fun i hi=>by
  rw [aPH,h.len]
  by_cases h1:i<n
  · rw [if_pos h1]; exact h.at_ i h1
  · rw [if_neg h1,if_pos (by omega)]
    rw [show i=n by omega]; exact hz⟩
theorem GF.nil (w:Nat) (f:Nat→Nat→Rat):GF [] 0 w f:=⟨rfl,fun i hi=>absurd hi (Nat.not_lt_zero _)⟩
theorem GF.push {g:List (List QT)} {n w:Nat} {f:Nat→Nat→Rat} {z:List QT} (h:GF g n w f) (hz:QF z w (f n)):GF (g ++ [z]) (n+1) w f :=
 ⟨by rw [List.length_append,h.len]; rfl,fun i hi=>by
  rw [aPH,h.len]
  by_cases h1:i<n
  · rw [if_pos h1]; exact h.at_ i h1
  · rw [if_neg h1,if_pos (by omega)]
    rw [show i=n by omega]; exact hz⟩
theorem aPI {a b:Nat} {x y:Rat} (sx:Sz a x) (sy:Sz b y):Sz (a+b+1) (x+y):=by
 have e1:=dI sx; have e2:=dP sx; have e3:=dI sy; have e4:=dP sy
 have m1:dg (x.num.natAbs * y.den)≤a+b:=Nat.le_trans (kJ _ _) (by omega)
 have m2:dg (y.num.natAbs * x.den)≤a+b:=Nat.le_trans (kJ _ _) (by omega)
 have m3:dg (x.den * y.den)≤a+b:=Nat.le_trans (kJ _ _) (by omega)
 have px:=dO x
 have py:=dO y
 have hsum:x+y=mkq (decide (x.num<0)) x.num.natAbs x.den+mkq (decide (y.num<0)) y.num.natAbs y.den:=by rw [eX,eX]
 rw [xW _ _ _ _ _ _ px py] at hsum
 have hD:∀ c u,szD (mkq c u (x.den * y.den))≤a+b+1:=fun c u=>Nat.le_trans (oN (Nat.mul_pos px py)) (by omega)
 have hN:∀ c u,dg u≤a+b+1→szN (mkq c u (x.den * y.den))≤a+b+1:=fun c u h=>Nat.le_trans (oM (Nat.mul_pos px py)) h
 have a1:=xT m1 m2
 have a2:=fP (Nat.sub_le (x.num.natAbs * y.den) (y.num.natAbs * x.den))
 have a3:=fP (Nat.sub_le (y.num.natAbs * x.den) (x.num.natAbs * y.den))
 rw [hsum]
 split
 · exact ⟨hN _ _ (by omega),hD _ _⟩
 · split
   · exact ⟨hN _ _ (by omega),hD _ _⟩
   · exact ⟨hN _ _ (by omega),hD _ _⟩
theorem a3H {a b:Nat} {x y:Rat} (sx:Sz a x) (sy:Sz b y):Sz (a+b) (x * y):=by
 have e1:=dI sx; have e2:=dP sx; have e3:=dI sy; have e4:=dP sy
 have hprod:x * y=mkq (decide (x.num<0)) x.num.natAbs x.den * mkq (decide (y.num<0)) y.num.natAbs y.den:=by rw [eX,eX]
 rw [aD7] at hprod
 rw [hprod]
 have hp:=Nat.mul_pos (dO x) (dO y)
 exact ⟨Nat.le_trans (oM hp) (Nat.le_trans (kJ _ _) (by omega)),Nat.le_trans (oN hp) (Nat.le_trans (kJ _ _) (by omega))⟩
theorem l4 {a b:Nat} {x y:Rat} (sx:Sz a x) (sy:Sz b y) (h1:y≠0):Sz (a+b) (x / y):=by
 have e1:=dI sx; have e2:=dP sx; have e3:=dI sy; have e4:=dP sy
 have hy:0<y.num.natAbs:=by
  have:y.num≠0:=fun h=>h1 (Rat.num_eq_zero.1 h)
  omega
 have hquo:x / y=mkq (decide (x.num<0)) x.num.natAbs x.den / mkq (decide (y.num<0)) y.num.natAbs y.den:=by rw [eX,eX]
 rw [aD8 _ _ _ _ _ _ (dO x) hy (dO y)] at hquo
 rw [hquo]
 have hp:=Nat.mul_pos (dO x) hy
 exact ⟨Nat.le_trans (oM hp) (Nat.le_trans (kJ _ _) (by omega)),Nat.le_trans (oN hp) (Nat.le_trans (kJ _ _) (by omega))⟩
theorem a3I (n:Int) (h:n.natAbs<10 ^ 20):Sz 20 (n:Rat):=⟨aN2 h,by show dg (n:Rat).den≤20; rw [Rat.den_intCast,sK]; decide⟩
def l5 (f:Nat→Rat) (n:Nat):Nat→Rat
 | 0=>0
 | d+1=>f (n - 1 - d)+l5 f n d
theorem aPJ (f:Nat→Rat) (n:Nat):∀ d,d≤n→bY f (n - d)+l5 f n d=bY f n
 | 0,_=>by show bY f n+0=_; exact Rat.add_zero _
 | d+1,h=>by
   have ih:=aPJ f n d (by omega)
   have e:n - d=(n - (d+1))+1:=by omega
   have e2:n - 1 - d=n - (d+1):=by omega
   rw [← ih,e]
   show bY f (n - (d+1))+(f (n - 1 - d)+l5 f n d)=bY f (n - (d+1))+f (n - (d+1))+l5 f n d
   rw [e2,Rat.add_assoc]
theorem aPK {f:Nat→Rat} {n s:Nat} (h:SzF s n f):∀ d,d≤n→Sz (d * (s+1)+1) (l5 f n d)
 | 0,_=>(sz_zero.mono (by omega))
 | d+1,hd=>by
   have:=aPI (h (n - 1 - d) (by omega)) (aPK h d (by omega))
   refine this.mono ?_
   rw [Nat.add_mul]; omega
theorem sZ {f:Nat→Rat} {n s:Nat} (h:SzF s n f):∀ d,d≤n→Sz (d * (s+1)+1) (bY f d)
 | 0,_=>(sz_zero.mono (by omega))
 | d+1,hd=>by
   have:=aPI (sZ h d (by omega)) (h d (by omega))
   refine this.mono ?_
   rw [Nat.add_mul]; omega
section
variable {v a b:List ByteArray} {m:List (List ByteArray)} {Q:Res}
theorem a3J {k:Nat} {l:List ByteArray} {x:Nat} (hx:x<l.length):(l.drop x).findIdx? (fun s=>decide (k<s.size))=if decide (k<(l.getD x ByteArray.empty).size)=true then some 0 else ((l.drop (x+1)).findIdx? fun s=>decide (k<s.size)).map (· + 1):=by
 rw [a2N hx,List.findIdx?_cons]
theorem a3K {l:List ByteArray} (h:aO1 l () Q):Con Tryz.prog 68 [.imm eS l, .fn 36 []] Q:=by
 obtain ⟨hl,hq⟩:=h
 refine aU (gn:=fnT Tryz.f68) (by kernel_rfl) bR (inl:=[36]) (LT:=zI) (NT:=zJ) rfl fun n0=>?_
 rw [a3C]
 refine cO (f:=68) (gn:=fnT Tryz.f68) (n0:=n0) (r:=2) (by kernel_rfl) bR (inl:=[36]) (LT:=zI) (NT:=zJ) (K:=aO Q) (fun x:Nat=>zK l (l.length:Int) (x:Int)) (fun x=>l.length - x) (fun x=>x≤l.length∧l.findIdx? (fun s=>decide (12<s.size))=((l.drop x).findIdx? fun s=>decide (12<s.size)).map (· + x)) (fun x hp ih=>?_) 0 ⟨Nat.zero_le _,by rw [List.drop_zero]; cases l.findIdx? (fun s=>decide (12<s.size)) <;> rfl⟩
 obtain ⟨hp,he⟩:=hp
 rw [a3D]
 unfold lZ at hq
 by_cases hx:x<l.length
 · refine aC (by omega) (aN (aC (by omega) (aC (by omega) ?_)))
   rw [Int.toNat_natCast,wrS hx (by omega)]
   rw [a3J hx] at he
   by_cases hc:12<(l.getD x ByteArray.empty).size
   · rw [if_pos (decide_eq_true hc)] at he
     rw [he] at hq
     refine aC (by omega) (cL ?_)
     simpa using hq
   · rw [if_neg (by simpa using hc)] at he
     refine aG (by omega) (ih (x+1) ⟨by omega,?_⟩ (by omega))
     rw [he]
     cases (l.drop (x+1)).findIdx? (fun s=>decide (12<s.size)) with
     | none=>rfl
     | some i=>simp; omega
 · rw [List.drop_eq_nil_of_le (by omega)] at he
   rw [he] at hq
   exact aG (by omega) (cL hq)
theorem e5 : ∀ g xs Q,eT g xs Q→Con Tryz.prog g xs Q:=dA fun p hp=>by
 simp only [List.mem_cons,List.not_mem_nil,or_false] at hp
 rcases hp with rfl | rfl | rfl | rfl | rfl | rfl | rfl | rfl
 · exact bD fun _ _ h=>a2A h
 · exact bD fun _ _ h=>a03 h
 · exact bD fun _ _ h=>aNY h
 · exact bD fun _ _ h=>yG h
 · exact bD fun _ _ h=>a2C h
 · exact aZ fun _ _ _ h=>aEQ h
 · exact aZ fun _ _ _ h=>a1T h
 · exact aZ fun _ _ _ h=>a3K h
theorem aPL {n:Int} (h:intQ n Q):Con Tryz.prog 46 [.int .i64 n] Q:=by
 obtain ⟨⟨h0,h1⟩,hq⟩:=h
 refine aU (gn:=fnT Tryz.f46) (by kernel_rfl) sL (inl:=[]) (LT:=aO3) (NT:=aO4) rfl fun n0=>?_
 rw [a2O]
 have hd:(n:Rat).den=1:=Rat.den_intCast n
 have hn:(n:Rat).num=n:=Rat.num_intCast n
 by_cases hneg:n<0
 · refine aC hneg ⟨⟨by rw [wr (by omega) (by omega)]; omega,by rw [wr (by omega) (by omega)]; omega⟩,oS,?_⟩
   rw [wr (by omega) (by omega),show (0 - n).toNat=n.natAbs by omega]
   refine bI (hq (true,limbsOf n.natAbs,limbsOf 1) ⟨?_,?_, .inl ?_⟩) rfl rfl
   · rw [hn]; exact (decide_eq_true hneg).symm
   · rw [hn]
   · rw [hd]
 · refine aG hneg ⟨⟨by omega,by omega⟩,oS,?_⟩
   rw [show n.toNat=n.natAbs by omega]
   refine bI (hq (false,limbsOf n.natAbs,limbsOf 1) ⟨?_,?_, .inl ?_⟩) rfl rfl
   · rw [hn]; exact (decide_eq_false hneg).symm
   · rw [hn]
   · rw [hd]
theorem aPM (h:sR v Q):Con Tryz.prog 54 [.imm eS v] Q:=by
 obtain ⟨ht,hq⟩:=h
 refine aU (gn:=fnT Tryz.f54) (by kernel_rfl) e5 (inl:=[]) (LT:=aO5) (NT:=aO6) rfl fun n0=>?_
 rw [a2P]
 unfold gD at hq
 by_cases h1:40<v.length
 · rw [if_pos h1] at hq
   exact aC (by omega) (cL hq)
 · rw [if_neg h1] at hq
   exact aG (by omega) ⟨ht,cL hq⟩
theorem a3L (h:sR v Q):Con Tryz.prog 67 [.imm eS v] Q:=by
 obtain ⟨ht,hq⟩:=h
 refine aU (gn:=fnT Tryz.f67) (by kernel_rfl) e5 (inl:=[]) (LT:=aPB) (NT:=aPC) rfl fun n0=>?_
 rw [a20]
 unfold gD at hq
 by_cases h1:40<v.length
 · rw [if_pos h1] at hq
   exact aC (by omega) (cL hq)
 · rw [if_neg h1] at hq
   exact aG (by omega) ⟨ht,cL hq⟩
theorem aPN (h:jS m Q):Con Tryz.prog 60 [.imm (eL eS) m] Q:=by
 refine aU (gn:=fnT Tryz.f60) (by kernel_rfl) e5 (inl:=[]) (LT:=aO7) (NT:=aO8) rfl fun n0=>?_
 rw [a2S]
 unfold jS wide at h
 by_cases h0:m.length=0
 · have:m=[]:=List.length_eq_zero_iff.1 h0
   subst this
   exact aC (by omega) (cL h)
 · exact aG (by omega) (aC (by omega) (cL h))
theorem aEU (h:jS m Q):Con Tryz.prog 34 [.imm (eL eS) m] Q:=by
 refine aU (gn:=fnT Tryz.f34) (by kernel_rfl) e5 (inl:=[]) (LT:=aPD) (NT:=aPE) rfl fun n0=>?_
 rw [a23]
 unfold jS wide at h
 by_cases h0:m.length=0
 · have:m=[]:=List.length_eq_zero_iff.1 h0
   subst this
   exact aG (by decide) (cL h)
 · exact aC (by omega) (aC (by omega) (cL h))
theorem aPO (h:rowS v Q):Con Tryz.prog 55 [.imm eS v] Q:=by
 obtain ⟨⟨h0,hn⟩,hq⟩:=h
 unfold TxN at hn
 refine aU (gn:=fnT Tryz.f55) (by kernel_rfl) e5 (inl:=[]) (LT:=yS) (NT:=yT) rfl fun n0=>?_
 rw [a2T]
 refine cO (f:=55) (gn:=fnT Tryz.f55) (n0:=n0) (r:=3) (by kernel_rfl) e5 (inl:=[]) (LT:=yS) (NT:=yT) (K:=aO Q) (fun y:Nat × List QT=>sU v (v.length:Int) (y.1:Int) y.2) (fun y=>v.length - y.1) (fun y=>y.1≤v.length∧QF y.2 y.1 (vent v)) (fun y hp ih=>?_) (0,[]) ⟨Nat.zero_le _,QF.nil _⟩
 obtain ⟨x,zs⟩:=y
 obtain ⟨hx0,hz⟩:=hp
 simp only at hx0 hz
 show aH _ _ _ _ _ _ (sU v (v.length:Int) (x:Int) zs)
 rw [a2U]
 by_cases hx:x<v.length
 · obtain ⟨a1,a2⟩:=aOX h0 hx
   refine aC (by omega) (aN (aC (by omega) (aC (by omega) ?_)))
   rw [Int.toNat_natCast,wrS hx (by omega)]
   exact ⟨_,a1,a2.mono (by decide),fun z hz2=>aQ (sY (zN hz.len (by omega)) (by decide)) (ih (x+1,zs ++ [z]) ⟨by show x+1≤_; omega,hz.push hz2⟩ (by show v.length - (x+1)<v.length - x; omega))⟩
 · have hxx:x=v.length:=by omega
   subst hxx
   exact aG (by omega) (jO rfl (hq zs hz))
theorem pB : ∀ g xs Q,l3 g xs Q→Con Tryz.prog g xs Q:=dA fun p hp=>by
 simp only [List.mem_cons,List.not_mem_nil,or_false] at hp
 rcases hp with rfl | rfl | rfl | rfl | rfl
 · exact bD fun _ _ h=>aPM h
 · exact bD fun _ _ h=>aPO h
 · exact bD fun _ _ h=>a3L h
 · exact bD fun _ _ h=>aEU h
 · exact bD fun _ _ h=>aPN h
theorem a3M {l:List (List ByteArray)} {x:Nat} (hx:x<l.length):l.drop x=l.getD x [] :: l.drop (x+1):=by
 rw [List.drop_eq_getElem_cons hx,List.getD_eq_getElem?_getD,List.getElem?_eq_getElem hx]; rfl
theorem aPP {l:List (List ByteArray)} {w x:Nat} (hx:x<l.length):i9 w (l.drop x)=if lY w (l.getD x [])=0 then i9 w (l.drop (x+1)) else lY w (l.getD x []):=by
 rw [a3M hx]; rfl
theorem aPQ {w:Nat} {r:List ByteArray} (h:r.length=w):lY w r=gD r:=if_neg fun hc=>hc h
theorem aPR {w:Nat} {r:List ByteArray} (h:¬ r.length=w):lY w r=3:=if_pos h
theorem a3N (h:yN m Q):Con Tryz.prog 59 [.imm (eL eS) m] Q:=by
 obtain ⟨ht,hq⟩:=h
 refine aU (gn:=fnT Tryz.f59) (by kernel_rfl) pB (inl:=[]) (LT:=yP) (NT:=yQ) rfl fun n0=>?_
 rw [a2Q]
 have hk:∀ e H,eZ m=e→aO Q (.int .i64 e) H:=fun e H h1=>by rw [h1] at hq; exact cL hq
 unfold eZ at hk
 by_cases h1:40<m.length
 · simp only [if_pos h1] at hk
   exact aC (by omega) (hk _ _ rfl)
 simp only [if_neg h1] at hk
 refine aG (by omega) ?_
 refine cO (f:=59) (gn:=fnT Tryz.f59) (n0:=n0) (r:=4) (by kernel_rfl) pB (inl:=[]) (LT:=yP) (NT:=yQ) (K:=aO Q) (fun x:Nat=>yR m (m.length:Int) (x:Int)) (fun x=>m.length - x) (fun x=>x≤m.length∧i9 (wide m) m=i9 (wide m) (m.drop x)) (fun x hp ih=>?_) 0 ⟨Nat.zero_le _,by rw [List.drop_zero]⟩
 obtain ⟨hp,he⟩:=hp
 rw [a2R]
 by_cases hx:x<m.length
 · rw [aPP hx] at he
   refine aC (by omega) (aN (aC (by omega) (aC (by omega) (aC (by omega) ?_))))
   rw [Int.toNat_natCast,wrS hx (by omega)]
   by_cases h2:(m.getD x []).length=wide m
   · rw [aPQ h2] at he
     refine aR (aC (by unfold wide at h2; omega) ⟨ht.2 _ (gC hx),?_⟩)
     by_cases h3:gD (m.getD x [])=0
     · rw [if_pos h3] at he
       exact aR (aC h3 (ih (x+1) ⟨by omega,he⟩ (by omega)))
     · rw [if_neg h3] at he
       exact aR (aG h3 (hk _ _ he))
   · rw [aPR h2,if_neg (by decide)] at he
     exact aR (aG (by unfold wide at h2; omega) (hk _ _ he))
 · rw [List.drop_eq_nil_of_le (by omega)] at he
   exact aG (by omega) (hk _ _ he)
theorem a3O (h:yN m Q):Con Tryz.prog 33 [.imm (eL eS) m] Q:=by
 obtain ⟨ht,hq⟩:=h
 refine aU (gn:=fnT Tryz.f33) (by kernel_rfl) pB (inl:=[]) (LT:=yZ) (NT:=zA) rfl fun n0=>?_
 rw [a21]
 have hk:∀ e H,eZ m=e→aO Q (.int .i64 e) H:=fun e H h1=>by rw [h1] at hq; exact cL hq
 unfold eZ at hk
 by_cases h1:40<m.length
 · simp only [if_pos h1] at hk
   exact aC (by omega) (hk _ _ rfl)
 simp only [if_neg h1] at hk
 refine aG (by omega) ?_
 refine cO (f:=33) (gn:=fnT Tryz.f33) (n0:=n0) (r:=4) (by kernel_rfl) pB (inl:=[]) (LT:=yZ) (NT:=zA) (K:=aO Q) (fun x:Nat=>zB m (m.length:Int) (x:Int)) (fun x=>m.length - x) (fun x=>x≤m.length∧i9 (wide m) m=i9 (wide m) (m.drop x)) (fun x hp ih=>?_) 0 ⟨Nat.zero_le _,by rw [List.drop_zero]⟩
 obtain ⟨hp,he⟩:=hp
 rw [a22]
 by_cases hx:x<m.length
 · rw [aPP hx] at he
   refine aC (by omega) (aN (aC (by omega) (aC (by omega) (aC (by omega) ?_))))
   rw [Int.toNat_natCast,wrS hx (by omega)]
   by_cases h2:(m.getD x []).length=wide m
   · rw [aPQ h2] at he
     refine aR (aC (by unfold wide at h2; omega) (aN (aC (by omega) (aC (by omega) ⟨ht.2 _ (gC hx),?_⟩))))
     by_cases h3:gD (m.getD x [])=0
     · rw [if_pos h3] at he
       exact aR (aC h3 (ih (x+1) ⟨by omega,he⟩ (by omega)))
     · rw [if_neg h3] at he
       exact aR (aG h3 (hk _ _ he))
   · rw [aPR h2,if_neg (by decide)] at he
     exact aR (aG (by unfold wide at h2; omega) (hk _ _ he))
 · rw [List.drop_eq_nil_of_le (by omega)] at he
   exact aG (by omega) (hk _ _ he)
theorem aPS (h:gD v=0):v.length≤40∧eR v=0:=by
 unfold gD at h
 split at h
 · cases h
 · exact ⟨by omega,h⟩
theorem aPT {w:Nat}:∀ {l:List (List ByteArray)},i9 w l=0→∀ r∈l,r.length=w∧gD r=0
 | [],_,r,hr=>absurd hr (by simp)
 | a :: l,h,r,hr=>by
   unfold i9 at h
   split at h
   · rename_i h0
     rcases List.mem_cons.1 hr with rfl | hr
     · unfold lY at h0
       split at h0
       · cases h0
       · rename_i h1; exact ⟨Decidable.not_not.1 h1,h0⟩
     · exact aPT h r hr
   · rename_i h0; exact absurd h h0
structure s0 (m:List (List ByteArray)):Prop where
 len:m.length≤40
 wide:wide m≤40
 row:∀ i,i<m.length→(m.getD i []).length=Lib.wide m∧eR (m.getD i [])=0
 ent:∀ i k,i<m.length→k<Lib.wide m→(m.getD i []).getD k b0=ratText (ent m i k)∧Sz 2000 (Lib.ent m i k)
theorem aPU (h:eZ m=0):s0 m:=by
 unfold eZ at h
 split at h
 · cases h
 · rename_i hl
   have hr:=aPT h
   have row:∀ i,i<m.length→(m.getD i []).length=wide m∧eR (m.getD i [])=0:=fun i hi=>⟨(hr _ (gC hi)).1,(aPS (hr _ (gC hi)).2).2⟩
   refine ⟨by omega,?_,row,fun i k hi hk=>aOX (row i hi).2 (by rw [(row i hi).1]; exact hk)⟩
   by_cases h0:0<m.length
   · exact (aPS (hr _ (gC (d:=[]) h0)).2).1
   · have:m=[]:=List.length_eq_zero_iff.1 (by omega)
     subst this
     exact Nat.zero_le _
theorem aPV (h:s0 m) {i:Nat} (hi:i<m.length):TF (m.getD i []) (wide m) (ent m i):=⟨(h.row i hi).1,fun k hk=>(h.ent i k hi hk).1⟩
theorem aPW (h:aER m Q):Con Tryz.prog 30 [.imm (eL eS) m] Q:=by
 obtain ⟨h0,hq⟩:=h
 have M:=aPU h0
 have hl:=M.len
 have hw:=M.wide
 refine aU (gn:=fnT Tryz.f30) (by kernel_rfl) pB (inl:=[]) (LT:=yU) (NT:=yV) rfl fun n0=>?_
 rw [a2V]
 refine cO (f:=30) (gn:=fnT Tryz.f30) (n0:=n0) (r:=3) (by kernel_rfl) pB (inl:=[]) (LT:=yU) (NT:=yV) (K:=aO Q) (fun y:Nat × List (List QT)=>sV m (m.length:Int) (y.1:Int) y.2) (fun y=>m.length - y.1) (fun y=>y.1≤m.length∧GF y.2 y.1 (wide m) (ent m)) (fun y hp ih=>?_) (0,[]) ⟨Nat.zero_le _,GF.nil _ _⟩
 obtain ⟨x,zs⟩:=y
 obtain ⟨hx0,hz⟩:=hp
 simp only at hx0 hz
 show aH _ _ _ _ _ _ (sV m (m.length:Int) (x:Int) zs)
 rw [a2W]
 by_cases hx:x<m.length
 · obtain ⟨r1,r2⟩:=M.row x hx
   refine aC (by omega) (aN (aC (by omega) (aC (by omega) ?_)))
   rw [Int.toNat_natCast,wrS hx (by omega)]
   refine ⟨⟨r2,by unfold TxN; omega⟩,fun z hz2=>aQ (sY (zN hz.len (by omega)) (by decide)) (ih (x+1,zs ++ [z]) ⟨by show x+1≤_; omega,hz.push ?_⟩ (by show m.length - (x+1)<m.length - x; omega))⟩
   rw [r1] at hz2
   exact hz2
 · have hxx:x=m.length:=by omega
   subst hxx
   exact aG (by omega) (jO rfl (hq zs hz))
theorem aPX : ∀ g xs Q,aET g xs Q→Con Tryz.prog g xs Q:=dA fun p hp=>by
 simp only [List.mem_cons,List.not_mem_nil,or_false] at hp
 rcases hp with rfl | rfl | rfl | rfl
 · exact bD fun _ _ h=>a3N h
 · exact bD fun _ _ h=>aPN h
 · exact bD fun _ _ h=>aEU h
 · exact bD fun _ _ h=>a3O h
theorem a3P {n x:Nat} {f:Nat→Rat} (hx:x<n) (h:cX (f x)≠0):o4 n f=2∧cX (f x)=2:=by
 refine ⟨if_neg fun hc=>h (hc x hx),?_⟩
 unfold cX at h ⊢
 split at h
 · rename_i h1; rw [if_pos h1]
 · exact absurd rfl h
theorem aPY (n:Nat) (f:Nat→Rat):dB (n+1) f=dB n f ++ [ratText (f n)]:=by
 unfold dB
 rw [List.range_succ,List.map_append]; rfl
theorem s6 (n:Nat) (f:Nat→Rat):(dB n f).length=n:=by unfold dB; simp
theorem a3Q {n i:Nat} {f:Nat→Rat} (h:i<n):(dB n f).getD i b0=ratText (f i):=by
 unfold dB
 rw [List.getD_eq_getElem?_getD,List.getElem?_map,List.getElem?_range h]; rfl
theorem a3R {n:Nat} {f g:Nat→Rat} (h:∀ i,i<n→f i=g i):dB n f=dB n g:=by
 unfold dB
 refine List.map_congr_left fun i hi=>?_
 rw [h i (List.mem_range.1 hi)]
theorem aPZ (n:Nat) (f:Nat→Rat):TF (dB n f) n f:=⟨s6 n f,fun i hi=>a3Q hi⟩
theorem aP0 {zs:List QT} (h:aES zs Q):Con Tryz.prog 53 [.imm eQ zs] Q:=by
 obtain ⟨n,f,hz,hn,hs,hq⟩:=h
 unfold TxN at hn
 have hzl:=hz.len
 refine a2K (e:=eS) (l:=sT n f) (n:=o4 n f) ?_ hq
 refine aU (gn:=fnT Tryz.f53) (by kernel_rfl) e5 (inl:=[]) (LT:=yW) (NT:=yX) rfl fun n0=>?_
 rw [a2X]
 refine cO (f:=53) (gn:=fnT Tryz.f53) (n0:=n0) (r:=3) (by kernel_rfl) e5 (inl:=[]) (LT:=yW) (NT:=yX) (K:=aO (outL eS (sT n f) (o4 n f))) (fun x:Nat=>yY zs (zs.length:Int) (x:Int) (dB x f)) (fun x=>zs.length - x) (fun x=>x≤zs.length∧∀ i,i<x→cX (f i)=0) (fun x hp ih=>?_) 0 ⟨Nat.zero_le _,fun i hi=>absurd hi (Nat.not_lt_zero _)⟩
 obtain ⟨hx0,hf⟩:=hp
 rw [a2Y]
 by_cases hx:x<zs.length
 · have hv:=hz.at_ x (by omega)
   refine aC (by omega) (aN (aC (by omega) (aC (by omega) ?_)))
   rw [Int.toNat_natCast,wrS hx (by omega)]
   refine ⟨_,hv,hs x (by omega),?_⟩
   by_cases h0:cX (f x)=0
   · have ih' := ih (x+1) ⟨by omega,fun i hi=>by
        by_cases hix:i=x
        · rw [hix]; exact h0
        · exact hf i (by omega)⟩ (by omega)
     rw [aPY] at ih'
     exact aR (aC h0 ⟨_,hv,hs x (by omega),aQ (sY (zN (s6 x f) (by omega)) (by decide)) ih'⟩)
   · obtain ⟨e1,e2⟩:=a3P (n:=n) (by omega) h0
     refine aR (aG h0 ?_)
     rw [e2,e1]
     exact a2M (by unfold sT; rw [e1]; rfl)
 · have hxx:x=n:=by omega
   subst hxx
   have e:o4 x f=0:=if_pos hf
   refine aG (by omega) ?_
   have e2:sT x f=dB x f:=if_pos e
   rw [e,e2]
   exact a2L rfl
theorem a3S (h:yO m Q):Con Tryz.prog 29 [.imm (eL eS) m] Q:=by
 obtain ⟨ht,hq⟩:=h
 refine aU (gn:=fnT Tryz.f29) (by kernel_rfl) aPX (inl:=[]) (LT:=aO9) (NT:=aPA) rfl fun n0=>?_
 rw [a2Z]
 unfold e9 at hq
 by_cases h1:12<m.length
 · rw [if_pos h1] at hq
   exact aC (by omega) (cL hq)
 rw [if_neg h1] at hq
 refine aG (by omega) ⟨ht,?_⟩
 by_cases h2:eZ m=0
 · rw [if_neg (fun h=>h h2)] at hq
   refine aR (aC h2 ?_)
   by_cases h3:wide m=0
   · rw [if_pos h3] at hq
     exact aC (by omega) (cL hq)
   rw [if_neg h3] at hq
   have hpos:0<m.length:=by
    rcases Nat.eq_zero_or_pos m.length with h0 | h0
    · rw [List.length_eq_zero_iff.1 h0] at h3
      exact absurd rfl h3
    · exact h0
   refine aG (by omega) (aC (by omega) ?_)
   by_cases h4:12<wide m
   · rw [if_pos h4] at hq
     exact aC (by unfold wide at h4; omega) (cL hq)
   · rw [if_neg h4] at hq
     exact aG (by unfold wide at h4; omega) (cL hq)
 · rw [if_pos h2] at hq
   exact aR (aG h2 (cL hq))
theorem a3T (h:yO m Q):Con Tryz.prog 8 [.imm (eL eS) m] Q:=by
 obtain ⟨ht,hq⟩:=h
 refine aU (gn:=fnT Tryz.f8) (by kernel_rfl) aPX (inl:=[]) (LT:=aPF) (NT:=aPG) rfl fun n0=>?_
 rw [a28]
 unfold e9 at hq
 by_cases h1:12<m.length
 · rw [if_pos h1] at hq
   exact aC (by omega) (cL hq)
 rw [if_neg h1] at hq
 refine aG (by omega) ⟨ht,?_⟩
 by_cases h2:eZ m=0
 · rw [if_neg (fun h=>h h2)] at hq
   refine aR (aC h2 ?_)
   by_cases h3:wide m=0
   · rw [if_pos h3] at hq
     exact aC (by omega) (cL hq)
   rw [if_neg h3] at hq
   refine aG (by omega) ?_
   by_cases h4:12<wide m
   · rw [if_pos h4] at hq
     exact aC (by omega) (cL hq)
   · rw [if_neg h4] at hq
     exact aG (by omega) (cL hq)
 · rw [if_pos h2] at hq
   exact aR (aG h2 (cL hq))
theorem a3U (h:aOY a b Q):Con Tryz.prog 20 [.imm eS a, .imm eS b] Q:=by
 obtain ⟨n,k,s,f,h,ha,hb,hnk,sf,sh,hS,hq⟩:=h
 have hal:=ha.len
 have hbl:=hb.len
 unfold SzS at hS
 have hn:n≤1000000000:=by
  have:n * 2≤n * (2 * s+2):=Nat.mul_le_mul_left _ (by omega)
  omega
 have hs:0<n→s≤1000000000:=fun h0=>by
  have:1 * (2 * s+2)≤n * (2 * s+2):=Nat.mul_le_mul_right _ h0
  omega
 have hp:SzF (2 * s) n (fun i=>f i * h i):=fun i hi=>(a3H (sf i hi) (sh i hi)).mono (by omega)
 refine aU (gn:=fnT Tryz.f20) (by kernel_rfl) e5 (inl:=[]) (LT:=zC) (NT:=zD) rfl fun n0=>?_
 rw [a24,hal]
 have main:=cO (f:=20) (gn:=fnT Tryz.f20) (n0:=n0) (r:=3) (by kernel_rfl) e5 (inl:=[]) (LT:=zC) (NT:=zD) (K:=aO Q) (fun d:Nat=>zE a b (ratText (l5 (fun i=>f i * h i) n d)) ((n:Int) - 1 - d)) (fun d=>n - d) (fun d=>d≤n) (fun d hd ih=>by
  rw [a25]
  by_cases hdn:d<n
  · have st:=aPK hp d hd
    have hsz:d * (2 * s+1)+1≤4000000000:=by
        have:d * (2 * s+1)≤n * (2 * s+2):=Nat.mul_le_mul (by omega) (by omega)
        omega
    have hs' := hs (by omega)
    have i1:((n:Int) - 1 - d).toNat=n - 1 - d:=by omega
    refine aC (by omega) (aN (aC (by omega) (aC (by omega) (aN (aC (by omega) (aC (by omega) ?_))))))
    rw [i1,wr (by omega) (by omega)]
    refine ⟨_,_,ha.at_ _ (by omega),hb.at_ _ (by omega),(sf _ (by omega)).mono (by omega),(sh _ (by omega)).mono (by omega),_,_,rfl,rfl,(hp _ (by omega)).mono (by omega),st.mono (by omega),?_⟩
    have ih' := ih (d+1) (by omega) (by omega)
    rw [show (n:Int) - 1 - d - 1=(n:Int) - 1 - ((d+1:Nat):Int) by omega]
    exact ih'
  · have hdd:d=n:=by omega
    subst hdd
    refine aG (by omega) (iJ ?_)
    have:=aPJ (fun i=>f i * h i) d d (Nat.le_refl _)
    rw [Nat.sub_self] at this
    have h0:bY (fun i=>f i * h i) 0=0:=rfl
    rw [h0,Rat.zero_add] at this
    rw [this]
    exact hq)
 have:=main 0 (Nat.zero_le _)
 rw [wr (by omega) (by omega)]
 have h0:l5 (fun i=>f i * h i) n 0=0:=rfl
 simp only [h0,xX] at this
 rw [show (n:Int) - 1 - ((0:Nat):Int)=(n:Int) - 1 by omega] at this
 exact this
theorem a3V {k x:Nat} (hx:x<m.length):gE (m.take (x+1)) k=gE (m.take x) k ++ [(m.getD x []).getD k b0]:=by
 unfold gE
 rw [List.take_succ_eq_append_getElem hx,List.map_append,List.getD_eq_getElem?_getD (l:=m),List.getElem?_eq_getElem hx]; rfl
theorem a3W {k:Int} (h:xcolS m k Q):Con Tryz.prog 21 [.imm (eL eS) m, .int .i64 k] Q:=by
 obtain ⟨j,rfl,hn,hr,hq⟩:=h
 unfold TxN at hn
 refine nX (e:=eS) (l:=gE m j) ?_ hq
 refine aU (gn:=fnT Tryz.f21) (by kernel_rfl) e5 (inl:=[]) (LT:=zF) (NT:=zG) rfl fun n0=>?_
 rw [a26]
 refine cO (f:=21) (gn:=fnT Tryz.f21) (n0:=n0) (r:=3) (by kernel_rfl) e5 (inl:=[]) (LT:=zF) (NT:=zG) (K:=aO fun v o=>v = .own 0∧∃ fz,o=[.typed eS (gE m j) fz]) (fun x:Nat=>zH m (j:Int) (m.length:Int) (x:Int) (gE (m.take x) j)) (fun x=>m.length - x) (fun x=>x≤m.length) (fun x hp ih=>?_) 0 (Nat.zero_le _)
 rw [a27]
 by_cases hx:x<m.length
 · obtain ⟨r1,r2⟩:=hr _ (gC (d:=[]) hx)
   have ih' := ih (x+1) (by omega) (by omega)
   rw [a3V hx] at ih'
   refine aC (by omega) (aN (aC (by omega) (aC (by omega) ?_)))
   rw [Int.toNat_natCast,Int.toNat_natCast,wrS hx (by omega)]
   refine aN (aC (by omega) (aC (by omega) (aQ (sY (zN (n:=x) (by unfold gE; rw [List.length_map,List.length_take]; omega) (by omega)) (by decide)) ih')))
 · refine aG (by omega) ?_
   rw [List.take_of_length_le (by omega)]
   exact jO rfl ⟨rfl,false,rfl⟩
theorem a3X {l:List (List ByteArray)} (h:aOZ l Q):Con Tryz.prog 6 [.imm (eL eS) l] Q:=by
 obtain ⟨⟨hl,hr⟩,hq⟩:=h
 refine aU (gn:=fnT Tryz.f6) (by kernel_rfl) e5 (inl:=[]) (LT:=o7) (NT:=o8) rfl fun n0=>?_
 rw [a29]
 refine cO (f:=6) (gn:=fnT Tryz.f6) (n0:=n0) (r:=3) (by kernel_rfl) e5 (inl:=[]) (LT:=o7) (NT:=o8) (K:=aO Q) (fun y:Int × Nat=>sW l y.1 (l.length:Int) (y.2:Int)) (fun y=>l.length - y.2) (fun y=>y.2≤l.length) (fun y hp ih=>?_) (0,0) (Nat.zero_le _)
 obtain ⟨n,x⟩:=y
 simp only at hp
 show aH _ _ _ _ _ _ (sW l n (l.length:Int) (x:Int))
 rw [a3A]
 by_cases hx:x<l.length
 · refine aC (by omega) (aN (aC (by omega) (aC (by omega) ?_)))
   rw [Int.toNat_natCast]
   have hrr:=hr _ (gC (d:=[]) hx)
   generalize l.getD x []=r at hrr
   refine cO (f:=6) (gn:=fnT Tryz.f6) (n0:=n0) (r:=6) (by kernel_rfl) e5 (inl:=[]) (LT:=o7) (NT:=o8) (K:=aO Q) (fun y:Int × Nat=>sX l y.1 (l.length:Int) (x:Int) r (r.length:Int) (y.2:Int)) (fun y=>r.length - y.2) (fun y=>y.2≤r.length) (fun y hp ih2=>?_) (n,0) (Nat.zero_le _)
   obtain ⟨m,k⟩:=y
   simp only at hp
   show aH _ _ _ _ _ _ (sX l m (l.length:Int) (x:Int) r (r.length:Int) (k:Int))
   rw [a3B]
   by_cases hk:k<r.length
   · refine aC (by omega) (aN (aC (by omega) (aC (by omega) ?_)))
     rw [wrS hk (by omega)]
     exact ih2 (_,k+1) (by show k+1≤r.length; omega) (by show r.length - (k+1)<r.length - k; omega)
   · refine aG (by omega) ?_
     rw [wrS hx (by omega)]
     exact ih (_,x+1) (by show x+1≤l.length; omega) (by show l.length - (x+1)<l.length - x; omega)
 · exact aG (by omega) (cL (hq _))
theorem aP1 {α:Type} {d:α} {l:List α} {x:Nat} (hx:x<l.length):l.drop x=l.getD x d :: l.drop (x+1):=by
 rw [List.drop_eq_getElem_cons hx,List.getD_eq_getElem?_getD,List.getElem?_eq_getElem hx]; rfl
theorem a3Y {n:Int} {ms:List (List (List ByteArray))} (h:aO2 n ms Q):Con Tryz.prog 9 [.int .i64 n, .imm (eL (eL eS)) ms] Q:=by
 obtain ⟨⟨hl,hm⟩,hq⟩:=h
 have hk:∀ b H,iK n ms=b→aO Q (.bool b) H:=fun b H h=>by rw [h] at hq; exact aOL hq
 refine aU (gn:=fnT Tryz.f9) (by kernel_rfl) e5 (inl:=[35]) (LT:=o9) (NT:=pA) rfl fun n0=>?_
 rw [a3E]
 refine cO (f:=9) (gn:=fnT Tryz.f9) (n0:=n0) (r:=2) (by kernel_rfl) e5 (inl:=[35]) (LT:=o9) (NT:=pA) (K:=aO Q) (fun x:Nat=>zL n ms (ms.length:Int) (x:Int)) (fun x=>ms.length - x) (fun x=>x≤ms.length∧iK n ms=(ms.drop x).any (o6 n)) (fun x hp ih=>?_) 0 ⟨Nat.zero_le _,by rw [List.drop_zero]; rfl⟩
 obtain ⟨hp,he⟩:=hp
 rw [a3F]
 by_cases hx:x<ms.length
 · obtain ⟨m1,m2⟩:=hm _ (gC (d:=[]) hx)
   rw [aP1 (d:=[]) hx,List.any_cons] at he
   refine aC (by omega) (aN (aC (by omega) (aC (by omega) ?_)))
   rw [Int.toNat_natCast]
   generalize ms.getD x []=m at m1 m2 he
   by_cases h1:(m.length:Int) > n
   · exact aC h1 (hk _ _ (by rw [he]; unfold o6; rw [decide_eq_true h1]; rfl))
   refine aG h1 ?_
   refine cO (f:=9) (gn:=fnT Tryz.f9) (n0:=n0) (r:=7) (by kernel_rfl) e5 (inl:=[35]) (LT:=o9) (NT:=pA) (K:=aO Q) (fun k:Nat=>zM n ms (ms.length:Int) (x:Int) m (m.length:Int) (k:Int)) (fun k=>m.length - k) (fun k=>k≤m.length∧iK n ms=((m.drop k).any (o5 n) || (ms.drop (x+1)).any (o6 n))) (fun k hp2 ih2=>?_) 0 ⟨Nat.zero_le _,by rw [List.drop_zero,he]; unfold o6; rw [decide_eq_false h1]; rfl⟩
   obtain ⟨hp2,he2⟩:=hp2
   rw [a3G]
   by_cases hk2:k<m.length
   · have hr:=(m2 _ (gC (d:=[]) hk2)).1
     rw [aP1 (d:=[]) hk2,List.any_cons] at he2
     refine aC (by omega) (aN (aC (by omega) (aC (by omega) ?_)))
     rw [Int.toNat_natCast,wrS hk2 (by omega)]
     generalize m.getD k []=v at hr he2
     by_cases h2:(v.length:Int) > n
     · exact aC h2 (hk _ _ (by rw [he2]; unfold o5; rw [decide_eq_true h2]; rfl))
     refine aG h2 ⟨hr,?_⟩
     rw [cond_false]
     by_cases h3:lZ 12 v ≥ 0
     · exact aC h3 (hk _ _ (by rw [he2]; unfold o5; rw [decide_eq_true h3,Bool.or_true]; rfl))
     · refine aG h3 (ih2 (k+1) ⟨by omega,?_⟩ (by omega))
       rw [he2]
       unfold o5
       rw [decide_eq_false h2,decide_eq_false h3]; rfl
   · rw [List.drop_eq_nil_of_le (by omega)] at he2
     refine aG (by omega) ?_
     rw [wrS hx (by omega)]
     exact ih (x+1) ⟨by omega,he2⟩ (by omega)
 · rw [List.drop_eq_nil_of_le (by omega)] at he
   exact aG (by omega) (hk _ _ he)
theorem a3Z {k:Nat} {v:List ByteArray} (h:¬ lZ k v ≥ 0):∀ s∈v,s.size≤k:=fun s hs=>Nat.le_of_not_lt fun hc=>by
 unfold lZ at h
 cases hf:v.findIdx? fun s=>decide (k<s.size) with
 | none =>
   have:=List.findIdx?_eq_none_iff.1 hf s hs
   simp at this
   omega
 | some i =>
   rw [hf] at h
   simp at h
theorem a30 {n:Int} {ms:List (List (List ByteArray))} (h:iK n ms=false):∀ m∈ms,(m.length:Int)≤n∧∀ v∈m,(v.length:Int)≤n∧∀ s∈v,s.size≤12:=fun m hm=>by
 have h1:=List.any_eq_false.1 h m hm
 unfold o6 at h1
 simp only [Bool.or_eq_true,decide_eq_true_eq,not_or] at h1
 refine ⟨by omega,fun v hv=>?_⟩
 have h2:=List.any_eq_false.1 (Bool.eq_false_iff.2 h1.2) v hv
 unfold o5 at h2
 simp only [Bool.or_eq_true,decide_eq_true_eq,not_or] at h2
 exact ⟨by omega,a3Z h2.2⟩
end
end
section
def fA (n w:Nat) (x:Int × Int):Bool:=decide (0≤x.1) && decide (x.1<n) && decide (0≤x.2) && decide (x.2<w)
noncomputable def cP (m:List (List ByteArray)) (l:List (Int × Int)):Int:=if e9 m≠0 then e9 m else if 200<l.length then 2 else if ∀ t,t<l.length→fA m.length (wide m) (l.getD t p0)=true then 0 else 4
def dQ (F:Nat→Nat→Rat) (l:List (Int × Int)) (x i:Nat):Rat:=bY (fun t=>F i (l.getD t p0).2.toNat) x
def d6 (F:Nat→Nat→Rat) (l:List (Int × Int)) (x k:Nat):Rat:=bY (fun t=>F (l.getD t p0).1.toNat k) x
def TxP (n:Nat):Prop:=n≤1000000000000000000
def s7 (m:List (List ByteArray)) (l:List (Int × Int)) (Q:Res):Prop:=(TxM m∧TxP l.length)∧Q (.int .i64 (cP m l)) []
structure aEV (g:List (List QT)) (l:List (Int × Int)) (n w:Nat) (F:Nat→Nat→Rat):Prop where
 g:GF g n w F
 n0:0<n
 w0:0<w
 n12:n≤12
 w12:w≤12
 sz:∀ i k,i<n→k<w→Sz 2000 (F i k)
 l200:l.length≤200
 at_:∀ t,t<l.length→fA n w (l.getD t p0)=true
def aP2 (g:List (List QT)) (l:List (Int × Int)) (Q:Res):Prop:=∃ (n w:Nat) (F:Nat→Nat→Rat),aEV g l n w F∧∀ zr zc:List QT,QF zr n (dQ F l l.length)→QF zc w (d6 F l l.length)→Q (.tup [.own 0, .own 1]) [.typed eQ zr false, .typed eQ zc false]
def kP (p:Nat→Bool):Nat→Nat
 | 0=>0
 | n+1=>if p n=true then kP p n+1 else kP p n
def dR (l:List (Int × Int)) (x i:Nat):Nat:=kP (fun t=>decide ((l.getD t p0).1=(i:Int))) x
def dJ (l:List (Int × Int)) (x k:Nat):Nat:=kP (fun t=>decide ((l.getD t p0).2=(k:Int))) x
noncomputable def cY (m:List (List ByteArray)) (l:List (Int × Int)):Int:=if cP m l≠0 then cP m l else if l.length=0 then 8 else 0
def eF (c T:Nat):Rat:=(((c:Nat):Int):Rat) / (((T:Nat):Int):Rat)
noncomputable def d7 (m:List (List ByteArray)) (l:List (Int × Int)):List ByteArray:=if cY m l=0 then dB m.length (fun i=>eF (dR l l.length i) l.length) else []
noncomputable def dT (m:List (List ByteArray)) (l:List (Int × Int)):List ByteArray:=if cY m l=0 then dB (wide m) (fun k=>eF (dJ l l.length k) l.length) else []
def avgS (m:List (List ByteArray)) (l:List (Int × Int)) (Q:Res):Prop:=(TxM m∧TxP l.length)∧Q (.tup [.imm eS (d7 m l), .imm eS (dT m l), .int .i64 (cY m l)]) []
noncomputable def dC (f:Nat→Rat):Nat→Rat
 | 0=>f 0
 | x+1=>if 0<sgn (f x - dC f x) then f x else dC f x
noncomputable def dF (f:Nat→Rat):Nat→Rat
 | 0=>f 0
 | x+1=>if sgn (f x - dF f x)<0 then f x else dF f x
noncomputable def fR (m:List (List ByteArray)) (l:List (Int × Int)):Rat:=dF (d6 (ent m) l l.length) (wide m) / (((l.length:Nat):Int):Rat)
noncomputable def gP (m:List (List ByteArray)) (l:List (Int × Int)):Rat:=dC (dQ (ent m) l l.length) m.length / (((l.length:Nat):Int):Rat)
noncomputable def d8 (m:List (List ByteArray)) (l:List (Int × Int)):Int:=if cY m l≠0 then cY m l else if cX (fR m l)≠0 then cX (fR m l) else cX (gP m l)
noncomputable def gQ (m:List (List ByteArray)) (l:List (Int × Int)):ByteArray:=if d8 m l=0 then ratText (fR m l) else ⟨#[]⟩
noncomputable def gR (m:List (List ByteArray)) (l:List (Int × Int)):ByteArray:=if d8 m l=0 then ratText (gP m l) else ⟨#[]⟩
def bndS (m:List (List ByteArray)) (l:List (Int × Int)) (Q:Res):Prop:=(TxM m∧TxP l.length)∧Q (.tup [.str (gQ m l), .str (gR m l), .int .i64 (d8 m l)]) []
noncomputable def iL : FuncId→List AV→Res→Prop:=cV [(29,c1 vT yO),(8,c1 vT yO),(34,c1 vT jS),(32,c2 vQ vQ xZ),(54,c1 vLS sR),(55,c1 vLS rowS),(56,c1 vQ xY),(47,c2 vQ vQ quoQ),(46,c1 vI intQ),(53,c1 vLQ aES),(30,c1 vT aER),(31,c2 vQ vQ cmpQ),(48,c1 vQ sH)]
noncomputable def zO : FuncId→List AV→Res→Prop:=cV [(28,c2 vT vP s7),(49,c2 vG vP aP2),(30,c1 vT aER),(53,c1 vLQ aES),(32,c2 vQ vQ xZ),(52,c2 vQ vQ subQ),(47,c2 vQ vQ quoQ),(31,c2 vQ vQ cmpQ),(46,c1 vI intQ),(48,c1 vQ sH),(50,c1 vQ aMX)]
def aP3 (Q:Res):Prop:=Q (.bool true) []
end
end Go.Proofs.YtehakimmioclkaaGreatDoor.Lib
end
section
set_option linter.unusedSimpArgs false
set_option linter.unusedVariables false
namespace Go.Proofs.YtehakimmioclkaaGreatDoor.Mach
open Go Go.Proofs.YtehakimmioclkaaGreatDoor Go.Proofs.YtehakimmioclkaaGreatDoor.Lib
section
def zP : List (Nat × List Nat):=[(7,[0,16,17,18])]
def zQ : List (Nat × ETy):=[(16,ETy.more (CTy.int IntKind.i64) (ETy.one (CTy.int IntKind.i64)))]
noncomputable def zR (m:List (List ByteArray)) (l:List (Int × Int)) (x0:Int) (x1:Int):St:=aS 47 [(0,AV.imm (ETy.one (CTy.slice (ETy.one CTy.str))) m),(16,AV.imm (ETy.more (CTy.int IntKind.i64) (ETy.one (CTy.int IntKind.i64))) l),(17,AV.int IntKind.i64 x0),(18,AV.int IntKind.i64 x1)] []
set_option maxRecDepth 1000000 in
theorem a31 (m:List (List ByteArray)) (l:List (Int × Int)) (n0:Nat) (K:AV→List aA→Prop) :
 aH tab (aM tab iL [] 400) (aK zP zQ (aB Tryz.prog n0 28 K)) (aI tab (fnT Tryz.f28).res K) 400 [.code (fnT Tryz.f28).body] ⟨aP (fnT Tryz.f28).n [AV.imm (ETy.one (CTy.slice (ETy.one CTy.str))) m,AV.imm (ETy.more (CTy.int IntKind.i64) (ETy.one (CTy.int IntKind.i64))) l],[]⟩ =
 (TxM m∧bif !decide (e9 m=0) then K (AV.int IntKind.i64 (e9 m)) [] else bif decide ((↑l.length:Int) > 200) then K (AV.int IntKind.i64 2) [] else aB Tryz.prog n0 28 K (aE (fnT Tryz.f28) 7) (zR m l (↑l.length:Int) 0)):=by kernel_rfl
set_option maxRecDepth 1000000 in
theorem a32 (m:List (List ByteArray)) (l:List (Int × Int)) (x0:Int) (x1:Int) (n0:Nat) (K:AV→List aA→Prop) :
 aH tab (aM tab iL [] 400) (aK zP zQ (aB Tryz.prog n0 28 K)) (aI tab (fnT Tryz.f28).res K) 400 (aT (fnT Tryz.f28) 7) (zR m l x0 x1) =
 (bif decide (x1<x0) then bif decide (0≤x1) && decide (x1<(↑l.length:Int)) then bif decide ([(l.getD x1.toNat (0,0)).1,(l.getD x1.toNat (0,0)).2].getD 0 0<0) then K (AV.int IntKind.i64 4) [aA.typed (ETy.one (CTy.int IntKind.i64)) [(l.getD x1.toNat (0,0)).1,(l.getD x1.toNat (0,0)).2] false] else bif bif false then true else decide ([(l.getD x1.toNat (0,0)).1,(l.getD x1.toNat (0,0)).2].getD 0 0 ≥ (↑m.length:Int)) then K (AV.int IntKind.i64 4) [aA.typed (ETy.one (CTy.int IntKind.i64)) [(l.getD x1.toNat (0,0)).1,(l.getD x1.toNat (0,0)).2] false] else bif bif false then true else decide ([(l.getD x1.toNat (0,0)).1,(l.getD x1.toNat (0,0)).2].getD 1 0<0) then K (AV.int IntKind.i64 4) [aA.typed (ETy.one (CTy.int IntKind.i64)) [(l.getD x1.toNat (0,0)).1,(l.getD x1.toNat (0,0)).2] false] else bif decide (0<(↑m.length:Int)) then bif bif false then true else decide ([(l.getD x1.toNat (0,0)).1,(l.getD x1.toNat (0,0)).2].getD 1 0 ≥ (↑(List.length (m.getD 0 [])):Int)) then K (AV.int IntKind.i64 4) [aA.typed (ETy.one (CTy.int IntKind.i64)) [(l.getD x1.toNat (0,0)).1,(l.getD x1.toNat (0,0)).2] false] else aB Tryz.prog n0 28 K (aE (fnT Tryz.f28) 7) (zR m l x0 (IntKind.i64.wrap (x1+1))) else False else False else K (AV.int IntKind.i64 0) []):=by kernel_rfl
def zS : List (Nat × List Nat):=[(7,[0,16,17,18])]
def zT : List (Nat × ETy):=[(16,ETy.more (CTy.int IntKind.i64) (ETy.one (CTy.int IntKind.i64)))]
noncomputable def zU (m:List (List ByteArray)) (l:List (Int × Int)) (x0:Int) (x1:Int):St:=aS 45 [(0,AV.imm (ETy.one (CTy.slice (ETy.one CTy.str))) m),(16,AV.imm (ETy.more (CTy.int IntKind.i64) (ETy.one (CTy.int IntKind.i64))) l),(17,AV.int IntKind.i64 x0),(18,AV.int IntKind.i64 x1)] []
set_option maxRecDepth 1000000 in
theorem a33 (m:List (List ByteArray)) (l:List (Int × Int)) (n0:Nat) (K:AV→List aA→Prop) :
 aH tab (aM tab iL [] 400) (aK zS zT (aB Tryz.prog n0 16 K)) (aI tab (fnT Tryz.f16).res K) 400 [.code (fnT Tryz.f16).body] ⟨aP (fnT Tryz.f16).n [AV.imm (ETy.one (CTy.slice (ETy.one CTy.str))) m,AV.imm (ETy.more (CTy.int IntKind.i64) (ETy.one (CTy.int IntKind.i64))) l],[]⟩ =
 (TxM m∧bif !decide (e9 m=0) then K (AV.int IntKind.i64 (e9 m)) [] else bif decide ((↑l.length:Int) > 200) then K (AV.int IntKind.i64 2) [] else aB Tryz.prog n0 16 K (aE (fnT Tryz.f16) 7) (zU m l (↑l.length:Int) 0)):=by kernel_rfl
set_option maxRecDepth 1000000 in
theorem a34 (m:List (List ByteArray)) (l:List (Int × Int)) (x0:Int) (x1:Int) (n0:Nat) (K:AV→List aA→Prop) :
 aH tab (aM tab iL [] 400) (aK zS zT (aB Tryz.prog n0 16 K)) (aI tab (fnT Tryz.f16).res K) 400 (aT (fnT Tryz.f16) 7) (zU m l x0 x1) =
 (bif decide (x1<x0) then bif decide (0≤x1) && decide (x1<(↑l.length:Int)) then bif decide ([(l.getD x1.toNat (0,0)).1,(l.getD x1.toNat (0,0)).2].getD 0 0<0) then K (AV.int IntKind.i64 4) [aA.typed (ETy.one (CTy.int IntKind.i64)) [(l.getD x1.toNat (0,0)).1,(l.getD x1.toNat (0,0)).2] false] else bif bif false then true else decide ([(l.getD x1.toNat (0,0)).1,(l.getD x1.toNat (0,0)).2].getD 0 0 ≥ (↑m.length:Int)) then K (AV.int IntKind.i64 4) [aA.typed (ETy.one (CTy.int IntKind.i64)) [(l.getD x1.toNat (0,0)).1,(l.getD x1.toNat (0,0)).2] false] else bif bif false then true else decide ([(l.getD x1.toNat (0,0)).1,(l.getD x1.toNat (0,0)).2].getD 1 0<0) then K (AV.int IntKind.i64 4) [aA.typed (ETy.one (CTy.int IntKind.i64)) [(l.getD x1.toNat (0,0)).1,(l.getD x1.toNat (0,0)).2] false] else bif bif false then true else decide ([(l.getD x1.toNat (0,0)).1,(l.getD x1.toNat (0,0)).2].getD 1 0 ≥ (↑(wide m):Int)) then K (AV.int IntKind.i64 4) [aA.typed (ETy.one (CTy.int IntKind.i64)) [(l.getD x1.toNat (0,0)).1,(l.getD x1.toNat (0,0)).2] false] else aB Tryz.prog n0 16 K (aE (fnT Tryz.f16) 7) (zU m l x0 (IntKind.i64.wrap (x1+1))) else False else K (AV.int IntKind.i64 0) []):=by kernel_rfl
def kQ : List (Nat × List Nat):=[(3,[0,6,7,20,21,22]),(6,[0,6,7,9,20,21,22,27,28]),(11,[0,6,7,9,20,21,22,49,50])]
def kR : List (Nat × ETy):=[(6,ETy.more CTy.bool (ETy.more (CTy.slice (ETy.one (CTy.int IntKind.u32))) (ETy.one (CTy.slice (ETy.one (CTy.int IntKind.u32)))))),(7,ETy.more CTy.bool (ETy.more (CTy.slice (ETy.one (CTy.int IntKind.u32))) (ETy.one (CTy.slice (ETy.one (CTy.int IntKind.u32)))))),(20,ETy.more (CTy.int IntKind.i64) (ETy.one (CTy.int IntKind.i64)))]
noncomputable def l6 (g:List (List (Bool × List Int × List Int))) (l:List (Int × Int)) (x0:Int) (x1:Int) (x2:List (Bool × List Int × List Int)) (x3:List (Bool × List Int × List Int)):St:=aS 73 [(0,AV.imm (ETy.one (CTy.slice (ETy.more CTy.bool (ETy.more (CTy.slice (ETy.one (CTy.int IntKind.u32))) (ETy.one (CTy.slice (ETy.one (CTy.int IntKind.u32)))))))) g),(6,AV.own 0),(7,AV.own 1),(20,AV.imm (ETy.more (CTy.int IntKind.i64) (ETy.one (CTy.int IntKind.i64))) l),(21,AV.int IntKind.i64 x0),(22,AV.int IntKind.i64 x1)] [aA.typed (ETy.more CTy.bool (ETy.more (CTy.slice (ETy.one (CTy.int IntKind.u32))) (ETy.one (CTy.slice (ETy.one (CTy.int IntKind.u32)))))) x2 false,aA.typed (ETy.more CTy.bool (ETy.more (CTy.slice (ETy.one (CTy.int IntKind.u32))) (ETy.one (CTy.slice (ETy.one (CTy.int IntKind.u32)))))) x3 false]
noncomputable def s8 (g:List (List (Bool × List Int × List Int))) (l:List (Int × Int)) (x0:Int) (x1:Int) (x2:Int) (x3:Int) (x4:List (Bool × List Int × List Int)) (x5:List (Bool × List Int × List Int)) (x6:List Int):St:=aS 73 [(0,AV.imm (ETy.one (CTy.slice (ETy.more CTy.bool (ETy.more (CTy.slice (ETy.one (CTy.int IntKind.u32))) (ETy.one (CTy.slice (ETy.one (CTy.int IntKind.u32)))))))) g),(6,AV.own 0),(7,AV.own 1),(9,AV.parr 2),(20,AV.imm (ETy.more (CTy.int IntKind.i64) (ETy.one (CTy.int IntKind.i64))) l),(21,AV.int IntKind.i64 x0),(22,AV.int IntKind.i64 x1),(27,AV.int IntKind.i64 x2),(28,AV.int IntKind.i64 x3)] [aA.typed (ETy.more CTy.bool (ETy.more (CTy.slice (ETy.one (CTy.int IntKind.u32))) (ETy.one (CTy.slice (ETy.one (CTy.int IntKind.u32)))))) x4 false,aA.typed (ETy.more CTy.bool (ETy.more (CTy.slice (ETy.one (CTy.int IntKind.u32))) (ETy.one (CTy.slice (ETy.one (CTy.int IntKind.u32)))))) x5 false,aA.typed (ETy.one (CTy.int IntKind.i64)) x6 false]
noncomputable def s9 (g:List (List (Bool × List Int × List Int))) (l:List (Int × Int)) (x0:Int) (x1:Int) (x2:Int) (x3:Int) (x4:List (Bool × List Int × List Int)) (x5:List (Bool × List Int × List Int)) (x6:List Int):St:=aS 73 [(0,AV.imm (ETy.one (CTy.slice (ETy.more CTy.bool (ETy.more (CTy.slice (ETy.one (CTy.int IntKind.u32))) (ETy.one (CTy.slice (ETy.one (CTy.int IntKind.u32)))))))) g),(6,AV.own 0),(7,AV.own 1),(9,AV.parr 2),(20,AV.imm (ETy.more (CTy.int IntKind.i64) (ETy.one (CTy.int IntKind.i64))) l),(21,AV.int IntKind.i64 x0),(22,AV.int IntKind.i64 x1),(49,AV.int IntKind.i64 x2),(50,AV.int IntKind.i64 x3)] [aA.typed (ETy.more CTy.bool (ETy.more (CTy.slice (ETy.one (CTy.int IntKind.u32))) (ETy.one (CTy.slice (ETy.one (CTy.int IntKind.u32)))))) x4 false,aA.typed (ETy.more CTy.bool (ETy.more (CTy.slice (ETy.one (CTy.int IntKind.u32))) (ETy.one (CTy.slice (ETy.one (CTy.int IntKind.u32)))))) x5 false,aA.typed (ETy.one (CTy.int IntKind.i64)) x6 false]
set_option maxRecDepth 1000000 in
theorem a35 (g:List (List (Bool × List Int × List Int))) (l:List (Int × Int)) (n0:Nat) (K:AV→List aA→Prop) :
 aH tab (aM tab iL [] 400) (aK kQ kR (aB Tryz.prog n0 49 K)) (aI tab (fnT Tryz.f49).res K) 400 [.code (fnT Tryz.f49).body] ⟨aP (fnT Tryz.f49).n [AV.imm (ETy.one (CTy.slice (ETy.more CTy.bool (ETy.more (CTy.slice (ETy.one (CTy.int IntKind.u32))) (ETy.one (CTy.slice (ETy.one (CTy.int IntKind.u32)))))))) g,AV.imm (ETy.more (CTy.int IntKind.i64) (ETy.one (CTy.int IntKind.i64))) l],[]⟩ =
 (bif decide (0<(↑g.length:Int)) then (bif decide (0≤(↑(List.length (g.getD 0 [])):Int)) && decide ((↑(List.length (g.getD 0 [])):Int)≤(↑(List.length (g.getD 0 [])):Int)) && bif (↑(List.length (g.getD 0 [])):Int).toNat.ble 9223372036854775807 then ((↑(List.length (g.getD 0 [])):Int).toNat * 56).ble 281474976710656 else false then bif decide (0≤(↑g.length:Int)) && decide ((↑g.length:Int)≤(↑g.length:Int)) && bif (↑g.length:Int).toNat.ble 9223372036854775807 then ((↑g.length:Int).toNat * 56).ble 281474976710656 else false then aB Tryz.prog n0 49 K (aE (fnT Tryz.f49) 3) (l6 g l (↑l.length:Int) 0 (List.replicate (↑g.length:Int).toNat (false,[],[])) (List.replicate (↑(List.length (g.getD 0 [])):Int).toNat (false,[],[]))) else False else False)∧bif decide (0≤(↑g.length:Int)) && decide ((↑g.length:Int)≤(↑g.length:Int)) && bif (↑g.length:Int).toNat.ble 9223372036854775807 then ((↑g.length:Int).toNat * 56).ble 281474976710656 else false then bif decide (0≤(↑(List.length (g.getD 0 [])):Int)) && decide ((↑(List.length (g.getD 0 [])):Int)≤(↑(List.length (g.getD 0 [])):Int)) && bif (↑(List.length (g.getD 0 [])):Int).toNat.ble 9223372036854775807 then ((↑(List.length (g.getD 0 [])):Int).toNat * 56).ble 281474976710656 else false then aB Tryz.prog n0 49 K (aE (fnT Tryz.f49) 3) (l6 g l (↑l.length:Int) 0 (List.replicate (↑g.length:Int).toNat (false,[],[])) (List.replicate (↑(List.length (g.getD 0 [])):Int).toNat (false,[],[]))) else False else False else False):=by kernel_rfl
set_option maxRecDepth 1000000 in
theorem a36 (g:List (List (Bool × List Int × List Int))) (l:List (Int × Int)) (x0:Int) (x1:Int) (x2:List (Bool × List Int × List Int)) (x3:List (Bool × List Int × List Int)) (n0:Nat) (K:AV→List aA→Prop) :
 aH tab (aM tab iL [] 400) (aK kQ kR (aB Tryz.prog n0 49 K)) (aI tab (fnT Tryz.f49).res K) 400 (aT (fnT Tryz.f49) 3) (l6 g l x0 x1 x2 x3) =
 (bif decide (x1<x0) then bif decide (0≤x1) && decide (x1<(↑l.length:Int)) then aB Tryz.prog n0 49 K (aE (fnT Tryz.f49) 6) (s8 g l x0 x1 (↑x2.length:Int) 0 x2 x3 [(l.getD x1.toNat (0,0)).1,(l.getD x1.toNat (0,0)).2]) else False else K (AV.tup [AV.own 0,AV.own 1]) [aA.typed (ETy.more CTy.bool (ETy.more (CTy.slice (ETy.one (CTy.int IntKind.u32))) (ETy.one (CTy.slice (ETy.one (CTy.int IntKind.u32)))))) x2 false,aA.typed (ETy.more CTy.bool (ETy.more (CTy.slice (ETy.one (CTy.int IntKind.u32))) (ETy.one (CTy.slice (ETy.one (CTy.int IntKind.u32)))))) x3 false]):=by kernel_rfl
set_option maxRecDepth 1000000 in
theorem a37 (g:List (List (Bool × List Int × List Int))) (l:List (Int × Int)) (x0:Int) (x1:Int) (x2:Int) (x3:Int) (x4:List (Bool × List Int × List Int)) (x5:List (Bool × List Int × List Int)) (x6:List Int) (n0:Nat) (K:AV→List aA→Prop) :
 aH tab (aM tab iL [] 400) (aK kQ kR (aB Tryz.prog n0 49 K)) (aI tab (fnT Tryz.f49).res K) 400 (aT (fnT Tryz.f49) 6) (s8 g l x0 x1 x2 x3 x4 x5 x6) =
 (bif decide (x3<x2) then bif decide (0≤x3) && decide (x3<(↑x4.length:Int)) then bif decide (0≤x3) && decide (x3<(↑g.length:Int)) then bif Nat.beq 2 x6.length && decide (1<(↑x6.length:Int)) then bif decide (0≤x6.getD 1 0) && decide (x6.getD 1 0<(↑(List.length (g.getD x3.toNat [])):Int)) then ∃ x y,Sem.QV ((x4.getD x3.toNat (false,[],[])).1,(x4.getD x3.toNat (false,[],[])).2.1,(x4.getD x3.toNat (false,[],[])).2.2) x∧Sem.QV ((List.getD (g.getD x3.toNat []) (Int.toNat (x6.getD 1 0)) (false,[],[])).1,(List.getD (g.getD x3.toNat []) (Int.toNat (x6.getD 1 0)) (false,[],[])).2.1,(List.getD (g.getD x3.toNat []) (Int.toNat (x6.getD 1 0)) (false,[],[])).2.2) y∧Sz 4000000000 x∧Sz 4000000000 y∧∀ (r:Bool × List Int × List Int),Sem.QV r (x+y)→bif decide (0≤x3) && decide (x3<(↑x4.length:Int)) then aB Tryz.prog n0 49 K (aE (fnT Tryz.f49) 6) (s8 g l x0 x1 x2 (IntKind.i64.wrap (x3+1)) (x4.set x3.toNat (r.1,r.2.1,r.2.2)) x5 x6) else False else False else False else False else False else aB Tryz.prog n0 49 K (aE (fnT Tryz.f49) 11) (s9 g l x0 x1 (↑x5.length:Int) 0 x4 x5 x6)):=by kernel_rfl
set_option maxRecDepth 1000000 in
theorem a38 (g:List (List (Bool × List Int × List Int))) (l:List (Int × Int)) (x0:Int) (x1:Int) (x2:Int) (x3:Int) (x4:List (Bool × List Int × List Int)) (x5:List (Bool × List Int × List Int)) (x6:List Int) (n0:Nat) (K:AV→List aA→Prop) :
 aH tab (aM tab iL [] 400) (aK kQ kR (aB Tryz.prog n0 49 K)) (aI tab (fnT Tryz.f49).res K) 400 (aT (fnT Tryz.f49) 11) (s9 g l x0 x1 x2 x3 x4 x5 x6) =
 (bif decide (x3<x2) then bif decide (0≤x3) && decide (x3<(↑x5.length:Int)) then bif Nat.beq 2 x6.length && decide (0<(↑x6.length:Int)) then bif decide (0≤x6.getD 0 0) && decide (x6.getD 0 0<(↑g.length:Int)) then bif decide (0≤x3) && decide (x3<(↑(List.length (g.getD (Int.toNat (x6.getD 0 0)) [])):Int)) then ∃ x y,Sem.QV ((x5.getD x3.toNat (false,[],[])).1,(x5.getD x3.toNat (false,[],[])).2.1,(x5.getD x3.toNat (false,[],[])).2.2) x∧Sem.QV ((List.getD (g.getD (Int.toNat (x6.getD 0 0)) []) x3.toNat (false,[],[])).1,(List.getD (g.getD (Int.toNat (x6.getD 0 0)) []) x3.toNat (false,[],[])).2.1,(List.getD (g.getD (Int.toNat (x6.getD 0 0)) []) x3.toNat (false,[],[])).2.2) y∧Sz 4000000000 x∧Sz 4000000000 y∧∀ (r:Bool × List Int × List Int),Sem.QV r (x+y)→bif decide (0≤x3) && decide (x3<(↑x5.length:Int)) then aB Tryz.prog n0 49 K (aE (fnT Tryz.f49) 11) (s9 g l x0 x1 x2 (IntKind.i64.wrap (x3+1)) x4 (x5.set x3.toNat (r.1,r.2.1,r.2.2)) x6) else False else False else False else False else False else aB Tryz.prog n0 49 K (aE (fnT Tryz.f49) 3) (l6 g l x0 (IntKind.i64.wrap (x1+1)) x4 x5)):=by kernel_rfl
def pC : List (Nat × List Nat):=[(9,[1,9,10,11,42,43,44]),(15,[1,10,11,54,55,56])]
def pD : List (Nat × ETy):=[(9,ETy.more CTy.bool (ETy.more (CTy.slice (ETy.one (CTy.int IntKind.u32))) (ETy.one (CTy.slice (ETy.one (CTy.int IntKind.u32)))))),(42,ETy.more CTy.bool (ETy.more (CTy.slice (ETy.one (CTy.int IntKind.u32))) (ETy.one (CTy.slice (ETy.one (CTy.int IntKind.u32)))))),(54,ETy.more CTy.bool (ETy.more (CTy.slice (ETy.one (CTy.int IntKind.u32))) (ETy.one (CTy.slice (ETy.one (CTy.int IntKind.u32))))))]
noncomputable def l7 (m:List (List ByteArray)) (l:List (Int × Int)) (x0:Int) (x1:Int) (x2:List (Bool × List Int × List Int)) (x3:Bool) (x4:List Int) (x5:List Int) (x6:Bool) (x7:List Int) (x8:List Int) (x9:List (Bool × List Int × List Int)):St:=aS 91 [(1,AV.imm (ETy.more (CTy.int IntKind.i64) (ETy.one (CTy.int IntKind.i64))) l),(9,AV.own 0),(10,AV.ptr 1 0),(11,AV.ptr 2 0),(42,AV.own 3),(43,AV.int IntKind.i64 x0),(44,AV.int IntKind.i64 x1)] [aA.typed (ETy.more CTy.bool (ETy.more (CTy.slice (ETy.one (CTy.int IntKind.u32))) (ETy.one (CTy.slice (ETy.one (CTy.int IntKind.u32)))))) x2 false,aA.box [AV.bool x3,AV.imm (ETy.one (CTy.int IntKind.u32)) x4,AV.imm (ETy.one (CTy.int IntKind.u32)) x5],aA.box [AV.bool x6,AV.imm (ETy.one (CTy.int IntKind.u32)) x7,AV.imm (ETy.one (CTy.int IntKind.u32)) x8],aA.typed (ETy.more CTy.bool (ETy.more (CTy.slice (ETy.one (CTy.int IntKind.u32))) (ETy.one (CTy.slice (ETy.one (CTy.int IntKind.u32)))))) x9 false]
noncomputable def l8 (m:List (List ByteArray)) (l:List (Int × Int)) (x0:Int) (x1:Int) (x2:Bool) (x3:List Int) (x4:List Int) (x5:Bool) (x6:List Int) (x7:List Int) (x8:List (Bool × List Int × List Int)):St:=aS 91 [(1,AV.imm (ETy.more (CTy.int IntKind.i64) (ETy.one (CTy.int IntKind.i64))) l),(10,AV.ptr 0 0),(11,AV.ptr 1 0),(54,AV.own 2),(55,AV.int IntKind.i64 x0),(56,AV.int IntKind.i64 x1)] [aA.box [AV.bool x2,AV.imm (ETy.one (CTy.int IntKind.u32)) x3,AV.imm (ETy.one (CTy.int IntKind.u32)) x4],aA.box [AV.bool x5,AV.imm (ETy.one (CTy.int IntKind.u32)) x6,AV.imm (ETy.one (CTy.int IntKind.u32)) x7],aA.typed (ETy.more CTy.bool (ETy.more (CTy.slice (ETy.one (CTy.int IntKind.u32))) (ETy.one (CTy.slice (ETy.one (CTy.int IntKind.u32)))))) x8 false]
set_option maxRecDepth 1000000 in
theorem a39 (m:List (List ByteArray)) (l:List (Int × Int)) (n0:Nat) (K:AV→List aA→Prop) :
 aH tab (aM tab zO [] 400) (aK pC pD (aB Tryz.prog n0 15 K)) (aI tab (fnT Tryz.f15).res K) 400 [.code (fnT Tryz.f15).body] ⟨aP (fnT Tryz.f15).n [AV.imm (ETy.one (CTy.slice (ETy.one CTy.str))) m,AV.imm (ETy.more (CTy.int IntKind.i64) (ETy.one (CTy.int IntKind.i64))) l],[]⟩ =
 ((TxM m∧TxP l.length)∧bif !decide (cP m l=0) then K (AV.tup [AV.str (ByteArray.mk #[]),AV.str (ByteArray.mk #[]),AV.int IntKind.i64 (cP m l)]) [] else bif decide ((↑l.length:Int)=0) then K (AV.tup [AV.str (ByteArray.mk #[]),AV.str (ByteArray.mk #[]),AV.int IntKind.i64 8]) [] else eZ m=0∧∀ (g:List (List QT)),GF g m.length (wide m) (ent m)→∃ n w F,aEV g l n w F∧∀ (zr zc:List QT),QF zr n (dQ F l l.length)→QF zc w (d6 F l l.length)→bif decide (0<(↑zr.length:Int)) then bif decide (0<(↑zc.length:Int)) then aB Tryz.prog n0 15 K (aE (fnT Tryz.f15) 9) (l7 m l (↑zr.length:Int) 0 zc (zr.getD 0 (false,[],[])).1 (zr.getD 0 (false,[],[])).2.1 (zr.getD 0 (false,[],[])).2.2 (zc.getD 0 (false,[],[])).1 (zc.getD 0 (false,[],[])).2.1 (zc.getD 0 (false,[],[])).2.2 zr)∧aB Tryz.prog n0 15 K (aE (fnT Tryz.f15) 9) (l7 m l (↑zr.length:Int) 0 zc (zr.getD 0 (false,[],[])).1 (zr.getD 0 (false,[],[])).2.1 (zr.getD 0 (false,[],[])).2.2 (zc.getD 0 (false,[],[])).1 (zc.getD 0 (false,[],[])).2.1 (zc.getD 0 (false,[],[])).2.2 zr) else False else False):=by kernel_rfl
set_option maxRecDepth 1000000 in
theorem a4A (m:List (List ByteArray)) (l:List (Int × Int)) (x0:Int) (x1:Int) (x2:List (Bool × List Int × List Int)) (x3:Bool) (x4:List Int) (x5:List Int) (x6:Bool) (x7:List Int) (x8:List Int) (x9:List (Bool × List Int × List Int)) (n0:Nat) (K:AV→List aA→Prop) :
 aH tab (aM tab zO [] 400) (aK pC pD (aB Tryz.prog n0 15 K)) (aI tab (fnT Tryz.f15).res K) 400 (aT (fnT Tryz.f15) 9) (l7 m l x0 x1 x2 x3 x4 x5 x6 x7 x8 x9) =
 (bif decide (x1<x0) then bif decide (0≤x1) && decide (x1<(↑x9.length:Int)) then ∃ x y,Sem.QV ((x9.getD x1.toNat (false,[],[])).1,(x9.getD x1.toNat (false,[],[])).2.1,(x9.getD x1.toNat (false,[],[])).2.2) x∧Sem.QV (x3,x4,x5) y∧Sz 4000000000 x∧Sz 4000000000 y∧bif decide (Sem.sgn (x - y) > 0) then aB Tryz.prog n0 15 K (aE (fnT Tryz.f15) 9) (l7 m l x0 (IntKind.i64.wrap (x1+1)) x2 (x9.getD x1.toNat (false,[],[])).1 (x9.getD x1.toNat (false,[],[])).2.1 (x9.getD x1.toNat (false,[],[])).2.2 x6 x7 x8 x9) else aB Tryz.prog n0 15 K (aE (fnT Tryz.f15) 9) (l7 m l x0 (IntKind.i64.wrap (x1+1)) x2 x3 x4 x5 x6 x7 x8 x9) else False else aB Tryz.prog n0 15 K (aE (fnT Tryz.f15) 15) (l8 m l (↑x2.length:Int) 0 x3 x4 x5 x6 x7 x8 x2)):=by kernel_rfl
set_option maxRecDepth 1000000 in
theorem a4B (m:List (List ByteArray)) (l:List (Int × Int)) (x0:Int) (x1:Int) (x2:Bool) (x3:List Int) (x4:List Int) (x5:Bool) (x6:List Int) (x7:List Int) (x8:List (Bool × List Int × List Int)) (n0:Nat) (K:AV→List aA→Prop) :
 aH tab (aM tab zO [] 400) (aK pC pD (aB Tryz.prog n0 15 K)) (aI tab (fnT Tryz.f15).res K) 400 (aT (fnT Tryz.f15) 15) (l8 m l x0 x1 x2 x3 x4 x5 x6 x7 x8) =
 (bif decide (x1<x0) then bif decide (0≤x1) && decide (x1<(↑x8.length:Int)) then ∃ x y,Sem.QV ((x8.getD x1.toNat (false,[],[])).1,(x8.getD x1.toNat (false,[],[])).2.1,(x8.getD x1.toNat (false,[],[])).2.2) x∧Sem.QV (x5,x6,x7) y∧Sz 4000000000 x∧Sz 4000000000 y∧bif decide (Sem.sgn (x - y)<0) then aB Tryz.prog n0 15 K (aE (fnT Tryz.f15) 15) (l8 m l x0 (IntKind.i64.wrap (x1+1)) x2 x3 x4 (x8.getD x1.toNat (false,[],[])).1 (x8.getD x1.toNat (false,[],[])).2.1 (x8.getD x1.toNat (false,[],[])).2.2 x8) else aB Tryz.prog n0 15 K (aE (fnT Tryz.f15) 15) (l8 m l x0 (IntKind.i64.wrap (x1+1)) x2 x3 x4 x5 x6 x7 x8) else False else lT (↑l.length:Int)∧∀ (r:Bool × List Int × List Int),Sem.QV r (↑(↑l.length:Int):Rat)→∃ x y,Sem.QV (x5,x6,x7) x∧Sem.QV (r.1,r.2.1,r.2.2) y∧Sz 4000000000 x∧Sz 4000000000 y∧∀ (r_1:Bool × List Int × List Int),Sem.QV r_1 (x / y)→∃ q,Sem.QV (r_1.1,r_1.2.1,r_1.2.2) q∧Sz 9000000000 q∧bif !decide (cX q=0) then K (AV.tup [AV.str (ByteArray.mk #[]),AV.str (ByteArray.mk #[]),AV.int IntKind.i64 (cX q)]) [aA.box [AV.bool x2,AV.imm (ETy.one (CTy.int IntKind.u32)) x3,AV.imm (ETy.one (CTy.int IntKind.u32)) x4],aA.box [AV.bool x5,AV.imm (ETy.one (CTy.int IntKind.u32)) x6,AV.imm (ETy.one (CTy.int IntKind.u32)) x7],aA.typed (ETy.more CTy.bool (ETy.more (CTy.slice (ETy.one (CTy.int IntKind.u32))) (ETy.one (CTy.slice (ETy.one (CTy.int IntKind.u32)))))) x8 false,aA.box [AV.bool r.1,AV.imm (ETy.one (CTy.int IntKind.u32)) r.2.1,AV.imm (ETy.one (CTy.int IntKind.u32)) r.2.2]] else ∃ x y,Sem.QV (x2,x3,x4) x∧Sem.QV (r.1,r.2.1,r.2.2) y∧Sz 4000000000 x∧Sz 4000000000 y∧∀ (r_2:Bool × List Int × List Int),Sem.QV r_2 (x / y)→∃ q_1,Sem.QV (r_2.1,r_2.2.1,r_2.2.2) q_1∧Sz 9000000000 q_1∧bif !decide (cX q_1=0) then K (AV.tup [AV.str (ByteArray.mk #[]),AV.str (ByteArray.mk #[]),AV.int IntKind.i64 (cX q_1)]) [aA.box [AV.bool x2,AV.imm (ETy.one (CTy.int IntKind.u32)) x3,AV.imm (ETy.one (CTy.int IntKind.u32)) x4],aA.box [AV.bool x5,AV.imm (ETy.one (CTy.int IntKind.u32)) x6,AV.imm (ETy.one (CTy.int IntKind.u32)) x7],aA.typed (ETy.more CTy.bool (ETy.more (CTy.slice (ETy.one (CTy.int IntKind.u32))) (ETy.one (CTy.slice (ETy.one (CTy.int IntKind.u32)))))) x8 false,aA.box [AV.bool r.1,AV.imm (ETy.one (CTy.int IntKind.u32)) r.2.1,AV.imm (ETy.one (CTy.int IntKind.u32)) r.2.2]] else K (AV.tup [AV.str (kL q),AV.str (kL q_1),AV.int IntKind.i64 0]) [aA.box [AV.bool x2,AV.imm (ETy.one (CTy.int IntKind.u32)) x3,AV.imm (ETy.one (CTy.int IntKind.u32)) x4],aA.box [AV.bool x5,AV.imm (ETy.one (CTy.int IntKind.u32)) x6,AV.imm (ETy.one (CTy.int IntKind.u32)) x7],aA.typed (ETy.more CTy.bool (ETy.more (CTy.slice (ETy.one (CTy.int IntKind.u32))) (ETy.one (CTy.slice (ETy.one (CTy.int IntKind.u32)))))) x8 false,aA.box [AV.bool r.1,AV.imm (ETy.one (CTy.int IntKind.u32)) r.2.1,AV.imm (ETy.one (CTy.int IntKind.u32)) r.2.2]]):=by kernel_rfl
end
end Go.Proofs.YtehakimmioclkaaGreatDoor.Mach
end
section
set_option linter.unusedSimpArgs false
set_option linter.unusedVariables false
namespace Go.Proofs.YtehakimmioclkaaGreatDoor.Lib
open Go Go.Proofs.YtehakimmioclkaaGreatDoor.Mach Go.Proofs.YtehakimmioclkaaGreatDoorW.PrintWords Go.Proofs.YtehakimmioclkaaGreatDoor.Sem Go.Proofs.YtehakimmioclkaaGreatDoor.Pure
section
section
variable {A B:Prop}
theorem pE {p:Prop} {i:Decidable p} (h:p) (a:A):bif (bif false then true else decide p) then A else B:=by rw [cond_false]; exact aC h a
theorem pF {p:Prop} {i:Decidable p} (h:¬ p) (b:B):bif (bif false then true else decide p) then A else B:=by rw [cond_false]; exact aG h b
theorem cZ {x n:Nat} (h:x<n) (a:A):bif decide ((0:Int)≤(x:Int)) && decide ((x:Int)<(n:Int)) then A else False:=aN (aC (by omega) (aC (by omega) a))
theorem aP4 {x:Int} {n:Nat} (h0:0≤x) (h:x<n) (a:A):bif decide ((0:Int)≤x) && decide (x<(n:Int)) then A else False:=aN (aC h0 (aC h a))
end
theorem pG {n b:Nat} (h:n≤1000000000001) (hb:b≤100):(decide ((0:Int)≤(n:Int)) && decide ((n:Int)≤(n:Int)) && (bif (n:Int).toNat.ble 9223372036854775807 then ((n:Int).toNat * b).ble 281474976710656 else false))=true:=by
 rw [Int.toNat_natCast,(eH _ _).2 (show n≤9223372036854775807 by omega),decide_eq_true (show (0:Int)≤(n:Int) by omega),decide_eq_true (Int.le_refl _)]
 exact (eH _ _).2 (Nat.le_trans (Nat.mul_le_mul h hb) (by decide))
theorem QF.congr {zs:List QT} {n:Nat} {f g:Nat→Rat} (h:QF zs n f) (hfg:∀ i,i<n→f i=g i):QF zs n g:=⟨h.len,fun i hi=>by rw [← hfg i hi]; exact h.at_ i hi⟩
theorem QF.set {zs:List QT} {n:Nat} {f:Nat→Rat} (h:QF zs n f) {i:Nat} {z:QT} {q:Rat} (hz:QV z q):QF (zs.set i z) n (fun j=>if j=i then q else f j) :=
 ⟨by rw [List.length_set]; exact h.len,fun j hj=>by
  rw [List.getD_eq_getElem?_getD,List.getElem?_set]
  by_cases hij:i=j
  · subst hij
    rw [if_pos rfl,if_pos (by rw [h.len]; exact hj),if_pos rfl]
    exact hz
  · rw [if_neg hij,if_neg (fun h=>hij h.symm),← List.getD_eq_getElem?_getD]
    exact h.at_ j hj⟩
theorem QF.zeros (n:Nat):QF (List.replicate n z0) n (fun _=>0):=⟨List.length_replicate,fun i hi=>by
 rw [List.getD_eq_getElem?_getD,List.getElem?_replicate,if_pos hi]; exact QV.zero⟩
theorem QF.step {zs:List QT} {n:Nat} {f g:Nat→Rat} {k:Nat} {z:QT} (h:QF zs n (fun j=>if j<k then g j else f j)) (hz:QV z (g k)):QF (zs.set k z) n (fun j=>if j<k+1 then g j else f j) :=
 (h.set hz).congr fun j _=>by
  by_cases h1:j=k
  · subst h1; rw [if_pos rfl,if_pos (by omega)]
  · rw [if_neg h1]
    by_cases h2:j<k
    · rw [if_pos h2,if_pos (by omega)]
    · rw [if_neg h2,if_neg (by omega)]
theorem QF.begin {zs:List QT} {n:Nat} {f g:Nat→Rat} (h:QF zs n f):QF zs n (fun j=>if j<0 then g j else f j):=h.congr fun j _=>(if_neg (Nat.not_lt_zero _)).symm
theorem QF.done {zs:List QT} {n:Nat} {f g:Nat→Rat} (h:QF zs n (fun j=>if j<n then g j else f j)):QF zs n g:=h.congr fun j hj=>if_pos hj
theorem QF.mid {zs:List QT} {n k:Nat} {f g:Nat→Rat} (h:QF zs n (fun j=>if j<k then g j else f j)) (hk:k<n):QV (zs.getD k z0) (f k):=by
 have:=h.at_ k hk
 simp only [Nat.lt_irrefl,if_false] at this
 exact this
theorem pH {m:List (List ByteArray)} (h:e9 m=0):s0 m∧0<m.length∧m.length≤12∧0<wide m∧wide m≤12:=by
 unfold e9 at h
 split at h
 · cases h
 · split at h
   · rename_i h2; exact absurd h h2
   · split at h
     · cases h
     · split at h
       · cases h
       · rename_i h1 h2 h3 h4
         refine ⟨aPU (Decidable.not_not.1 h2),?_,by omega,by omega,by omega⟩
         rcases Nat.eq_zero_or_pos m.length with h0 | h0
         · rw [List.length_eq_zero_iff.1 h0] at h3
           exact absurd rfl h3
         · exact h0
theorem inG {n w:Nat} {a:Int × Int} (h:fA n w a=true):0≤a.1∧a.1<n∧0≤a.2∧a.2<w:=by
 unfold fA at h
 simp only [Bool.and_eq_true,decide_eq_true_eq] at h
 exact ⟨h.1.1.1,h.1.1.2,h.1.2,h.2⟩
theorem aP5 {n w:Nat} {a:Int × Int} (h1:0≤a.1) (h2:a.1<n) (h3:0≤a.2) (h4:a.2<w):fA n w a=true:=by
 unfold fA
 simp only [Bool.and_eq_true,decide_eq_true_eq]
 exact ⟨⟨⟨h1,h2⟩,h3⟩,h4⟩
theorem jA : ∀ g xs Q,iL g xs Q→Con Tryz.prog g xs Q:=dA fun p hp=>by
 simp only [List.mem_cons,List.not_mem_nil,or_false] at hp
 rcases hp with rfl | rfl | rfl | rfl | rfl | rfl | rfl | rfl | rfl | rfl | rfl | rfl | rfl
 · exact bD fun _ _ h=>a3S h
 · exact bD fun _ _ h=>a3T h
 · exact bD fun _ _ h=>aEU h
 · exact aZ fun _ _ _ h=>aEG h
 · exact bD fun _ _ h=>aPM h
 · exact bD fun _ _ h=>aPO h
 · exact bD fun _ _ h=>aEF h
 · exact aZ fun _ _ _ h=>aNV h
 · exact bD fun _ _ h=>aPL h
 · exact bD fun _ _ h=>aP0 h
 · exact bD fun _ _ h=>aPW h
 · exact aZ fun _ _ _ h=>aN1 h
 · exact bD fun _ _ h=>yG h
section
variable {m:List (List ByteArray)} {l:List (Int × Int)} {Q:Res}
theorem aP6 (h1:e9 m=0) (h2:¬ 200<l.length) {t:Nat} (ht:t<l.length) (hb:¬ fA m.length (wide m) (l.getD t p0)=true):cP m l=4:=by
 unfold cP
 rw [if_neg (fun h=>h h1),if_neg h2,if_neg]
 exact fun hc=>hb (hc t ht)
theorem zV (h:cP m l=0):e9 m=0∧l.length≤200∧∀ t,t<l.length→fA m.length (wide m) (l.getD t p0)=true:=by
 unfold cP at h
 split at h
 · rename_i h1; exact absurd h h1
 · split at h
   · cases h
   · split at h
     · rename_i h1 h2 h3; exact ⟨Decidable.not_not.1 h1,by omega,h3⟩
     · cases h
theorem aP7 (h1:e9 m=0) (h2:¬ 200<l.length) (h3:∀ t,t<l.length→fA m.length (wide m) (l.getD t p0)=true):cP m l=0:=by
 unfold cP
 rw [if_neg (fun h=>h h1),if_neg h2,if_pos h3]
theorem a4C (h:s7 m l Q):Con Tryz.prog 16 [.imm (eL eS) m, .imm eP l] Q:=by
 obtain ⟨⟨ht,hn⟩,hq⟩:=h
 unfold TxP at hn
 have hk:∀ e H,cP m l=e→aO Q (.int .i64 e) H:=fun e H h1=>by rw [h1] at hq; exact cL hq
 refine aU (gn:=fnT Tryz.f16) (by kernel_rfl) jA (inl:=[]) (LT:=zS) (NT:=zT) rfl fun n0=>?_
 rw [a33]
 refine ⟨ht,?_⟩
 by_cases h1:e9 m=0
 · refine aR (aC h1 ?_)
   by_cases h2:200<l.length
   · exact aC (by omega) (hk _ _ (by unfold cP; rw [if_neg (fun h=>h h1),if_pos h2]))
   refine aG (by omega) ?_
   obtain ⟨M,m0,m12,w0,w12⟩:=pH h1
   refine cO (f:=16) (gn:=fnT Tryz.f16) (n0:=n0) (r:=7) (by kernel_rfl) jA (inl:=[]) (LT:=zS) (NT:=zT) (K:=aO Q) (fun x:Nat=>zU m l (l.length:Int) (x:Int)) (fun x=>l.length - x) (fun x=>x≤l.length∧∀ t,t<x→fA m.length (wide m) (l.getD t p0)=true) (fun x hp ih=>?_) 0 ⟨Nat.zero_le _,fun t ht=>absurd ht (Nat.not_lt_zero _)⟩
   obtain ⟨hp,he⟩:=hp
   rw [a34]
   by_cases hx:x<l.length
   · have bad:=aP6 h1 h2 hx
     refine aC (by omega) (cZ hx ?_)
     rw [Int.toNat_natCast,wrS hx (by omega)]
     generalize hA:l.getD x p0=a at bad
     have no:∀ {p:Prop},(fA m.length (wide m) a=true→¬ p)→p→∀ H,aO Q (.int .i64 4) H:=fun hp h H=>hk _ _ (bad fun hc=>hp hc h)
     by_cases c1:a.1<0
     · exact aC c1 (no (fun h=>by have:=inG h; omega) c1 _)
     refine aG c1 ?_
     by_cases c2:a.1 ≥ (m.length:Int)
     · exact pE c2 (no (fun h=>by have:=inG h; omega) c2 _)
     refine pF c2 ?_
     by_cases c3:a.2<0
     · exact pE c3 (no (fun h=>by have:=inG h; omega) c3 _)
     refine pF c3 ?_
     by_cases c4:a.2 ≥ (wide m:Int)
     · exact pE c4 (no (fun h=>by have:=inG h; omega) c4 _)
     refine pF c4 (ih (x+1) ⟨by omega,fun t ht=>?_⟩ (by omega))
     by_cases htx:t=x
     · rw [htx,hA]; exact aP5 (by omega) (by omega) (by omega) (by omega)
     · exact he t (by omega)
   · exact aG (by omega) (hk _ _ (aP7 h1 h2 fun t ht=>he t (by omega)))
 · exact aR (aG h1 (hk _ _ (by unfold cP; rw [if_pos h1])))
theorem aP8 (h:s7 m l Q):Con Tryz.prog 28 [.imm (eL eS) m, .imm eP l] Q:=by
 obtain ⟨⟨ht,hn⟩,hq⟩:=h
 unfold TxP at hn
 have hk:∀ e H,cP m l=e→aO Q (.int .i64 e) H:=fun e H h1=>by rw [h1] at hq; exact cL hq
 refine aU (gn:=fnT Tryz.f28) (by kernel_rfl) jA (inl:=[]) (LT:=zP) (NT:=zQ) rfl fun n0=>?_
 rw [a31]
 refine ⟨ht,?_⟩
 by_cases h1:e9 m=0
 · refine aR (aC h1 ?_)
   by_cases h2:200<l.length
   · exact aC (by omega) (hk _ _ (by unfold cP; rw [if_neg (fun h=>h h1),if_pos h2]))
   refine aG (by omega) ?_
   obtain ⟨M,m0,m12,w0,w12⟩:=pH h1
   refine cO (f:=28) (gn:=fnT Tryz.f28) (n0:=n0) (r:=7) (by kernel_rfl) jA (inl:=[]) (LT:=zP) (NT:=zQ) (K:=aO Q) (fun x:Nat=>zR m l (l.length:Int) (x:Int)) (fun x=>l.length - x) (fun x=>x≤l.length∧∀ t,t<x→fA m.length (wide m) (l.getD t p0)=true) (fun x hp ih=>?_) 0 ⟨Nat.zero_le _,fun t ht=>absurd ht (Nat.not_lt_zero _)⟩
   obtain ⟨hp,he⟩:=hp
   rw [a32]
   by_cases hx:x<l.length
   · have bad:=aP6 h1 h2 hx
     refine aC (by omega) (cZ hx ?_)
     rw [Int.toNat_natCast,wrS hx (by omega)]
     generalize hA:l.getD x p0=a at bad
     have no:∀ {p:Prop},(fA m.length (wide m) a=true→¬ p)→p→∀ H,aO Q (.int .i64 4) H:=fun hp h H=>hk _ _ (bad fun hc=>hp hc h)
     by_cases c1:a.1<0
     · exact aC c1 (no (fun h=>by have:=inG h; omega) c1 _)
     refine aG c1 ?_
     by_cases c2:a.1 ≥ (m.length:Int)
     · exact pE c2 (no (fun h=>by have:=inG h; omega) c2 _)
     refine pF c2 ?_
     by_cases c3:a.2<0
     · exact pE c3 (no (fun h=>by have:=inG h; omega) c3 _)
     refine pF c3 (aC (by omega) ?_)
     by_cases c4:a.2 ≥ (wide m:Int)
     · exact pE c4 (no (fun h=>by have:=inG h; omega) c4 _)
     refine pF c4 (ih (x+1) ⟨by omega,fun t ht=>?_⟩ (by omega))
     by_cases htx:t=x
     · rw [htx,hA]; exact aP5 (by omega) (by omega) (by omega) (by omega)
     · exact he t (by omega)
   · exact aG (by omega) (hk _ _ (aP7 h1 h2 fun t ht=>he t (by omega)))
 · exact aR (aG h1 (hk _ _ (by unfold cP; rw [if_pos h1])))
theorem aP9 {F:Nat→Nat→Rat} {n w i x:Nat} (h:∀ t,t<l.length→fA n w (l.getD t p0)=true) (sz:∀ i k,i<n→k<w→Sz 2000 (F i k)) (hi:i<n) (hx:x≤l.length):Sz (x * 2001+1) (dQ F l x i) :=
 sZ (s:=2000) (n:=l.length) (fun t ht=>by have:=inG (h t ht); exact sz _ _ hi (by omega)) x hx
theorem aQA {F:Nat→Nat→Rat} {n w k x:Nat} (h:∀ t,t<l.length→fA n w (l.getD t p0)=true) (sz:∀ i k,i<n→k<w→Sz 2000 (F i k)) (hk:k<w) (hx:x≤l.length):Sz (x * 2001+1) (d6 F l x k) :=
 sZ (s:=2000) (n:=l.length) (fun t ht=>by have:=inG (h t ht); exact sz _ _ (by omega) hk) x hx
theorem a4D {g:List (List QT)} (h:aP2 g l Q):Con Tryz.prog 49 [.imm (eL eQ) g, .imm eP l] Q:=by
 obtain ⟨n,w,F,R,hq⟩:=h
 obtain ⟨hg,n0', w0', n12,w12,sz,l200,hat⟩:=R
 have hgl:=hg.len
 have hw0:=(hg.at_ 0 n0').len
 refine aU (gn:=fnT Tryz.f49) (by kernel_rfl) jA (inl:=[]) (LT:=kQ) (NT:=kR) rfl fun n0=>?_
 rw [a35]
 have main:=cO (f:=49) (gn:=fnT Tryz.f49) (n0:=n0) (r:=3) (by kernel_rfl) jA (inl:=[]) (LT:=kQ) (NT:=kR) (K:=aO Q) (fun y:Nat × List QT × List QT=>l6 g l (l.length:Int) (y.1:Int) y.2.1 y.2.2) (fun y=>l.length - y.1) (fun y=>y.1≤l.length∧QF y.2.1 n (dQ F l y.1)∧QF y.2.2 w (d6 F l y.1)) (fun y hp ih=>by
  obtain ⟨x,zr,zc⟩:=y
  obtain ⟨hx0,hr,hc⟩:=hp
  simp only at hx0 hr hc
  show aH _ _ _ _ _ _ (l6 g l (l.length:Int) (x:Int) zr zc)
  rw [a36]
  by_cases hx:x<l.length
  · have ha:=inG (hat x hx)
    refine aC (by omega) (cZ hx ?_)
    rw [Int.toNat_natCast]
    have hrow:∀ i,dQ F l (x+1) i=dQ F l x i+F i (l.getD x p0).2.toNat:=fun i=>rfl
    have hcol:∀ k,d6 F l (x+1) k=d6 F l x k+F (l.getD x p0).1.toNat k:=fun k=>rfl
    have szr:∀ i,i<n→Sz 4000000000 (dQ F l x i):=fun i hi=>(aP9 hat sz hi hx0).mono (by omega)
    have szc:∀ k,k<w→Sz 4000000000 (d6 F l x k):=fun k hk=>(aQA hat sz hk hx0).mono (by omega)
    generalize hA:l.getD x p0=a at ha hrow hcol
    obtain ⟨a1,a2⟩:=a
    simp only at ha hrow hcol
    -- the columns
    have cols:=cO (f:=49) (gn:=fnT Tryz.f49) (n0:=n0) (r:=11) (by kernel_rfl) jA (inl:=[]) (LT:=kQ) (NT:=kR) (K:=aO Q) (fun y:Nat × List QT × List QT=>s9 g l (l.length:Int) (x:Int) (y.2.2.length:Int) (y.1:Int) y.2.1 y.2.2 [a1,a2]) (fun y=>w - y.1) (fun y=>y.1≤w∧QF y.2.1 n (dQ F l (x+1))∧QF y.2.2 w (fun j=>if j<y.1 then d6 F l (x+1) j else d6 F l x j)) (fun y hp ih2=>by
        obtain ⟨k,zr,zc⟩:=y
        obtain ⟨hk0,hr,hc⟩:=hp
        simp only at hk0 hr hc
        have hcl:=hc.len
        show aH _ _ _ _ _ _ (s9 g l (l.length:Int) (x:Int) (zc.length:Int) (k:Int) zr zc [a1,a2])
        rw [a38]
        by_cases hk:k<w
        · have hgr:=hg.at_ a1.toNat (by omega)
          have hgrl:=hgr.len
          refine aC (by omega) (cZ (by omega) (aQ rfl (aP4 (show 0≤a1 by omega) (show a1<_ by omega) (cZ (by show k<(g.getD a1.toNat []).length; omega) ?_))))
          rw [Int.toNat_natCast,wrS (n:=w) hk (by omega)]
          refine ⟨_,_,hc.mid hk,hgr.at_ k hk,szc k hk,(sz _ _ (by omega) hk).mono (by decide),fun r hr2=>cZ (by omega) ?_⟩
          have:=ih2 (k+1,zr,zc.set k r) ⟨by show k+1≤w; omega,hr,hc.step (g:=d6 F l (x+1)) (by rw [hcol]; exact hr2)⟩ (by show w - (k+1)<w - k; omega)
          simp only [List.length_set] at this
          exact this
        · have hkw:k=w:=by omega
          subst hkw
          refine aG (by omega) ?_
          rw [wrS hx (by omega)]
          exact ih (x+1,zr,zc) ⟨by show x+1≤l.length; omega,hr,hc.done⟩ (by show l.length - (x+1)<l.length - x; omega))
    have rows:=cO (f:=49) (gn:=fnT Tryz.f49) (n0:=n0) (r:=6) (by kernel_rfl) jA (inl:=[]) (LT:=kQ) (NT:=kR) (K:=aO Q) (fun y:Nat × List QT=>s8 g l (l.length:Int) (x:Int) (y.2.length:Int) (y.1:Int) y.2 zc [a1,a2]) (fun y=>n - y.1) (fun y=>y.1≤n∧QF y.2 n (fun j=>if j<y.1 then dQ F l (x+1) j else dQ F l x j)) (fun y hp ih2=>by
        obtain ⟨i,zr⟩:=y
        obtain ⟨hi0,hr⟩:=hp
        simp only at hi0 hr
        have hrl:=hr.len
        show aH _ _ _ _ _ _ (s8 g l (l.length:Int) (x:Int) (zr.length:Int) (i:Int) zr zc [a1,a2])
        rw [a37]
        by_cases hi:i<n
        · have hgr:=hg.at_ i hi
          have hgrl:=hgr.len
          refine aC (by omega) (cZ (by omega) (cZ (by omega) (aQ rfl (aP4 (show 0≤a2 by omega) (by show a2<((g.getD (i:Int).toNat []).length:Int); rw [Int.toNat_natCast]; omega) ?_))))
          rw [Int.toNat_natCast,wrS (n:=n) hi (by omega)]
          refine ⟨_,_,hr.mid hi,hgr.at_ a2.toNat (by omega),szr i hi,(sz _ _ hi (by omega)).mono (by decide),fun r hr2=>cZ (by omega) ?_⟩
          have:=ih2 (i+1,zr.set i r) ⟨by show i+1≤n; omega,hr.step (g:=dQ F l (x+1)) (by rw [hrow]; exact hr2)⟩ (by show n - (i+1)<n - i; omega)
          simp only [List.length_set] at this
          exact this
        · have hin:i=n:=by omega
          subst hin
          refine aG (by omega) ?_
          exact cols (0,zr,zc) ⟨Nat.zero_le _,hr.done,hc.begin⟩)
    have:=rows (0,zr) ⟨Nat.zero_le _,hr.begin⟩
    exact this
  · have hxx:x=l.length:=by omega
    subst hxx
    refine aG (by omega) ?_
    exact ⟨.tup [.own 0, .own 1],[.typed eQ zr false, .typed eQ zc false],hq zr zc hr hc,rfl,rfl,[0,1],rfl,by decide,fun k id hk=>by
        match k,hk with
        | 0,hk=>cases hk; rfl
        | 1,hk=>cases hk; rfl,rfl⟩)
 have start:aB Tryz.prog n0 49 (aO Q) (aE (fnT Tryz.f49) 3) (l6 g l (l.length:Int) ((0:Nat):Int) (List.replicate g.length z0) (List.replicate (g.getD 0 []).length z0)) :=
  main (0,List.replicate g.length z0,List.replicate (g.getD 0 []).length z0) ⟨Nat.zero_le _,by rw [hgl]; exact QF.zeros n,by rw [hw0]; exact QF.zeros w⟩
 have k1:=pG (n:=g.length) (b:=56) (by omega) (by decide)
 have k2:=pG (n:=(g.getD 0 []).length) (b:=56) (by omega) (by decide)
 simp only [Int.toNat_natCast] at k1 k2 ⊢
 exact aC (by omega) ⟨aQ k2 (aQ k1 start),aQ k1 (aQ k2 start)⟩
end
end
section
section
variable {m:List (List ByteArray)} {l:List (Int × Int)} {Q:Res}
theorem a4E (h:cP m l=0) {g:List (List QT)} (hg:GF g m.length (wide m) (ent m)):aEV g l m.length (wide m) (ent m):=by
 obtain ⟨h1,h2,h3⟩:=zV h
 obtain ⟨M,m0,m12,w0,w12⟩:=pH h1
 exact ⟨hg,m0,w0,m12,w12,fun i k hi hk=>(M.ent i k hi hk).2,h2,h3⟩
theorem aEW : ∀ g xs Q,zO g xs Q→Con Tryz.prog g xs Q:=dA fun p hp=>by
 simp only [List.mem_cons,List.not_mem_nil,or_false] at hp
 rcases hp with rfl | rfl | rfl | rfl | rfl | rfl | rfl | rfl | rfl | rfl | rfl
 · exact aZ fun _ _ _ h=>aP8 h
 · exact aZ fun _ _ _ h=>a4D h
 · exact bD fun _ _ h=>aPW h
 · exact bD fun _ _ h=>aP0 h
 · exact aZ fun _ _ _ h=>aEG h
 · exact aZ fun _ _ _ h=>aN0 h
 · exact aZ fun _ _ _ h=>aNV h
 · exact aZ fun _ _ _ h=>aN1 h
 · exact bD fun _ _ h=>aPL h
 · exact bD fun _ _ h=>yG h
 · exact bD fun _ _ h=>a05 h
end
end
section

end
section

end
end Go.Proofs.YtehakimmioclkaaGreatDoor.Lib
end
section
set_option linter.unusedSimpArgs false
set_option linter.unusedVariables false
namespace Go.Proofs.YtehakimmioclkaaGreatDoor.Lib
open Go Go.Proofs.YtehakimmioclkaaGreatDoor.Mach
section
def gImm (e:ETy):AV→Option (List e.D)
 | .imm e' l=>fL e e' l
 | _=>none
def gAd {α:Type} (f:AV→Option α):AV→Option α
 | .adr cs=>(match cs with | [y]=>f y | _=>none)
 | _=>none
theorem a4F {e:ETy} {x:AV} {l:List e.D} (h:gImm e x=some l):x = .imm e l:=by
 unfold gImm at h
 split at h
 · obtain ⟨he,hr⟩:=iT h
   subst he; subst hr; rfl
 · cases h
theorem a4G {α:Type} {f:AV→Option α} {g:α→AV} (hf:∀ y a,f y=some a→y=g a) {x:AV} {a:α} (h:gAd f x=some a):x = .adr [g a]:=by
 unfold gAd at h
 split at h
 · split at h
   · rw [hf _ _ h]
   · cases h
 · cases h
def vAd (e:ETy):cR (List e.D):=⟨gAd (gImm e),fun l => .adr [.imm e l],fun {x a} h {c w v} hx=>by
 rw [a4G (fun _ _=>a4F) h] at hx
 exact hx⟩
end
end Go.Proofs.YtehakimmioclkaaGreatDoor.Lib
end
section
set_option linter.unusedSimpArgs false
set_option linter.unusedVariables false
namespace Go.Proofs.YtehakimmioclkaaGreatDoor.Lib
open Go Go.Proofs.YtehakimmioclkaaGreatDoor.Mach Go.Proofs.YtehakimmioclkaaGreatDoorW.PrintWords Go.Proofs.YtehakimmioclkaaGreatDoor.Sem Go.Proofs.YtehakimmioclkaaGreatDoor.Pure
section
def Few (n:Int) (l:List (Int × Int)):Prop:=0≤n∧n≤200∧0<l.length∧l.length≤200
def l9 (ns:List Int) (l:List (Int × Int)) (i:Nat):Rat:=eF (ns.getD i 0).toNat l.length
def zW (ns:List Int) (l:List (Int × Int)):Prop:=0<ns.length∧ns.length≤12∧∀ i,i<ns.length→Few (ns.getD i 0) l
noncomputable def aQB (ns:List Int) (l:List (Int × Int)) (Q:Res):Prop:=zW ns l∧Q (.own 0) [.typed eS (dB ns.length (l9 ns l)) false]
def aQC (n:Int) (l:List (Int × Int)) (Q:Res):Prop:=Few n l∧Q (.str (ratText (eF n.toNat l.length))) []
def zX (m:List (List ByteArray)) (k:Int):Prop:=0≤k∧TxN m.length∧∀ r∈m,k.toNat<r.length∧TxN r.length
def xcolG (m:List (List ByteArray)) (k:Int) (Q:Res):Prop:=zX m k∧Q (.imm eS (gE m k.toNat)) []
noncomputable def aEX : FuncId→List AV→Res→Prop:=cV [(28,c2 vT vP s7),(45,c2 (iZ eI) (vAd eP) aQB)]
noncomputable def mA : FuncId→List AV→Res→Prop:=cV [(5,c0 aP3),(6,c1 vT aOZ),(16,c2 vT vP s7),(9,c2 vI vTT aO2),(14,c2 vT vP avgS),(15,c2 vT vP bndS),(13,c2 vS vS xcmp),(20,c2 vLS vLS aOY),(21,c2 vT vI xcolG),(17,c2 vI (vAd eP) aQC)]
noncomputable def aQD : FuncId→List AV→Res→Prop:=cV [(11,c2 vS vS yB),(18,c2 vS vS xdiv),(19,c1 vI xint)]
end
end Go.Proofs.YtehakimmioclkaaGreatDoor.Lib
end
section
set_option linter.unusedSimpArgs false
set_option linter.unusedVariables false
namespace Go.Proofs.YtehakimmioclkaaGreatDoor.Mach
open Go Go.Proofs.YtehakimmioclkaaGreatDoor Go.Proofs.YtehakimmioclkaaGreatDoor.Lib
section
set_option maxRecDepth 1000000
def zY : List (Nat × List Nat):=[(3,[1,4,7,8,9])]
def zZ : List (Nat × ETy):=[(4,ETy.one CTy.str),(7,ETy.one (CTy.int IntKind.i64))]
noncomputable def z4 (ns:List Int) (l:List (Int × Int)) (x0 x1:Int) (x2:List ByteArray):St:=aS 25 [(1,AV.adr [AV.imm eP l]),(4,AV.own 0),(7,AV.imm eI ns),(8,AV.int .i64 x0),(9,AV.int .i64 x1)] [aA.typed eS x2 false]
theorem a4H (ns:List Int) (l:List (Int × Int)) (n0:Nat) (K:AV→List aA→Prop) :
 aH tab (aM tab iL [] 400) (aK zY zZ (aB Tryz.prog n0 45 K)) (aI tab (fnT Tryz.f45).res K) 400 [.code (fnT Tryz.f45).body] ⟨aP (fnT Tryz.f45).n [AV.imm eI ns,AV.adr [AV.imm eP l]],[]⟩ =
 (aB Tryz.prog n0 45 K (aE (fnT Tryz.f45) 3) (z4 ns l (↑ns.length:Int) 0 [])):=by kernel_rfl
theorem a4I (ns:List Int) (l:List (Int × Int)) (x0 x1:Int) (x2:List ByteArray) (n0:Nat) (K:AV→List aA→Prop) :
 aH tab (aM tab iL [] 400) (aK zY zZ (aB Tryz.prog n0 45 K)) (aI tab (fnT Tryz.f45).res K) 400 (aT (fnT Tryz.f45) 3) (z4 ns l x0 x1 x2) =
 (bif decide (x1<x0) then bif decide (0≤x1) && decide (x1<(↑ns.length:Int)) then lT (ns.getD x1.toNat 0)∧∀ (r:Bool × List Int × List Int),Sem.QV r (↑(ns.getD x1.toNat 0):Rat)→lT (↑l.length:Int)∧∀ (r_1:Bool × List Int × List Int),Sem.QV r_1 (↑(↑l.length:Int):Rat)→∃ x y,Sem.QV (r.1,r.2.1,r.2.2) x∧Sem.QV (r_1.1,r_1.2.1,r_1.2.2) y∧Sz 4000000000 x∧Sz 4000000000 y∧∀ (r:Bool × List Int × List Int),Sem.QV r (x / y)→∃ q,Sem.QV (r.1,r.2.1,r.2.2) q∧Sz 9000000000 q∧bif bif (x2.length+[Sem.ratText q].length).ble 9223372036854775807 then ((x2.length+[Sem.ratText q].length) * 16).ble 140737488355328 else false then aB Tryz.prog n0 45 K (aE (fnT Tryz.f45) 3) (z4 ns l x0 (IntKind.i64.wrap (x1+1)) (x2 ++ [Sem.ratText q])) else False else False else K (AV.own 0) [aA.typed eS x2 false]):=by kernel_rfl
def aQE : List (Nat × List Nat):=[]
def aQF : List (Nat × ETy):=[]
theorem a4J (n:Int) (l:List (Int × Int)) (n0:Nat) (K:AV→List aA→Prop) :
 aH tab (aM tab aQD [] 400) (aK aQE aQF (aB Tryz.prog n0 17 K)) (aI tab (fnT Tryz.f17).res K) 400 [.code (fnT Tryz.f17).body] ⟨aP (fnT Tryz.f17).n [AV.int .i64 n,AV.adr [AV.imm eP l]],[]⟩ =
 (I64 n∧I64 (↑l.length:Int)∧∃ x y,Sem.ratText (↑n:Rat)=Sem.ratText x∧Sem.ratText (↑(↑l.length:Int):Rat)=Sem.ratText y∧Sz 4000000000 x∧Sz 4000000000 y∧y≠0∧K (AV.str (Sem.ratText (x / y))) []):=by kernel_rfl
def z5 : List (Nat × List Nat):=[(8,[3,8,9,30,31,32])]
def z6 : List (Nat × ETy):=[(8,ETy.one (CTy.int IntKind.i64)),(9,ETy.one (CTy.int IntKind.i64)),(30,eP)]
noncomputable def tC (m:List (List ByteArray)) (l:List (Int × Int)) (x0 x1:Int) (x2 x3:List Int):St:=aS 58 [(3,AV.ptr 0 0),(8,AV.own 1),(9,AV.own 2),(30,AV.imm eP l),(31,AV.int .i64 x0),(32,AV.int .i64 x1)] [aA.box [AV.imm eP l],aA.typed eI x2 false,aA.typed eI x3 false]
theorem a4K (m:List (List ByteArray)) (l:List (Int × Int)) (n0:Nat) (K:AV→List aA→Prop) :
 aH tab (aM tab aEX [] 400) (aK z5 z6 (aB Tryz.prog n0 14 K)) (aI tab (fnT Tryz.f14).res K) 400 [.code (fnT Tryz.f14).body] ⟨aP (fnT Tryz.f14).n [AV.imm (eL eS) m,AV.imm eP l],[]⟩ =
 ((TxM m∧TxP l.length)∧bif !decide (cP m l=0) then K (AV.tup [AV.nils,AV.nils,AV.int .i64 (cP m l)]) [aA.box [AV.imm eP l]] else bif decide ((↑l.length:Int)=0) then K (AV.tup [AV.nils,AV.nils,AV.int .i64 8]) [aA.box [AV.imm eP l]] else bif decide (0<(↑m.length:Int)) then (bif decide (0≤(↑(List.length (m.getD 0 [])):Int)) && decide ((↑(List.length (m.getD 0 [])):Int)≤(↑(List.length (m.getD 0 [])):Int)) && bif (↑(List.length (m.getD 0 [])):Int).toNat.ble 9223372036854775807 then ((↑(List.length (m.getD 0 [])):Int).toNat * 8).ble 281474976710656 else false then bif decide (0≤(↑m.length:Int)) && decide ((↑m.length:Int)≤(↑m.length:Int)) && bif (↑m.length:Int).toNat.ble 9223372036854775807 then ((↑m.length:Int).toNat * 8).ble 281474976710656 else false then aB Tryz.prog n0 14 K (aE (fnT Tryz.f14) 8) (tC m l (↑l.length:Int) 0 (List.replicate (↑m.length:Int).toNat 0) (List.replicate (↑(List.length (m.getD 0 [])):Int).toNat 0)) else False else False)∧bif decide (0≤(↑m.length:Int)) && decide ((↑m.length:Int)≤(↑m.length:Int)) && bif (↑m.length:Int).toNat.ble 9223372036854775807 then ((↑m.length:Int).toNat * 8).ble 281474976710656 else false then bif decide (0≤(↑(List.length (m.getD 0 [])):Int)) && decide ((↑(List.length (m.getD 0 [])):Int)≤(↑(List.length (m.getD 0 [])):Int)) && bif (↑(List.length (m.getD 0 [])):Int).toNat.ble 9223372036854775807 then ((↑(List.length (m.getD 0 [])):Int).toNat * 8).ble 281474976710656 else false then aB Tryz.prog n0 14 K (aE (fnT Tryz.f14) 8) (tC m l (↑l.length:Int) 0 (List.replicate (↑m.length:Int).toNat 0) (List.replicate (↑(List.length (m.getD 0 [])):Int).toNat 0)) else False else False else False):=by kernel_rfl
theorem a4L (m:List (List ByteArray)) (l:List (Int × Int)) (x0 x1:Int) (x2 x3:List Int) (n0:Nat) (K:AV→List aA→Prop) :
 aH tab (aM tab aEX [] 400) (aK z5 z6 (aB Tryz.prog n0 14 K)) (aI tab (fnT Tryz.f14).res K) 400 (aT (fnT Tryz.f14) 8) (tC m l x0 x1 x2 x3) =
 (bif decide (x1<x0) then bif decide (0≤x1) && decide (x1<(↑l.length:Int)) then bif decide (0≤[(l.getD x1.toNat (0,0)).1,(l.getD x1.toNat (0,0)).2].getD 0 0) && decide ([(l.getD x1.toNat (0,0)).1,(l.getD x1.toNat (0,0)).2].getD 0 0<(↑x2.length:Int)) then bif decide (0≤[(l.getD x1.toNat (0,0)).1,(l.getD x1.toNat (0,0)).2].getD 0 0) && decide ([(l.getD x1.toNat (0,0)).1,(l.getD x1.toNat (0,0)).2].getD 0 0<(↑x2.length:Int)) then bif decide (0≤[(l.getD x1.toNat (0,0)).1,(l.getD x1.toNat (0,0)).2].getD 1 0) && decide ([(l.getD x1.toNat (0,0)).1,(l.getD x1.toNat (0,0)).2].getD 1 0<(↑x3.length:Int)) then bif decide (0≤[(l.getD x1.toNat (0,0)).1,(l.getD x1.toNat (0,0)).2].getD 1 0) && decide ([(l.getD x1.toNat (0,0)).1,(l.getD x1.toNat (0,0)).2].getD 1 0<(↑x3.length:Int)) then aB Tryz.prog n0 14 K (aE (fnT Tryz.f14) 8) (tC m l x0 (IntKind.i64.wrap (x1+1)) (x2.set (Int.toNat ([(l.getD x1.toNat (0,0)).1,(l.getD x1.toNat (0,0)).2].getD 0 0)) (IntKind.i64.wrap (x2.getD (Int.toNat ([(l.getD x1.toNat (0,0)).1,(l.getD x1.toNat (0,0)).2].getD 0 0)) 0+1))) (x3.set (Int.toNat ([(l.getD x1.toNat (0,0)).1,(l.getD x1.toNat (0,0)).2].getD 1 0)) (IntKind.i64.wrap (x3.getD (Int.toNat ([(l.getD x1.toNat (0,0)).1,(l.getD x1.toNat (0,0)).2].getD 1 0)) 0+1)))) else False else False else False else False else False else zW x2 l∧zW x3 l∧K (AV.tup [AV.own 3,AV.own 4,AV.int .i64 0]) [aA.box [AV.imm eP l],aA.typed eI x2 false,aA.typed eI x3 false,aA.typed eS (dB x2.length (l9 x2 l)) false,aA.typed eS (dB x3.length (l9 x3 l)) false]):=by kernel_rfl
def iA : List (Nat × List Nat):=[(19,[0,5,6,8,9,12,13,14,122,123,124]),(25,[0,5,6,8,9,12,14,143,144,145]),(31,[0,5,6,8,9,12,159,160,161]),(38,[0,5,6,8,9,21,22,187,188]),(45,[6,8,9,21,22,202,203,204])]
def iB : List (Nat × ETy):=[(5,ETy.one CTy.str),(6,ETy.one CTy.str),(13,ETy.one (CTy.int IntKind.i64)),(14,ETy.one (CTy.int IntKind.i64)),(122,eP),(143,ETy.one (CTy.int IntKind.i64)),(159,ETy.one (CTy.int IntKind.i64)),(202,ETy.one (CTy.slice (ETy.one CTy.str)))]
noncomputable def mB (m:List (List ByteArray)) (l:List (Int × Int)) (x0 x1:List ByteArray) (x2 x3:ByteArray) (x4 x5:Int) (x6 x7:List Int):St:=aS 225 [(0,AV.imm (eL eS) m),(5,AV.imm eS x0),(6,AV.imm eS x1),(8,AV.str x2),(9,AV.str x3),(12,AV.fn 17 [AV.ptr 0 0]),(13,AV.own 1),(14,AV.own 2),(122,AV.imm eP l),(123,AV.int .i64 x4),(124,AV.int .i64 x5)] [aA.box [AV.imm eP l],aA.typed eI x6 false,aA.typed eI x7 false]
noncomputable def z7 (m:List (List ByteArray)) (l:List (Int × Int)) (x0 x1:List ByteArray) (x2 x3:ByteArray) (x4 x5:Int) (x6 x7:List Int):St:=aS 225 [(0,AV.imm (eL eS) m),(5,AV.imm eS x0),(6,AV.imm eS x1),(8,AV.str x2),(9,AV.str x3),(12,AV.fn 17 [AV.ptr 0 0]),(14,AV.own 1),(143,AV.own 2),(144,AV.int .i64 x4),(145,AV.int .i64 x5)] [aA.box [AV.imm eP l],aA.typed eI x6 false,aA.typed eI x7 false]
noncomputable def z8 (m:List (List ByteArray)) (l:List (Int × Int)) (x0 x1:List ByteArray) (x2 x3:ByteArray) (x4 x5:Int) (x6:List Int):St:=aS 225 [(0,AV.imm (eL eS) m),(5,AV.imm eS x0),(6,AV.imm eS x1),(8,AV.str x2),(9,AV.str x3),(12,AV.fn 17 [AV.ptr 0 0]),(159,AV.own 1),(160,AV.int .i64 x4),(161,AV.int .i64 x5)] [aA.box [AV.imm eP l],aA.typed eI x6 false]
noncomputable def tD (m:List (List ByteArray)) (l:List (Int × Int)) (x0 x1:List ByteArray) (x2 x3 x4 x5:ByteArray) (x6 x7:Int):St:=aS 225 [(0,AV.imm (eL eS) m),(5,AV.imm eS x0),(6,AV.imm eS x1),(8,AV.str x2),(9,AV.str x3),(21,AV.str x4),(22,AV.str x5),(187,AV.int .i64 x6),(188,AV.int .i64 x7)] []
noncomputable def tE (m:List (List ByteArray)) (l:List (Int × Int)) (x0:List ByteArray) (x1 x2 x3 x4:ByteArray) (x5 x6:Int):St:=aS 225 [(6,AV.imm eS x0),(8,AV.str x1),(9,AV.str x2),(21,AV.str x3),(22,AV.str x4),(202,AV.imm (eL eS) m),(203,AV.int .i64 x5),(204,AV.int .i64 x6)] []
theorem a4M (m:List (List ByteArray)) (l:List (Int × Int)) (n0:Nat) (K:AV→List aA→Prop) :
 aH tab (aM tab mA [] 400) (aK iA iB (aB Tryz.prog n0 4 K)) (aI tab (fnT Tryz.f4).res K) 400 [.code (fnT Tryz.f4).body] ⟨aP (fnT Tryz.f4).n [AV.imm (eL eS) m,AV.imm eP l],[]⟩ =
 ((m.length≤1000000000000000∧∀ (r:List ByteArray),r∈m→r.length≤1000000000000000) ∧
 ∀ (n:Int),
   bif decide (n > 6000) then K (AV.bool true) [aA.box [AV.imm eP l]]
   else
    (TxM m∧TxP l.length) ∧
        (TxM m∧TxP l.length) ∧
         (TxM m∧TxP l.length) ∧
          bif decide (cP m l=0) then
           bif bif true then decide ((↑l.length:Int)=0) else false then bif decide (cY m l=8) then bif bif true then decide (d8 m l=8) else false then bif bif true then decide (IntKind.i64.wrap ((↑(d7 m l).length:Int)+(↑(dT m l).length:Int))=0) else false then bif bif true then (gQ m l).toList == (ByteArray.mk #[]).toList else false then K (AV.bool (bif true then (gR m l).toList == (ByteArray.mk #[]).toList else false)) [aA.box [AV.imm eP l]] else K (AV.bool false) [aA.box [AV.imm eP l]] else K (AV.bool false) [aA.box [AV.imm eP l]] else K (AV.bool false) [aA.box [AV.imm eP l]] else K (AV.bool false) [aA.box [AV.imm eP l]]
           else
              bif !decide (cP m l=0) then bif decide (cY m l=cP m l) then bif bif true then decide (d8 m l=cP m l) else false then bif bif true then decide (IntKind.i64.wrap ((↑(d7 m l).length:Int)+(↑(dT m l).length:Int))=0) else false then bif bif true then (gQ m l).toList == (ByteArray.mk #[]).toList else false then K (AV.bool (bif true then (gR m l).toList == (ByteArray.mk #[]).toList else false)) [aA.box [AV.imm eP l]] else K (AV.bool false) [aA.box [AV.imm eP l]] else K (AV.bool false) [aA.box [AV.imm eP l]] else K (AV.bool false) [aA.box [AV.imm eP l]] else K (AV.bool false) [aA.box [AV.imm eP l]]
              else TxMM [m]∧bif iK 5 [m] then K (AV.bool true) [aA.box [AV.imm eP l],aA.typed (eL (eL eS)) [m] false] else bif bif false then true else decide ((↑l.length:Int) > 30) then K (AV.bool true) [aA.box [AV.imm eP l],aA.typed (eL (eL eS)) [m] false] else bif !decide (cY m l=0) then K (AV.bool false) [aA.box [AV.imm eP l],aA.typed (eL (eL eS)) [m] false] else bif bif false then true else !decide (d8 m l=0) then K (AV.bool false) [aA.box [AV.imm eP l],aA.typed (eL (eL eS)) [m] false] else bif bif false then true else !decide ((↑(d7 m l).length:Int)=(↑m.length:Int)) then K (AV.bool false) [aA.box [AV.imm eP l],aA.typed (eL (eL eS)) [m] false] else bif decide (0<(↑m.length:Int)) then bif bif false then true else !decide ((↑(dT m l).length:Int)=(↑(List.length (m.getD 0 [])):Int)) then K (AV.bool false) [aA.box [AV.imm eP l],aA.typed (eL (eL eS)) [m] false] else bif decide (0<(↑m.length:Int)) then (bif decide (0≤(↑(List.length (m.getD 0 [])):Int)) && decide ((↑(List.length (m.getD 0 [])):Int)≤(↑(List.length (m.getD 0 [])):Int)) && bif (↑(List.length (m.getD 0 [])):Int).toNat.ble 9223372036854775807 then ((↑(List.length (m.getD 0 [])):Int).toNat * 8).ble 281474976710656 else false then bif decide (0≤(↑m.length:Int)) && decide ((↑m.length:Int)≤(↑m.length:Int)) && bif (↑m.length:Int).toNat.ble 9223372036854775807 then ((↑m.length:Int).toNat * 8).ble 281474976710656 else false then aB Tryz.prog n0 4 K (aE (fnT Tryz.f4) 19) (mB m l (d7 m l) (dT m l) (gQ m l) (gR m l) (↑l.length:Int) 0 (List.replicate (↑m.length:Int).toNat 0) (List.replicate (↑(List.length (m.getD 0 [])):Int).toNat 0)) else False else False)∧bif decide (0≤(↑m.length:Int)) && decide ((↑m.length:Int)≤(↑m.length:Int)) && bif (↑m.length:Int).toNat.ble 9223372036854775807 then ((↑m.length:Int).toNat * 8).ble 281474976710656 else false then bif decide (0≤(↑(List.length (m.getD 0 [])):Int)) && decide ((↑(List.length (m.getD 0 [])):Int)≤(↑(List.length (m.getD 0 [])):Int)) && bif (↑(List.length (m.getD 0 [])):Int).toNat.ble 9223372036854775807 then ((↑(List.length (m.getD 0 [])):Int).toNat * 8).ble 281474976710656 else false then aB Tryz.prog n0 4 K (aE (fnT Tryz.f4) 19) (mB m l (d7 m l) (dT m l) (gQ m l) (gR m l) (↑l.length:Int) 0 (List.replicate (↑m.length:Int).toNat 0) (List.replicate (↑(List.length (m.getD 0 [])):Int).toNat 0)) else False else False else False else False
          else
           bif !decide (cP m l=0) then bif decide (cY m l=cP m l) then bif bif true then decide (d8 m l=cP m l) else false then bif bif true then decide (IntKind.i64.wrap ((↑(d7 m l).length:Int)+(↑(dT m l).length:Int))=0) else false then bif bif true then (gQ m l).toList == (ByteArray.mk #[]).toList else false then K (AV.bool (bif true then (gR m l).toList == (ByteArray.mk #[]).toList else false)) [aA.box [AV.imm eP l]] else K (AV.bool false) [aA.box [AV.imm eP l]] else K (AV.bool false) [aA.box [AV.imm eP l]] else K (AV.bool false) [aA.box [AV.imm eP l]] else K (AV.bool false) [aA.box [AV.imm eP l]]
           else TxMM [m]∧bif iK 5 [m] then K (AV.bool true) [aA.box [AV.imm eP l],aA.typed (eL (eL eS)) [m] false] else bif bif false then true else decide ((↑l.length:Int) > 30) then K (AV.bool true) [aA.box [AV.imm eP l],aA.typed (eL (eL eS)) [m] false] else bif !decide (cY m l=0) then K (AV.bool false) [aA.box [AV.imm eP l],aA.typed (eL (eL eS)) [m] false] else bif bif false then true else !decide (d8 m l=0) then K (AV.bool false) [aA.box [AV.imm eP l],aA.typed (eL (eL eS)) [m] false] else bif bif false then true else !decide ((↑(d7 m l).length:Int)=(↑m.length:Int)) then K (AV.bool false) [aA.box [AV.imm eP l],aA.typed (eL (eL eS)) [m] false] else bif decide (0<(↑m.length:Int)) then bif bif false then true else !decide ((↑(dT m l).length:Int)=(↑(List.length (m.getD 0 [])):Int)) then K (AV.bool false) [aA.box [AV.imm eP l],aA.typed (eL (eL eS)) [m] false] else bif decide (0<(↑m.length:Int)) then (bif decide (0≤(↑(List.length (m.getD 0 [])):Int)) && decide ((↑(List.length (m.getD 0 [])):Int)≤(↑(List.length (m.getD 0 [])):Int)) && bif (↑(List.length (m.getD 0 [])):Int).toNat.ble 9223372036854775807 then ((↑(List.length (m.getD 0 [])):Int).toNat * 8).ble 281474976710656 else false then bif decide (0≤(↑m.length:Int)) && decide ((↑m.length:Int)≤(↑m.length:Int)) && bif (↑m.length:Int).toNat.ble 9223372036854775807 then ((↑m.length:Int).toNat * 8).ble 281474976710656 else false then aB Tryz.prog n0 4 K (aE (fnT Tryz.f4) 19) (mB m l (d7 m l) (dT m l) (gQ m l) (gR m l) (↑l.length:Int) 0 (List.replicate (↑m.length:Int).toNat 0) (List.replicate (↑(List.length (m.getD 0 [])):Int).toNat 0)) else False else False)∧bif decide (0≤(↑m.length:Int)) && decide ((↑m.length:Int)≤(↑m.length:Int)) && bif (↑m.length:Int).toNat.ble 9223372036854775807 then ((↑m.length:Int).toNat * 8).ble 281474976710656 else false then bif decide (0≤(↑(List.length (m.getD 0 [])):Int)) && decide ((↑(List.length (m.getD 0 [])):Int)≤(↑(List.length (m.getD 0 [])):Int)) && bif (↑(List.length (m.getD 0 [])):Int).toNat.ble 9223372036854775807 then ((↑(List.length (m.getD 0 [])):Int).toNat * 8).ble 281474976710656 else false then aB Tryz.prog n0 4 K (aE (fnT Tryz.f4) 19) (mB m l (d7 m l) (dT m l) (gQ m l) (gR m l) (↑l.length:Int) 0 (List.replicate (↑m.length:Int).toNat 0) (List.replicate (↑(List.length (m.getD 0 [])):Int).toNat 0)) else False else False else False else False):=by kernel_rfl
theorem a4N (m:List (List ByteArray)) (l:List (Int × Int)) (x0 x1:List ByteArray) (x2 x3:ByteArray) (x4 x5:Int) (x6 x7:List Int) (n0:Nat) (K:AV→List aA→Prop) :
 aH tab (aM tab mA [] 400) (aK iA iB (aB Tryz.prog n0 4 K)) (aI tab (fnT Tryz.f4).res K) 400 (aT (fnT Tryz.f4) 19) (mB m l x0 x1 x2 x3 x4 x5 x6 x7) =
 (bif decide (x5<x4) then bif decide (0≤x5) && decide (x5<(↑l.length:Int)) then bif decide (0≤[(l.getD x5.toNat (0,0)).1,(l.getD x5.toNat (0,0)).2].getD 0 0) && decide ([(l.getD x5.toNat (0,0)).1,(l.getD x5.toNat (0,0)).2].getD 0 0<(↑x6.length:Int)) then bif decide (0≤[(l.getD x5.toNat (0,0)).1,(l.getD x5.toNat (0,0)).2].getD 0 0) && decide ([(l.getD x5.toNat (0,0)).1,(l.getD x5.toNat (0,0)).2].getD 0 0<(↑x6.length:Int)) then bif decide (0≤[(l.getD x5.toNat (0,0)).1,(l.getD x5.toNat (0,0)).2].getD 1 0) && decide ([(l.getD x5.toNat (0,0)).1,(l.getD x5.toNat (0,0)).2].getD 1 0<(↑x7.length:Int)) then bif decide (0≤[(l.getD x5.toNat (0,0)).1,(l.getD x5.toNat (0,0)).2].getD 1 0) && decide ([(l.getD x5.toNat (0,0)).1,(l.getD x5.toNat (0,0)).2].getD 1 0<(↑x7.length:Int)) then aB Tryz.prog n0 4 K (aE (fnT Tryz.f4) 19) (mB m l x0 x1 x2 x3 x4 (IntKind.i64.wrap (x5+1)) (x6.set (Int.toNat ([(l.getD x5.toNat (0,0)).1,(l.getD x5.toNat (0,0)).2].getD 0 0)) (IntKind.i64.wrap (x6.getD (Int.toNat ([(l.getD x5.toNat (0,0)).1,(l.getD x5.toNat (0,0)).2].getD 0 0)) 0+1))) (x7.set (Int.toNat ([(l.getD x5.toNat (0,0)).1,(l.getD x5.toNat (0,0)).2].getD 1 0)) (IntKind.i64.wrap (x7.getD (Int.toNat ([(l.getD x5.toNat (0,0)).1,(l.getD x5.toNat (0,0)).2].getD 1 0)) 0+1)))) else False else False else False else False else False else aB Tryz.prog n0 4 K (aE (fnT Tryz.f4) 25) (z7 m l x0 x1 x2 x3 (↑x6.length:Int) 0 x7 x6)):=by kernel_rfl
theorem a4O (m:List (List ByteArray)) (l:List (Int × Int)) (x0 x1:List ByteArray) (x2 x3:ByteArray) (x4 x5:Int) (x6 x7:List Int) (n0:Nat) (K:AV→List aA→Prop) :
 aH tab (aM tab mA [] 400) (aK iA iB (aB Tryz.prog n0 4 K)) (aI tab (fnT Tryz.f4).res K) 400 (aT (fnT Tryz.f4) 25) (z7 m l x0 x1 x2 x3 x4 x5 x6 x7) =
 (bif decide (x5<x4) then bif decide (0≤x5) && decide (x5<(↑x7.length:Int)) then bif decide (0≤x5) && decide (x5<(↑x0.length:Int)) then Few (x7.getD x5.toNat 0) l∧bif !ByteArray.toList (x0.getD x5.toNat ByteArray.empty) == (Sem.ratText (eF (Int.toNat (x7.getD x5.toNat 0)) l.length)).toList then K (AV.bool false) [aA.box [AV.imm eP l],aA.typed eI x6 false,aA.typed eI x7 false] else aB Tryz.prog n0 4 K (aE (fnT Tryz.f4) 25) (z7 m l x0 x1 x2 x3 x4 (IntKind.i64.wrap (x5+1)) x6 x7) else False else False else aB Tryz.prog n0 4 K (aE (fnT Tryz.f4) 31) (z8 m l x0 x1 x2 x3 (↑x6.length:Int) 0 x6)):=by kernel_rfl
theorem a4P (m:List (List ByteArray)) (l:List (Int × Int)) (x0 x1:List ByteArray) (x2 x3:ByteArray) (x4 x5:Int) (x6:List Int) (n0:Nat) (K:AV→List aA→Prop) :
 aH tab (aM tab mA [] 400) (aK iA iB (aB Tryz.prog n0 4 K)) (aI tab (fnT Tryz.f4).res K) 400 (aT (fnT Tryz.f4) 31) (z8 m l x0 x1 x2 x3 x4 x5 x6) =
 (bif decide (x5<x4) then bif decide (0≤x5) && decide (x5<(↑x6.length:Int)) then bif decide (0≤x5) && decide (x5<(↑x1.length:Int)) then Few (x6.getD x5.toNat 0) l∧bif !ByteArray.toList (x1.getD x5.toNat ByteArray.empty) == (Sem.ratText (eF (Int.toNat (x6.getD x5.toNat 0)) l.length)).toList then K (AV.bool false) [aA.box [AV.imm eP l],aA.typed eI x6 false] else aB Tryz.prog n0 4 K (aE (fnT Tryz.f4) 31) (z8 m l x0 x1 x2 x3 x4 (IntKind.i64.wrap (x5+1)) x6) else False else False else bif decide (0<(↑m.length:Int)) then zX m 0∧∃ n k s f h,TF (gE m 0) n f∧TF x0 k h∧n≤k∧SzF s n f∧SzF s n h∧SzS n s∧∃ n_1 k s f_1 h_1,TF (m.getD 0 []) n_1 f_1∧TF x1 k h_1∧n_1≤k∧SzF s n_1 f_1∧SzF s n_1 h_1∧SzS n_1 s∧bif decide (0<(↑m.length:Int)) then aB Tryz.prog n0 4 K (aE (fnT Tryz.f4) 38) (tD m l x0 x1 x2 x3 (Sem.ratText (bY (fun i=>f i * h i) n)) (Sem.ratText (bY (fun i=>f_1 i * h_1 i) n_1)) (↑(List.length (m.getD 0 [])):Int) 0) else False else False):=by kernel_rfl
theorem a4Q (m:List (List ByteArray)) (l:List (Int × Int)) (x0 x1:List ByteArray) (x2 x3 x4 x5:ByteArray) (x6 x7:Int) (n0:Nat) (K:AV→List aA→Prop) :
 aH tab (aM tab mA [] 400) (aK iA iB (aB Tryz.prog n0 4 K)) (aI tab (fnT Tryz.f4).res K) 400 (aT (fnT Tryz.f4) 38) (tD m l x0 x1 x2 x3 x4 x5 x6 x7) =
 (bif decide (x7<x6) then zX m x7∧∃ n k s f h,TF (gE m x7.toNat) n f∧TF x0 k h∧n≤k∧SzF s n f∧SzF s n h∧SzS n s∧∃ x y,Sem.ratText (bY (fun i=>f i * h i) n)=Sem.ratText x∧x4=Sem.ratText y∧Sz 4000000000 x∧Sz 4000000000 y∧bif decide (Sem.sgn (x - y)<0) then aB Tryz.prog n0 4 K (aE (fnT Tryz.f4) 38) (tD m l x0 x1 x2 x3 (Sem.ratText (bY (fun i=>f i * h i) n)) x5 x6 (IntKind.i64.wrap (x7+1))) else aB Tryz.prog n0 4 K (aE (fnT Tryz.f4) 38) (tD m l x0 x1 x2 x3 x4 x5 x6 (IntKind.i64.wrap (x7+1))) else aB Tryz.prog n0 4 K (aE (fnT Tryz.f4) 45) (tE m l x1 x2 x3 x4 x5 (↑m.length:Int) 0)):=by kernel_rfl
theorem a4R (m:List (List ByteArray)) (l:List (Int × Int)) (x0:List ByteArray) (x1 x2 x3 x4:ByteArray) (x5 x6:Int) (n0:Nat) (K:AV→List aA→Prop) :
 aH tab (aM tab mA [] 400) (aK iA iB (aB Tryz.prog n0 4 K)) (aI tab (fnT Tryz.f4).res K) 400 (aT (fnT Tryz.f4) 45) (tE m l x0 x1 x2 x3 x4 x5 x6) =
 (bif decide (x6<x5) then bif decide (0≤x6) && decide (x6<(↑m.length:Int)) then ∃ n k s f h,TF (m.getD x6.toNat []) n f∧TF x0 k h∧n≤k∧SzF s n f∧SzF s n h∧SzS n s∧∃ x y,Sem.ratText (bY (fun i=>f i * h i) n)=Sem.ratText x∧x4=Sem.ratText y∧Sz 4000000000 x∧Sz 4000000000 y∧bif decide (Sem.sgn (x - y) > 0) then aB Tryz.prog n0 4 K (aE (fnT Tryz.f4) 45) (tE m l x0 x1 x2 x3 (Sem.ratText (bY (fun i=>f i * h i) n)) x5 (IntKind.i64.wrap (x6+1))) else aB Tryz.prog n0 4 K (aE (fnT Tryz.f4) 45) (tE m l x0 x1 x2 x3 x4 x5 (IntKind.i64.wrap (x6+1))) else False else bif x1.toList == x3.toList then K (AV.bool (bif true then x2.toList == x4.toList else false)) [] else K (AV.bool false) []):=by kernel_rfl
end
end Go.Proofs.YtehakimmioclkaaGreatDoor.Mach
end
section
set_option linter.unusedSimpArgs false
set_option linter.unusedVariables false
namespace Go.Proofs.YtehakimmioclkaaGreatDoor.Lib
open Go Go.Proofs.YtehakimmioclkaaGreatDoor.Mach
section
theorem a4S {Q:Res} (h:aP3 Q):Con Tryz.prog 5 [] Q:=Con.mono aUZ fun v objs h' => by
 obtain ⟨h1,h2⟩:=h'
 rw [h1,h2]
 exact h
end
end Go.Proofs.YtehakimmioclkaaGreatDoor.Lib
end
section
set_option linter.unusedSimpArgs false
set_option linter.unusedVariables false
namespace Go.Proofs.YtehakimmioclkaaGreatDoor.Lib
open Go Go.Proofs.YtehakimmioclkaaGreatDoor.Mach Go.Proofs.YtehakimmioclkaaGreatDoorW.PrintWords Go.Proofs.YtehakimmioclkaaGreatDoor.Sem Go.Proofs.YtehakimmioclkaaGreatDoor.Pure
section
def gS : Res:=fun v _=>v = .bool true
theorem z9 (H:List aA):aO gS (.bool true) H:=aOL rfl
theorem aQG {b:Bool} (H:List aA) (h:b=true):aO gS (.bool b) H:=by subst h; exact z9 H
theorem a4T : ∀ g xs Q,aQD g xs Q→Con Tryz.prog g xs Q:=dA fun p hp=>by
 simp only [List.mem_cons,List.not_mem_nil,or_false] at hp
 rcases hp with rfl | rfl | rfl
 · exact aZ fun _ _ _ h=>aEQ h
 · exact aZ fun _ _ _ h=>a1U h
 · exact bD fun _ _ h=>a1Z h
end
section
def cQ (f:Nat→Nat) (N:Nat):List Int:=(List.range N).map fun i=>((f i:Nat):Int)
section
variable {f:Nat→Nat} {N i:Nat}
theorem gF : (cQ f N).length=N:=by unfold cQ; simp
theorem tF (h:i<N):(cQ f N).getD i 0=((f i:Nat):Int):=by
 unfold cQ
 rw [List.getD_eq_getElem?_getD,List.getElem?_map,List.getElem?_range h]; rfl
theorem cntL_zero : List.replicate N (0:Int)=cQ (fun _=>0) N:=by
 unfold cQ
 refine List.ext_getElem (by simp) fun j h1 h2=>by simp
theorem a4U (h:i<N):(cQ f N).set i (((f i:Nat):Int)+1)=cQ (fun j=>if j=i then f j+1 else f j) N:=by
 unfold cQ
 refine List.ext_getElem (by simp) fun j h1 h2=>?_
 rw [List.getElem_set]
 by_cases e:i=j
 · subst e; simp
 · simp only [List.getElem_map,List.getElem_range]
   rw [if_neg e,if_neg (fun h=>e h.symm)]
end
theorem jT (p:Nat→Bool):∀ x,kP p x≤x
 | 0=>Nat.le_refl _
 | x+1=>by
   have:=jT p x
   unfold kP
   split <;> omega
section
variable {l:List (Int × Int)} {I x:Nat}
theorem aEY (h:(l.getD x p0).1=(I:Int)):dR l (x+1)=fun j=>if j=I then dR l x j+1 else dR l x j:=by
 funext j
 unfold dR
 rw [kP]
 simp only [h]
 by_cases e:j=I
 · subst e; rw [decide_eq_true rfl,if_pos rfl,if_pos rfl]
 · rw [decide_eq_false (by omega),if_neg (by decide),if_neg e]
theorem aEZ (h:(l.getD x p0).2=(I:Int)):dJ l (x+1)=fun j=>if j=I then dJ l x j+1 else dJ l x j:=by
 funext j
 unfold dJ
 rw [kP]
 simp only [h]
 by_cases e:j=I
 · subst e; rw [decide_eq_true rfl,if_pos rfl,if_pos rfl]
 · rw [decide_eq_false (by omega),if_neg (by decide),if_neg e]
end
theorem rgA (a b c d:Rat):a+b+(c+d)=a+c+(b+d):=by grind
theorem aQH (f g:Nat→Rat):∀ n,bY (fun i=>f i+g i) n=bY f n+bY g n
 | 0=>by show (0:Rat)=0+0; rw [Rat.add_zero]
 | n+1=>by
   show bY (fun i=>f i+g i) n+(f n+g n)=bY f n+f n+(bY g n+g n)
   rw [aQH f g n]
   exact rgA _ _ _ _
theorem aQI : ∀ n,bY (fun _=>(0:Rat)) n=0
 | 0=>rfl
 | n+1=>by show bY (fun _=>(0:Rat)) n+0=0; rw [aQI n,Rat.add_zero]
theorem aQJ (g:Nat→Rat) (I:Nat):∀ n,bY (fun i=>if i=I then g i else 0) n=if I<n then g I else 0
 | 0=>by rw [if_neg (Nat.not_lt_zero _)]; rfl
 | n+1=>by
   show bY (fun i=>if i=I then g i else 0) n+(if n=I then g n else 0)=_
   rw [aQJ g I n]
   by_cases e:n=I
   · subst e
     rw [if_neg (Nat.lt_irrefl _),if_pos rfl,if_pos (Nat.lt_succ_self _),Rat.zero_add]
   · rw [if_neg e,Rat.add_zero]
     by_cases h:I<n
     · rw [if_pos h,if_pos (by omega)]
     · rw [if_neg h,if_neg (by omega)]
theorem aQK (a:Nat→Rat) (r:Rat):∀ n,bY (fun i=>a i / r) n=bY a n / r
 | 0=>by show (0:Rat)=0 / r; rw [Rat.div_def,Rat.zero_mul]
 | n+1=>by
   show bY (fun i=>a i / r) n+a n / r=(bY a n+a n) / r
   rw [aQK a r n,Rat.div_def,Rat.div_def,Rat.div_def,Rat.add_mul]
theorem a4V (n:Nat):(((n+1:Nat):Int):Rat)=(((n:Nat):Int):Rat)+1:=by
 rw [Int.natCast_add,Rat.intCast_add]; rfl
theorem aE0 {c:Nat→Nat→Nat} {h:Nat→Nat} (g:Nat→Rat) {N:Nat} (h0:∀ i,c 0 i=0):∀ x,(∀ t,t<x→h t<N∧c (t+1)=fun j=>if j=h t then c t j+1 else c t j)→bY (fun i=>g i * (((c x i:Nat):Int):Rat)) N=bY (fun t=>g (h t)) x
 | 0,_=>by
   have:(fun i=>g i * (((c 0 i:Nat):Int):Rat))=fun _=>0:=by
    funext i
    rw [h0 i]
    exact Rat.mul_zero _
   rw [this,aQI]; rfl
 | x + 1,hh=>by
   obtain ⟨h1,h2⟩:=hh x (by omega)
   have ih:=aE0 g h0 x fun t ht=>hh t (by omega)
   have:(fun i=>g i * (((c (x+1) i:Nat):Int):Rat))=fun i=>g i * (((c x i:Nat):Int):Rat)+(if i=h x then g i else 0):=by
     funext i
     rw [h2]
     by_cases e:i=h x
     · simp only [if_pos e]
       rw [a4V,Rat.mul_add,Rat.mul_one]
     · simp only [if_neg e]
       rw [Rat.add_zero]
   rw [this,aQH,ih,aQJ,if_pos h1]
   rfl
theorem aAA {x y:Rat}:0<sgn (x - y)↔y<x:=by
 rw [← Rat.not_le,Rat.le_iff_sub_nonneg,← Rat.num_nonneg]
 have:(y - x).num = -(x - y).num:=by rw [← Rat.neg_sub,Rat.neg_num]
 rw [this]
 unfold sgn
 split
 · omega
 · split <;> omega
theorem aAB {x y:Rat}:sgn (x - y)<0↔x<y:=by
 rw [← Rat.not_le,Rat.le_iff_sub_nonneg,← Rat.num_nonneg]
 unfold sgn
 split
 · omega
 · split <;> omega
theorem aAC {a b r:Rat} (hr:0<r):a / r<b / r↔a<b:=by
 rw [Rat.div_lt_iff hr,Rat.div_mul_cancel (Rat.ne_of_gt hr)]
theorem aQL {f:Nat→Rat} {r:Rat} (hr:0<r):∀ k,dF (fun i=>f i / r) k=dF f k / r
 | 0=>rfl
 | k+1=>by
   show (if sgn (f k / r - dF (fun i=>f i / r) k)<0 then f k / r else dF (fun i=>f i / r) k)=(if sgn (f k - dF f k)<0 then f k else dF f k) / r
   rw [aQL hr k]
   by_cases h:f k<dF f k
   · rw [if_pos (aAB.2 h),if_pos (aAB.2 ((aAC hr).2 h))]
   · rw [if_neg (fun c=>h (aAB.1 c)),if_neg (fun c=>h ((aAC hr).1 (aAB.1 c)))]
theorem aQM {f:Nat→Rat} {r:Rat} (hr:0<r):∀ k,dC (fun i=>f i / r) k=dC f k / r
 | 0=>rfl
 | k+1=>by
   show (if 0<sgn (f k / r - dC (fun i=>f i / r) k) then f k / r else dC (fun i=>f i / r) k)=(if 0<sgn (f k - dC f k) then f k else dC f k) / r
   rw [aQM hr k]
   by_cases h:dC f k<f k
   · rw [if_pos (aAA.2 h),if_pos (aAA.2 ((aAC hr).2 h))]
   · rw [if_neg (fun c=>h (aAA.1 c)),if_neg (fun c=>h ((aAC hr).1 (aAA.1 c)))]
theorem aQN (f:Nat→Rat):∀ {n} k,0<n→k≤n→∃ i,i<n∧dF f k=f i
 | _,0,h,_=>⟨0,h,rfl⟩
 | n,k+1,h,hk=>by
   rw [dF]
   split
   · exact ⟨k,hk,rfl⟩
   · exact aQN f k h (by omega)
theorem aQO (f:Nat→Rat):∀ {n} k,0<n→k≤n→∃ i,i<n∧dC f k=f i
 | _,0,h,_=>⟨0,h,rfl⟩
 | n,k+1,h,hk=>by
   rw [dC]
   split
   · exact ⟨k,hk,rfl⟩
   · exact aQO f k h (by omega)
theorem aE1 {f:Nat→Rat} {s n k:Nat} (h0:0<n) (h:∀ i,i<n→Sz s (f i)) (hk:k≤n):Sz s (dF f k):=by
 obtain ⟨i,hi,e⟩:=aQN f k h0 hk
 rw [e]; exact h i hi
theorem aAD {f:Nat→Rat} {s n k:Nat} (h0:0<n) (h:∀ i,i<n→Sz s (f i)) (hk:k≤n):Sz s (dC f k):=by
 obtain ⟨i,hi,e⟩:=aQO f k h0 hk
 rw [e]; exact h i hi
end
end Go.Proofs.YtehakimmioclkaaGreatDoor.Lib
end
