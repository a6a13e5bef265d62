/- Texts of this session, put together. -/
import Derived.Test.YtpngedkdkpfnkaaGreatDoorRV4
section
set_option linter.unusedSimpArgs false
set_option linter.unusedVariables false
namespace Go.Proofs.YtpngedkdkpfnkaaGreatDoor.Lib
open Go Go.Proofs.YtpngedkdkpfnkaaGreatDoor.Mach Go.Proofs.YtpngedkdkpfnkaaGreatDoorW.PrintWords Go.Proofs.YtpngedkdkpfnkaaGreatDoor.Sem Go.Proofs.YtpngedkdkpfnkaaGreatDoor.Pure
section
theorem aV4 : ∀ g xs Q,aKE g xs Q→Con Tryz.prog g xs Q:=cH fun p hp=>by
 simp only [List.mem_cons,List.not_mem_nil,or_false] at hp
 rcases hp with rfl | rfl | rfl | rfl | rfl
 · exact bA fun _ _ _ h=>aKJ h
 · exact bF fun _ _ h=>bCF h
 · exact bF fun _ _ h=>aCS h
 · exact bF fun _ _ h=>aV3 h
 · exact bF fun _ _ h=>aKN h
theorem bCL {k:Nat} {q:Rat} (h:Sz k q):Sz k (-q):=by
 refine ⟨?_,?_⟩
 · show dg (-q).num.natAbs≤k
   rw [Rat.neg_num,Int.natAbs_neg]; exact h.1
 · show dg (-q).den≤k
   rw [Rat.neg_den]; exact h.2
theorem bCM {z w:QT} {Q:Res} (h:subQ z w Q):Con Tryz.prog 117 [qa z,qa w] Q:=by
 obtain ⟨x,y,hz,hw,sx,sy,hq⟩:=h
 refine rG ?_ hq
 obtain ⟨b,n,d⟩:=z
 obtain ⟨b', n', d'⟩:=w
 refine aW (gn:=fnT Tryz.f117) (by kernel_rfl) aV4 (inl:=[]) (LT:=aVQ) (NT:=aVR) rfl fun n0=>?_
 refine (bB5 b n d b' n' d' n0 _).symm ▸ ?_
 refine ⟨y,hw,fun r hr=>⟨x, -y,hz,hr,sx,bCL sy,fun r hr=>?_⟩⟩
 rw [Rat.sub_eq_add_neg]
 exact iW hr
theorem bCN : ∀ g xs Q,aU7 g xs Q→Con Tryz.prog g xs Q:=cH fun p hp=>by
 simp only [List.mem_cons,List.not_mem_nil,or_false] at hp
 rcases hp with rfl | rfl
 · exact bA fun _ _ _ h=>bCM h
 · exact bF fun _ _ h=>aCS h
theorem bCO {z w:QT} {Q:Res} (h:cmpQ z w Q):Con Tryz.prog 89 [qa z,qa w] Q:=by
 obtain ⟨x,y,hz,hw,sx,sy,hq⟩:=h
 obtain ⟨b,n,d⟩:=z
 obtain ⟨b', n', d'⟩:=w
 refine aW (gn:=fnT Tryz.f89) (by kernel_rfl) bCN (inl:=[]) (LT:=aVU) (NT:=aVV) rfl fun n0=>?_
 refine (bB7 b n d b' n' d' n0 _).symm ▸ ?_
 exact ⟨x,y,hz,hw,sx,sy,fun r hr=>⟨x - y,hr,bP hq rfl rfl⟩⟩
theorem aKO {z:QT} {Q:Res} (h:aCK z Q):Con Tryz.prog 36 [qa z] Q:=by
 obtain ⟨q,hz,sq,hq⟩:=h
 obtain ⟨b,n,d⟩:=z
 refine aW (gn:=fnT Tryz.f36) (by kernel_rfl) aV4 (inl:=[]) (LT:=aVI) (NT:=aVJ) rfl fun n0=>?_
 refine (bB1 b n d n0 _).symm ▸ ?_
 refine ⟨q,hz,sq,?_⟩
 unfold iV at hq
 by_cases h0:dG q=0
 · rw [if_pos h0,h0] at hq
   exact aP (aC h0 ⟨q,hz,sq,bP hq rfl rfl⟩)
 · rw [if_neg h0] at hq
   exact aP (aE h0 (bP hq rfl rfl))
theorem bCP {n:Nat} (h:n<10 ^ 20):dg n≤20:=vJ (by decide) h
theorem rM {s:ByteArray} (h:natErr s=0):∃ n,s=natText n∧dg n≤2000:=by
 rcases aUC s with ⟨n,hn,he⟩ | ⟨he,_⟩
 · refine ⟨n,hn,?_⟩
   rw [he] at h
   split at h
   · cases h
   · omega
 · rw [he] at h; cases h
theorem bCQ {n:Nat} (h:dg n≤2000):natErr (natText n)=0:=by rw [bBJ,if_neg (by omega)]
theorem aKP (s:ByteArray):(aN s).size≤s.size:=by
 unfold aN
 cases bM s
 · exact Nat.le_refl _
 · rw [cond_true,ByteArray.size_extract]; omega
theorem aV5 (s:ByteArray):(bS s).size≤s.size:=by
 unfold bS
 have:=vK s 47
 cases bN s
 · exact Nat.le_refl _
 · rw [cond_true,ByteArray.size_extract]; omega
theorem aKQ (s:ByteArray):(bW s).size≤s.size:=by
 unfold bW
 cases bN s
 · exact Nat.zero_le _
 · rw [cond_true,ByteArray.size_extract]; omega
theorem aV6 {p c:Bool} {A T:Prop} (h1:p=true→c=true→A) (h2:¬ (p=true∧c=true)→T):bif p then (bif c then A else T) else T:=by
 cases p with
 | false=>exact h2 (by simp)
 | true =>
   cases c with
   | true=>exact h1 rfl rfl
   | false=>exact h2 (by simp)
theorem g7 {a:ByteArray}:(a.toList == (ByteArray.mk #[48]).toList)=true↔a=fR:=by rw [beq_iff_eq,mF]
theorem lH {a:ByteArray}:(a.toList == (ByteArray.mk #[49]).toList)=true↔a=⟨#[49]⟩:=by rw [beq_iff_eq,mF]
theorem aV7 {s:ByteArray} {Q:Res} (h:rC s Q):Con Tryz.prog 106 [.str s] Q:=by
 obtain ⟨hs,hq⟩:=h
 unfold Tx at hs
 refine aW (gn:=fnT Tryz.f106) (by kernel_rfl) vY (inl:=[]) (LT:=aVW) (NT:=aVX) rfl fun n0=>?_
 rw [bB8]
 have r1:=aKP s
 have r2:=aV5 (aN s)
 have r3:=aKQ (aN s)
 have hk:∀ v,eU s=v→aO Q (.int .i64 v) []:=fun v h=>by rw [h] at hq; exact bP hq rfl rfl
 refine ⟨rfl,by omega,rfl,by omega,by omega,?_⟩
 unfold eU at hk
 generalize bS (aN s)=a at *
 generalize bW (aN s)=b at *
 cases hI:bN (aN s) with
 | true =>
   refine cC ⟨by omega,?_⟩
   simp only [hI,true_and] at hk
   by_cases h1:natErr a=5
   · exact aC h1 (hk 5 (if_pos (.inl h1)))
   refine aE h1 ?_
   by_cases h2:natErr b=5
   · exact aS (decide_eq_true h2) (hk 5 (if_pos (.inr (.inl h2))))
   refine aZ (fun h=>h2 (of_decide_eq_true h)) ?_
   refine aV6 (fun hp hc=>hk 5 (if_pos (.inr (.inr ⟨hp,g7.1 hc⟩)))) fun hpc=>?_
   have h3:¬ (natErr a=5∨natErr b=5∨(bM s=true∧a=fR)):=by
    rintro (h | h | h)
    · exact h1 h
    · exact h2 h
    · exact hpc ⟨h.1,g7.2 h.2⟩
   rw [if_neg h3] at hk
   by_cases e1:natErr a=0
   · refine aP (aC e1 ?_)
     by_cases e2:natErr b=0
     · refine aZ (by simp [e2]) (cC ?_)
       rw [if_neg (by rintro (h | h) <;> exact h (by assumption))] at hk
       by_cases f1:b=fR
       · exact aS (g7.2 f1) (hk 3 (if_pos (.inl f1)))
       refine aZ (fun h=>f1 (g7.1 h)) ?_
       by_cases f2:b=⟨#[49]⟩
       · exact aS (lH.2 f2) (hk 3 (if_pos (.inr (.inl f2))))
       refine aZ (fun h=>f2 (lH.1 h)) ?_
       obtain ⟨u,rfl,hu⟩:=rM e1
       obtain ⟨v,rfl,hv⟩:=rM e2
       have hv0:0<v:=Nat.pos_of_ne_zero fun h=>f1 (by rw [h]; exact mD)
       have hgb:dg (Nat.gcd u v)≤9000000000:=Nat.le_trans (g6 (Nat.le_of_dvd hv0 (Nat.gcd_dvd_right u v))) (by omega)
       rw [mE,mE] at hk
       refine ⟨u,rfl,by unfold Bd; omega,v,rfl,by unfold Bd; omega,_,_,rfl,rfl,by omega,by omega,rH,_,_,rfl,rfl,hgb,?_⟩
       by_cases f3:Nat.gcd u v=1
       · refine aZ (by simp [f3,aKI.2]; exact aKI.2 rfl) (hk 0 (if_neg ?_))
         rintro (h | h | h)
         · exact f1 h
         · exact f2 h
         · exact h f3
       · refine aS ?_ (hk 3 (if_pos (.inr (.inr f3))))
         have:¬ cmpI ((Nat.gcd u v:Nat):Int) ((1:Nat):Int)=0:=fun h=>f3 (aKI.1 h).symm
         simp only [cond_true,cond_false,Bool.not_eq_true', decide_eq_false_iff_not]
         exact this
     · exact aS (by simp [e2]) (hk 2 (if_pos (.inr e2)))
   · exact aP (aE e1 (hk 2 (if_pos (.inl e1))))
 | false =>
   refine cE ?_
   simp only [hI,Bool.false_eq_true,false_and,or_false,false_or] at hk
   by_cases h1:natErr a=5
   · exact aC h1 (hk 5 (if_pos (.inl h1)))
   refine aE h1 ?_
   refine aV6 (fun hp hc=>hk 5 (if_pos (.inr ⟨hp,g7.1 hc⟩))) fun hpc=>?_
   have h3:¬ (natErr a=5∨(bM s=true∧a=fR)):=by
    rintro (h | h)
    · exact h1 h
    · exact hpc ⟨h.1,g7.2 h.2⟩
   rw [if_neg h3] at hk
   by_cases e1:natErr a=0
   · refine aP (aC e1 (cE ?_))
     exact hk 0 (by rw [if_neg (by simpa using e1)]; simp)
   · exact aP (aE e1 (hk 2 (if_pos e1)))
end
end Go.Proofs.YtpngedkdkpfnkaaGreatDoor.Lib
end
section
set_option linter.unusedSimpArgs false
set_option linter.unusedVariables false
namespace Go.Proofs.YtpngedkdkpfnkaaGreatDoor.Mach
open Go Go.Proofs.YtpngedkdkpfnkaaGreatDoor Go.Proofs.YtpngedkdkpfnkaaGreatDoor.Lib
section
set_option maxRecDepth 1000000
def rN : List (Nat × List Nat):=[(6,[5,6,16,17])]
def rO : List (Nat × ETy):=[]
noncomputable def aCT (s x0:ByteArray) (x1:Bool) (x2 x3:Int):St:=aQ 35 [(5,AV.str x0),(6,AV.bool x1),(16,AV.int .i64 x2),(17,AV.int .i64 x3)] []
noncomputable def aCU (s:ByteArray) (x0:Bool) (x1 x2:Int):St:=aQ 35 [(5,AV.str s),(6,AV.bool x0),(16,AV.int .i64 x1),(17,AV.int .i64 x2)] []
theorem bCR (s:ByteArray) (n0:Nat) (K:AV→List aA→Prop) :
 aF tab (aL tab bE [] 400) (aI rN rO (aB Tryz.prog n0 53 K)) (aG tab (fnT Tryz.f53).res K) 400 [.code (fnT Tryz.f53).body] ⟨aU (fnT Tryz.f53).n [AV.str s],[]⟩ =
 (bif decide (0<(↑s.size:Int)) then bif decide ((↑(s.data.toList.getD 0 0).toNat:Int)=45) then bif decide (1≤(↑s.size:Int)) && decide ((↑s.size:Int)≤(↑s.size:Int)) then aB Tryz.prog n0 53 K (aD (fnT Tryz.f53) 6) (aCT s (s.extract 1 (↑s.size:Int).toNat) (decide ((↑(s.data.toList.getD 0 0).toNat:Int)=45)) (↑(s.extract 1 (↑s.size:Int).toNat).size:Int) 0) else False else aB Tryz.prog n0 53 K (aD (fnT Tryz.f53) 6) (aCU s (decide ((↑(s.data.toList.getD 0 0).toNat:Int)=45)) (↑s.size:Int) 0) else False):=by kernel_rfl
theorem bCS (s x0:ByteArray) (x1:Bool) (x2 x3:Int) (n0:Nat) (K:AV→List aA→Prop) :
 aF tab (aL tab bE [] 400) (aI rN rO (aB Tryz.prog n0 53 K)) (aG tab (fnT Tryz.f53).res K) 400 (aR (fnT Tryz.f53) 6) (aCT s x0 x1 x2 x3) =
 (bif decide (x3<x2) then bif decide (0≤x3) && decide (x3<(↑x0.size:Int)) then bif decide ((↑(x0.data.toList.getD x3.toNat 0).toNat:Int)=47) then bif decide (0≤x3) && decide (x3≤(↑x0.size:Int)) then bif decide (0≤IntKind.i64.wrap (x3+1)) && decide (IntKind.i64.wrap (x3+1)≤(↑x0.size:Int)) && decide ((↑x0.size:Int)≤(↑x0.size:Int)) then K (AV.tup [AV.bool x1,AV.str (x0.extract 0 x3.toNat),AV.str (x0.extract (IntKind.i64.wrap (x3+1)).toNat (↑x0.size:Int).toNat)]) [] else False else False else aB Tryz.prog n0 53 K (aD (fnT Tryz.f53) 6) (aCT s x0 x1 x2 (IntKind.i64.wrap (x3+1))) else False else K (AV.tup [AV.bool x1,AV.str x0,AV.str (ByteArray.mk #[49])]) []):=by kernel_rfl
theorem bCT (s:ByteArray) (x0:Bool) (x1 x2:Int) (n0:Nat) (K:AV→List aA→Prop) :
 aF tab (aL tab bE [] 400) (aI rN rO (aB Tryz.prog n0 53 K)) (aG tab (fnT Tryz.f53).res K) 400 (aR (fnT Tryz.f53) 6) (aCU s x0 x1 x2) =
 (bif decide (x2<x1) then bif decide (0≤x2) && decide (x2<(↑s.size:Int)) then bif decide ((↑(s.data.toList.getD x2.toNat 0).toNat:Int)=47) then bif decide (0≤x2) && decide (x2≤(↑s.size:Int)) then bif decide (0≤IntKind.i64.wrap (x2+1)) && decide (IntKind.i64.wrap (x2+1)≤(↑s.size:Int)) && decide ((↑s.size:Int)≤(↑s.size:Int)) then K (AV.tup [AV.bool x0,AV.str (s.extract 0 x2.toNat),AV.str (s.extract (IntKind.i64.wrap (x2+1)).toNat (↑s.size:Int).toNat)]) [] else False else False else aB Tryz.prog n0 53 K (aD (fnT Tryz.f53) 6) (aCU s x0 x1 (IntKind.i64.wrap (x2+1))) else False else K (AV.tup [AV.bool x0,AV.str s,AV.str (ByteArray.mk #[49])]) []):=by kernel_rfl
def aV8 : List (Nat × List Nat):=[]
def aV9 : List (Nat × ETy):=[]
theorem bCU (neg:Bool) (n d:ByteArray) (n0:Nat) (K:AV→List aA→Prop) :
 aF tab (aL tab rE [] 400) (aI aV8 aV9 (aB Tryz.prog n0 54 K)) (aG tab (fnT Tryz.f54).res K) 400 [.code (fnT Tryz.f54).body] ⟨aU (fnT Tryz.f54).n [AV.bool neg,AV.str n,AV.str d],[]⟩ =
 (bif n.toList == (ByteArray.mk #[48]).toList then K (AV.str (ByteArray.mk #[48])) [] else ∃ u v,n=Sem.natText u∧d=Sem.natText v∧Sem.dg u≤9000000000∧Sem.dg v≤9000000000∧∃ u_1 v_1,n=Sem.natText u_1∧Sem.natText (u.gcd v)=Sem.natText v_1∧Sem.dg u_1≤9000000000∧Sem.dg v_1≤9000000000∧0<v_1∧∃ u_2 v_2,d=Sem.natText u_2∧Sem.natText (u.gcd v)=Sem.natText v_2∧Sem.dg u_2≤9000000000∧Sem.dg v_2≤9000000000∧0<v_2∧bif neg then bif decide (1+(Sem.natText (u_1 / v_1)).size≤9223372036854775807) then bif (Sem.natText (u_2 / v_2)).toList == (ByteArray.mk #[49]).toList then K (AV.str (ByteArray.mk #[45] ++ Sem.natText (u_1 / v_1))) [] else bif decide ((ByteArray.mk #[45] ++ Sem.natText (u_1 / v_1)).size+1≤9223372036854775807) then bif decide ((ByteArray.mk #[45] ++ Sem.natText (u_1 / v_1) ++ ByteArray.mk #[47]).size+(Sem.natText (u_2 / v_2)).size≤9223372036854775807) then K (AV.str (ByteArray.mk #[45] ++ Sem.natText (u_1 / v_1) ++ ByteArray.mk #[47] ++ Sem.natText (u_2 / v_2))) [] else False else False else False else bif (Sem.natText (u_2 / v_2)).toList == (ByteArray.mk #[49]).toList then K (AV.str (Sem.natText (u_1 / v_1))) [] else bif decide ((Sem.natText (u_1 / v_1)).size+1≤9223372036854775807) then bif decide ((Sem.natText (u_1 / v_1) ++ ByteArray.mk #[47]).size+(Sem.natText (u_2 / v_2)).size≤9223372036854775807) then K (AV.str (Sem.natText (u_1 / v_1) ++ ByteArray.mk #[47] ++ Sem.natText (u_2 / v_2))) [] else False else False):=by kernel_rfl
def mG : List (Nat × List Nat):=[(6,[3,4,5,6,7,24,25])]
def mH : List (Nat × ETy):=[]
noncomputable def rP (s x0:ByteArray) (x1:Int) (x2 x3:ByteArray) (x4 x5:Int):St:=aQ 86 [(3,AV.str x0),(4,AV.bool true),(5,AV.int .i64 x1),(6,AV.str x2),(7,AV.str x3),(24,AV.int .i64 x4),(25,AV.int .i64 x5)] []
noncomputable def rQ (s:ByteArray) (x0:Int) (x1:ByteArray) (x2 x3:Int):St:=aQ 86 [(3,AV.str s),(4,AV.bool false),(5,AV.int .i64 x0),(6,AV.str s),(7,AV.str x1),(24,AV.int .i64 x2),(25,AV.int .i64 x3)] []
noncomputable def rR (s:ByteArray) (x0:Int) (x1 x2:ByteArray) (x3 x4:Int):St:=aQ 86 [(3,AV.str s),(4,AV.bool false),(5,AV.int .i64 x0),(6,AV.str x1),(7,AV.str x2),(24,AV.int .i64 x3),(25,AV.int .i64 x4)] []
theorem bCV (s:ByteArray) (n0:Nat) (K:AV→List aA→Prop) :
 aF tab (aL tab rE [] 400) (aI mG mH (aB Tryz.prog n0 74 K)) (aG tab (fnT Tryz.f74).res K) 400 [.code (fnT Tryz.f74).body] ⟨aU (fnT Tryz.f74).n [AV.str s],[]⟩ =
 (bif decide ((↑s.size:Int) > 0) then bif decide (0<(↑s.size:Int)) then bif bif true then decide ((↑(s.data.toList.getD 0 0).toNat:Int)=45) else false then bif decide (1≤(↑s.size:Int)) && decide ((↑s.size:Int)≤(↑s.size:Int)) then aB Tryz.prog n0 74 K (aD (fnT Tryz.f74) 6) (rP s (s.extract 1 (↑s.size:Int).toNat) 1 (s.extract 1 (↑s.size:Int).toNat) (ByteArray.mk #[50]) (↑(s.extract 1 (↑s.size:Int).toNat).size:Int) 0) else False else aB Tryz.prog n0 74 K (aD (fnT Tryz.f74) 6) (rQ s 1 (ByteArray.mk #[50]) (↑s.size:Int) 0) else False else aB Tryz.prog n0 74 K (aD (fnT Tryz.f74) 6) (rQ s 1 (ByteArray.mk #[50]) (↑s.size:Int) 0)):=by kernel_rfl
theorem bCW (s x0:ByteArray) (x1:Int) (x2 x3:ByteArray) (x4 x5:Int) (n0:Nat) (K:AV→List aA→Prop) :
 aF tab (aL tab rE [] 400) (aI mG mH (aB Tryz.prog n0 74 K)) (aG tab (fnT Tryz.f74).res K) 400 (aR (fnT Tryz.f74) 6) (rP s x0 x1 x2 x3 x4 x5) =
 (bif decide (x5<x4) then bif decide (0≤x5) && decide (x5<(↑x0.size:Int)) then bif decide ((↑(x0.data.toList.getD x5.toNat 0).toNat:Int)=47) then bif bif true then decide (x1=1) else false then bif decide (0≤x5) && decide (x5≤(↑x0.size:Int)) then bif decide (0≤IntKind.i64.wrap (x5+1)) && decide (IntKind.i64.wrap (x5+1)≤(↑x0.size:Int)) && decide ((↑x0.size:Int)≤(↑x0.size:Int)) then aB Tryz.prog n0 74 K (aD (fnT Tryz.f74) 6) (rP s x0 2 (x0.extract 0 x5.toNat) (x0.extract (IntKind.i64.wrap (x5+1)).toNat (↑x0.size:Int).toNat) x4 (IntKind.i64.wrap (x5+1))) else False else False else aB Tryz.prog n0 74 K (aD (fnT Tryz.f74) 6) (rP s x0 x1 x2 x3 x4 (IntKind.i64.wrap (x5+1))) else aB Tryz.prog n0 74 K (aD (fnT Tryz.f74) 6) (rP s x0 x1 x2 x3 x4 (IntKind.i64.wrap (x5+1))) else False else x2.size≤1000000000000000∧x3.size≤1000000000000000∧bif decide (Pure.natErr x2=5) then K (AV.int .i64 5) [] else bif bif false then true else decide (Pure.natErr x3=5) then K (AV.int .i64 5) [] else bif bif false then true else bif true then x2.toList == (ByteArray.mk #[48]).toList else false then K (AV.int .i64 5) [] else bif !decide (Pure.natErr x2=0) then K (AV.int .i64 2) [] else bif bif false then true else !decide (Pure.natErr x3=0) then K (AV.int .i64 2) [] else bif decide (x1=2) then bif x3.toList == (ByteArray.mk #[48]).toList then K (AV.int .i64 3) [] else bif bif false then true else x3.toList == (ByteArray.mk #[49]).toList then K (AV.int .i64 3) [] else ∃ u v,x2=Sem.natText u∧x3=Sem.natText v∧Sem.dg u≤9000000000∧Sem.dg v≤9000000000∧bif bif true then bif false then true else !(Sem.natText (u.gcd v)).toList == (ByteArray.mk #[49]).toList else false then K (AV.int .i64 3) [] else K (AV.int .i64 0) [] else K (AV.int .i64 0) []):=by kernel_rfl
theorem bCX (s:ByteArray) (x0:Int) (x1:ByteArray) (x2 x3:Int) (n0:Nat) (K:AV→List aA→Prop) :
 aF tab (aL tab rE [] 400) (aI mG mH (aB Tryz.prog n0 74 K)) (aG tab (fnT Tryz.f74).res K) 400 (aR (fnT Tryz.f74) 6) (rQ s x0 x1 x2 x3) =
 (bif decide (x3<x2) then bif decide (0≤x3) && decide (x3<(↑s.size:Int)) then bif decide ((↑(s.data.toList.getD x3.toNat 0).toNat:Int)=47) then bif bif true then decide (x0=1) else false then bif decide (0≤x3) && decide (x3≤(↑s.size:Int)) then bif decide (0≤IntKind.i64.wrap (x3+1)) && decide (IntKind.i64.wrap (x3+1)≤(↑s.size:Int)) && decide ((↑s.size:Int)≤(↑s.size:Int)) then aB Tryz.prog n0 74 K (aD (fnT Tryz.f74) 6) (rR s 2 (s.extract 0 x3.toNat) (s.extract (IntKind.i64.wrap (x3+1)).toNat (↑s.size:Int).toNat) x2 (IntKind.i64.wrap (x3+1))) else False else False else aB Tryz.prog n0 74 K (aD (fnT Tryz.f74) 6) (rQ s x0 x1 x2 (IntKind.i64.wrap (x3+1))) else aB Tryz.prog n0 74 K (aD (fnT Tryz.f74) 6) (rQ s x0 x1 x2 (IntKind.i64.wrap (x3+1))) else False else s.size≤1000000000000000∧x1.size≤1000000000000000∧bif decide (Pure.natErr s=5) then K (AV.int .i64 5) [] else bif bif false then true else decide (Pure.natErr x1=5) then K (AV.int .i64 5) [] else bif !decide (Pure.natErr s=0) then K (AV.int .i64 2) [] else bif bif false then true else !decide (Pure.natErr x1=0) then K (AV.int .i64 2) [] else bif decide (x0=2) then bif x1.toList == (ByteArray.mk #[48]).toList then K (AV.int .i64 3) [] else bif bif false then true else x1.toList == (ByteArray.mk #[49]).toList then K (AV.int .i64 3) [] else ∃ u v,s=Sem.natText u∧x1=Sem.natText v∧Sem.dg u≤9000000000∧Sem.dg v≤9000000000∧bif bif true then bif false then true else !(Sem.natText (u.gcd v)).toList == (ByteArray.mk #[49]).toList else false then K (AV.int .i64 3) [] else K (AV.int .i64 0) [] else K (AV.int .i64 0) []):=by kernel_rfl
theorem bCY (s:ByteArray) (x0:Int) (x1 x2:ByteArray) (x3 x4:Int) (n0:Nat) (K:AV→List aA→Prop) :
 aF tab (aL tab rE [] 400) (aI mG mH (aB Tryz.prog n0 74 K)) (aG tab (fnT Tryz.f74).res K) 400 (aR (fnT Tryz.f74) 6) (rR s x0 x1 x2 x3 x4) =
 (bif decide (x4<x3) then bif decide (0≤x4) && decide (x4<(↑s.size:Int)) then bif decide ((↑(s.data.toList.getD x4.toNat 0).toNat:Int)=47) then bif bif true then decide (x0=1) else false then bif decide (0≤x4) && decide (x4≤(↑s.size:Int)) then bif decide (0≤IntKind.i64.wrap (x4+1)) && decide (IntKind.i64.wrap (x4+1)≤(↑s.size:Int)) && decide ((↑s.size:Int)≤(↑s.size:Int)) then aB Tryz.prog n0 74 K (aD (fnT Tryz.f74) 6) (rR s 2 (s.extract 0 x4.toNat) (s.extract (IntKind.i64.wrap (x4+1)).toNat (↑s.size:Int).toNat) x3 (IntKind.i64.wrap (x4+1))) else False else False else aB Tryz.prog n0 74 K (aD (fnT Tryz.f74) 6) (rR s x0 x1 x2 x3 (IntKind.i64.wrap (x4+1))) else aB Tryz.prog n0 74 K (aD (fnT Tryz.f74) 6) (rR s x0 x1 x2 x3 (IntKind.i64.wrap (x4+1))) else False else x1.size≤1000000000000000∧x2.size≤1000000000000000∧bif decide (Pure.natErr x1=5) then K (AV.int .i64 5) [] else bif bif false then true else decide (Pure.natErr x2=5) then K (AV.int .i64 5) [] else bif !decide (Pure.natErr x1=0) then K (AV.int .i64 2) [] else bif bif false then true else !decide (Pure.natErr x2=0) then K (AV.int .i64 2) [] else bif decide (x0=2) then bif x2.toList == (ByteArray.mk #[48]).toList then K (AV.int .i64 3) [] else bif bif false then true else x2.toList == (ByteArray.mk #[49]).toList then K (AV.int .i64 3) [] else ∃ u v,x1=Sem.natText u∧x2=Sem.natText v∧Sem.dg u≤9000000000∧Sem.dg v≤9000000000∧bif bif true then bif false then true else !(Sem.natText (u.gcd v)).toList == (ByteArray.mk #[49]).toList else false then K (AV.int .i64 3) [] else K (AV.int .i64 0) [] else K (AV.int .i64 0) []):=by kernel_rfl
def aCV : List (Nat × List Nat):=[(2,[6,7,8])]
def aCW : List (Nat × ETy):=[(6,eS)]
noncomputable def aCX (l:List ByteArray) (x0 x1:Int):St:=aQ 18 [(6,AV.imm eS l),(7,AV.int .i64 x0),(8,AV.int .i64 x1)] []
theorem bCZ (l:List ByteArray) (n0:Nat) (K:AV→List aA→Prop) :
 aF tab (aL tab aCN [] 400) (aI aCV aCW (aB Tryz.prog n0 76 K)) (aG tab (fnT Tryz.f76).res K) 400 [.code (fnT Tryz.f76).body] ⟨aU (fnT Tryz.f76).n [AV.imm eS l],[]⟩ =
 (aB Tryz.prog n0 76 K (aD (fnT Tryz.f76) 2) (aCX l (↑l.length:Int) 0)):=by kernel_rfl
theorem bC0 (l:List ByteArray) (x0 x1:Int) (n0:Nat) (K:AV→List aA→Prop) :
 aF tab (aL tab aCN [] 400) (aI aCV aCW (aB Tryz.prog n0 76 K)) (aG tab (fnT Tryz.f76).res K) 400 (aR (fnT Tryz.f76) 2) (aCX l x0 x1) =
 (bif decide (x1<x0) then bif decide (0≤x1) && decide (x1<(↑l.length:Int)) then Tx (l.getD x1.toNat ByteArray.empty)∧bif !decide (eU (l.getD x1.toNat ByteArray.empty)=0) then K (AV.int .i64 (eU (l.getD x1.toNat ByteArray.empty))) [] else aB Tryz.prog n0 76 K (aD (fnT Tryz.f76) 2) (aCX l x0 (IntKind.i64.wrap (x1+1))) else False else K (AV.int .i64 0) []):=by kernel_rfl
def aWA : List (Nat × List Nat):=[]
def aWB : List (Nat × ETy):=[]
theorem bC1 (s:ByteArray) (n0:Nat) (K:AV→List aA→Prop) :
 aF tab (aL tab rF [] 400) (aI aWA aWB (aB Tryz.prog n0 22 K)) (aG tab (fnT Tryz.f22).res K) 400 [.code (fnT Tryz.f22).body] ⟨aU (fnT Tryz.f22).n [AV.str s],[]⟩ =
 (∃ q,s=Sem.ratText q∧Sz 9000000000 q∧∃ u v,Sem.natText q.num.natAbs=Sem.natText u∧Sem.natText q.den=Sem.natText v∧0<v∧Sem.dg u≤9000000000∧Sem.dg v≤9000000000∧K (AV.str (Sem.ratText (Sem.mkq (!decide (q.num<0)) u v))) []):=by kernel_rfl
def aWC : List (Nat × List Nat):=[]
def aWD : List (Nat × ETy):=[]
theorem bC2 (s t:ByteArray) (n0:Nat) (K:AV→List aA→Prop) :
 aF tab (aL tab rF [] 400) (aI aWC aWD (aB Tryz.prog n0 45 K)) (aG tab (fnT Tryz.f45).res K) 400 [.code (fnT Tryz.f45).body] ⟨aU (fnT Tryz.f45).n [AV.str s,AV.str t],[]⟩ =
 (∃ q,s=Sem.ratText q∧Sz 9000000000 q∧∃ q_1,t=Sem.ratText q_1∧Sz 9000000000 q_1∧∃ u v,Sem.natText q.num.natAbs=Sem.natText u∧Sem.natText q_1.den=Sem.natText v∧Sem.dg u≤5000000000∧Sem.dg v≤5000000000∧∃ u_1 v_1,Sem.natText q_1.num.natAbs=Sem.natText u_1∧Sem.natText q.den=Sem.natText v_1∧Sem.dg u_1≤5000000000∧Sem.dg v_1≤5000000000∧∃ u_2 v_2,Sem.natText q.den=Sem.natText u_2∧Sem.natText q_1.den=Sem.natText v_2∧Sem.dg u_2≤5000000000∧Sem.dg v_2≤5000000000∧bif decide (q.num<0) == decide (q_1.num<0) then ∃ u_3 v_3,Sem.natText (u * v)=Sem.natText u_3∧Sem.natText (u_1 * v_1)=Sem.natText v_3∧Sem.dg u_3≤10000000000∧Sem.dg v_3≤10000000000∧∃ u v,Sem.natText (u_3+v_3)=Sem.natText u∧Sem.natText (u_2 * v_2)=Sem.natText v∧0<v∧Sem.dg u≤9000000000∧Sem.dg v≤9000000000∧K (AV.str (Sem.ratText (Sem.mkq (decide (q.num<0)) u v))) [] else ∃ u_3 v_3,Sem.natText (u * v)=Sem.natText u_3∧Sem.natText (u_1 * v_1)=Sem.natText v_3∧bif decide (Pure.cmpI (↑u_3:Int) (↑v_3:Int)<0) then ∃ u_4 v_4,Sem.natText (u_1 * v_1)=Sem.natText u_4∧Sem.natText (u * v)=Sem.natText v_4∧Sem.dg u_4≤10000000000∧v_4≤u_4∧∃ u v,Sem.natText (u_4 - v_4)=Sem.natText u∧Sem.natText (u_2 * v_2)=Sem.natText v∧0<v∧Sem.dg u≤9000000000∧Sem.dg v≤9000000000∧K (AV.str (Sem.ratText (Sem.mkq (decide (q_1.num<0)) u v))) [] else ∃ u_4 v_4,Sem.natText (u * v)=Sem.natText u_4∧Sem.natText (u_1 * v_1)=Sem.natText v_4∧Sem.dg u_4≤10000000000∧v_4≤u_4∧∃ u v,Sem.natText (u_4 - v_4)=Sem.natText u∧Sem.natText (u_2 * v_2)=Sem.natText v∧0<v∧Sem.dg u≤9000000000∧Sem.dg v≤9000000000∧K (AV.str (Sem.ratText (Sem.mkq (decide (q.num<0)) u v))) []):=by kernel_rfl
def aWE : List (Nat × List Nat):=[]
def aWF : List (Nat × ETy):=[]
theorem bC3 (s t:ByteArray) (n0:Nat) (K:AV→List aA→Prop) :
 aF tab (aL tab rF [] 400) (aI aWE aWF (aB Tryz.prog n0 46 K)) (aG tab (fnT Tryz.f46).res K) 400 [.code (fnT Tryz.f46).body] ⟨aU (fnT Tryz.f46).n [AV.str s,AV.str t],[]⟩ =
 (∃ q,s=Sem.ratText q∧Sz 9000000000 q∧∃ q_1,t=Sem.ratText q_1∧Sz 9000000000 q_1∧∃ u v,Sem.natText q.num.natAbs=Sem.natText u∧Sem.natText q_1.num.natAbs=Sem.natText v∧Sem.dg u≤5000000000∧Sem.dg v≤5000000000∧∃ u_1 v_1,Sem.natText q.den=Sem.natText u_1∧Sem.natText q_1.den=Sem.natText v_1∧Sem.dg u_1≤5000000000∧Sem.dg v_1≤5000000000∧∃ u_2 v_2,Sem.natText (u * v)=Sem.natText u_2∧Sem.natText (u_1 * v_1)=Sem.natText v_2∧0<v_2∧Sem.dg u_2≤9000000000∧Sem.dg v_2≤9000000000∧K (AV.str (Sem.ratText (Sem.mkq (!decide (q.num<0) == decide (q_1.num<0)) u_2 v_2))) []):=by kernel_rfl
def aWG : List (Nat × List Nat):=[]
def aWH : List (Nat × ETy):=[]
theorem bC4 (s:ByteArray) (n0:Nat) (K:AV→List aA→Prop) :
 aF tab (aL tab rF [] 400) (aI aWG aWH (aB Tryz.prog n0 55 K)) (aG tab (fnT Tryz.f55).res K) 400 [.code (fnT Tryz.f55).body] ⟨aU (fnT Tryz.f55).n [AV.str s],[]⟩ =
 (∃ q,s=Sem.ratText q∧Sz 9000000000 q∧bif (Sem.natText q.num.natAbs).toList == (ByteArray.mk #[48]).toList then K (AV.int .i64 0) [] else bif decide (q.num<0) then K (AV.int .i64 (-1)) [] else K (AV.int .i64 1) []):=by kernel_rfl
end
end Go.Proofs.YtpngedkdkpfnkaaGreatDoor.Mach
end
section
set_option linter.unusedSimpArgs false
set_option linter.unusedVariables false
namespace Go.Proofs.YtpngedkdkpfnkaaGreatDoor.Lib
open Go Go.Proofs.YtpngedkdkpfnkaaGreatDoor.Mach Go.Proofs.YtpngedkdkpfnkaaGreatDoorW.PrintWords Go.Proofs.YtpngedkdkpfnkaaGreatDoor.Sem Go.Proofs.YtpngedkdkpfnkaaGreatDoor.Pure
section
theorem rS {Q:Res} {s:ByteArray} {H:List aA} (h:Q (.str s) []):aO Q (.str s) H:=bP h rfl rfl
theorem dI {Q:Res} {k:IntKind} {n:Int} {H:List aA} (h:Q (.int k n) []):aO Q (.int k n) H:=bP h rfl rfl
theorem oC {Q:Res} {n:Bool} {H:List aA} (h:Q (.bool n) []):aO Q (.bool n) H:=bP h rfl rfl
theorem aWI (s:ByteArray) (i:Nat) (h:i<s.size):s[i]! = s.data.toList.getD i 0:=by
 rw [aCG s i h,List.getD_eq_getElem?_getD,List.getD_eq_getElem?_getD,List.getElem?_eq_getElem (by rw [Array.length_toList]; exact h)]
 rfl
theorem aWJ {s:ByteArray} {i:Nat} (hi:i<s.size) (h:s.data.toList.getD i 0=47):0≤firstIdx s 47∧firstIdx s 47≤i:=by
 rw [← aWI s i hi] at h
 unfold firstIdx
 split
 · rename_i j hj
   obtain ⟨h1,h2,h3⟩:=List.find?_range_eq_some.1 hj
   refine ⟨by omega,?_⟩
   have:j≤i:=Nat.le_of_not_lt fun hl=>by
    have:=h3 i hl
    rw [h] at this
    simp at this
   omega
 · rename_i hn
   have:=(List.find?_eq_none.1 hn) i (by simpa using hi)
   rw [h] at this
   simp at this
theorem aKR {s:ByteArray} {i:Nat} (hi:i<s.size) (h:s.data.toList.getD i 0≠47):firstIdx s 47≠i:=by
 rw [← aWI s i hi] at h
 unfold firstIdx
 split
 · rename_i j hj
   obtain ⟨h1,h2,h3⟩:=List.find?_range_eq_some.1 hj
   intro he
   have:j=i:=by omega
   rw [this] at h1
   exact h (by simpa using h1)
 · omega
theorem b47 {s:ByteArray} {i:Nat}:(((s.data.toList.getD i 0).toNat:Int)=47)↔s.data.toList.getD i 0=47 :=
 ⟨fun h => by have:(s.data.toList.getD i 0).toNat=(47:UInt8).toNat:=by rw [show (47:UInt8).toNat=47 from rfl]; omega
              exact UInt8.toNat_inj.1 this,fun h=>by rw [h]; rfl⟩
theorem b45 {s:ByteArray} (hs:0<s.size):(((s.data.toList.getD 0 0).toNat:Int)=45)↔bM s=true:=by
 unfold bM
 rw [decide_eq_true (show 1≤s.size by omega),cond_true,beq_iff_eq,ByteArray.toList_eq,ByteArray.toList_eq,ByteArray.data_extract,Array.toList_extract,List.extract_eq_take_drop]
 have hl:s.data.toList.length=s.size:=by rw [Array.length_toList]; rfl
 match hd:s.data.toList with
 | []=>rw [hd] at hl; simp at hl; omega
 | c :: r =>
   simp only [List.getD_cons_zero,List.drop_zero,Nat.sub_zero,List.take_succ_cons,List.take_zero,List.cons.injEq,and_true]
   exact ⟨fun h=>UInt8.toNat_inj.1 (by rw [show (45:UInt8).toNat=45 from rfl]; omega),fun h=>by rw [h]; rfl⟩
theorem aWK (r:ByteArray) (hr:r.size≤1000000000000) {S:Nat→St} {f:FuncId} {gn:FnT} (hg:find tab.fn f=some gn) {LT:List (Nat × List Nat)} {NT:List (Nat × ETy)} {C:FuncId→List AV→Res→Prop} (hC:∀ g xs Q,C g xs Q→Con Tryz.prog g xs Q) {K:Res} {n0 reg:Nat} {A B:Prop}
 (hE:∀ x:Nat,x≤r.size→(bif decide ((x:Int)<(r.size:Int)) then (bif decide (((r.data.toList.getD x 0).toNat:Int)=47) then (firstIdx r 47=x∧A) else aB Tryz.prog n0 f K (aD gn reg) (S (x+1))) else B)→aF tab (aL tab C [] 400) (aI LT NT (aB Tryz.prog n0 f K)) (aG tab gn.res K) 400 (aR gn reg) (S x))
 (hA:bN r=true→A) (hB:bN r=false→B):aB Tryz.prog n0 f K (aD gn reg) (S 0):=by
 refine bJ hg hC (inl:=[]) (LT:=LT) (NT:=NT) (S:=S) (fun x=>r.size - x) (fun x=>x≤r.size∧(firstIdx r 47<0∨(x:Int)≤firstIdx r 47)) (fun x hp ih=>hE x hp.1 ?_) 0 ⟨Nat.zero_le _,by omega⟩
 obtain ⟨hp,hq⟩:=hp
 have hl:=vK r 47
 by_cases hx:x<r.size
 · refine aC (by omega) ?_
   by_cases h47:r.data.toList.getD x 0=47
   · have:=aWJ hx h47
     refine aC (b47.2 h47) ⟨by omega,hA ?_⟩
     unfold bN
     exact decide_eq_true (by omega)
   · refine aE (fun h=>h47 (b47.1 h)) (ih (x+1) ⟨by omega,?_⟩ (by omega))
     have:=aKR hx h47
     omega
 · refine aE (by omega) (hB ?_)
   unfold bN
   exact decide_eq_false (by omega)
theorem aKS {s:ByteArray} (h:bM s=true):aN s=s.extract 1 s.size:=by unfold aN; rw [h]; rfl
theorem aKT {s:ByteArray} (h:¬ bM s=true):aN s=s:=by
 unfold aN
 cases hb:bM s
 · rfl
 · exact absurd hb h
theorem vZ {r:ByteArray} {x:Nat} (he:firstIdx r 47=x):r.extract 0 x=bS r∧r.extract (x+1) r.size=bW r:=by
 have hI:bN r=true:=by unfold bN; exact decide_eq_true (by omega)
 unfold bS bW
 rw [hI,he,Int.toNat_natCast]
 exact ⟨rfl,rfl⟩
theorem bC5 {s:ByteArray} {Q:Res} (h:aU4 s Q):Con Tryz.prog 53 [.str s] Q:=by
 obtain ⟨q,rfl,sq,hq⟩:=h
 refine aW (gn:=fnT Tryz.f53) (by kernel_rfl) bG (inl:=[]) (LT:=rN) (NT:=rO) rfl fun n0=>?_
 rw [bCR]
 obtain ⟨p1,p2,p3,p4⟩:=aKL (decide (q.num<0)) q.num.natAbs q.den
 have hs:=aKM q
 have hp:=vH q.num.natAbs
 have e1:=fI sq
 have e2:=fT sq
 have e3:szN q=dg q.num.natAbs:=rfl
 have e4:szD q=dg q.den:=rfl
 have hr:=aKP (ratText q)
 change bM (ratText q)=_ at p1
 change bS (aN (ratText q))=_ at p2
 change bN (aN (ratText q))=_ at p3
 change q.den≠1→bW (aN (ratText q))=_ at p4
 generalize ratText q=s at *
 have hA:∀ b r,b=decide (q.num<0)→r=aN s→bN r=true→aO Q (.tup [.bool b, .str (bS r), .str (bW r)]) []:=by
  rintro b r rfl rfl hI
  rw [p3] at hI
  rw [p2,p4 (of_decide_eq_true hI)]
  exact bP hq rfl rfl
 have hB:∀ b r,b=decide (q.num<0)→r=aN s→bN r=false→aO Q (.tup [.bool b, .str r, .str ⟨#[49]⟩]) []:=by
  rintro b r rfl rfl hI
  have ha:bS (aN s)=aN s:=by unfold bS; rw [hI]; rfl
  rw [p3] at hI
  have h1:q.den=1:=by simpa using hI
  rw [h1,kK] at hq
  rw [← ha,p2]
  exact bP hq rfl rfl
 refine aC (by omega) ?_
 by_cases hb:bM s=true
 · refine aC ((b45 (by omega)).2 hb) ?_
   refine aV (aC (by omega) (aC (by omega) ?_))
   rw [decide_eq_true ((b45 (by omega)).2 hb),Int.toNat_natCast,← aKS hb]
   have hbb:true=decide (q.num<0):=by rw [← p1,hb]
   refine aWK (aN s) (by omega) (S:=fun x:Nat=>aCT s (aN s) true ((aN s).size:Int) (x:Int)) (by kernel_rfl) (LT:=rN) (NT:=rO) bG (fun x hx h=>?_) (hA true (aN s) hbb rfl) (hB true (aN s) hbb rfl)
   rw [bCS]
   by_cases hlt:x<(aN s).size
   · refine aC (by omega) (aV (aC (by omega) (aC (by omega) ?_)))
     rw [decide_eq_true (by omega),cond_true] at h
     rw [Int.toNat_natCast]
     rw [show IntKind.i64.wrap ((x:Int)+1)=((x+1:Nat):Int) by rw [wr (by omega) (by omega)]; omega]
     by_cases h47:(((aN s).data.toList.getD x 0).toNat:Int)=47
     · rw [decide_eq_true h47,cond_true] at h
       refine aC h47 (aV (aC (by omega) (aC (by omega) (aV (aV (aC (by omega) (aC (by omega) (aC (by omega) ?_))))))))
       rw [Int.toNat_natCast,Int.toNat_natCast,(vZ h.1).1,(vZ h.1).2]
       exact h.2
     · rw [decide_eq_false h47,cond_false] at h
       exact aE h47 h
   · rw [decide_eq_false (by omega),cond_false] at h
     exact aE (by omega) h
 · refine aE (fun h=>hb ((b45 (by omega)).1 h)) ?_
   rw [decide_eq_false (fun h=>hb ((b45 (by omega)).1 h))]
   have hbb:false=decide (q.num<0):=by
    rw [← p1]
    cases hc:bM s
    · rfl
    · exact absurd hc hb
   have hss:=aKT hb
   refine aWK s (by omega) (S:=fun x:Nat=>aCU s false (s.size:Int) (x:Int)) (by kernel_rfl) (LT:=rN) (NT:=rO) bG (fun x hx h=>?_) (hA false s hbb hss.symm) (hB false s hbb hss.symm)
   rw [bCT]
   by_cases hlt:x<(s).size
   · refine aC (by omega) (aV (aC (by omega) (aC (by omega) ?_)))
     rw [decide_eq_true (by omega),cond_true] at h
     rw [Int.toNat_natCast]
     rw [show IntKind.i64.wrap ((x:Int)+1)=((x+1:Nat):Int) by rw [wr (by omega) (by omega)]; omega]
     by_cases h47:(((s).data.toList.getD x 0).toNat:Int)=47
     · rw [decide_eq_true h47,cond_true] at h
       refine aC h47 (aV (aC (by omega) (aC (by omega) (aV (aV (aC (by omega) (aC (by omega) (aC (by omega) ?_))))))))
       rw [Int.toNat_natCast,Int.toNat_natCast,(vZ h.1).1,(vZ h.1).2]
       exact h.2
     · rw [decide_eq_false h47,cond_false] at h
       exact aE h47 h
   · rw [decide_eq_false (by omega),cond_false] at h
     exact aE (by omega) h
theorem v1 : ∀ g xs Q,rE g xs Q→Con Tryz.prog g xs Q:=cH fun p hp=>by
 simp only [List.mem_cons,List.not_mem_nil,or_false] at hp
 rcases hp with rfl | rfl | rfl | rfl | rfl | rfl | rfl
 · exact bF fun _ _ h=>bBL h
 · exact bA fun _ _ _ h=>aUS h
 · exact bA fun _ _ _ h=>aUN h
 · exact bA fun _ _ _ h=>aUO h
 · exact bA fun _ _ _ h=>aUP h
 · exact bA fun _ _ _ h=>aUQ h
 · exact bA fun _ _ _ h=>aUR h
theorem is0 {n:Nat}:((natText n).toList == (ByteArray.mk #[48]).toList)=true↔n=0:=by
 rw [g7]
 exact ⟨fun h=>vG (h.trans mD.symm),fun h=>by rw [h]; exact mD⟩
theorem is1 {n:Nat}:((natText n).toList == (ByteArray.mk #[49]).toList)=true↔n=1:=by
 rw [lH]
 exact ⟨fun h=>vG (h.trans kK.symm),fun h=>by rw [h]; exact kK⟩
theorem bC6 {neg:Bool} {n d:ByteArray} {Q:Res} (h:aU5 neg n d Q):Con Tryz.prog 54 [.bool neg, .str n, .str d] Q:=by
 obtain ⟨u,v,rfl,rfl,hv,hbu,hbv,hq⟩:=h
 refine aW (gn:=fnT Tryz.f54) (by kernel_rfl) v1 (inl:=[]) (LT:=aV8) (NT:=aV9) rfl fun n0=>?_
 rw [bCU]
 have hk:∀ r,ratText (mkq neg u v)=r→aO Q (.str r) []:=fun r h=>by rw [h] at hq; exact rS hq
 by_cases h0:u=0
 · exact aS (is0.2 h0) (hk _ (by rw [h0,aKA]; exact n8))
 refine aZ (fun h=>h0 (is0.1 h)) ?_
 have hg:0<Nat.gcd u v:=Nat.gcd_pos_of_pos_right u hv
 have hgb:dg (Nat.gcd u v)≤9000000000:=Nat.le_trans (g6 (Nat.le_of_dvd hv (Nat.gcd_dvd_right u v))) hbv
 have hr:=aKC (neg:=neg) hv (show 0<u by omega)
 rw [hr] at hk
 have s1:dg (u / Nat.gcd u v)≤9000000000:=Nat.le_trans (g6 (Nat.div_le_self _ _)) hbu
 have s2:dg (v / Nat.gcd u v)≤9000000000:=Nat.le_trans (g6 (Nat.div_le_self _ _)) hbv
 refine ⟨u,v,rfl,rfl,hbu,hbv,_,_,rfl,rfl,hbu,hgb,hg,_,_,rfl,rfl,hbv,hgb,hg,?_⟩
 generalize u / Nat.gcd u v=x at *
 generalize v / Nat.gcd u v=y at *
 have ex:(natText x).size=dg x:=rfl
 have ey:(natText y).size=dg y:=rfl
 have e45:(⟨#[45]⟩ ++ natText x:ByteArray).size=1+dg x:=ByteArray.size_append
 have e47:(natText x ++ ⟨#[47]⟩:ByteArray).size=dg x+1:=ByteArray.size_append
 have e457:(⟨#[45]⟩ ++ natText x ++ ⟨#[47]⟩:ByteArray).size=1+dg x+1:=by rw [ByteArray.size_append,e45]; rfl
 unfold rt at hk
 cases neg with
 | true =>
   refine cC (aC (by omega) ?_)
   by_cases h1:y=1
   · rw [if_pos h1,rK] at hk
     exact aS (is1.2 h1) (hk _ rfl)
   · rw [if_neg h1,← ByteArray.append_assoc] at hk
     exact aZ (fun h=>h1 (is1.1 h)) (aC (by omega) (aC (by omega) (hk _ rfl)))
 | false =>
   refine cE ?_
   by_cases h1:y=1
   · rw [if_pos h1,rK,cond_false,oB] at hk
     exact aS (is1.2 h1) (hk _ rfl)
   · rw [if_neg h1,← ByteArray.append_assoc,cond_false,oB] at hk
     exact aZ (fun h=>h1 (is1.1 h)) (aC (by omega) (aC (by omega) (hk _ rfl)))
theorem v2 : ∀ g xs Q,rF g xs Q→Con Tryz.prog g xs Q:=cH fun p hp=>by
 simp only [List.mem_cons,List.not_mem_nil,or_false] at hp
 rcases hp with rfl | rfl | rfl | rfl | rfl | rfl | rfl | rfl
 · exact bA fun _ _ _ h=>aUS h
 · exact bA fun _ _ _ h=>aUN h
 · exact bA fun _ _ _ h=>aUO h
 · exact bA fun _ _ _ h=>aUP h
 · exact bA fun _ _ _ h=>aUQ h
 · exact bA fun _ _ _ h=>aUR h
 · exact bF fun _ _ h=>bC5 h
 · exact gZ fun _ _ _ _ h=>bC6 h
end
section
theorem Sz.mono {k m:Nat} {q:Rat} (h:Sz k q) (hk:k≤m):Sz m q:=⟨Nat.le_trans h.1 hk,Nat.le_trans h.2 hk⟩
theorem bC7 (q:Rat):mkq (!decide (q.num<0)) q.num.natAbs q.den = -q:=by
 rw [← bBT,iG]
theorem bC8 {s:ByteArray} {Q:Res} (h:xneg s Q):Con Tryz.prog 22 [.str s] Q:=by
 obtain ⟨q,rfl,sq,hq⟩:=h
 refine aW (gn:=fnT Tryz.f22) (by kernel_rfl) v2 (inl:=[]) (LT:=aWA) (NT:=aWB) rfl fun n0=>?_
 rw [bC1]
 have e1:=fI sq
 have e2:=fT sq
 rw [← bC7] at hq
 exact ⟨q,rfl,sq.mono (by decide),_,_,rfl,rfl,gS q,by omega,by omega,rS hq⟩
theorem aCY {s t:ByteArray} {Q:Res} (h:vV s t Q):Con Tryz.prog 45 [.str s, .str t] Q:=by
 obtain ⟨x,y,rfl,rfl,sx,sy,hq⟩:=h
 refine aW (gn:=fnT Tryz.f45) (by kernel_rfl) v2 (inl:=[]) (LT:=aWC) (NT:=aWD) rfl fun n0=>?_
 rw [bC2]
 have e1:=fI sx; have e2:=fT sx; have e3:=fI sy; have e4:=fT sy
 have m1:=iX e1 e4
 have m2:=iX e3 e2
 have m3:=iX e2 e4
 have px:=gS x
 have py:=gS y
 have hsum:x+y=mkq (decide (x.num<0)) x.num.natAbs x.den+mkq (decide (y.num<0)) y.num.natAbs y.den:=by rw [iG,iG]
 rw [aCH _ _ _ _ _ _ px py] at hsum
 refine ⟨x,rfl,sx.mono (by decide),y,rfl,sy.mono (by decide),_,_,rfl,rfl,by omega,by omega,_,_,rfl,rfl,by omega,by omega,_,_,rfl,rfl,by omega,by omega,?_⟩
 by_cases hb:decide (x.num<0)=decide (y.num<0)
 · rw [if_pos hb] at hsum
   rw [hsum] at hq
   refine aS (by rw [hb,beq_self_eq_true]) ⟨_,_,rfl,rfl,by omega,by omega,_,_,rfl,rfl,Nat.mul_pos px py,?_,by omega,rS hq⟩
   have:=aCE m1 m2; omega
 · rw [if_neg hb] at hsum
   refine aZ (by simpa using hb) ⟨_,_,rfl,rfl,?_⟩
   by_cases hc:y.num.natAbs * x.den≤x.num.natAbs * y.den
   · rw [if_pos hc] at hsum
     rw [hsum] at hq
     refine aE (fun h=>by have:=aCR.2 hc; omega) ⟨_,_,rfl,rfl,by omega,hc,_,_,rfl,rfl,Nat.mul_pos px py,?_,by omega,rS hq⟩
     have:=g6 (Nat.sub_le (x.num.natAbs * y.den) (y.num.natAbs * x.den)); omega
   · rw [if_neg hc] at hsum
     rw [hsum] at hq
     refine aC (Int.not_le.1 fun h=>hc (aCR.1 h)) ⟨_,_,rfl,rfl,by omega,by omega,_,_,rfl,rfl,Nat.mul_pos px py,?_,by omega,rS hq⟩
     have:=g6 (Nat.sub_le (y.num.natAbs * x.den) (x.num.natAbs * y.den)); omega
theorem aKU {s t:ByteArray} {Q:Res} (h:aCM s t Q):Con Tryz.prog 46 [.str s, .str t] Q:=by
 obtain ⟨x,y,rfl,rfl,sx,sy,hq⟩:=h
 refine aW (gn:=fnT Tryz.f46) (by kernel_rfl) v2 (inl:=[]) (LT:=aWE) (NT:=aWF) rfl fun n0=>?_
 rw [bC3]
 have e1:=fI sx; have e2:=fT sx; have e3:=fI sy; have e4:=fT sy
 have m1:=iX e1 e3
 have m3:=iX e2 e4
 have hprod:x * y=mkq (decide (x.num<0)) x.num.natAbs x.den * mkq (decide (y.num<0)) y.num.natAbs y.den:=by rw [iG,iG]
 rw [aKB] at hprod
 rw [hprod] at hq
 exact ⟨x,rfl,sx.mono (by decide),y,rfl,sy.mono (by decide),_,_,rfl,rfl,by omega,by omega,_,_,rfl,rfl,by omega,by omega,_,_,rfl,rfl,Nat.mul_pos (gS x) (gS y),by omega,by omega,rS hq⟩
theorem bC9 {s:ByteArray} {Q:Res} (h:aU6 s Q):Con Tryz.prog 55 [.str s] Q:=by
 obtain ⟨q,rfl,sq,hq⟩:=h
 refine aW (gn:=fnT Tryz.f55) (by kernel_rfl) v2 (inl:=[]) (LT:=aWG) (NT:=aWH) rfl fun n0=>?_
 rw [bC4]
 unfold sgn at hq
 refine ⟨q,rfl,sq,?_⟩
 by_cases h0:q.num=0
 · rw [if_pos h0] at hq
   exact aS (is0.2 (by omega)) (dI hq)
 · rw [if_neg h0] at hq
   refine aZ (fun h=>h0 (by have:=is0.1 h; omega)) ?_
   by_cases h1:q.num<0
   · rw [if_pos h1] at hq
     exact aC h1 (dI hq)
   · rw [if_neg h1] at hq
     exact aE h1 (dI hq)
end
end Go.Proofs.YtpngedkdkpfnkaaGreatDoor.Lib
end
section
set_option linter.unusedSimpArgs false
set_option linter.unusedVariables false
namespace Go.Proofs.YtpngedkdkpfnkaaGreatDoor.Lib
open Go Go.Proofs.YtpngedkdkpfnkaaGreatDoor.Mach Go.Proofs.YtpngedkdkpfnkaaGreatDoorW.PrintWords Go.Proofs.YtpngedkdkpfnkaaGreatDoor.Sem Go.Proofs.YtpngedkdkpfnkaaGreatDoor.Pure Go.Proofs.YtpngedkdkpfnkaaGreatDoor.NatVal
section
theorem bDA : natErr (⟨#[50]⟩:ByteArray)=0:=by
 rw [← bBI]
 exact bCQ (Nat.le_trans (vJ (k:=1) (by decide) (by decide)) (by decide))
noncomputable def v3 (neg:Bool) (a b:ByteArray) (m:Int):Int :=
 if natErr a=5∨natErr b=5∨(neg=true∧a=fR) then 5 else if natErr a≠0∨natErr b≠0 then 2
 else if m=2∧(b=fR∨b=⟨#[49]⟩∨Nat.gcd (kL a) (kL b)≠1) then 3 else 0
theorem bDB (s:ByteArray):eU s=v3 (bM s) (bS (aN s)) (bif bN (aN s) then bW (aN s) else ⟨#[50]⟩) (bif bN (aN s) then 2 else 1):=by
 unfold eU v3
 cases hI:bN (aN s) with
 | true=>simp only [true_and,cond_true]
 | false =>
   have:=bDA
   simp only [Bool.false_eq_true,false_and,or_false,false_or,cond_false,this]
   simp
section
variable {a b:ByteArray} {m:Int} {neg:Bool} {K:Res}
theorem aWL (hk:∀ v,v3 neg a b m=v→K (.int .i64 v) []) (hm:m=1∨m=2) (h5:¬ (natErr a=5∨natErr b=5∨(neg=true∧a=fR))) :
 bif !decide (natErr a=0) then K (AV.int IntKind.i64 2) [] else bif bif false then true else !decide (natErr b=0) then K (AV.int IntKind.i64 2) [] else bif decide (m=2) then bif b.toList == (ByteArray.mk #[48]).toList then K (AV.int IntKind.i64 3) [] else bif bif false then true else b.toList == (ByteArray.mk #[49]).toList then K (AV.int IntKind.i64 3) [] else ∃ u v,a=Sem.natText u∧b=Sem.natText v∧Sem.dg u≤9000000000∧Sem.dg v≤9000000000∧bif bif true then bif false then true else !(Sem.natText (u.gcd v)).toList == (ByteArray.mk #[49]).toList else false then K (AV.int IntKind.i64 3) [] else K (AV.int IntKind.i64 0) [] else K (AV.int IntKind.i64 0) []:=by
 unfold v3 at hk
 rw [if_neg h5] at hk
 by_cases e1:natErr a=0
 · refine aP (aC e1 ?_)
   by_cases e2:natErr b=0
   · refine aZ (by simp [e2]) ?_
     rw [if_neg (by rintro (h | h) <;> exact h (by assumption))] at hk
     rcases hm with hm | hm
     · exact aE (by omega) (hk 0 (if_neg fun h=>by omega))
     · refine aC hm ?_
       by_cases f1:b=fR
       · exact aS (g7.2 f1) (hk 3 (if_pos ⟨hm, .inl f1⟩))
       refine aZ (fun h=>f1 (g7.1 h)) ?_
       by_cases f2:b=⟨#[49]⟩
       · exact aS (lH.2 f2) (hk 3 (if_pos ⟨hm, .inr (.inl f2)⟩))
       refine aZ (fun h=>f2 (lH.1 h)) ?_
       obtain ⟨u,rfl,hu⟩:=rM e1
       obtain ⟨v,rfl,hv⟩:=rM e2
       rw [mE,mE] at hk
       refine ⟨u,v,rfl,rfl,by omega,by omega,?_⟩
       by_cases f3:Nat.gcd u v=1
       · refine aZ (by rw [cond_true,cond_false,Bool.not_eq_true', ← Bool.not_eq_true]; exact fun h=>h (is1.2 f3)) (hk 0 (if_neg ?_))
         rintro ⟨_,h | h | h⟩
         · exact f1 h
         · exact f2 h
         · exact h f3
       · exact aS (by rw [cond_true,cond_false,Bool.not_eq_true', ← Bool.not_eq_true]; exact fun h=>f3 (is1.1 h)) (hk 3 (if_pos ⟨hm, .inr (.inr f3)⟩))
   · exact aS (by simp [e2]) (hk 2 (if_pos (.inr e2)))
 · exact aP (aE e1 (hk 2 (if_pos (.inl e1))))
end
noncomputable def cW (r:ByteArray) (x:Nat):ByteArray × ByteArray × Int:=if 0≤firstIdx r 47∧firstIdx r 47<x then (bS r,bW r,2) else (r,⟨#[50]⟩,1)
theorem aWM (r:ByteArray):cW r 0=(r,⟨#[50]⟩,1):=if_neg fun h=>by omega
theorem bDC (r:ByteArray):cW r r.size=(bS r,bif bN r then bW r else ⟨#[50]⟩,bif bN r then 2 else 1):=by
 have:=vK r 47
 unfold cW
 cases hI:bN r with
 | true =>
   rw [if_pos ⟨by unfold bN at hI; exact of_decide_eq_true hI,this.2⟩]; rfl
 | false =>
   have ha:bS r=r:=by unfold bS; rw [hI]; rfl
   rw [if_neg fun h=>by unfold bN at hI; exact of_decide_eq_false hI h.1,ha]; rfl
theorem aWN {r:ByteArray} {x:Nat} (hx:x<r.size) (h:r.data.toList.getD x 0=47) (h1:(cW r x).2.2=1):cW r x=(r,⟨#[50]⟩,1)∧cW r (x+1)=(r.extract 0 x,r.extract (x+1) r.size,2):=by
 have hn:¬ (0≤firstIdx r 47∧firstIdx r 47<x):=fun hc=>by
  unfold cW at h1
  rw [if_pos hc] at h1
  simp at h1
 have:=aWJ hx h
 refine ⟨if_neg hn,?_⟩
 obtain ⟨c1,c2⟩:=vZ (r:=r) (x:=x) (by omega)
 unfold cW
 rw [if_pos ⟨this.1,by omega⟩,c1,c2]
theorem aCZ {r:ByteArray} {x:Nat} (hx:x<r.size) (h:r.data.toList.getD x 0≠47∨(cW r x).2.2≠1):cW r (x+1)=cW r x:=by
 unfold cW at h ⊢
 by_cases hc:0≤firstIdx r 47∧firstIdx r 47<x
 · rw [if_pos hc,if_pos ⟨hc.1,by omega⟩]
 · rw [if_neg hc] at h ⊢
   rcases h with h | h
   · have:=aKR hx h
     rw [if_neg (by omega)]
   · exact absurd rfl h
theorem bDD (r:ByteArray) (x:Nat):(cW r x).2.2=1∨(cW r x).2.2=2:=by
 unfold cW
 split
 · exact .inr rfl
 · exact .inl rfl
theorem bDE (r:ByteArray) (x:Nat):(cW r x).1.size≤r.size∧(cW r x).2.1.size≤r.size+1:=by
 unfold cW
 have h1:=aV5 r
 have h2:=aKQ r
 split
 · exact ⟨h1,Nat.le_succ_of_le h2⟩
 · exact ⟨Nat.le_refl _,by show (ByteArray.mk #[50]).size≤_; rw [show (ByteArray.mk #[50]).size=1 from rfl]; omega⟩
theorem wrS {x n:Nat} (h:x<n) (hn:n≤1000000000000000000):IntKind.i64.wrap ((x:Int)+1)=((x+1:Nat):Int):=by rw [wr (by omega) (by omega)]; omega
theorem aWO {s:ByteArray} {Q:Res} (h:rC s Q):Con Tryz.prog 74 [.str s] Q:=by
 obtain ⟨hs,hq⟩:=h
 unfold Tx at hs
 refine aW (gn:=fnT Tryz.f74) (by kernel_rfl) v1 (inl:=[]) (LT:=mG) (NT:=mH) rfl fun n0=>?_
 rw [bCV]
 rw [bDB] at hq
 have hk:∀ v,v3 (bM s) (bS (aN s)) (bif bN (aN s) then bW (aN s) else ⟨#[50]⟩) (bif bN (aN s) then 2 else 1)=v→aO Q (.int .i64 v) []:=fun v h=>by rw [h] at hq; exact dI hq
 have hr:=aKP s
 have hsz:∀ x,(cW (aN s) x).1.size≤1000000000000000∧(cW (aN s) x).2.1.size≤1000000000000000:=fun x=>by
  have:=bDE (aN s) x
  have h2:(cW (aN s) x).2.1.size≤1000000000000000:=by
   unfold cW
   split
   · exact Nat.le_trans (aKQ _) (by omega)
   · show (ByteArray.mk #[50]).size≤_; decide
  exact ⟨by omega,h2⟩
 have hm:=bDD (aN s) (aN s).size
 have hall:=bDC (aN s)
 by_cases hb:bM s=true
 · have hs0:0<s.size:=Nat.pos_of_ne_zero fun h=>by
    unfold bM at hb
    rw [h] at hb
    simp at hb
   refine aC (by omega) (aC (by omega) (aS (by rw [cond_true]; exact decide_eq_true ((b45 hs0).2 hb)) (aV (aC (by omega) (aC (by omega) ?_)))))
   rw [Int.toNat_natCast,← aKS hb]
   have go:=bJ (f:=74) (gn:=fnT Tryz.f74) (n0:=n0) (K:=aO Q) (r:=6) (by kernel_rfl) v1 (inl:=[]) (LT:=mG) (NT:=mH) (fun x:Nat=>rP s (aN s) (cW (aN s) x).2.2 (cW (aN s) x).1 (cW (aN s) x).2.1 ((aN s).size:Int) (x:Int)) (fun x=>(aN s).size - x) (fun x=>x≤(aN s).size) (fun x hp ih=>by
    rw [bCW]
    by_cases hx:x<(aN s).size
    · refine aC (by omega) (aV (aC (by omega) (aC (by omega) ?_)))
      have ih' := ih (x+1) (by omega) (by omega)
      rw [Int.toNat_natCast,wrS hx (by omega)]
      by_cases h47:(aN s).data.toList.getD x 0=47
      · refine aC (b47.2 h47) ?_
        by_cases h1:(cW (aN s) x).2.2=1
        · refine aS (by rw [cond_true]; exact decide_eq_true h1) (aV (aC (by omega) (aC (by omega) (aV (aV (aC (by omega) (aC (by omega) (aC (by omega) ?_))))))))
          obtain ⟨f1,f2⟩:=aWN hx h47 h1
          rw [f2] at ih'
          rw [Int.toNat_natCast,Int.toNat_natCast]
          exact ih'
        · refine aZ (by rw [cond_true]; exact fun h=>h1 (of_decide_eq_true h)) ?_
          rw [aCZ hx (.inr h1)] at ih'
          exact ih'
      · refine aE (fun h=>h47 (b47.1 h)) ?_
        rw [aCZ hx (.inl h47)] at ih'
        exact ih'
    · refine aE (by omega) ?_
      have hxx:x=(aN s).size:=by omega
      have hz:=hsz x
      rw [hxx] at hz ⊢
      rw [hall] at hm hz ⊢
      refine ⟨hz.1,hz.2,?_⟩
      rw [hb] at hk
      simp only at hm hz ⊢
      generalize bS (aN s)=a at *
      generalize (bif bN (aN s) then bW (aN s) else ⟨#[50]⟩)=b at *
      generalize (bif bN (aN s) then 2 else 1)=m at *
      by_cases h1:natErr a=5
      · exact aC h1 (hk 5 (if_pos (.inl h1)))
      refine aE h1 ?_
      by_cases h2:natErr b=5
      · exact aS (decide_eq_true h2) (hk 5 (if_pos (.inr (.inl h2))))
      refine aZ (fun h=>h2 (of_decide_eq_true h)) ?_
      by_cases h3:a=fR
      · exact aS (g7.2 h3) (hk 5 (if_pos (.inr (.inr ⟨rfl,h3⟩))))
      refine aZ (fun h=>h3 (g7.1 h)) ?_
      refine aWL hk hm ?_
      rintro (h | h | ⟨_,h⟩)
      · exact h1 h
      · exact h2 h
      · exact h3 h) 0 (Nat.zero_le _)
   rw [aWM] at go
   exact go
 · have hss:=aKT hb
   have hbf:bM s=false:=by
    cases hc:bM s
    · rfl
    · exact absurd hc hb
   rw [hss] at hall hsz hm hk
   rw [hbf] at hk
   have fin:∀ a b m,cW s s.size=(a,b,m)→a.size≤1000000000000000∧b.size≤1000000000000000∧bif decide (Pure.natErr a=5) then aO Q (AV.int IntKind.i64 5) [] else bif bif false then true else decide (Pure.natErr b=5) then aO Q (AV.int IntKind.i64 5) [] else bif !decide (natErr a=0) then aO Q (AV.int IntKind.i64 2) [] else bif bif false then true else !decide (natErr b=0) then aO Q (AV.int IntKind.i64 2) [] else bif decide (m=2) then bif b.toList == (ByteArray.mk #[48]).toList then aO Q (AV.int IntKind.i64 3) [] else bif bif false then true else b.toList == (ByteArray.mk #[49]).toList then aO Q (AV.int IntKind.i64 3) [] else ∃ u v,a=Sem.natText u∧b=Sem.natText v∧Sem.dg u≤9000000000∧Sem.dg v≤9000000000∧bif bif true then bif false then true else !(Sem.natText (u.gcd v)).toList == (ByteArray.mk #[49]).toList else false then aO Q (AV.int IntKind.i64 3) [] else aO Q (AV.int IntKind.i64 0) [] else aO Q (AV.int IntKind.i64 0) []:=fun a b m he=>by
    have hz:=hsz s.size
    rw [he] at hz hm
    rw [hall] at he
    obtain ⟨ha,he⟩:=Prod.mk.inj he
    obtain ⟨hb', hm'⟩:=Prod.mk.inj he
    rw [ha,hb', hm'] at hk
    refine ⟨hz.1,hz.2,?_⟩
    by_cases h1:natErr a=5
    · exact aC h1 (hk 5 (if_pos (.inl h1)))
    refine aE h1 ?_
    by_cases h2:natErr b=5
    · exact aS (decide_eq_true h2) (hk 5 (if_pos (.inr (.inl h2))))
    refine aZ (fun h=>h2 (of_decide_eq_true h)) ?_
    refine aWL hk hm ?_
    rintro (h | h | ⟨h,_⟩)
    · exact h1 h
    · exact h2 h
    · cases h
   have go2:=bJ (f:=74) (gn:=fnT Tryz.f74) (n0:=n0) (K:=aO Q) (r:=6) (by kernel_rfl) v1 (inl:=[]) (LT:=mG) (NT:=mH) (fun x:Nat=>rR s (cW s x).2.2 (cW s x).1 (cW s x).2.1 (s.size:Int) (x:Int)) (fun x=>s.size - x) (fun x=>x≤s.size∧(cW s x).2.2=2) (fun x hp ih=>by
    rw [bCY]
    obtain ⟨hp,h2⟩:=hp
    by_cases hx:x<s.size
    · have h1:¬ (cW s x).2.2=1:=by omega
      have hsk:=aCZ hx (.inr h1)
      refine aC (by omega) (aV (aC (by omega) (aC (by omega) ?_)))
      have ih' := ih (x+1) ⟨by omega,by rw [hsk]; exact h2⟩ (by omega)
      rw [Int.toNat_natCast,wrS hx (by omega)]
      rw [hsk] at ih'
      by_cases h47:s.data.toList.getD x 0=47
      · exact aC (b47.2 h47) (aZ (by rw [cond_true]; exact fun h=>h1 (of_decide_eq_true h)) ih')
      · exact aE (fun h=>h47 (b47.1 h)) ih'
    · refine aE (by omega) ?_
      have hxx:x=s.size:=by omega
      subst hxx
      exact fin _ _ _ rfl)
   have go:=bJ (f:=74) (gn:=fnT Tryz.f74) (n0:=n0) (K:=aO Q) (r:=6) (by kernel_rfl) v1 (inl:=[]) (LT:=mG) (NT:=mH) (fun x:Nat=>rQ s 1 ⟨#[50]⟩ (s.size:Int) (x:Int)) (fun x=>s.size - x) (fun x=>x≤s.size∧cW s x=(s,⟨#[50]⟩,1)) (fun x hp ih=>by
    rw [bCX]
    obtain ⟨hp,h2⟩:=hp
    by_cases hx:x<s.size
    · have h1:(cW s x).2.2=1:=by rw [h2]
      refine aC (by omega) (aV (aC (by omega) (aC (by omega) ?_)))
      rw [Int.toNat_natCast,wrS hx (by omega)]
      by_cases h47:s.data.toList.getD x 0=47
      · refine aC (b47.2 h47) (aS (by rw [cond_true]; rfl) (aV (aC (by omega) (aC (by omega) (aV (aV (aC (by omega) (aC (by omega) (aC (by omega) ?_)))))))))
        obtain ⟨f1,f2⟩:=aWN hx h47 h1
        have:=go2 (x+1) ⟨by omega,by rw [f2]⟩
        simp only [f2] at this
        rw [Int.toNat_natCast,Int.toNat_natCast]
        exact this
      · exact aE (fun h=>h47 (b47.1 h)) (ih (x+1) ⟨by omega,by rw [aCZ hx (.inl h47)]; exact h2⟩ (by omega))
    · refine aE (by omega) ?_
      have hxx:x=s.size:=by omega
      subst hxx
      exact fin _ _ _ h2) 0 ⟨Nat.zero_le _,aWM s⟩
   by_cases hs0:0<s.size
   · refine aC (by omega) (aC (by omega) (aZ (by rw [cond_true]; exact fun h=>hb ((b45 hs0).1 (of_decide_eq_true h))) go))
   · exact aE (by omega) go
end
end Go.Proofs.YtpngedkdkpfnkaaGreatDoor.Lib
end
section
set_option linter.unusedSimpArgs false
set_option linter.unusedVariables false
namespace Go.Proofs.YtpngedkdkpfnkaaGreatDoor.Lib
open Go Go.Proofs.YtpngedkdkpfnkaaGreatDoor.Mach Go.Proofs.YtpngedkdkpfnkaaGreatDoorW.PrintWords Go.Proofs.YtpngedkdkpfnkaaGreatDoor.Sem Go.Proofs.YtpngedkdkpfnkaaGreatDoor.Pure
section
theorem bDF {s:ByteArray} (h:bM s=true):s=⟨#[45]⟩ ++ aN s:=by
 rw [aKS h]
 have hd:=h
 unfold bM at hd
 by_cases h1:1≤s.size
 · rw [decide_eq_true h1,cond_true,beq_iff_eq,mF] at hd
   rw [← hd]
   apply ByteArray.ext
   rw [ByteArray.data_append,ByteArray.data_extract,ByteArray.data_extract,Array.extract_append_extract]
   have:s.size=s.data.size:=rfl
   rw [this,Nat.min_eq_left (by omega),Nat.max_eq_right (by omega),Array.extract_size]
 · rw [decide_eq_false h1] at hd
   cases hd
theorem bDG {s:ByteArray} (h:bN s=true):s=bS s ++ (⟨#[47]⟩ ++ bW s):=by
 unfold bS bW
 rw [h,cond_true,cond_true]
 unfold bN at h
 have h0:=of_decide_eq_true h
 have hl:=(vK s 47).2
 have hb:s.data.toList.getD (firstIdx s 47).toNat 0=47:=Classical.byContradiction fun hc=>by
  have:=aKR (s:=s) (i:=(firstIdx s 47).toNat) (by omega) hc
  omega
 generalize hi:(firstIdx s 47).toNat=i at *
 have hi' : i<s.size:=by omega
 have hz:s.size=s.data.size:=rfl
 have hll:s.data.toList.length=s.size:=by rw [Array.length_toList]; rfl
 apply ByteArray.ext
 apply Array.ext'
 rw [ByteArray.data_append,ByteArray.data_append,ByteArray.data_extract,ByteArray.data_extract,Array.toList_append,Array.toList_append,Array.toList_extract,Array.toList_extract,List.extract_eq_take_drop,List.extract_eq_take_drop,List.drop_zero,Nat.sub_zero]
 rw [List.take_of_length_le (l:=s.data.toList.drop (i+1)) (by rw [List.length_drop]; omega)]
 have:s.data.toList.drop i=47 :: s.data.toList.drop (i+1):=by
  rw [List.drop_eq_getElem_cons (by omega)]
  congr 1
  rw [List.getD_eq_getElem?_getD,List.getElem?_eq_getElem (by omega)] at hb
  exact hb
 show s.data.toList=_ ++ ([47] ++ _)
 rw [List.singleton_append,← this,List.take_append_drop]
theorem aKV (q:Rat):bQ (ratText q)=q:=by
 obtain ⟨p1,p2,p3,p4⟩:=aKL (decide (q.num<0)) q.num.natAbs q.den
 change bM (ratText q)=_ at p1
 change bS (aN (ratText q))=_ at p2
 change bN (aN (ratText q))=_ at p3
 change q.den≠1→bW (aN (ratText q))=_ at p4
 unfold bQ
 rw [p1,p2,mE]
 by_cases h:q.den=1
 · rw [if_neg (by rw [p3]; simpa using h)]
   rw [← h]; exact iG q
 · rw [if_pos (by rw [p3]; simpa using h),p4 h,mE]
   exact iG q
theorem aKW {s:ByteArray} (h:eU s=0):s=ratText (bQ s)∧Sz 2000 (bQ s):=by
 suffices h:∃ q,s=ratText q∧Sz 2000 q by
  obtain ⟨q,rfl,hs⟩:=h
  rw [aKV]
  exact ⟨rfl,hs⟩
 unfold eU at h
 by_cases h1:natErr (bS (aN s))=5∨(bN (aN s)=true∧natErr (bW (aN s))=5)∨(bM s=true∧bS (aN s)=fR)
 · rw [if_pos h1] at h; cases h
 rw [if_neg h1] at h
 by_cases h2:natErr (bS (aN s))≠0∨(bN (aN s)=true∧natErr (bW (aN s))≠0)
 · rw [if_pos h2] at h; cases h
 rw [if_neg h2] at h
 by_cases h3:bN (aN s)=true∧(bW (aN s)=fR∨bW (aN s)=⟨#[49]⟩∨Nat.gcd (kL (bS (aN s))) (kL (bW (aN s)))≠1)
 · rw [if_pos h3] at h; cases h
 obtain ⟨u,hu,hud⟩:=rM (Classical.byContradiction fun hc=>h2 (.inl hc))
 have hsj:s=(bif bM s then ⟨#[45]⟩ else ⟨#[]⟩) ++ aN s:=by
  cases hb:bM s with
  | true=>rw [cond_true]; exact bDF hb
  | false=>rw [cond_false,oB]; exact (aKT (by rw [hb]; decide)).symm
 have hneg:u=0→bM s=false:=fun h0=>by
  cases hb:bM s with
  | false=>rfl
  | true=>exact absurd (.inr (.inr ⟨hb,by rw [hu,h0,mD]⟩)) h1
 cases hI:bN (aN s) with
 | true =>
   obtain ⟨v,hv,hvd⟩:=rM (Classical.byContradiction fun hc=>h2 (.inr ⟨hI,hc⟩))
   have hv0:v≠0:=fun h0=>h3 ⟨hI, .inl (by rw [hv,h0,mD])⟩
   have hv1:v≠1:=fun h0=>h3 ⟨hI, .inr (.inl (by rw [hv,h0,kK]))⟩
   have hg:Nat.gcd u v=1:=Classical.byContradiction fun hc=>h3 ⟨hI, .inr (.inr (by rw [hu,hv,mE,mE]; exact hc))⟩
   have hu0:0<u:=Nat.pos_of_ne_zero fun h0=>by rw [h0,Nat.gcd_zero_left] at hg; exact hv1 hg
   refine ⟨mkq (bM s) u v,?_,?_,?_⟩
   · rw [aKC (by omega) hu0,hg,Nat.div_one,Nat.div_one]
     unfold rt
     rw [if_neg hv1,ByteArray.append_assoc,← hu,← hv,← bDG hI]
     exact hsj
   · exact Nat.le_trans (vO (by omega)) hud
   · exact Nat.le_trans (vR (by omega)) hvd
 | false =>
   have hA:bS (aN s)=aN s:=by unfold bS; rw [hI]; rfl
   refine ⟨mkq (bM s) u 1,?_,?_,?_⟩
   · by_cases hu0:u=0
     · rw [hu0,aKA,n8,← mD]
       rw [hneg hu0,cond_false,oB] at hsj
       rw [hsj,← hA,hu,hu0]
     · rw [aKC (by omega) (by omega),Nat.gcd_one_right,Nat.div_one,Nat.div_one]
       unfold rt
       rw [if_pos rfl,rK,← hu,hA]
       exact hsj
   · exact Nat.le_trans (vO (by omega)) hud
   · exact Nat.le_trans (vR (by omega)) (by rw [vX]; decide)
end
section
theorem aWP {l:List ByteArray} {x:Nat} (hx:x<l.length):dX (l.drop x)=if eU (l.getD x ByteArray.empty)=0 then dX (l.drop (x+1)) else eU (l.getD x ByteArray.empty):=by
 rw [List.drop_eq_getElem_cons hx,List.getD_eq_getElem?_getD,List.getElem?_eq_getElem hx]
 rfl
theorem d8 {α:Type} {l:List α} {x:Nat} {d:α} (hx:x<l.length):l.getD x d∈l:=by
 rw [List.getD_eq_getElem?_getD,List.getElem?_eq_getElem hx]
 exact List.getElem_mem hx
theorem aWQ : ∀ g xs Q,aKF g xs Q→Con Tryz.prog g xs Q:=cH fun p hp=>by
 simp only [List.mem_cons,List.not_mem_nil,or_false] at hp
 rcases hp with rfl
 exact bF fun _ _ h=>aV7 h
theorem aWR {l:List ByteArray} {Q:Res} (h:n9 l Q):Con Tryz.prog 126 [.imm eS l] Q:=by
 obtain ⟨⟨hl,ht⟩,hq⟩:=h
 refine aW (gn:=fnT Tryz.f126) (by kernel_rfl) aWQ (inl:=[]) (LT:=aCO) (NT:=aCP) rfl fun n0=>?_
 rw [bB9]
 refine bJ (f:=126) (gn:=fnT Tryz.f126) (n0:=n0) (K:=aO Q) (r:=2) (by kernel_rfl) aWQ (inl:=[]) (LT:=aCO) (NT:=aCP) (fun x:Nat=>aCQ l (l.length:Int) (x:Int)) (fun x=>l.length - x) (fun x=>x≤l.length∧dX (l.drop x)=dX l) (fun x hp ih=>?_) 0 ⟨Nat.zero_le _,rfl⟩
 obtain ⟨hp,he⟩:=hp
 rw [bCA]
 by_cases hx:x<l.length
 · rw [aWP hx] at he
   refine aC (by omega) (aV (aC (by omega) (aC (by omega) ?_)))
   rw [Int.toNat_natCast,wrS hx (by omega)]
   refine ⟨ht _ (d8 hx),?_⟩
   by_cases h0:eU (l.getD x ByteArray.empty)=0
   · rw [if_pos h0] at he
     exact aP (aC h0 (ih (x+1) ⟨by omega,he⟩ (by omega)))
   · rw [if_neg h0] at he
     rw [← he] at hq
     exact aP (aE h0 (dI hq))
 · refine aE (by omega) (dI ?_)
   rw [List.drop_eq_nil_of_le (by omega)] at he
   rw [← he] at hq
   exact hq
theorem bDH {l:List ByteArray} {Q:Res} (h:n9 l Q) (hC:∀ g xs Q,aCN g xs Q→Con Tryz.prog g xs Q):Con Tryz.prog 76 [.imm eS l] Q:=by
 obtain ⟨⟨hl,ht⟩,hq⟩:=h
 refine aW (gn:=fnT Tryz.f76) (by kernel_rfl) hC (inl:=[]) (LT:=aCV) (NT:=aCW) rfl fun n0=>?_
 rw [bCZ]
 refine bJ (f:=76) (gn:=fnT Tryz.f76) (n0:=n0) (K:=aO Q) (r:=2) (by kernel_rfl) hC (inl:=[]) (LT:=aCV) (NT:=aCW) (fun x:Nat=>aCX l (l.length:Int) (x:Int)) (fun x=>l.length - x) (fun x=>x≤l.length∧dX (l.drop x)=dX l) (fun x hp ih=>?_) 0 ⟨Nat.zero_le _,rfl⟩
 obtain ⟨hp,he⟩:=hp
 rw [bC0]
 by_cases hx:x<l.length
 · rw [aWP hx] at he
   refine aC (by omega) (aV (aC (by omega) (aC (by omega) ?_)))
   rw [Int.toNat_natCast,wrS hx (by omega)]
   refine ⟨ht _ (d8 hx),?_⟩
   by_cases h0:eU (l.getD x ByteArray.empty)=0
   · rw [if_pos h0] at he
     exact aP (aC h0 (ih (x+1) ⟨by omega,he⟩ (by omega)))
   · rw [if_neg h0] at he
     rw [← he] at hq
     exact aP (aE h0 (dI hq))
 · refine aE (by omega) (dI ?_)
   rw [List.drop_eq_nil_of_le (by omega)] at he
   rw [← he] at hq
   exact hq
theorem bDI : ∀ g xs Q,aCN g xs Q→Con Tryz.prog g xs Q:=cH fun p hp=>by
 simp only [List.mem_cons,List.not_mem_nil,or_false] at hp
 rcases hp with rfl | rfl | rfl
 · exact bF fun _ _ h=>bC8 h
 · exact bA fun _ _ _ h=>aCY h
 · exact bF fun _ _ h=>aWO h
theorem aWS {l:List ByteArray} {Q:Res} (h:n9 l Q):Con Tryz.prog 76 [.imm eS l] Q:=bDH h bDI
theorem aKX {x y:Rat} (sx:Sz 4000000000 x) (sy:Sz 4000000000 y):Sz 9000000000 (x+y):=by
 have e1:=fI sx; have e2:=fT sx; have e3:=fI sy; have e4:=fT sy
 have m1:=iX e1 e4
 have m2:=iX e3 e2
 have m3:=iX e2 e4
 have px:=gS x
 have py:=gS y
 have hsum:x+y=mkq (decide (x.num<0)) x.num.natAbs x.den+mkq (decide (y.num<0)) y.num.natAbs y.den:=by rw [iG,iG]
 rw [aCH _ _ _ _ _ _ px py] at hsum
 have hD:∀ b u,szD (mkq b u (x.den * y.den))≤9000000000:=fun b u=>Nat.le_trans (vR (Nat.mul_pos px py)) (by omega)
 have hN:∀ b u,dg u≤9000000000→szN (mkq b u (x.den * y.den))≤9000000000:=fun b u h=>Nat.le_trans (vO (Nat.mul_pos px py)) h
 have a1:=aCE m1 m2
 have a2:=g6 (Nat.sub_le (x.num.natAbs * y.den) (y.num.natAbs * x.den))
 have a3:=g6 (Nat.sub_le (y.num.natAbs * x.den) (x.num.natAbs * y.den))
 rw [hsum]
 split
 · exact ⟨hN _ _ (by omega),hD _ _⟩
 · split
   · exact ⟨hN _ _ (by omega),hD _ _⟩
   · exact ⟨hN _ _ (by omega),hD _ _⟩
theorem mI : Sz 1 0:=by
 refine ⟨?_,?_⟩
 · show dg (Rat.num 0).natAbs≤1
   rw [show (Rat.num 0).natAbs=0 from rfl,aKH]
   exact Nat.le_refl _
 · show dg (Rat.den 0)≤1
   rw [show Rat.den 0=1 from rfl,vX]
   exact Nat.le_refl _
end
section
noncomputable def gI (q:Rat):List ByteArray→Option Rat
 | []=>some q
 | s :: l=>if dG (q+bQ s)=0 then gI (q+bQ s) l else none
noncomputable def jW (l:List ByteArray):Int:=if 256<l.length then 2 else dX l
noncomputable def fZ (l:List ByteArray):Int:=if jW l=0 then (if (gI 0 l).isSome then 0 else 2) else jW l
noncomputable def jX (l:List ByteArray):ByteArray:=if jW l=0 then (match gI 0 l with | some q=>ratText q | none=>⟨#[]⟩) else ⟨#[]⟩
def sumT (l:List ByteArray) (Q:Res):Prop:=TxL l∧Q (.tup [.str (jX l), .int .i64 (fZ l)]) []
noncomputable def v4 (l:List ByteArray):Bool:=l.any fun s=>decide (sgn (bQ s)<0)
noncomputable def cL (l:List ByteArray):Int:=if fZ l≠0 then fZ l else if v4 l=true then 4 else if jX l=⟨#[49]⟩ then 0 else 3
def rT (l:List ByteArray) (Q:Res):Prop:=TxL l∧Q (.int .i64 (cL l)) []
noncomputable def aC0 : FuncId→List AV→Res→Prop:=cD [(126,c1 vLS n9),(33,c2 vQ vQ aCL),(111,c1 vQ vU),(89,c2 vQ vQ cmpQ),(35,c1 vS inS),(36,c1 vQ aCK),(72,c1 vQ aCJ)]
noncomputable def aKY : FuncId→List AV→Res→Prop:=cD [(111,c1 vQ vU),(35,c1 vS inS),(36,c1 vQ aCK),(110,c1 vLS sumT)]
end
end Go.Proofs.YtpngedkdkpfnkaaGreatDoor.Lib
end
section
set_option linter.unusedSimpArgs false
set_option linter.unusedVariables false
namespace Go.Proofs.YtpngedkdkpfnkaaGreatDoor.Mach
open Go Go.Proofs.YtpngedkdkpfnkaaGreatDoor Go.Proofs.YtpngedkdkpfnkaaGreatDoor.Lib
section
set_option maxRecDepth 1000000
def rU : List (Nat × List Nat):=[(8,[5,16,17,18])]
def rV : List (Nat × ETy):=[(16,eS)]
noncomputable def aKZ (l:List ByteArray) (x0 x1:Int):St:=aQ 34 [(5,AV.ptr 0 0),(16,AV.imm eS l),(17,AV.int .i64 x0),(18,AV.int .i64 x1)] [aA.box [AV.bool false,AV.nils,AV.nils]]
noncomputable def v5 (l:List ByteArray) (x0 x1:Int) (x2:Bool) (x3 x4:List Int):St:=aQ 34 [(5,AV.ptr 0 0),(16,AV.imm eS l),(17,AV.int .i64 x0),(18,AV.int .i64 x1)] [aA.box [AV.bool x2,AV.imm eW x3,AV.imm eW x4]]
theorem bDJ (l:List ByteArray) (n0:Nat) (K:AV→List aA→Prop) :
 aF tab (aL tab aC0 [] 400) (aI rU rV (aB Tryz.prog n0 110 K)) (aG tab (fnT Tryz.f110).res K) 400 [.code (fnT Tryz.f110).body] ⟨aU (fnT Tryz.f110).n [AV.imm eS l],[]⟩ =
 (bif decide ((↑l.length:Int) > 256) then K (AV.tup [AV.str (ByteArray.mk #[]),AV.int .i64 2]) [] else TxL l∧bif !decide (dX l=0) then K (AV.tup [AV.str (ByteArray.mk #[]),AV.int .i64 (dX l)]) [] else aB Tryz.prog n0 110 K (aD (fnT Tryz.f110) 8) (aKZ l (↑l.length:Int) 0)):=by kernel_rfl
theorem bDK (l:List ByteArray) (x0 x1:Int) (n0:Nat) (K:AV→List aA→Prop) :
 aF tab (aL tab aC0 [] 400) (aI rU rV (aB Tryz.prog n0 110 K)) (aG tab (fnT Tryz.f110).res K) 400 (aR (fnT Tryz.f110) 8) (aKZ l x0 x1) =
 (bif decide (x1<x0) then bif decide (0≤x1) && decide (x1<(↑l.length:Int)) then ∃ q,l.getD x1.toNat ByteArray.empty=Sem.ratText q∧Sz 4000000000 q∧∀ (z:Bool × List Int × List Int),Sem.QV z q→∃ x y,Sem.QV (false,[],[]) x∧Sem.QV (z.1,z.2.1,z.2.2) y∧Sz 4000000000 x∧Sz 4000000000 y∧∀ (r:Bool × List Int × List Int),Sem.QV r (x+y)→∃ q,Sem.QV (r.1,r.2.1,r.2.2) q∧Sz 9000000000 q∧bif !decide (dG q=0) then K (AV.tup [AV.str (ByteArray.mk #[]),AV.int .i64 2]) [aA.box [AV.bool r.1,AV.imm eW r.2.1,AV.imm eW r.2.2]] else aB Tryz.prog n0 110 K (aD (fnT Tryz.f110) 8) (v5 l x0 (IntKind.i64.wrap (x1+1)) r.1 r.2.1 r.2.2) else False else ∃ q,Sem.QV (false,[],[]) q∧Sz 9000000000 q∧K (AV.tup [AV.str (iV q),AV.int .i64 (dG q)]) [aA.box [AV.bool false,AV.nils,AV.nils]]):=by kernel_rfl
theorem bDL (l:List ByteArray) (x0 x1:Int) (x2:Bool) (x3 x4:List Int) (n0:Nat) (K:AV→List aA→Prop) :
 aF tab (aL tab aC0 [] 400) (aI rU rV (aB Tryz.prog n0 110 K)) (aG tab (fnT Tryz.f110).res K) 400 (aR (fnT Tryz.f110) 8) (v5 l x0 x1 x2 x3 x4) =
 (bif decide (x1<x0) then bif decide (0≤x1) && decide (x1<(↑l.length:Int)) then ∃ q,l.getD x1.toNat ByteArray.empty=Sem.ratText q∧Sz 4000000000 q∧∀ (z:Bool × List Int × List Int),Sem.QV z q→∃ x y,Sem.QV (x2,x3,x4) x∧Sem.QV (z.1,z.2.1,z.2.2) y∧Sz 4000000000 x∧Sz 4000000000 y∧∀ (r:Bool × List Int × List Int),Sem.QV r (x+y)→∃ q,Sem.QV (r.1,r.2.1,r.2.2) q∧Sz 9000000000 q∧bif !decide (dG q=0) then K (AV.tup [AV.str (ByteArray.mk #[]),AV.int .i64 2]) [aA.box [AV.bool r.1,AV.imm eW r.2.1,AV.imm eW r.2.2]] else aB Tryz.prog n0 110 K (aD (fnT Tryz.f110) 8) (v5 l x0 (IntKind.i64.wrap (x1+1)) r.1 r.2.1 r.2.2) else False else ∃ q,Sem.QV (x2,x3,x4) q∧Sz 9000000000 q∧K (AV.tup [AV.str (iV q),AV.int .i64 (dG q)]) [aA.box [AV.bool x2,AV.imm eW x3,AV.imm eW x4]]):=by kernel_rfl
def aC1 : List (Nat × List Nat):=[(5,[3,15,16,17])]
def aC2 : List (Nat × ETy):=[(15,eS)]
noncomputable def aC3 (l:List ByteArray) (x0:ByteArray) (x1 x2:Int):St:=aQ 28 [(3,AV.str x0),(15,AV.imm eS l),(16,AV.int .i64 x1),(17,AV.int .i64 x2)] []
theorem bDM (l:List ByteArray) (n0:Nat) (K:AV→List aA→Prop) :
 aF tab (aL tab aKY [] 400) (aI aC1 aC2 (aB Tryz.prog n0 80 K)) (aG tab (fnT Tryz.f80).res K) 400 [.code (fnT Tryz.f80).body] ⟨aU (fnT Tryz.f80).n [AV.imm eS l],[]⟩ =
 (TxL l∧bif !decide (fZ l=0) then K (AV.int .i64 (fZ l)) [] else aB Tryz.prog n0 80 K (aD (fnT Tryz.f80) 5) (aC3 l (jX l) (↑l.length:Int) 0)):=by kernel_rfl
theorem bDN (l:List ByteArray) (x0:ByteArray) (x1 x2:Int) (n0:Nat) (K:AV→List aA→Prop) :
 aF tab (aL tab aKY [] 400) (aI aC1 aC2 (aB Tryz.prog n0 80 K)) (aG tab (fnT Tryz.f80).res K) 400 (aR (fnT Tryz.f80) 5) (aC3 l x0 x1 x2) =
 (bif decide (x2<x1) then bif decide (0≤x2) && decide (x2<(↑l.length:Int)) then ∃ q,l.getD x2.toNat ByteArray.empty=Sem.ratText q∧Sz 4000000000 q∧∀ (z:Bool × List Int × List Int),Sem.QV z q→∃ q,Sem.QV (z.1,z.2.1,z.2.2) q∧bif decide (Sem.sgn q<0) then K (AV.int .i64 4) [] else aB Tryz.prog n0 80 K (aD (fnT Tryz.f80) 5) (aC3 l x0 x1 (IntKind.i64.wrap (x2+1))) else False else bif !x0.toList == (ByteArray.mk #[49]).toList then K (AV.int .i64 3) [] else K (AV.int .i64 0) []):=by kernel_rfl
end
end Go.Proofs.YtpngedkdkpfnkaaGreatDoor.Mach
end
section
set_option linter.unusedSimpArgs false
set_option linter.unusedVariables false
namespace Go.Proofs.YtpngedkdkpfnkaaGreatDoor.Lib
open Go Go.Proofs.YtpngedkdkpfnkaaGreatDoor.Mach Go.Proofs.YtpngedkdkpfnkaaGreatDoorW.PrintWords Go.Proofs.YtpngedkdkpfnkaaGreatDoor.Sem Go.Proofs.YtpngedkdkpfnkaaGreatDoor.Pure
section
theorem bDO {e:ETy} {l:List e.D} {fz:Bool} {k:IntKind} {n:Int}:aAF [.typed e l fz] (.tup [.own 0, .int k n]) (.tup [.imm e l, .int k n]) :=
 ⟨_,rfl, .cons ⟨e,l,fz,rfl,rfl⟩ (.cons rfl .nil)⟩
theorem bDP {e:ETy} {k:IntKind} {n:Int} {objs:List aA}:aAF objs (.tup [.nils, .int k n]) (.tup [.imm e [], .int k n]) :=
 ⟨_,rfl, .cons (Or.inr ⟨e,rfl⟩) (.cons rfl .nil)⟩
def outL (e:ETy) (l:List e.D) (n:Int):Res:=fun v o=>(v = .tup [.own 0, .int .i64 n]∧∃ fz,o=[.typed e l fz])∨(l=[]∧v = .tup [.nils, .int .i64 n])
theorem bDQ {e:ETy} {l:List e.D} {n:Int} {P:Program} {g:FuncId} {args:List AV} {Q:Res} (h:Con P g args (outL e l n)) (hQ:Q (.tup [.imm e l, .int .i64 n]) []):Con P g args Q :=
 h.sealTo fun v o hv=>by
  rcases hv with ⟨rfl,fz,rfl⟩ | ⟨rfl,rfl⟩
  · exact ⟨_,bDO,hQ⟩
  · exact ⟨_,bDP,hQ⟩
theorem bDR {e:ETy} {l:List e.D} {fz:Bool} {n:Int} {id:Nat} {H:List aA} (ho:aJ H id = .typed e l fz):aO (outL e l n) (.tup [.own id, .int .i64 n]) H :=
 ⟨.tup [.own 0, .int .i64 n],[.typed e l fz],Or.inl ⟨rfl,fz,rfl⟩,rfl,rfl,[id],rfl,by simp,fun k i hk=>by
  match k,hk with
  | 0,hk=>cases hk; exact congrArg some ho.symm,rfl⟩
theorem aWT {e:ETy} {l:List e.D} {n:Int} {H:List aA} (h:l=[]):aO (outL e l n) (.tup [.nils, .int .i64 n]) H:=bP (Or.inr ⟨h,rfl⟩) rfl rfl
theorem aK0 : ∀ {l:List ByteArray},dX l=0→∀ s∈l,eU s=0
 | [],_,s,hs=>absurd hs (by simp)
 | a :: l,h,s,hs=>by
   unfold dX at h
   split at h
   · rename_i h0
     rcases List.mem_cons.1 hs with rfl | hs
     · exact h0
     · exact aK0 h s hs
   · rename_i h0; exact absurd h h0
theorem aK1 {q:Rat} (h:dG q=0):Sz 2000 q:=by
 unfold dG at h
 split at h
 · cases h
 · rename_i h0
   exact ⟨Nat.le_of_not_lt fun hc=>h0 (.inl hc),Nat.le_of_not_lt fun hc=>h0 (.inr hc)⟩
theorem rW {q:Rat} (h:Sz 2000 q):dG q=0:=by
 unfold dG
 rw [if_neg]
 have:=h.1
 have:=h.2
 rintro (h | h) <;> omega
theorem aWU {q:Rat} (h:Sz 2000 q):iV q=ratText q:=by
 unfold iV
 rw [if_pos (rW h)]
theorem aWV {l:List ByteArray} {x:Nat} (hx:x<l.length):l.drop x=l.getD x ByteArray.empty :: l.drop (x+1):=by
 rw [List.drop_eq_getElem_cons hx,List.getD_eq_getElem?_getD,List.getElem?_eq_getElem hx]; rfl
theorem rX {l:List ByteArray} {x:Nat} (h:dX l=0) (hx:x<l.length):l.getD x ByteArray.empty=ratText (bQ (l.getD x ByteArray.empty))∧Sz 2000 (bQ (l.getD x ByteArray.empty)):=aKW (aK0 h _ (d8 hx))
theorem aK2 : ∀ g xs Q,aC0 g xs Q→Con Tryz.prog g xs Q:=cH fun p hp=>by
 simp only [List.mem_cons,List.not_mem_nil,or_false] at hp
 rcases hp with rfl | rfl | rfl | rfl | rfl | rfl | rfl
 · exact bF fun _ _ h=>aWR h
 · exact bA fun _ _ _ h=>aKJ h
 · exact bF fun _ _ h=>aCS h
 · exact bA fun _ _ _ h=>bCO h
 · exact bF fun _ _ h=>rL h
 · exact bF fun _ _ h=>aKO h
 · exact bF fun _ _ h=>aKN h
section
variable {l:List ByteArray} {Q:Res}
theorem bDS (h:sumT l Q):Con Tryz.prog 110 [.imm eS l] Q:=by
 obtain ⟨ht,hq⟩:=h
 refine aW (gn:=fnT Tryz.f110) (by kernel_rfl) aK2 (inl:=[]) (LT:=rU) (NT:=rV) rfl fun n0=>?_
 rw [bDJ]
 have hk:∀ s e H,jX l=s→fZ l=e→aO Q (.tup [.str s, .int .i64 e]) H:=fun s e H h1 h2=>by
  rw [h1,h2] at hq
  exact bP hq rfl rfl
 unfold jX fZ jW at hk
 by_cases h1:256<l.length
 · simp only [if_pos h1] at hk
   exact aC (by omega) (hk _ _ _ rfl rfl)
 refine aE (by omega) ⟨ht,?_⟩
 simp only [if_neg h1] at hk
 by_cases h0:dX l=0
 · simp only [if_pos h0] at hk
   refine aP (aC h0 ?_)
   have step:∀ {x:Nat} {q:Rat},x<l.length→gI q (l.drop x)=if dG (q+bQ (l.getD x ByteArray.empty))=0 then gI (q+bQ (l.getD x ByteArray.empty)) (l.drop (x+1)) else none:=fun {x q} hx=>by
    rw [aWV hx]; rfl
   have main:=bJ (f:=110) (gn:=fnT Tryz.f110) (n0:=n0) (K:=aO Q) (r:=8) (by kernel_rfl) aK2 (inl:=[]) (LT:=rU) (NT:=rV) (fun y:Nat × QT=>v5 l (l.length:Int) (y.1:Int) y.2.1 y.2.2.1 y.2.2.2) (fun y=>l.length - y.1) (fun y=>y.1≤l.length∧∃ q,QV y.2 q∧Sz 2000 q∧gI q (l.drop y.1)=gI 0 l) (fun y hp ih=>by
    obtain ⟨x,b,n,d⟩:=y
    obtain ⟨hp,q,hz,sq,he⟩:=hp
    simp only at hp hz he
    show aF _ _ _ _ _ _ (v5 l (l.length:Int) (x:Int) b n d)
    rw [bDL]
    by_cases hx:x<l.length
    · refine aC (by omega) (aV (aC (by omega) (aC (by omega) ?_)))
      rw [Int.toNat_natCast,wrS hx (by omega)]
      obtain ⟨a1,a2⟩:=rX h0 hx
      rw [step hx] at he
      refine ⟨_,a1,a2.mono (by decide),fun w hw=>⟨q,_,hz,hw,sq.mono (by decide),a2.mono (by decide),fun r hr=>⟨_,hr,aKX (sq.mono (by decide)) (a2.mono (by decide)),?_⟩⟩⟩
      by_cases hf:dG (q+bQ (l.getD x ByteArray.empty))=0
      · rw [if_pos hf] at he
        exact aP (aC hf (ih (x+1,r) ⟨by show x+1≤l.length; omega,_,hr,aK1 hf,he⟩ (by show l.length - (x+1)<l.length - x; omega)))
      · rw [if_neg hf] at he
        rw [← he] at hk
        exact aP (aE hf (hk _ _ _ rfl rfl))
    · rw [List.drop_eq_nil_of_le (by omega)] at he
      rw [← he] at hk
      refine aE (by omega) ⟨q,hz,sq.mono (by decide),?_⟩
      rw [aWU sq,rW sq]
      exact hk _ _ _ rfl rfl)
   have start:=e9 (f:=110) (gn:=fnT Tryz.f110) (n0:=n0) (K:=aO Q) (r:=8) (st:=aKZ l (l.length:Int) 0) (by kernel_rfl) aK2 (inl:=[]) (LT:=rU) (NT:=rV) (by
    rw [bDK]
    by_cases hx:0<l.length
    · refine aC (by omega) (aV (aC (by omega) (aC (by omega) ?_)))
      obtain ⟨a1,a2⟩:=rX h0 hx
      have he:=step (q:=0) hx
      rw [List.drop_zero] at he
      refine ⟨_,a1,a2.mono (by decide),fun w hw=>⟨0,_,QV.zero,hw,mI.mono (by decide),a2.mono (by decide),fun r hr=>⟨_,hr,aKX (mI.mono (by decide)) (a2.mono (by decide)),?_⟩⟩⟩
      by_cases hf:dG (0+bQ (l.getD 0 ByteArray.empty))=0
      · rw [if_pos hf] at he
        exact aP (aC hf (main (1,r) ⟨by show 1≤l.length; omega,_,hr,aK1 hf,he.symm⟩))
      · rw [if_neg hf] at he
        rw [he] at hk
        exact aP (aE hf (hk _ _ _ rfl rfl))
    · have hl:l=[]:=List.length_eq_zero_iff.1 (by omega)
      have he:gI 0 l=some 0:=by rw [hl]; rfl
      rw [he] at hk
      have s0:Sz 2000 0:=mI.mono (by decide)
      refine aE (by omega) ⟨0,QV.zero,mI.mono (by decide),?_⟩
      rw [aWU s0,rW s0]
      exact hk _ _ _ rfl rfl)
   exact start
 · simp only [if_neg h0] at hk
   exact aP (aE h0 (hk _ _ _ rfl rfl))
theorem aWW : ∀ g xs Q,aKY g xs Q→Con Tryz.prog g xs Q:=cH fun p hp=>by
 simp only [List.mem_cons,List.not_mem_nil,or_false] at hp
 rcases hp with rfl | rfl | rfl | rfl
 · exact bF fun _ _ h=>aCS h
 · exact bF fun _ _ h=>rL h
 · exact bF fun _ _ h=>aKO h
 · exact bF fun _ _ h=>bDS h
theorem bDT (h:fZ l=0):l.length≤256∧dX l=0∧∃ q,gI 0 l=some q∧jX l=ratText q:=by
 unfold fZ jW at h
 by_cases h1:256<l.length
 · simp only [if_pos h1] at h; cases h
 simp only [if_neg h1] at h
 by_cases h0:dX l=0
 · simp only [if_pos h0] at h
   refine ⟨by omega,h0,?_⟩
   cases hs:gI 0 l with
   | none=>rw [hs] at h; cases h
   | some q =>
     refine ⟨q,rfl,?_⟩
     unfold jX jW
     rw [if_neg h1,if_pos h0,hs]
 · simp only [if_neg h0] at h
   exact absurd h h0
theorem aWX {x:Nat} (hx:x<l.length) (h:sgn (bQ (l.getD x ByteArray.empty))<0):v4 l=true :=
 List.any_eq_true.2 ⟨_,d8 hx,decide_eq_true h⟩
theorem aWY (h:∀ x,x<l.length→¬ sgn (bQ (l.getD x ByteArray.empty))<0):v4 l=false:=by
 cases hn:v4 l with
 | false=>rfl
 | true =>
   obtain ⟨s,hs,hd⟩:=List.any_eq_true.1 hn
   obtain ⟨i,hi,rfl⟩:=List.getElem_of_mem hs
   refine absurd (of_decide_eq_true hd) ?_
   have:=h i hi
   rw [List.getD_eq_getElem?_getD,List.getElem?_eq_getElem hi] at this
   exact this
theorem aWZ (h:rT l Q):Con Tryz.prog 80 [.imm eS l] Q:=by
 obtain ⟨ht,hq⟩:=h
 refine aW (gn:=fnT Tryz.f80) (by kernel_rfl) aWW (inl:=[]) (LT:=aC1) (NT:=aC2) rfl fun n0=>?_
 rw [bDM]
 refine ⟨ht,?_⟩
 have hk:∀ e,cL l=e→aO Q (.int .i64 e) []:=fun e h1=>by
  rw [h1] at hq
  exact dI hq
 unfold cL at hk
 by_cases hs:fZ l=0
 · rw [if_neg (fun h=>h hs)] at hk
   refine aP (aC hs ?_)
   obtain ⟨hl,h0,p,hp,hps⟩:=bDT hs
   refine bJ (f:=80) (gn:=fnT Tryz.f80) (n0:=n0) (r:=5) (by kernel_rfl) aWW (inl:=[]) (LT:=aC1) (NT:=aC2) (fun x:Nat=>aC3 l (jX l) (l.length:Int) (x:Int)) (fun x=>l.length - x) (fun x=>x≤l.length∧∀ y,y<x→¬ sgn (bQ (l.getD y ByteArray.empty))<0) (fun x hpre ih=>?_) 0 ⟨Nat.zero_le _,fun y hy=>absurd hy (Nat.not_lt_zero _)⟩
   obtain ⟨hxl,hneg⟩:=hpre
   rw [bDN]
   by_cases hx:x<l.length
   · refine aC (by omega) (aV (aC (by omega) (aC (by omega) ?_)))
     rw [Int.toNat_natCast,wrS hx (by omega)]
     obtain ⟨a1,a2⟩:=rX h0 hx
     refine ⟨_,a1,a2.mono (by decide),fun z hz=>⟨_,hz,?_⟩⟩
     by_cases hc:sgn (bQ (l.getD x ByteArray.empty))<0
     · rw [if_pos (aWX hx hc)] at hk
       exact aC hc (hk _ rfl)
     · refine aE hc (ih (x+1) ⟨by omega,fun y hy=>?_⟩ (by omega))
       by_cases hyx:y=x
       · rw [hyx]; exact hc
       · exact hneg y (by omega)
   · have hxx:x=l.length:=by omega
     subst hxx
     rw [aWY hneg,if_neg (by decide)] at hk
     refine aE (by omega) ?_
     by_cases h1:jX l=⟨#[49]⟩
     · rw [if_pos h1] at hk
       exact aP (aS (lH.2 h1) (hk _ rfl))
     · rw [if_neg h1] at hk
       exact aP (aZ (fun h=>h1 (lH.1 h)) (hk _ rfl))
 · rw [if_pos hs] at hk
   exact aP (aE hs (hk _ rfl))
end
end
section
abbrev eQ : ETy := .more .bool (.more (.slice eW) (.one (.slice eW)))
abbrev eP : ETy := .more (.int .i64) (.one (.int .i64))
abbrev z0 : QT:=(false,[],[])
abbrev b0 : ByteArray:=ByteArray.empty
abbrev p0 : Int × Int:=(0,0)
def vP : cB (List (Int × Int)):=kG eP
structure QF (zs:List QT) (n:Nat) (f:Nat→Rat):Prop where
 len:zs.length=n
 at_:∀ i,i<n→QV (zs.getD i z0) (f i)
def b7 (f:Nat→Rat):Nat→Rat
 | 0=>0
 | n+1=>b7 f n+f n
def wide (m:List (List ByteArray)):Nat:=(m.getD 0 []).length
def TxN (n:Nat):Prop:=n≤1000000000000
noncomputable def v6 (n:Nat) (f:Nat→Rat):Int:=if ∀ i,i<n→dG (f i)=0 then 0 else 2
noncomputable def iY (n:Nat) (f:Nat→Rat):List ByteArray:=(List.range n).map fun i=>ratText (f i)
def SzF (k n:Nat) (f:Nat→Rat):Prop:=∀ i,i<n→Sz k (f i)
def iI : List Int→Int
 | []=>0
 | e :: l=>if e=0 then iI l else e
def aW0 (l:List Int) (Q:Res):Prop:=TxN l.length∧Q (.int .i64 (iI l)) []
def aK3 (l:List (List ByteArray)) (Q:Res):Prop:=(l.length≤1000000000000000∧∀ r∈l,r.length≤1000000000000000)∧∀ n:Int,Q (.int .i64 n) []
def aW1 (f:Nat):AV→Option Unit
 | .fn g cs=>(match cs with | []=>(if g=f then some () else none) | _=>none)
 | _=>none
def vCl (f:Nat):cB Unit:=⟨aW1 f,fun _ => .fn f [],fun {x a} h {c w v} hx=>by
 unfold aW1 at h
 split at h
 · split at h
   · split at h
     · rename_i hg; subst hg; exact hx
     · cases h
   · cases h
 · cases h⟩
def fJ (k:Nat) (l:List ByteArray):Int:=match l.findIdx? fun s=>decide (k<s.size) with | some i=>(i:Int) | none => -1
def aC4 (l:List ByteArray) (_:Unit) (Q:Res):Prop:=l.length≤1000000000000000∧Q (.int .i64 (fJ 12 l)) []
noncomputable def rY : FuncId→List AV→Res→Prop:=cD [(126,c1 vLS n9),(35,c1 vS inS),(72,c1 vQ aCJ),(73,c1 vQ outS),(76,c1 vLS n9),(45,c2 vS vS vV),(46,c2 vS vS aCM)]
end
end Go.Proofs.YtpngedkdkpfnkaaGreatDoor.Lib
end
section
set_option linter.unusedSimpArgs false
set_option linter.unusedVariables false
namespace Go.Proofs.YtpngedkdkpfnkaaGreatDoor.Mach
open Go Go.Proofs.YtpngedkdkpfnkaaGreatDoor Go.Proofs.YtpngedkdkpfnkaaGreatDoor.Lib
section
set_option maxRecDepth 1000000
def aW2 : List (Nat × List Nat):=[]
def aW3 : List (Nat × ETy):=[]
theorem bDU (n:Int) (n0:Nat) (K:AV→List aA→Prop) :
 aF tab (aL tab rD [] 400) (aI aW2 aW3 (aB Tryz.prog n0 60 K)) (aG tab (fnT Tryz.f60).res K) 400 [.code (fnT Tryz.f60).body] ⟨aU (fnT Tryz.f60).n [AV.int .i64 n],[]⟩ =
 (bif decide (n<0) then iU (IntKind.i64.wrap (0 - n))∧iU 1∧K (AV.agg [AV.bool true,AV.imm eW (Sem.limbsOf (IntKind.i64.wrap (0 - n)).toNat),AV.imm eW (Sem.limbsOf 1)]) [aA.box [AV.bool true,AV.imm eW (Sem.limbsOf (IntKind.i64.wrap (0 - n)).toNat),AV.imm eW (Sem.limbsOf 1)]] else iU n∧iU 1∧K (AV.agg [AV.bool false,AV.imm eW (Sem.limbsOf n.toNat),AV.imm eW (Sem.limbsOf 1)]) [aA.box [AV.bool false,AV.imm eW (Sem.limbsOf n.toNat),AV.imm eW (Sem.limbsOf 1)]]):=by kernel_rfl
def aC5 : List (Nat × List Nat):=[(2,[5,6,7])]
def aC6 : List (Nat × ETy):=[(5,eI)]
noncomputable def aC7 (l:List Int) (x0 x1:Int):St:=aQ 15 [(5,AV.imm eI l),(6,AV.int .i64 x0),(7,AV.int .i64 x1)] []
theorem bDV (l:List Int) (n0:Nat) (K:AV→List aA→Prop) :
 aF tab (aL tab rY [] 400) (aI aC5 aC6 (aB Tryz.prog n0 12 K)) (aG tab (fnT Tryz.f12).res K) 400 [.code (fnT Tryz.f12).body] ⟨aU (fnT Tryz.f12).n [AV.imm eI l],[]⟩ =
 (aB Tryz.prog n0 12 K (aD (fnT Tryz.f12) 2) (aC7 l (↑l.length:Int) 0)):=by kernel_rfl
theorem bDW (l:List Int) (x0 x1:Int) (n0:Nat) (K:AV→List aA→Prop) :
 aF tab (aL tab rY [] 400) (aI aC5 aC6 (aB Tryz.prog n0 12 K)) (aG tab (fnT Tryz.f12).res K) 400 (aR (fnT Tryz.f12) 2) (aC7 l x0 x1) =
 (bif decide (x1<x0) then bif decide (0≤x1) && decide (x1<(↑l.length:Int)) then bif !decide (l.getD x1.toNat 0=0) then K (AV.int .i64 (l.getD x1.toNat 0)) [] else aB Tryz.prog n0 12 K (aD (fnT Tryz.f12) 2) (aC7 l x0 (IntKind.i64.wrap (x1+1))) else False else K (AV.int .i64 0) []):=by kernel_rfl
def rZ : List (Nat × List Nat):=[(3,[3,8,9,10]),(6,[3,8,9,10,14,15,16])]
def r8 : List (Nat × ETy):=[(8,ETy.one (CTy.slice eS)),(14,eS)]
noncomputable def v7 (l:List (List ByteArray)) (x0 x1 x2:Int):St:=aQ 27 [(3,AV.int .i64 x0),(8,AV.imm (ETy.one (CTy.slice eS)) l),(9,AV.int .i64 x1),(10,AV.int .i64 x2)] []
noncomputable def v8 (l:List (List ByteArray)) (x0 x1 x2:Int) (x3:List ByteArray) (x4 x5:Int):St:=aQ 27 [(3,AV.int .i64 x0),(8,AV.imm (ETy.one (CTy.slice eS)) l),(9,AV.int .i64 x1),(10,AV.int .i64 x2),(14,AV.imm eS x3),(15,AV.int .i64 x4),(16,AV.int .i64 x5)] []
theorem bDX (l:List (List ByteArray)) (n0:Nat) (K:AV→List aA→Prop) :
 aF tab (aL tab rY [] 400) (aI rZ r8 (aB Tryz.prog n0 28 K)) (aG tab (fnT Tryz.f28).res K) 400 [.code (fnT Tryz.f28).body] ⟨aU (fnT Tryz.f28).n [AV.imm (ETy.one (CTy.slice eS)) l],[]⟩ =
 (aB Tryz.prog n0 28 K (aD (fnT Tryz.f28) 3) (v7 l 0 (↑l.length:Int) 0)):=by kernel_rfl
theorem bDY (l:List (List ByteArray)) (x0 x1 x2:Int) (n0:Nat) (K:AV→List aA→Prop) :
 aF tab (aL tab rY [] 400) (aI rZ r8 (aB Tryz.prog n0 28 K)) (aG tab (fnT Tryz.f28).res K) 400 (aR (fnT Tryz.f28) 3) (v7 l x0 x1 x2) =
 (bif decide (x2<x1) then bif decide (0≤x2) && decide (x2<(↑l.length:Int)) then aB Tryz.prog n0 28 K (aD (fnT Tryz.f28) 6) (v8 l x0 x1 x2 (l.getD x2.toNat []) (↑(List.length (l.getD x2.toNat [])):Int) 0) else False else K (AV.int .i64 x0) []):=by kernel_rfl
theorem bDZ (l:List (List ByteArray)) (x0 x1 x2:Int) (x3:List ByteArray) (x4 x5:Int) (n0:Nat) (K:AV→List aA→Prop) :
 aF tab (aL tab rY [] 400) (aI rZ r8 (aB Tryz.prog n0 28 K)) (aG tab (fnT Tryz.f28).res K) 400 (aR (fnT Tryz.f28) 6) (v8 l x0 x1 x2 x3 x4 x5) =
 (bif decide (x5<x4) then bif decide (0≤x5) && decide (x5<(↑x3.length:Int)) then aB Tryz.prog n0 28 K (aD (fnT Tryz.f28) 6) (v8 l (IntKind.i64.wrap (x0+(↑(ByteArray.size (x3.getD x5.toNat ByteArray.empty)):Int))) x1 x2 x3 x4 (IntKind.i64.wrap (x5+1))) else False else aB Tryz.prog n0 28 K (aD (fnT Tryz.f28) 3) (v7 l x0 x1 (IntKind.i64.wrap (x2+1)))):=by kernel_rfl
end
end Go.Proofs.YtpngedkdkpfnkaaGreatDoor.Mach
end
section
set_option linter.unusedSimpArgs false
set_option linter.unusedVariables false
namespace Go.Proofs.YtpngedkdkpfnkaaGreatDoor.Lib
open Go Go.Proofs.YtpngedkdkpfnkaaGreatDoor.Mach Go.Proofs.YtpngedkdkpfnkaaGreatDoorW.PrintWords Go.Proofs.YtpngedkdkpfnkaaGreatDoor.Sem Go.Proofs.YtpngedkdkpfnkaaGreatDoor.Pure
section
theorem g8 {n b:Nat} (h:n≤1000000000001) (hb:b≤100):(bif n.ble 9223372036854775807 then (n * b).ble 140737488355328 else false)=true:=by
 rw [(fN _ _).2 (show n≤9223372036854775807 by omega)]
 exact (fN _ _).2 (Nat.le_trans (Nat.mul_le_mul h hb) (by decide))
theorem aK4 {a b:Nat} {x y:Rat} (sx:Sz a x) (sy:Sz b y):Sz (a+b+1) (x+y):=by
 have e1:=fI sx; have e2:=fT sx; have e3:=fI sy; have e4:=fT sy
 have m1:dg (x.num.natAbs * y.den)≤a+b:=Nat.le_trans (rB _ _) (by omega)
 have m2:dg (y.num.natAbs * x.den)≤a+b:=Nat.le_trans (rB _ _) (by omega)
 have m3:dg (x.den * y.den)≤a+b:=Nat.le_trans (rB _ _) (by omega)
 have px:=gS x
 have py:=gS y
 have hsum:x+y=mkq (decide (x.num<0)) x.num.natAbs x.den+mkq (decide (y.num<0)) y.num.natAbs y.den:=by rw [iG,iG]
 rw [aCH _ _ _ _ _ _ px py] at hsum
 have hD:∀ c u,szD (mkq c u (x.den * y.den))≤a+b+1:=fun c u=>Nat.le_trans (vR (Nat.mul_pos px py)) (by omega)
 have hN:∀ c u,dg u≤a+b+1→szN (mkq c u (x.den * y.den))≤a+b+1:=fun c u h=>Nat.le_trans (vO (Nat.mul_pos px py)) h
 have a1:=aCE m1 m2
 have a2:=g6 (Nat.sub_le (x.num.natAbs * y.den) (y.num.natAbs * x.den))
 have a3:=g6 (Nat.sub_le (y.num.natAbs * x.den) (x.num.natAbs * y.den))
 rw [hsum]
 split
 · exact ⟨hN _ _ (by omega),hD _ _⟩
 · split
   · exact ⟨hN _ _ (by omega),hD _ _⟩
   · exact ⟨hN _ _ (by omega),hD _ _⟩
theorem mJ {a b:Nat} {x y:Rat} (sx:Sz a x) (sy:Sz b y):Sz (a+b) (x * y):=by
 have e1:=fI sx; have e2:=fT sx; have e3:=fI sy; have e4:=fT sy
 have hprod:x * y=mkq (decide (x.num<0)) x.num.natAbs x.den * mkq (decide (y.num<0)) y.num.natAbs y.den:=by rw [iG,iG]
 rw [aKB] at hprod
 rw [hprod]
 have hp:=Nat.mul_pos (gS x) (gS y)
 exact ⟨Nat.le_trans (vO hp) (Nat.le_trans (rB _ _) (by omega)),Nat.le_trans (vR hp) (Nat.le_trans (rB _ _) (by omega))⟩
theorem aW4 (n:Int) (h:n.natAbs<10 ^ 20):Sz 20 (n:Rat):=⟨bCP h,by show dg (n:Rat).den≤20; rw [Rat.den_intCast,vX]; decide⟩
def bD0 (f:Nat→Rat) (n:Nat):Nat→Rat
 | 0=>0
 | d+1=>f (n - 1 - d)+bD0 f n d
section
variable {v a b:List ByteArray} {m:List (List ByteArray)} {Q:Res}
theorem v9 : ∀ g xs Q,rY g xs Q→Con Tryz.prog g xs Q:=cH fun p hp=>by
 simp only [List.mem_cons,List.not_mem_nil,or_false] at hp
 rcases hp with rfl | rfl | rfl | rfl | rfl | rfl | rfl
 · exact bF fun _ _ h=>aWR h
 · exact bF fun _ _ h=>rL h
 · exact bF fun _ _ h=>aKN h
 · exact bF fun _ _ h=>aV3 h
 · exact bF fun _ _ h=>aWS h
 · exact bA fun _ _ _ h=>aCY h
 · exact bA fun _ _ _ h=>aKU h
theorem bD1 {n:Int} (h:intQ n Q):Con Tryz.prog 60 [.int .i64 n] Q:=by
 obtain ⟨⟨h0,h1⟩,hq⟩:=h
 refine aW (gn:=fnT Tryz.f60) (by kernel_rfl) vY (inl:=[]) (LT:=aW2) (NT:=aW3) rfl fun n0=>?_
 rw [bDU]
 have hd:(n:Rat).den=1:=Rat.den_intCast n
 have hn:(n:Rat).num=n:=Rat.num_intCast n
 by_cases hneg:n<0
 · refine aC hneg ⟨⟨by rw [wr (by omega) (by omega)]; omega,by rw [wr (by omega) (by omega)]; omega⟩,rH,?_⟩
   rw [wr (by omega) (by omega),show (0 - n).toNat=n.natAbs by omega]
   refine bP (hq (true,limbsOf n.natAbs,limbsOf 1) ⟨?_,?_, .inl ?_⟩) rfl rfl
   · rw [hn]; exact (decide_eq_true hneg).symm
   · rw [hn]
   · rw [hd]
 · refine aE hneg ⟨⟨by omega,by omega⟩,rH,?_⟩
   rw [show n.toNat=n.natAbs by omega]
   refine bP (hq (false,limbsOf n.natAbs,limbsOf 1) ⟨?_,?_, .inl ?_⟩) rfl rfl
   · rw [hn]; exact (decide_eq_false hneg).symm
   · rw [hn]
   · rw [hd]
theorem bD2 {n x:Nat} {f:Nat→Rat} (hx:x<n) (h:dG (f x)≠0):v6 n f=2∧dG (f x)=2:=by
 refine ⟨if_neg fun hc=>h (hc x hx),?_⟩
 unfold dG at h ⊢
 split at h
 · rename_i h1; rw [if_pos h1]
 · exact absurd rfl h
theorem bD3 (n:Nat) (f:Nat→Rat):iY (n+1) f=iY n f ++ [ratText (f n)]:=by
 unfold iY
 rw [List.range_succ,List.map_append]; rfl
theorem aK5 (n:Nat) (f:Nat→Rat):(iY n f).length=n:=by unfold iY; simp
theorem bD4 {n i:Nat} {f:Nat→Rat} (h:i<n):(iY n f).getD i b0=ratText (f i):=by
 unfold iY
 rw [List.getD_eq_getElem?_getD,List.getElem?_map,List.getElem?_range h]; rfl
theorem bD5 {n:Nat} {f:Nat→Rat} (h:SzF 2000 n f):v6 n f=0:=if_pos fun i hi=>rW (h i hi)
theorem bD6 {l:List Int} {x:Nat} (hx:x<l.length):iI (l.drop x)=if l.getD x 0=0 then iI (l.drop (x+1)) else l.getD x 0:=by
 rw [List.drop_eq_getElem_cons hx,List.getD_eq_getElem?_getD,List.getElem?_eq_getElem hx]; rfl
theorem bD7 {l:List Int} (h:aW0 l Q):Con Tryz.prog 12 [.imm eI l] Q:=by
 obtain ⟨hn,hq⟩:=h
 unfold TxN at hn
 refine aW (gn:=fnT Tryz.f12) (by kernel_rfl) v9 (inl:=[]) (LT:=aC5) (NT:=aC6) rfl fun n0=>?_
 rw [bDV]
 refine bJ (f:=12) (gn:=fnT Tryz.f12) (n0:=n0) (r:=2) (by kernel_rfl) v9 (inl:=[]) (LT:=aC5) (NT:=aC6) (K:=aO Q) (fun x:Nat=>aC7 l (l.length:Int) (x:Int)) (fun x=>l.length - x) (fun x=>x≤l.length∧iI l=iI (l.drop x)) (fun x hp ih=>?_) 0 ⟨Nat.zero_le _,by rw [List.drop_zero]⟩
 obtain ⟨hp,he⟩:=hp
 rw [bDW]
 by_cases hx:x<l.length
 · rw [bD6 hx] at he
   refine aC (by omega) (aV (aC (by omega) (aC (by omega) ?_)))
   rw [Int.toNat_natCast,wrS hx (by omega)]
   by_cases h0:l.getD x 0=0
   · rw [if_pos h0] at he
     exact aP (aC h0 (ih (x+1) ⟨by omega,he⟩ (by omega)))
   · rw [if_neg h0] at he
     rw [he] at hq
     exact aP (aE h0 (dI hq))
 · rw [List.drop_eq_nil_of_le (by omega)] at he
   rw [he] at hq
   exact aE (by omega) (dI hq)
theorem aW5 {l:List (List ByteArray)} (h:aK3 l Q):Con Tryz.prog 28 [.imm (eL eS) l] Q:=by
 obtain ⟨⟨hl,hr⟩,hq⟩:=h
 refine aW (gn:=fnT Tryz.f28) (by kernel_rfl) v9 (inl:=[]) (LT:=rZ) (NT:=r8) rfl fun n0=>?_
 rw [bDX]
 refine bJ (f:=28) (gn:=fnT Tryz.f28) (n0:=n0) (r:=3) (by kernel_rfl) v9 (inl:=[]) (LT:=rZ) (NT:=r8) (K:=aO Q) (fun y:Int × Nat=>v7 l y.1 (l.length:Int) (y.2:Int)) (fun y=>l.length - y.2) (fun y=>y.2≤l.length) (fun y hp ih=>?_) (0,0) (Nat.zero_le _)
 obtain ⟨n,x⟩:=y
 simp only at hp
 show aF _ _ _ _ _ _ (v7 l n (l.length:Int) (x:Int))
 rw [bDY]
 by_cases hx:x<l.length
 · refine aC (by omega) (aV (aC (by omega) (aC (by omega) ?_)))
   rw [Int.toNat_natCast]
   have hrr:=hr _ (d8 (d:=[]) hx)
   generalize l.getD x []=r at hrr
   refine bJ (f:=28) (gn:=fnT Tryz.f28) (n0:=n0) (r:=6) (by kernel_rfl) v9 (inl:=[]) (LT:=rZ) (NT:=r8) (K:=aO Q) (fun y:Int × Nat=>v8 l y.1 (l.length:Int) (x:Int) r (r.length:Int) (y.2:Int)) (fun y=>r.length - y.2) (fun y=>y.2≤r.length) (fun y hp ih2=>?_) (n,0) (Nat.zero_le _)
   obtain ⟨m,k⟩:=y
   simp only at hp
   show aF _ _ _ _ _ _ (v8 l m (l.length:Int) (x:Int) r (r.length:Int) (k:Int))
   rw [bDZ]
   by_cases hk:k<r.length
   · refine aC (by omega) (aV (aC (by omega) (aC (by omega) ?_)))
     rw [wrS hk (by omega)]
     exact ih2 (_,k+1) (by show k+1≤r.length; omega) (by show r.length - (k+1)<r.length - k; omega)
   · refine aE (by omega) ?_
     rw [wrS hx (by omega)]
     exact ih (_,x+1) (by show x+1≤l.length; omega) (by show l.length - (x+1)<l.length - x; omega)
 · exact aE (by omega) (dI (hq _))
theorem aK6 {α:Type} {d:α} {l:List α} {x:Nat} (hx:x<l.length):l.drop x=l.getD x d :: l.drop (x+1):=by
 rw [List.drop_eq_getElem_cons hx,List.getD_eq_getElem?_getD,List.getElem?_eq_getElem hx]; rfl
theorem aK7 {k:Nat} {v:List ByteArray} (h:¬ fJ k v ≥ 0):∀ s∈v,s.size≤k:=fun s hs=>Nat.le_of_not_lt fun hc=>by
 unfold fJ at h
 cases hf:v.findIdx? fun s=>decide (k<s.size) with
 | none =>
   have:=List.findIdx?_eq_none_iff.1 hf s hs
   simp at this
   omega
 | some i =>
   rw [hf] at h
   simp at h
end
end
section
abbrev Nd : Type:=Int × Int × Int × List Int × List ByteArray × ByteArray
abbrev aT : ETy := .more (.int .i64) (.more (.int .i64) (.more (.int .i64) (.more (.slice eI) (.more (.slice eS) (.one .str)))))
abbrev bx6 (a b c:Int) (d:List Int) (e:List ByteArray) (f:ByteArray):aA := .box [.int .i64 a, .int .i64 b, .int .i64 c, .imm eI d, .imm eS e, .str f]
abbrev bxN (x:Nd):aA:=bx6 x.1 x.2.1 x.2.2.1 x.2.2.2.1 x.2.2.2.2.1 x.2.2.2.2.2
def nd0 : Nd:=(0,0,0,[],[],b0)
def vN : cB (List Nd):=kG aT
def TxNd (x:Nd):Prop:=x.2.2.2.1.length≤1000000000000000∧TxL x.2.2.2.2.1∧Tx x.2.2.2.2.2
def TxT (t:List Nd):Prop:=t.length≤1000000000000000∧∀ x∈t,TxNd x
def InT (i:Int) (t:List Nd):Prop:=0≤i∧i<t.length
def kM (t:List Nd) (i k:Int):Bool:=decide (i<k) && decide (k<t.length)
def bR (t:List Nd) (i:Nat):Int :=
 if (t.getD i nd0).2.2.2.1.length=0 then 3 else if 6<(t.getD i nd0).2.2.2.1.length then 2 else if (t.getD i nd0).2.2.2.1.all (kM t i)=true then 0 else 3
noncomputable def fU (t:List Nd) (i:Nat):Int :=
 let x:=t.getD i nd0
 if x.1=0 then (if x.2.1≠0∨x.2.2.1≠0∨0<x.2.2.2.1.length∨0<x.2.2.2.2.1.length then 3 else eU x.2.2.2.2.2)
 else if x.1=1 then (if x.2.1≠0∨x.2.2.1≠0∨x.2.2.2.2.2≠⟨#[]⟩ then 3 else if bR t i≠0 then bR t i else if x.2.2.2.2.1.length≠x.2.2.2.1.length then 3 else cL x.2.2.2.2.1)
 else if x.1=2 then (if 0<x.2.2.2.2.1.length∨x.2.2.2.2.2≠⟨#[]⟩ then 3 else if x.2.1<0∨1<x.2.1∨x.2.2.1<0∨10≤x.2.2.1 then 4 else bR t i)
 else 1
def aC8 (t:List Nd) (i:Int) (Q:Res):Prop:=InT i t∧Q (.int .i64 (bR t i.toNat)) []
def r9 (t:List Nd) (i:Int) (Q:Res):Prop:=(TxT t∧InT i t)∧Q (.int .i64 (fU t i.toNat)) []
noncomputable def aW6 : FuncId→List AV→Res→Prop:=cD [(107,c2 vN vI aC8),(106,c1 vS rC),(80,c1 vLS rT)]
noncomputable def aW7 : FuncId→List AV→Res→Prop:=cD [(75,c2 vN vI aC8),(74,c1 vS rC),(41,c1 vLS rT)]
noncomputable def oD : FuncId→List AV→Res→Prop:=cD [(78,c2 vN vI r9),(37,c2 vN vI r9)]
end
end Go.Proofs.YtpngedkdkpfnkaaGreatDoor.Lib
end
section
set_option linter.unusedSimpArgs false
set_option linter.unusedVariables false
namespace Go.Proofs.YtpngedkdkpfnkaaGreatDoor.Mach
open Go Go.Proofs.YtpngedkdkpfnkaaGreatDoor Go.Proofs.YtpngedkdkpfnkaaGreatDoor.Lib
section
set_option maxRecDepth 1000000
def aC9 : List (Nat × List Nat):=[(7,[0,1,19,20,21])]
def aDA : List (Nat × ETy):=[(19,eI)]
noncomputable def wA (t:List Nd) (i:Int) (x0:List Int) (x1 x2:Int):St:=aQ 35 [(0,AV.imm aT t),(1,AV.int .i64 i),(19,AV.imm eI x0),(20,AV.int .i64 x1),(21,AV.int .i64 x2)] []
theorem bD8 (t:List Nd) (i:Int) (n0:Nat) (K:AV→List aA→Prop) :
 aF tab (aL tab bE [] 400) (aI aC9 aDA (aB Tryz.prog n0 107 K)) (aG tab (fnT Tryz.f107).res K) 400 [.code (fnT Tryz.f107).body] ⟨aU (fnT Tryz.f107).n [AV.imm aT t,AV.int .i64 i],[]⟩ =
 (bif decide (0≤i) && decide (i<(↑t.length:Int)) then bif decide ((↑(List.length (t.getD i.toNat (0,0,0,[],[],ByteArray.empty)).2.2.2.1):Int)=0) then K (AV.int .i64 3) [] else bif decide ((↑(List.length (t.getD i.toNat (0,0,0,[],[],ByteArray.empty)).2.2.2.1):Int) > 6) then K (AV.int .i64 2) [] else aB Tryz.prog n0 107 K (aD (fnT Tryz.f107) 7) (wA t i (t.getD i.toNat (0,0,0,[],[],ByteArray.empty)).2.2.2.1 (↑(List.length (t.getD i.toNat (0,0,0,[],[],ByteArray.empty)).2.2.2.1):Int) 0) else False):=by kernel_rfl
theorem bD9 (t:List Nd) (i:Int) (x0:List Int) (x1 x2:Int) (n0:Nat) (K:AV→List aA→Prop) :
 aF tab (aL tab bE [] 400) (aI aC9 aDA (aB Tryz.prog n0 107 K)) (aG tab (fnT Tryz.f107).res K) 400 (aR (fnT Tryz.f107) 7) (wA t i x0 x1 x2) =
 (bif decide (x2<x1) then bif decide (0≤x2) && decide (x2<(↑x0.length:Int)) then bif decide (x0.getD x2.toNat 0≤i) then K (AV.int .i64 3) [] else bif bif false then true else decide (x0.getD x2.toNat 0 ≥ (↑t.length:Int)) then K (AV.int .i64 3) [] else aB Tryz.prog n0 107 K (aD (fnT Tryz.f107) 7) (wA t i x0 x1 (IntKind.i64.wrap (x2+1))) else False else K (AV.int .i64 0) []):=by kernel_rfl
def aDB : List (Nat × List Nat):=[(7,[0,1,22,23,24])]
def aDC : List (Nat × ETy):=[(22,eI)]
noncomputable def wB (t:List Nd) (i:Int) (x0:List Int) (x1 x2:Int):St:=aQ 39 [(0,AV.imm aT t),(1,AV.int .i64 i),(22,AV.imm eI x0),(23,AV.int .i64 x1),(24,AV.int .i64 x2)] []
theorem bEA (t:List Nd) (i:Int) (n0:Nat) (K:AV→List aA→Prop) :
 aF tab (aL tab bE [] 400) (aI aDB aDC (aB Tryz.prog n0 75 K)) (aG tab (fnT Tryz.f75).res K) 400 [.code (fnT Tryz.f75).body] ⟨aU (fnT Tryz.f75).n [AV.imm aT t,AV.int .i64 i],[]⟩ =
 (bif decide (0≤i) && decide (i<(↑t.length:Int)) then bif decide ((↑(List.length (t.getD i.toNat (0,0,0,[],[],ByteArray.empty)).2.2.2.1):Int)=0) then K (AV.int .i64 3) [] else bif decide ((↑(List.length (t.getD i.toNat (0,0,0,[],[],ByteArray.empty)).2.2.2.1):Int) > 6) then K (AV.int .i64 2) [] else bif decide (0≤i) && decide (i<(↑t.length:Int)) then aB Tryz.prog n0 75 K (aD (fnT Tryz.f75) 7) (wB t i (t.getD i.toNat (0,0,0,[],[],ByteArray.empty)).2.2.2.1 (↑(List.length (t.getD i.toNat (0,0,0,[],[],ByteArray.empty)).2.2.2.1):Int) 0) else False else False):=by kernel_rfl
theorem bEB (t:List Nd) (i:Int) (x0:List Int) (x1 x2:Int) (n0:Nat) (K:AV→List aA→Prop) :
 aF tab (aL tab bE [] 400) (aI aDB aDC (aB Tryz.prog n0 75 K)) (aG tab (fnT Tryz.f75).res K) 400 (aR (fnT Tryz.f75) 7) (wB t i x0 x1 x2) =
 (bif decide (x2<x1) then bif decide (0≤x2) && decide (x2<(↑x0.length:Int)) then bif decide (x0.getD x2.toNat 0 > i) then bif !bif true then decide (x0.getD x2.toNat 0<(↑t.length:Int)) else false then K (AV.int .i64 3) [] else aB Tryz.prog n0 75 K (aD (fnT Tryz.f75) 7) (wB t i x0 x1 (IntKind.i64.wrap (x2+1))) else K (AV.int .i64 3) [] else False else K (AV.int .i64 0) []):=by kernel_rfl
def sA : List (Nat × List Nat):=[(3,[1,5,10,11,12]),(6,[1,5,6,10,11,12,18,19,20])]
def sB : List (Nat × ETy):=[(5,eP),(10,aT),(18,eI)]
noncomputable def aDD (t:List Nd) (k x0 x1:Int) (x2:List (Int × Int)):St:=aQ 37 [(1,AV.int .i64 k),(5,AV.own 0),(10,AV.imm aT t),(11,AV.int .i64 x0),(12,AV.int .i64 x1)] [aA.typed eP x2 false]
noncomputable def sC (t:List Nd) (k x0 x1 x2:Int) (x3:List Int) (x4 x5:Int) (x6:List (Int × Int)):St:=aQ 37 [(1,AV.int .i64 k),(5,AV.own 0),(6,AV.int .i64 x0),(10,AV.imm aT t),(11,AV.int .i64 x1),(12,AV.int .i64 x2),(18,AV.imm eI x3),(19,AV.int .i64 x4),(20,AV.int .i64 x5)] [aA.typed eP x6 false]
theorem bEC (t:List Nd) (k:Int) (n0:Nat) (K:AV→List aA→Prop) :
 aF tab (aL tab bE [] 400) (aI sA sB (aB Tryz.prog n0 38 K)) (aG tab (fnT Tryz.f38).res K) 400 [.code (fnT Tryz.f38).body] ⟨aU (fnT Tryz.f38).n [AV.imm aT t,AV.int .i64 k],[]⟩ =
 (aB Tryz.prog n0 38 K (aD (fnT Tryz.f38) 3) (aDD t k (↑t.length:Int) 0 [])):=by kernel_rfl
theorem bED (t:List Nd) (k x0 x1:Int) (x2:List (Int × Int)) (n0:Nat) (K:AV→List aA→Prop) :
 aF tab (aL tab bE [] 400) (aI sA sB (aB Tryz.prog n0 38 K)) (aG tab (fnT Tryz.f38).res K) 400 (aR (fnT Tryz.f38) 3) (aDD t k x0 x1 x2) =
 (bif decide (x1<x0) then bif decide (0≤x1) && decide (x1<(↑t.length:Int)) then aB Tryz.prog n0 38 K (aD (fnT Tryz.f38) 6) (sC t k x1 x0 x1 (t.getD x1.toNat (0,0,0,[],[],ByteArray.empty)).2.2.2.1 (↑(List.length (t.getD x1.toNat (0,0,0,[],[],ByteArray.empty)).2.2.2.1):Int) 0 x2) else False else K (AV.own 0) [aA.typed eP x2 false]):=by kernel_rfl
theorem bEE (t:List Nd) (k x0 x1 x2:Int) (x3:List Int) (x4 x5:Int) (x6:List (Int × Int)) (n0:Nat) (K:AV→List aA→Prop) :
 aF tab (aL tab bE [] 400) (aI sA sB (aB Tryz.prog n0 38 K)) (aG tab (fnT Tryz.f38).res K) 400 (aR (fnT Tryz.f38) 6) (sC t k x0 x1 x2 x3 x4 x5 x6) =
 (bif decide (x5<x4) then bif decide (0≤x5) && decide (x5<(↑x3.length:Int)) then bif decide (x3.getD x5.toNat 0=k) then bif bif (x6.length+[(x0,x5)].length).ble 9223372036854775807 then ((x6.length+[(x0,x5)].length) * 16).ble 140737488355328 else false then aB Tryz.prog n0 38 K (aD (fnT Tryz.f38) 6) (sC t k x0 x1 x2 x3 x4 (IntKind.i64.wrap (x5+1)) (x6 ++ [(x0,x5)])) else False else aB Tryz.prog n0 38 K (aD (fnT Tryz.f38) 6) (sC t k x0 x1 x2 x3 x4 (IntKind.i64.wrap (x5+1)) x6) else False else aB Tryz.prog n0 38 K (aD (fnT Tryz.f38) 3) (aDD t k x1 (IntKind.i64.wrap (x2+1)) x6)):=by kernel_rfl
def jL : List (Nat × List Nat):=[(7,[0,3,24,25,26]),(13,[0,3,24,25,26,38,39,40]),(19,[0,52,53,54]),(25,[0,66,67,68]),(28,[0,12,66,67,68,75,76,77])]
def jM : List (Nat × ETy):=[(3,eI),(24,aT),(38,eI),(52,eI),(66,aT),(75,aT)]
noncomputable def wC (t:List Nd) (x0 x1:Int) (x2:List Int):St:=aQ 114 [(0,AV.imm aT t),(3,AV.own 0),(24,AV.imm aT t),(25,AV.int .i64 x0),(26,AV.int .i64 x1)] [aA.typed eI x2 false]
noncomputable def sD (t:List Nd) (x0 x1:Int) (x2:List Int) (x3 x4:Int) (x5:List Int):St:=aQ 114 [(0,AV.imm aT t),(3,AV.own 0),(24,AV.imm aT t),(25,AV.int .i64 x0),(26,AV.int .i64 x1),(38,AV.imm eI x2),(39,AV.int .i64 x3),(40,AV.int .i64 x4)] [aA.typed eI x5 false]
noncomputable def sE (t:List Nd) (x0 x1:Int) (x2:List Int):St:=aQ 114 [(0,AV.imm aT t),(52,AV.own 0),(53,AV.int .i64 x0),(54,AV.int .i64 x1)] [aA.typed eI x2 false]
noncomputable def wD (t:List Nd) (x0 x1:Int):St:=aQ 114 [(0,AV.imm aT t),(66,AV.imm aT t),(67,AV.int .i64 x0),(68,AV.int .i64 x1)] []
noncomputable def lI (t:List Nd) (x0 x1:Int) (x2:List Nd) (x3 x4 x5 x6 x7:Int) (x8:List Int) (x9:List ByteArray) (x10:ByteArray):St:=aQ 114 [(0,AV.imm aT t),(12,AV.ptr 0 0),(66,AV.imm aT t),(67,AV.int .i64 x0),(68,AV.int .i64 x1),(75,AV.imm aT x2),(76,AV.int .i64 x3),(77,AV.int .i64 x4)] [bx6 x5 x6 x7 x8 x9 x10]
theorem bEF (t:List Nd) (n0:Nat) (K:AV→List aA→Prop) :
 aF tab (aL tab oD [] 400) (aI jL jM (aB Tryz.prog n0 42 K)) (aG tab (fnT Tryz.f42).res K) 400 [.code (fnT Tryz.f42).body] ⟨aU (fnT Tryz.f42).n [AV.imm aT t],[]⟩ =
 (bif decide ((↑t.length:Int) > 120) then K (AV.int .i64 2) [] else bif decide ((↑t.length:Int)=0) then K (AV.int .i64 8) [] else bif decide (0≤(↑t.length:Int)) && decide ((↑t.length:Int)≤(↑t.length:Int)) && bif (↑t.length:Int).toNat.ble 9223372036854775807 then ((↑t.length:Int).toNat * 8).ble 281474976710656 else false then aB Tryz.prog n0 42 K (aD (fnT Tryz.f42) 7) (wC t (↑t.length:Int) 0 (List.replicate (↑t.length:Int).toNat 0)) else False):=by kernel_rfl
theorem bEG (t:List Nd) (x0 x1:Int) (x2:List Int) (n0:Nat) (K:AV→List aA→Prop) :
 aF tab (aL tab oD [] 400) (aI jL jM (aB Tryz.prog n0 42 K)) (aG tab (fnT Tryz.f42).res K) 400 (aR (fnT Tryz.f42) 7) (wC t x0 x1 x2) =
 (bif decide (x1<x0) then bif decide (0≤x1) && decide (x1<(↑t.length:Int)) then (TxT t∧InT x1 t)∧bif !decide (fU t x1.toNat=0) then K (AV.int .i64 (fU t x1.toNat)) [aA.typed eI x2 false,bxN (t.getD x1.toNat (0,0,0,[],[],ByteArray.empty))] else aB Tryz.prog n0 42 K (aD (fnT Tryz.f42) 13) (sD t x0 x1 (t.getD x1.toNat (0,0,0,[],[],ByteArray.empty)).2.2.2.1 (↑(List.length (t.getD x1.toNat (0,0,0,[],[],ByteArray.empty)).2.2.2.1):Int) 0 x2) else False else aB Tryz.prog n0 42 K (aD (fnT Tryz.f42) 19) (sE t (↑x2.length:Int) 0 x2)):=by kernel_rfl
theorem bEH (t:List Nd) (x0 x1:Int) (x2:List Int) (x3 x4:Int) (x5:List Int) (n0:Nat) (K:AV→List aA→Prop) :
 aF tab (aL tab oD [] 400) (aI jL jM (aB Tryz.prog n0 42 K)) (aG tab (fnT Tryz.f42).res K) 400 (aR (fnT Tryz.f42) 13) (sD t x0 x1 x2 x3 x4 x5) =
 (bif decide (x4<x3) then bif decide (0≤x4) && decide (x4<(↑x2.length:Int)) then bif decide (0≤x2.getD x4.toNat 0) && decide (x2.getD x4.toNat 0<(↑x5.length:Int)) then bif decide (0≤x2.getD x4.toNat 0) && decide (x2.getD x4.toNat 0<(↑x5.length:Int)) then aB Tryz.prog n0 42 K (aD (fnT Tryz.f42) 13) (sD t x0 x1 x2 x3 (IntKind.i64.wrap (x4+1)) (x5.set (Int.toNat (x2.getD x4.toNat 0)) (IntKind.i64.wrap (x5.getD (Int.toNat (x2.getD x4.toNat 0)) 0+1)))) else False else False else False else aB Tryz.prog n0 42 K (aD (fnT Tryz.f42) 7) (wC t x0 (IntKind.i64.wrap (x1+1)) x5)):=by kernel_rfl
theorem bEI (t:List Nd) (x0 x1:Int) (x2:List Int) (n0:Nat) (K:AV→List aA→Prop) :
 aF tab (aL tab oD [] 400) (aI jL jM (aB Tryz.prog n0 42 K)) (aG tab (fnT Tryz.f42).res K) 400 (aR (fnT Tryz.f42) 19) (sE t x0 x1 x2) =
 (bif decide (x1<x0) then bif decide (0≤x1) && decide (x1<(↑x2.length:Int)) then bif decide (x1 > 0) then bif bif true then !decide (x2.getD x1.toNat 0=1) else false then K (AV.int .i64 3) [aA.typed eI x2 false] else aB Tryz.prog n0 42 K (aD (fnT Tryz.f42) 19) (sE t x0 (IntKind.i64.wrap (x1+1)) x2) else aB Tryz.prog n0 42 K (aD (fnT Tryz.f42) 19) (sE t x0 (IntKind.i64.wrap (x1+1)) x2) else False else aB Tryz.prog n0 42 K (aD (fnT Tryz.f42) 25) (wD t (↑t.length:Int) 0)):=by kernel_rfl
theorem bEJ (t:List Nd) (x0 x1:Int) (n0:Nat) (K:AV→List aA→Prop) :
 aF tab (aL tab oD [] 400) (aI jL jM (aB Tryz.prog n0 42 K)) (aG tab (fnT Tryz.f42).res K) 400 (aR (fnT Tryz.f42) 25) (wD t x0 x1) =
 (bif decide (x1<x0) then bif decide (0≤x1) && decide (x1<(↑t.length:Int)) then bif decide (0≤x1) && decide (x1≤(↑t.length:Int)) then aB Tryz.prog n0 42 K (aD (fnT Tryz.f42) 28) (lI t x0 x1 (List.drop 0 (List.take x1.toNat t)) (↑(List.drop 0 (List.take x1.toNat t)).length:Int) 0 (t.getD x1.toNat (0,0,0,[],[],ByteArray.empty)).1 (t.getD x1.toNat (0,0,0,[],[],ByteArray.empty)).2.1 (t.getD x1.toNat (0,0,0,[],[],ByteArray.empty)).2.2.1 (t.getD x1.toNat (0,0,0,[],[],ByteArray.empty)).2.2.2.1 (t.getD x1.toNat (0,0,0,[],[],ByteArray.empty)).2.2.2.2.1 (t.getD x1.toNat (0,0,0,[],[],ByteArray.empty)).2.2.2.2.2) else False else False else K (AV.int .i64 0) []):=by kernel_rfl
theorem bEK (t:List Nd) (x0 x1:Int) (x2:List Nd) (x3 x4 x5 x6 x7:Int) (x8:List Int) (x9:List ByteArray) (x10:ByteArray) (n0:Nat) (K:AV→List aA→Prop) :
 aF tab (aL tab oD [] 400) (aI jL jM (aB Tryz.prog n0 42 K)) (aG tab (fnT Tryz.f42).res K) 400 (aR (fnT Tryz.f42) 28) (lI t x0 x1 x2 x3 x4 x5 x6 x7 x8 x9 x10) =
 (bif decide (x4<x3) then bif decide (0≤x4) && decide (x4<(↑x2.length:Int)) then bif decide (x5=2) then bif bif true then decide ((x2.getD x4.toNat (0,0,0,[],[],ByteArray.empty)).1=2) else false then bif bif true then decide (x6=(x2.getD x4.toNat (0,0,0,[],[],ByteArray.empty)).2.1) else false then bif bif true then decide (x7=(x2.getD x4.toNat (0,0,0,[],[],ByteArray.empty)).2.2.1) else false then bif bif true then !decide ((↑x8.length:Int)=(↑(List.length (x2.getD x4.toNat (0,0,0,[],[],ByteArray.empty)).2.2.2.1):Int)) else false then K (AV.int .i64 3) [bx6 x5 x6 x7 x8 x9 x10,bxN (x2.getD x4.toNat (0,0,0,[],[],ByteArray.empty))] else aB Tryz.prog n0 42 K (aD (fnT Tryz.f42) 28) (lI t x0 x1 x2 x3 (IntKind.i64.wrap (x4+1)) x5 x6 x7 x8 x9 x10) else aB Tryz.prog n0 42 K (aD (fnT Tryz.f42) 28) (lI t x0 x1 x2 x3 (IntKind.i64.wrap (x4+1)) x5 x6 x7 x8 x9 x10) else aB Tryz.prog n0 42 K (aD (fnT Tryz.f42) 28) (lI t x0 x1 x2 x3 (IntKind.i64.wrap (x4+1)) x5 x6 x7 x8 x9 x10) else aB Tryz.prog n0 42 K (aD (fnT Tryz.f42) 28) (lI t x0 x1 x2 x3 (IntKind.i64.wrap (x4+1)) x5 x6 x7 x8 x9 x10) else aB Tryz.prog n0 42 K (aD (fnT Tryz.f42) 28) (lI t x0 x1 x2 x3 (IntKind.i64.wrap (x4+1)) x5 x6 x7 x8 x9 x10) else False else aB Tryz.prog n0 42 K (aD (fnT Tryz.f42) 25) (wD t x0 (IntKind.i64.wrap (x1+1)))):=by kernel_rfl
def aW8 : List (Nat × List Nat):=[]
def aW9 : List (Nat × ETy):=[]
theorem bEL (t:List Nd) (i:Int) (n0:Nat) (K:AV→List aA→Prop) :
 aF tab (aL tab aW6 [] 400) (aI aW8 aW9 (aB Tryz.prog n0 78 K)) (aG tab (fnT Tryz.f78).res K) 400 [.code (fnT Tryz.f78).body] ⟨aU (fnT Tryz.f78).n [AV.imm aT t,AV.int .i64 i],[]⟩ =
 (bif decide (0≤i) && decide (i<(↑t.length:Int)) then
 bif decide ((t.getD i.toNat (0,0,0,[],[],ByteArray.empty)).1=0) then bif !decide ((t.getD i.toNat (0,0,0,[],[],ByteArray.empty)).2.1=0) then K (AV.int .i64 3) [bxN (t.getD i.toNat (0,0,0,[],[],ByteArray.empty))] else bif bif false then true else !decide ((t.getD i.toNat (0,0,0,[],[],ByteArray.empty)).2.2.1=0) then K (AV.int .i64 3) [bxN (t.getD i.toNat (0,0,0,[],[],ByteArray.empty))] else bif bif false then true else decide ((↑(List.length (t.getD i.toNat (0,0,0,[],[],ByteArray.empty)).2.2.2.1):Int) > 0) then K (AV.int .i64 3) [bxN (t.getD i.toNat (0,0,0,[],[],ByteArray.empty))] else bif bif false then true else decide ((↑(List.length (t.getD i.toNat (0,0,0,[],[],ByteArray.empty)).2.2.2.2.1):Int) > 0) then K (AV.int .i64 3) [bxN (t.getD i.toNat (0,0,0,[],[],ByteArray.empty))] else Tx (t.getD i.toNat (0,0,0,[],[],ByteArray.empty)).2.2.2.2.2∧K (AV.int .i64 (eU (t.getD i.toNat (0,0,0,[],[],ByteArray.empty)).2.2.2.2.2)) [bxN (t.getD i.toNat (0,0,0,[],[],ByteArray.empty))]
 else
  bif decide ((t.getD i.toNat (0,0,0,[],[],ByteArray.empty)).1=1) then bif !decide ((t.getD i.toNat (0,0,0,[],[],ByteArray.empty)).2.1=0) then K (AV.int .i64 3) [bxN (t.getD i.toNat (0,0,0,[],[],ByteArray.empty))] else bif bif false then true else !decide ((t.getD i.toNat (0,0,0,[],[],ByteArray.empty)).2.2.1=0) then K (AV.int .i64 3) [bxN (t.getD i.toNat (0,0,0,[],[],ByteArray.empty))] else bif bif false then true else !ByteArray.toList (t.getD i.toNat (0,0,0,[],[],ByteArray.empty)).2.2.2.2.2 == (ByteArray.mk #[]).toList then K (AV.int .i64 3) [bxN (t.getD i.toNat (0,0,0,[],[],ByteArray.empty))] else InT i t∧bif !decide (bR t i.toNat=0) then K (AV.int .i64 (bR t i.toNat)) [bxN (t.getD i.toNat (0,0,0,[],[],ByteArray.empty))] else bif !decide ((↑(List.length (t.getD i.toNat (0,0,0,[],[],ByteArray.empty)).2.2.2.2.1):Int)=(↑(List.length (t.getD i.toNat (0,0,0,[],[],ByteArray.empty)).2.2.2.1):Int)) then K (AV.int .i64 3) [bxN (t.getD i.toNat (0,0,0,[],[],ByteArray.empty))] else TxL (t.getD i.toNat (0,0,0,[],[],ByteArray.empty)).2.2.2.2.1∧K (AV.int .i64 (cL (t.getD i.toNat (0,0,0,[],[],ByteArray.empty)).2.2.2.2.1)) [bxN (t.getD i.toNat (0,0,0,[],[],ByteArray.empty))]
  else
   bif decide ((t.getD i.toNat (0,0,0,[],[],ByteArray.empty)).1=2) then
        bif decide ((↑(List.length (t.getD i.toNat (0,0,0,[],[],ByteArray.empty)).2.2.2.2.1):Int) > 0) then K (AV.int .i64 3) [bxN (t.getD i.toNat (0,0,0,[],[],ByteArray.empty))]
        else bif bif false then true else !ByteArray.toList (t.getD i.toNat (0,0,0,[],[],ByteArray.empty)).2.2.2.2.2 == (ByteArray.mk #[]).toList then K (AV.int .i64 3) [bxN (t.getD i.toNat (0,0,0,[],[],ByteArray.empty))] else bif decide ((t.getD i.toNat (0,0,0,[],[],ByteArray.empty)).2.1<0) then K (AV.int .i64 4) [bxN (t.getD i.toNat (0,0,0,[],[],ByteArray.empty))] else bif bif false then true else decide ((t.getD i.toNat (0,0,0,[],[],ByteArray.empty)).2.1 > 1) then K (AV.int .i64 4) [bxN (t.getD i.toNat (0,0,0,[],[],ByteArray.empty))] else bif bif false then true else decide ((t.getD i.toNat (0,0,0,[],[],ByteArray.empty)).2.2.1<0) then K (AV.int .i64 4) [bxN (t.getD i.toNat (0,0,0,[],[],ByteArray.empty))] else bif bif false then true else decide ((t.getD i.toNat (0,0,0,[],[],ByteArray.empty)).2.2.1 ≥ 10) then K (AV.int .i64 4) [bxN (t.getD i.toNat (0,0,0,[],[],ByteArray.empty))] else InT i t∧K (AV.int .i64 (bR t i.toNat)) [bxN (t.getD i.toNat (0,0,0,[],[],ByteArray.empty))]
   else K (AV.int .i64 1) [bxN (t.getD i.toNat (0,0,0,[],[],ByteArray.empty))]
  else False):=by kernel_rfl
end
end Go.Proofs.YtpngedkdkpfnkaaGreatDoor.Mach
end
section
set_option linter.unusedSimpArgs false
set_option linter.unusedVariables false
namespace Go.Proofs.YtpngedkdkpfnkaaGreatDoor.Lib
open Go Go.Proofs.YtpngedkdkpfnkaaGreatDoor.Mach Go.Proofs.YtpngedkdkpfnkaaGreatDoorW.PrintWords Go.Proofs.YtpngedkdkpfnkaaGreatDoor.Sem Go.Proofs.YtpngedkdkpfnkaaGreatDoor.Pure
section
section
variable {t:List Nd} {i:Int} {Q:Res}
theorem bEM (h:aC8 t i Q):Con Tryz.prog 107 [.imm aT t, .int .i64 i] Q:=by
 obtain ⟨⟨i0,i1⟩,hq⟩:=h
 have hk:∀ e H,bR t i.toNat=e→aO Q (.int .i64 e) H:=fun e H h1=>by rw [h1] at hq; exact dI hq
 refine aW (gn:=fnT Tryz.f107) (by kernel_rfl) bG (inl:=[]) (LT:=aC9) (NT:=aDA) rfl fun n0=>?_
 rw [bD8]
 refine aV (aC i0 (aC i1 ?_))
 unfold bR at hk
 by_cases h0:(t.getD i.toNat nd0).2.2.2.1.length=0
 · exact aC (by show (((t.getD i.toNat nd0).2.2.2.1.length:Nat):Int)=0; omega) (hk _ _ (if_pos h0))
 rw [if_neg h0] at hk
 refine aE (by show ¬ (((t.getD i.toNat nd0).2.2.2.1.length:Nat):Int)=0; omega) ?_
 by_cases h6:6<(t.getD i.toNat nd0).2.2.2.1.length
 · exact aC (by show (((t.getD i.toNat nd0).2.2.2.1.length:Nat):Int) > 6; omega) (hk _ _ (if_pos h6))
 rw [if_neg h6] at hk
 refine aE (by show ¬ (((t.getD i.toNat nd0).2.2.2.1.length:Nat):Int) > 6; omega) ?_
 show aB _ _ _ _ _ (wA t i (t.getD i.toNat nd0).2.2.2.1 (((t.getD i.toNat nd0).2.2.2.1.length:Nat):Int) 0)
 generalize (t.getD i.toNat nd0).2.2.2.1=l at *
 have hi:((i.toNat:Nat):Int)=i:=by omega
 rw [hi] at hk
 refine bJ (f:=107) (gn:=fnT Tryz.f107) (n0:=n0) (r:=7) (by kernel_rfl) bG (inl:=[]) (LT:=aC9) (NT:=aDA) (K:=aO Q) (fun x:Nat=>wA t i l (l.length:Int) (x:Int)) (fun x=>l.length - x) (fun x=>x≤l.length∧∀ y,y<x→kM t i (l.getD y 0)=true) (fun x hp ih=>?_) 0 ⟨Nat.zero_le _,fun y hy=>absurd hy (Nat.not_lt_zero _)⟩
 obtain ⟨hx0,hy⟩:=hp
 rw [bD9]
 by_cases hx:x<l.length
 · have bad:¬ kM t i (l.getD x 0)=true→∀ H,aO Q (.int .i64 3) H:=fun hb H=>hk _ _ (if_neg fun hc=>hb (List.all_eq_true.1 hc _ (d8 hx)))
   refine aC (by omega) (aV (aC (by omega) (aC (by omega) ?_)))
   rw [Int.toNat_natCast,wrS hx (by omega)]
   have hin:kM t i (l.getD x 0)=true↔i<l.getD x 0∧l.getD x 0<t.length:=by
    unfold kM; rw [Bool.and_eq_true,decide_eq_true_iff,decide_eq_true_iff]
   by_cases c1:l.getD x 0≤i
   · exact aC c1 (bad (fun h=>by have:=hin.1 h; omega) _)
   refine aE c1 ?_
   by_cases c2:l.getD x 0 ≥ (t.length:Int)
   · exact aS (by rw [cond_false]; exact decide_eq_true c2) (bad (fun h=>by have:=hin.1 h; omega) _)
   refine aZ (by rw [cond_false,decide_eq_false c2]; decide) (ih (x+1) ⟨by omega,fun y hy' => ?_⟩ (by omega))
   by_cases hyx:y=x
   · rw [hyx]; exact hin.2 ⟨by omega,by omega⟩
   · exact hy y (by omega)
 · refine aE (by omega) (hk _ _ (if_pos (List.all_eq_true.2 fun k hkm=>?_)))
   obtain ⟨y,hyl,rfl⟩:=List.getElem_of_mem hkm
   have:=hy y (by omega)
   rwa [List.getD_eq_getElem?_getD,List.getElem?_eq_getElem hyl] at this
theorem bEN (h:aC8 t i Q):Con Tryz.prog 75 [.imm aT t, .int .i64 i] Q:=by
 obtain ⟨⟨i0,i1⟩,hq⟩:=h
 have hk:∀ e H,bR t i.toNat=e→aO Q (.int .i64 e) H:=fun e H h1=>by rw [h1] at hq; exact dI hq
 refine aW (gn:=fnT Tryz.f75) (by kernel_rfl) bG (inl:=[]) (LT:=aDB) (NT:=aDC) rfl fun n0=>?_
 rw [bEA]
 refine aV (aC i0 (aC i1 ?_))
 unfold bR at hk
 by_cases h0:(t.getD i.toNat nd0).2.2.2.1.length=0
 · exact aC (by show (((t.getD i.toNat nd0).2.2.2.1.length:Nat):Int)=0; omega) (hk _ _ (if_pos h0))
 rw [if_neg h0] at hk
 refine aE (by show ¬ (((t.getD i.toNat nd0).2.2.2.1.length:Nat):Int)=0; omega) ?_
 by_cases h6:6<(t.getD i.toNat nd0).2.2.2.1.length
 · exact aC (by show (((t.getD i.toNat nd0).2.2.2.1.length:Nat):Int) > 6; omega) (hk _ _ (if_pos h6))
 rw [if_neg h6] at hk
 refine aE (by show ¬ (((t.getD i.toNat nd0).2.2.2.1.length:Nat):Int) > 6; omega) ?_
 refine aV (aC i0 (aC i1 ?_))
 show aB _ _ _ _ _ (wB t i (t.getD i.toNat nd0).2.2.2.1 (((t.getD i.toNat nd0).2.2.2.1.length:Nat):Int) 0)
 generalize (t.getD i.toNat nd0).2.2.2.1=l at *
 have hi:((i.toNat:Nat):Int)=i:=by omega
 rw [hi] at hk
 refine bJ (f:=75) (gn:=fnT Tryz.f75) (n0:=n0) (r:=7) (by kernel_rfl) bG (inl:=[]) (LT:=aDB) (NT:=aDC) (K:=aO Q) (fun x:Nat=>wB t i l (l.length:Int) (x:Int)) (fun x=>l.length - x) (fun x=>x≤l.length∧∀ y,y<x→kM t i (l.getD y 0)=true) (fun x hp ih=>?_) 0 ⟨Nat.zero_le _,fun y hy=>absurd hy (Nat.not_lt_zero _)⟩
 obtain ⟨hx0,hy⟩:=hp
 rw [bEB]
 by_cases hx:x<l.length
 · have bad:¬ kM t i (l.getD x 0)=true→∀ H,aO Q (.int .i64 3) H:=fun hb H=>hk _ _ (if_neg fun hc=>hb (List.all_eq_true.1 hc _ (d8 hx)))
   refine aC (by omega) (aV (aC (by omega) (aC (by omega) ?_)))
   rw [Int.toNat_natCast,wrS hx (by omega)]
   have hin:kM t i (l.getD x 0)=true↔i<l.getD x 0∧l.getD x 0<t.length:=by
    unfold kM; rw [Bool.and_eq_true,decide_eq_true_iff,decide_eq_true_iff]
   by_cases c1:l.getD x 0 > i
   · refine aC c1 ?_
     by_cases c2:l.getD x 0<(t.length:Int)
     · refine aP (aS (by rw [cond_true]; exact decide_eq_true c2) (ih (x+1) ⟨by omega,fun y hy' => ?_⟩ (by omega)))
       by_cases hyx:y=x
       · rw [hyx]; exact hin.2 ⟨by omega,by omega⟩
       · exact hy y (by omega)
     · exact aP (aZ (by rw [cond_true,decide_eq_false c2]; decide) (bad (fun h=>by have:=hin.1 h; omega) _))
   · exact aE c1 (bad (fun h=>by have:=hin.1 h; omega) _)
 · refine aE (by omega) (hk _ _ (if_pos (List.all_eq_true.2 fun k hkm=>?_)))
   obtain ⟨y,hyl,rfl⟩:=List.getElem_of_mem hkm
   have:=hy y (by omega)
   rwa [List.getD_eq_getElem?_getD,List.getElem?_eq_getElem hyl] at this
end
theorem bEO : ∀ g xs Q,aW6 g xs Q→Con Tryz.prog g xs Q:=cH fun p hp=>by
 simp only [List.mem_cons,List.not_mem_nil,or_false] at hp
 rcases hp with rfl | rfl | rfl
 · exact bA fun _ _ _ h=>bEM h
 · exact bF fun _ _ h=>aV7 h
 · exact bF fun _ _ h=>aWZ h
section
variable {t:List Nd} {i:Int} {Q:Res}
theorem aK8 {a b:ByteArray} (h:¬ a=b):¬ a.toList=b.toList:=fun hc=>h (mF.1 hc)
theorem aXA (h:r9 t i Q):Con Tryz.prog 78 [.imm aT t, .int .i64 i] Q:=by
 obtain ⟨⟨ht,i0,i1⟩,hq⟩:=h
 have hx:TxNd (t.getD i.toNat nd0):=ht.2 _ (d8 (by omega))
 have hk:∀ e H,fU t i.toNat=e→aO Q (.int .i64 e) H:=fun e H h1=>by rw [h1] at hq; exact dI hq
 refine aW (gn:=fnT Tryz.f78) (by kernel_rfl) bEO (inl:=[]) (LT:=aW8) (NT:=aW9) rfl fun n0=>?_
 rw [bEL]
 refine aV (aC i0 (aC i1 ?_))
 unfold fU at hk
 have e0:nd0=(0,0,0,[],[],ByteArray.empty):=rfl
 rw [e0] at hk hx
 clear e0
 generalize t.getD i.toNat (0,0,0,[],[],ByteArray.empty)=x at *
 obtain ⟨kd,pl,inf,nx,od,py⟩:=x
 obtain ⟨x1,x2,x3⟩:=hx
 simp only at hk x1 x2 x3 ⊢
 by_cases k0:kd=0
 · refine aC k0 ?_
   rw [if_pos k0] at hk
   by_cases c1:pl=0
   · refine aP (aC c1 ?_)
     by_cases c2:inf=0
     · refine aZ (by rw [cond_false,decide_eq_true c2]; decide) ?_
       by_cases c3:0<nx.length
       · exact aS (by rw [cond_false]; exact decide_eq_true (by omega)) (hk _ _ (if_pos (.inr (.inr (.inl c3)))))
       refine aZ (by rw [cond_false,decide_eq_false (by omega)]; decide) ?_
       by_cases c4:0<od.length
       · exact aS (by rw [cond_false]; exact decide_eq_true (by omega)) (hk _ _ (if_pos (.inr (.inr (.inr c4)))))
       exact aZ (by rw [cond_false,decide_eq_false (by omega)]; decide) ⟨x3,hk _ _ (if_neg (by omega))⟩
     · exact aS (by rw [cond_false,decide_eq_false c2]; rfl) (hk _ _ (if_pos (.inr (.inl c2))))
   · exact aP (aE c1 (hk _ _ (if_pos (.inl c1))))
 refine aE k0 ?_
 rw [if_neg k0] at hk
 by_cases k1:kd=1
 · refine aC k1 ?_
   rw [if_pos k1] at hk
   by_cases c1:pl=0
   · refine aP (aC c1 ?_)
     by_cases c2:inf=0
     · refine aZ (by rw [cond_false,decide_eq_true c2]; decide) ?_
       by_cases c3:py=⟨#[]⟩
       · refine aZ (by rw [cond_false,c3,beq_self_eq_true]; decide) ⟨⟨i0,i1⟩,?_⟩
         rw [if_neg (show ¬ (pl≠0∨inf≠0∨py≠⟨#[]⟩) from fun h=>h.elim (fun h=>h c1) fun h=>h.elim (fun h=>h c2) fun h=>h c3)] at hk
         by_cases c4:bR t i.toNat=0
         · rw [if_neg (fun h=>h c4)] at hk
           refine aP (aC c4 ?_)
           by_cases c5:od.length=nx.length
           · rw [if_neg (fun h=>h c5)] at hk
             exact aP (aC (by omega) ⟨x2,hk _ _ rfl⟩)
           · exact aP (aE (by omega) (hk _ _ (if_pos c5)))
         · exact aP (aE c4 (hk _ _ (if_pos c4)))
       · exact aS (by rw [cond_false,beq_eq_false_iff_ne.2 (aK8 c3)]; rfl) (hk _ _ (if_pos (.inr (.inr c3))))
     · exact aS (by rw [cond_false,decide_eq_false c2]; rfl) (hk _ _ (if_pos (.inr (.inl c2))))
   · exact aP (aE c1 (hk _ _ (if_pos (.inl c1))))
 refine aE k1 ?_
 rw [if_neg k1] at hk
 by_cases k2:kd=2
 · refine aC k2 ?_
   rw [if_pos k2] at hk
   by_cases c1:0<od.length
   · exact aC (by omega) (hk _ _ (if_pos (.inl c1)))
   refine aE (by omega) ?_
   by_cases c3:py=⟨#[]⟩
   · rw [if_neg (show ¬ (0<od.length∨py≠⟨#[]⟩) from fun h=>h.elim c1 fun h=>h c3)] at hk
     refine aZ (by rw [cond_false,c3,beq_self_eq_true]; decide) ?_
     by_cases c4:pl<0
     · exact aC c4 (hk _ _ (if_pos (.inl c4)))
     refine aE c4 ?_
     by_cases c5:pl > 1
     · exact aS (by rw [cond_false]; exact decide_eq_true c5) (hk _ _ (if_pos (.inr (.inl c5))))
     refine aZ (by rw [cond_false,decide_eq_false c5]; decide) ?_
     by_cases c6:inf<0
     · exact aS (by rw [cond_false]; exact decide_eq_true c6) (hk _ _ (if_pos (.inr (.inr (.inl c6)))))
     refine aZ (by rw [cond_false,decide_eq_false c6]; decide) ?_
     by_cases c7:inf ≥ 10
     · exact aS (by rw [cond_false]; exact decide_eq_true c7) (hk _ _ (if_pos (.inr (.inr (.inr c7)))))
     exact aZ (by rw [cond_false,decide_eq_false c7]; decide) ⟨⟨i0,i1⟩,hk _ _ (if_neg (by omega))⟩
   · exact aS (by rw [cond_false,beq_eq_false_iff_ne.2 (aK8 c3)]; rfl) (hk _ _ (if_pos (.inr c3)))
 · exact aE k2 (hk _ _ (if_neg k2))
end
end
section
abbrev Sq : Type:=Int × Int × Int
abbrev Ch : Type:=Int × List ByteArray
abbrev eSq : ETy := .more (.int .i64) (.more (.int .i64) (.one (.int .i64)))
abbrev eCh : ETy := .more (.int .i64) (.one (.slice eS))
abbrev q0 : Sq:=(0,0,0)
abbrev ch0 : Ch:=(0,[])
def vSq : cB (List Sq):=kG eSq
def vCh : cB (List Ch):=kG eCh
def aK (t:List Nd) (i:Nat):List Int:=(t.getD i nd0).2.2.2.1
def fV (l:List Int) (i:Nat) (k:Int):Nat→List (Int × Int)
 | 0=>[]
 | c+1=>if l.getD c 0=k then fV l i k c ++ [((i:Int),(c:Int))] else fV l i k c
def iZ (t:List Nd) (k:Int):Nat→List (Int × Int)
 | 0=>[]
 | i+1=>iZ t k i ++ fV (aK t i) i k (aK t i).length
def dD (t:List Nd) (k:Int):List (Int × Int):=iZ t k t.length
def aDE (t:List Nd):Prop:=t.length≤120∧∀ i,i<t.length→(aK t i).length≤6
def aK9 (t:List Nd) (k:Int) (Q:Res):Prop:=aDE t∧Q (.imm eP (dD t k)) []
noncomputable def fK (t:List Nd):Nat→Int
 | 0=>0
 | n+1=>if fK t n=0 then fU t n else fK t n
def sF (t:List Nd):Prop:=∀ k:Nat,1≤k→k<t.length→(dD t (k:Int)).length=1
def sG (t:List Nd):Prop:=∀ i j,i<t.length→j<t.length→(t.getD i nd0).1=2→(t.getD j nd0).1=2→(t.getD i nd0).2.1=(t.getD j nd0).2.1→(t.getD i nd0).2.2.1=(t.getD j nd0).2.2.1→(aK t i).length=(aK t j).length
open Classical in
noncomputable def cF (t:List Nd):Int:=if 120<t.length then 2 else if t.length=0 then 8 else if fK t t.length≠0 then fK t t.length else if sF t∧sG t then 0 else 3
def sH (t:List Nd) (Q:Res):Prop:=TxT t∧Q (.int .i64 (cF t)) []
noncomputable def plE (t:List Nd) (p:Int):Int:=if cF t≠0 then cF t else if p=0∨p=1 then 0 else 4
def plS (t:List Nd) (p:Int) (Q:Res):Prop:=TxT t∧Q (.int .i64 (plE t p)) []
def wtS (t:List Nd) (Q:Res):Prop:=TxT t∧∀ n:Int,Q (.int .i64 n) []
def TxC (s:List Ch):Prop:=s.length≤1000000000000000∧∀ c∈s,TxL c.2
def cwtS (s:List Ch) (Q:Res):Prop:=TxC s∧∀ n:Int,Q (.int .i64 n) []
def par (t:List Nd) (k:Nat):Nat × Nat:=(((dD t (k:Int)).getD 0 p0).1.toNat,((dD t (k:Int)).getD 0 p0).2.toNat)
def lJ (t:List Nd):Nat→Nat→List (Int × Int)
 | 0,_=>[]
 | f+1,k=>if k=0 then [] else lJ t f (par t k).1 ++ [(((par t k).1:Int),((par t k).2:Int))]
def dY (t:List Nd) (k:Nat):List (Int × Int):=lJ t k k
def mK (t:List Nd) (p:Int) (x:Int × Int):Option (Int × Int):=if (t.getD x.1.toNat nd0).1=2∧(t.getD x.1.toNat nd0).2.1=p then some ((t.getD x.1.toNat nd0).2.2.1,x.2) else none
def own (t:List Nd) (p:Int) (k:Nat):List (Int × Int):=(dY t k).filterMap (mK t p)
def eH (t:List Nd):Prop:=cF t=0
def aLA (t:List Nd) (k:Int) (Q:Res):Prop:=(eH t∧InT k t)∧Q (.imm eP (dY t k.toNat)) []
def ownS (t:List Nd) (p k:Int) (Q:Res):Prop:=(eH t∧InT k t)∧Q (.imm eP (own t p k.toNat)) []
def aLB (a b:List (Int × Int)):Bool:=decide (a=b)
def SmL (a:List (Int × Int)):Prop:=a.length≤1000000
def sI (a b:List (Int × Int)) (Q:Res):Prop:=SmL a∧Q (.bool (aLB a b)) []
def fC (t:List Nd) (p:Int) (i:Nat):Prop:=(t.getD i nd0).1=2∧(t.getD i nd0).2.1=p
def aX (t:List Nd) (i:Nat):Int:=(t.getD i nd0).2.2.1
def rem (t:List Nd) (p:Int):Prop:=∀ i j,i<t.length→j<t.length→fC t p i→fC t p j→aX t i=aX t j→own t p i=own t p j
open Classical in
noncomputable def sJ (t:List Nd) (p:Int):Bool:=decide (rem t p)
def wE (t:List Nd) (p:Int):List (List (Int × Int)):=(List.range t.length).map (own t p)
def aXB (t:List Nd) (p:Int) (Q:Res):Prop:=eH t∧Q (.imm (eL eP) (wE t p)) []
def aXC (l:List (Int × Int)) (Q:Res):Prop:=l.length≤1000000∧(l≠[]→Q (.own 0) [.typed eP l false])∧(l=[]→Q .nils []∧Q (.own 0) [.typed eP [] false])
def jY (l:List Sq) (f:Int):Bool:=l.any fun s=>decide (s.1=f)
def mL (ws:List (List (Int × Int))) (o:List (Int × Int)):Nat→Nat
 | 0=>0
 | k+1=>if ws.getD k []=o then k else mL ws o k
def gT (f:Int) (b w:Nat):List Sq:=(List.range w).map fun (c:Nat)=>(f,((c:Int),(b:Int)))
def kN (f:Int) (o:List (Int × Int)) (w:Nat):List (List (Int × Int)):=(List.range w).map fun (c:Nat)=>o ++ [(f,(c:Int))]
open Classical in
noncomputable def bB (t:List Nd) (p:Int):Nat→List Sq × List (List (Int × Int))
 | 0=>([(-1, -1, -1)],[[]])
 | i + 1=>if fC t p i∧jY (bB t p i).1 (aX t i)=false then
     ((bB t p i).1 ++ gT (aX t i) (mL (bB t p i).2 (own t p i) (bB t p i).2.length) (aK t i).length,(bB t p i).2 ++ kN (aX t i) (own t p i) (aK t i).length)
   else bB t p i
noncomputable def mM (t:List Nd) (p:Int):List Sq:=(bB t p t.length).1
noncomputable def aDF (t:List Nd) (p:Int):List (List (Int × Int)):=(bB t p t.length).2
def aLC (ws:List (List (Int × Int))) (o:List (Int × Int)):Int:=match ws.findIdx? fun w=>decide (w=o) with | some i=>(i:Int) | none => -1
noncomputable def atL (t:List Nd) (p:Int):List Int:=(List.range t.length).map fun k=>aLC (aDF t p) (own t p k)
def aXD (t:List Nd) (p:Int) (Q:Res):Prop:=(eH t∧sJ t p=true)∧Q (.tup [.imm eSq (mM t p), .imm eI (atL t p)]) []
def oE (t:List Nd) (p f:Int):Nat→Nat
 | 0=>0
 | n+1=>if oE t p f n=0∧(t.getD n nd0).1=2∧(t.getD n nd0).2.1=p∧(t.getD n nd0).2.2.1=f then (aK t n).length else oE t p f n
def widthOf (t:List Nd) (p f:Int):Nat:=oE t p f t.length
def d9 (t:List Nd) (p:Int):Nat→List Int
 | 0=>[]
 | n+1=>if 0<widthOf t p (n:Int) then d9 t p n ++ [(n:Int)] else d9 t p n
def bT (t:List Nd) (p:Int):List Int:=d9 t p 10
def kO (t:List Nd) (p:Int):List Int:=(bT t p).map fun f=>(widthOf t p f:Int)
def aLD (t:List Nd) (p f:Int) (Q:Res):Prop:=eH t∧Q (.int .i64 (widthOf t p f:Nat)) []
def aXE (t:List Nd) (p:Int) (Q:Res):Prop:=eH t∧Q (.imm eI (bT t p)) []
def aXF (t:List Nd) (p:Int) (Q:Res):Prop:=eH t∧Q (.tup [.imm eI (bT t p), .imm eI (kO t p)]) []
noncomputable def chE (t:List Nd) (p:Int) (s:List Ch) (i:Nat):Int :=
 if (s.getD i ch0).1≠(bT t p).getD i 0∨(s.getD i ch0).2.length≠widthOf t p ((bT t p).getD i 0) then 3 else cL (s.getD i ch0).2
noncomputable def hJ (t:List Nd) (p:Int) (s:List Ch):Nat→Int
 | 0=>0
 | n+1=>if hJ t p s n=0 then chE t p s n else hJ t p s n
noncomputable def bI (t:List Nd) (p:Int) (s:List Ch):Int:=if s.length≠(bT t p).length then 3 else hJ t p s s.length
def wF (t:List Nd) (p:Int) (s:List Ch) (Q:Res):Prop:=(eH t∧TxC s)∧Q (.int .i64 (bI t p s)) []
def oF (x:Nd):Bool:=decide (x.2.2.2.2.2.size≤12) && decide (fJ 12 x.2.2.2.2.1<0)
def oG (t:List Nd):Bool:=t.all oF && decide (t.length≤40)
def aXG (t:List Nd) (Q:Res):Prop:=TxT t∧Q (.bool (oG t)) []
def mN (ss:List (List Ch)):Bool:=ss.all fun s=>s.all fun c=>decide (fJ 12 c.2<0)
def aXH (ss:List (List Ch)) (Q:Res):Prop:=(ss.length≤1000000∧∀ s∈ss,TxC s)∧Q (.bool (mN ss)) []
noncomputable def aDG : FuncId→List AV→Res→Prop:=cD [(76,c1 vLS n9),(45,c2 vS vS vV),(77,c1 vS xbig),(55,c1 vS aU6)]
noncomputable def sK : FuncId→List AV→Res→Prop:=cD [(78,c2 vN vI r9),(37,c2 vN vI r9),(38,c2 vN vI aK9)]
noncomputable def lK : FuncId→List AV→Res→Prop:=cD [(42,c1 vN sH),(11,c1 vN sH),(38,c2 vN vI aK9),(28,c1 vT aK3),(114,c1 vP aXC),(86,c2 vP vP sI)]
noncomputable def aLE : FuncId→List AV→Res→Prop:=cD [(48,c2 vN vI plS),(47,c2 vN vI aLA),(85,c2 vN vI aXB),(86,c2 vP vP sI),(91,c2 vP vP sI)]
end
section
section
variable {A B:Prop}
theorem gU {p:Prop} {i:Decidable p} (h:p) (a:A):bif (bif true then decide p else false) then A else B:=by rw [cond_true]; exact aC h a
theorem i3 {p:Prop} {i:Decidable p} (h:¬ p) (b:B):bif (bif true then decide p else false) then A else B:=by rw [cond_true]; exact aE h b
theorem aY {x n:Nat} (h:x<n) (a:A):bif decide ((0:Int)≤(x:Int)) && decide ((x:Int)<(n:Int)) then A else False:=aV (aC (by omega) (aC (by omega) a))
theorem bEP {x:Int} {n:Nat} (h0:0≤x) (h:x<n) (a:A):bif decide ((0:Int)≤x) && decide (x<(n:Int)) then A else False:=aV (aC h0 (aC h a))
end
theorem aDH {n b:Nat} (h:n≤1000000000001) (hb:b≤100):(decide ((0:Int)≤(n:Int)) && decide ((n:Int)≤(n:Int)) && (bif (n:Int).toNat.ble 9223372036854775807 then ((n:Int).toNat * b).ble 281474976710656 else false))=true:=by
 rw [Int.toNat_natCast,(fN _ _).2 (show n≤9223372036854775807 by omega),decide_eq_true (show (0:Int)≤(n:Int) by omega),decide_eq_true (Int.le_refl _)]
 exact (fN _ _).2 (Nat.le_trans (Nat.mul_le_mul h hb) (by decide))
theorem aDI {l:List Int} {i:Nat} {k:Int} {p:Int × Int}:∀ {n:Nat},p∈fV l i k n↔∃ c,c<n∧l.getD c 0=k∧p=((i:Int),(c:Int))
 | 0=>by simp [fV]
 | n+1=>by
   unfold fV
   constructor
   · intro h
     split at h
     · rename_i hk
       rcases List.mem_append.1 h with h | h
       · obtain ⟨c,h1,h2,h3⟩:=aDI.1 h; exact ⟨c,by omega,h2,h3⟩
       · exact ⟨n,by omega,hk,List.mem_singleton.1 h⟩
     · obtain ⟨c,h1,h2,h3⟩:=aDI.1 h; exact ⟨c,by omega,h2,h3⟩
   · rintro ⟨c,h1,h2,h3⟩
     by_cases hc:c=n
     · subst hc; rw [if_pos h2]; exact List.mem_append.2 (.inr (by rw [h3]; exact List.mem_singleton.2 rfl))
     · have:p∈fV l i k n:=aDI.2 ⟨c,by omega,h2,h3⟩
       split
       · exact List.mem_append.2 (.inl this)
       · exact this
theorem aLF {t:List Nd} {k:Int} {p:Int × Int}:∀ {n:Nat},p∈iZ t k n↔∃ i c,i<n∧c<(aK t i).length∧(aK t i).getD c 0=k∧p=((i:Int),(c:Int))
 | 0=>by simp [iZ]
 | n+1=>by
   unfold iZ
   rw [List.mem_append,aLF (n:=n),aDI]
   constructor
   · rintro (⟨i,c,h1,h2⟩ | ⟨c,h1,h2⟩)
     · exact ⟨i,c,by omega,h2⟩
     · exact ⟨n,c,by omega,h1,h2⟩
   · rintro ⟨i,c,h1,h2⟩
     by_cases hi:i=n
     · subst hi; exact .inr ⟨c,h2⟩
     · exact .inl ⟨i,c,by omega,h2⟩
theorem aDJ (l:List Int) (i:Nat) (k:Int):∀ n,(fV l i k n).length≤n
 | 0=>Nat.le_refl _
 | n+1=>by
   have:=aDJ l i k n
   unfold fV
   split
   · rw [List.length_append]; simp; omega
   · omega
theorem aLG {t:List Nd} {k:Int}:∀ {n:Nat},(∀ i,i<n→(aK t i).length≤6)→(iZ t k n).length≤6 * n
 | 0,_=>Nat.le_refl _
 | n+1,h=>by
   have h1:=aLG (k:=k) (n:=n) fun i hi=>h i (by omega)
   have h2:=aDJ (aK t n) n k (aK t n).length
   have h3:=h n (by omega)
   unfold iZ
   rw [List.length_append]; omega
structure aXI (t:List Nd) (i:Nat):Prop where
 w:(aK t i).length≤6
 kid:∀ c,c<(aK t i).length→(i:Int)<(aK t i).getD c 0∧(aK t i).getD c 0<t.length
 kind:(t.getD i nd0).1=0∨(t.getD i nd0).1=1∨(t.getD i nd0).1=2
 who:(t.getD i nd0).1=2→0≤(t.getD i nd0).2.1∧(t.getD i nd0).2.1≤1∧0≤(t.getD i nd0).2.2.1∧(t.getD i nd0).2.2.1<10∧0<(aK t i).length
 luck:(t.getD i nd0).1=1→(t.getD i nd0).2.2.2.2.1.length=(aK t i).length∧cL (t.getD i nd0).2.2.2.2.1=0
 pay:(t.getD i nd0).1=0→(aK t i).length=0∧eU (t.getD i nd0).2.2.2.2.2=0
theorem aXJ {t:List Nd} {i:Nat} (h:bR t i=0):0<(aK t i).length∧(aK t i).length≤6∧∀ c,c<(aK t i).length→(i:Int)<(aK t i).getD c 0∧(aK t i).getD c 0<t.length:=by
 unfold bR at h
 unfold aK
 split at h
 · cases h
 · split at h
   · cases h
   · split at h
     · rename_i h1 h2 h3
       refine ⟨by omega,by omega,fun c hc=>?_⟩
       have:=List.all_eq_true.1 h3 _ (d8 (d:=0) hc)
       unfold kM at this
       rw [Bool.and_eq_true,decide_eq_true_iff,decide_eq_true_iff] at this
       exact this
     · cases h
theorem aDK {t:List Nd} {i:Nat} (h:fU t i=0):aXI t i:=by
 unfold fU at h
 simp only at h
 split at h
 · rename_i k0
   split at h
   · cases h
   · rename_i h1
     have hl:(aK t i).length=0:=by unfold aK; omega
     exact ⟨by omega,fun c hc=>by omega, .inl k0,fun hc=>by omega,fun hc=>by omega,fun _=>⟨hl,h⟩⟩
 · split at h
   · rename_i k0 k1
     split at h
     · cases h
     · split at h
       · rename_i h1 h2; exact absurd h h2
       · split at h
         · cases h
         · rename_i h1 h2 h3
           obtain ⟨a,b,c⟩:=aXJ (Decidable.not_not.1 h2)
           exact ⟨b,c, .inr (.inl k1),fun hc=>by omega,fun _=>⟨Decidable.not_not.1 h3,h⟩,fun hc=>by omega⟩
   · split at h
     · rename_i k0 k1 k2
       split at h
       · cases h
       · split at h
         · cases h
         · rename_i h1 h2
           obtain ⟨a,b,c⟩:=aXJ h
           exact ⟨b,c, .inr (.inr k2),fun _=>⟨by omega,by omega,by omega,by omega,a⟩,fun hc=>by omega,fun hc=>by omega⟩
     · cases h
theorem wG {t:List Nd}:∀ {n:Nat},fK t n=0↔∀ i,i<n→fU t i=0
 | 0=>⟨fun _ i hi=>absurd hi (Nat.not_lt_zero _),fun _=>rfl⟩
 | n+1=>by
   unfold fK
   constructor
   · intro h
     split at h
     · rename_i h0
       intro i hi
       by_cases hin:i=n
       · rw [hin]; exact h
       · exact wG.1 h0 i (by omega)
     · rename_i h0; exact absurd h h0
   · intro h
     rw [if_pos (wG.2 fun i hi=>h i (by omega))]
     exact h n (by omega)
theorem aXK {t:List Nd} {n:Nat} (h0:fK t n=0) (h1:fU t n≠0):∀ m,n<m→fK t m=fU t n
 | 0,h=>absurd h (Nat.not_lt_zero _)
 | m+1,h=>by
   unfold fK
   by_cases hm:m=n
   · rw [hm,if_pos h0]
   · have ih:=aXK h0 h1 m (by omega)
     rw [if_neg (by rw [ih]; exact h1),ih]
structure TreeOk (t:List Nd):Prop where
 n0:0<t.length
 n120:t.length≤120
 node:∀ i,i<t.length→aXI t i
 one:sF t
 same:sG t
theorem eJ {t:List Nd} (h:eH t):TreeOk t:=by
 unfold eH cF at h
 split at h
 · cases h
 · split at h
   · cases h
   · split at h
     · rename_i h1 h2 h3; exact absurd h h3
     · split at h
       · rename_i h1 h2 h3 h4
         exact ⟨by omega,by omega,fun i hi=>aDK (wG.1 (Decidable.not_not.1 h3) i hi),h4.1,h4.2⟩
       · cases h
theorem TreeOk.small {t:List Nd} (h:TreeOk t):aDE t:=⟨h.n120,fun i hi=>(h.node i hi).w⟩
def fL (t:List Nd) (i c k:Nat):Prop:=i<t.length∧c<(aK t i).length∧(aK t i).getD c 0=(k:Int)
theorem TreeOk.kid_lt {t:List Nd} (h:TreeOk t) {i c k:Nat} (hk:fL t i c k):i<k∧k<t.length:=by
 have:=(h.node i hk.1).kid c hk.2.1
 rw [hk.2.2] at this
 omega
theorem TreeOk.kid_of {t:List Nd} (h:TreeOk t) {i c:Nat} (hi:i<t.length) (hc:c<(aK t i).length):fL t i c ((aK t i).getD c 0).toNat:=by
 have:=(h.node i hi).kid c hc
 exact ⟨hi,hc,by omega⟩
theorem TreeOk.par_spec {t:List Nd} (h:TreeOk t) {k:Nat} (h1:1≤k) (h2:k<t.length):fL t (par t k).1 (par t k).2 k∧dD t (k:Int)=[(((par t k).1:Int),((par t k).2:Int))]:=by
 have ho:=h.one k h1 h2
 obtain ⟨p,hp⟩:∃ p,dD t (k:Int)=[p]:=by
  generalize dD t (k:Int)=l at ho
  match l,ho with
  | [p],_=>exact ⟨p,rfl⟩
 have hm:p∈dD t (k:Int):=by rw [hp]; exact List.mem_singleton.2 rfl
 obtain ⟨i,c,hi,hc,hk,rfl⟩:=aLF.1 hm
 have e:par t k=(i,c):=by unfold par; rw [hp]; rfl
 rw [e]
 exact ⟨⟨hi,hc,hk⟩,hp⟩
theorem TreeOk.par_eq {t:List Nd} (h:TreeOk t) {i c k:Nat} (hk:fL t i c k):par t k=(i,c):=by
 have hl:=h.kid_lt hk
 obtain ⟨_,e⟩:=h.par_spec (k:=k) (by omega) hl.2
 have hm:((i:Int),(c:Int))∈dD t (k:Int):=aLF.2 ⟨i,c,hk.1,hk.2.1,hk.2.2,rfl⟩
 rw [e] at hm
 have:=List.mem_singleton.1 hm
 simp only [Prod.mk.injEq] at this
 refine Prod.ext ?_ ?_ <;> simp only <;> omega
theorem TreeOk.pathN_eq {t:List Nd} (h:TreeOk t):∀ {k:Nat},k<t.length→∀ {f g:Nat},k≤f→k≤g→lJ t f k=lJ t g k:=by
 intro k
 induction k using Nat.strongRecOn with
 | ind k ih =>
   intro hk f g hf hg
   by_cases h0:k=0
   · subst h0
     cases f <;> cases g <;> simp [lJ]
   · obtain ⟨f,rfl⟩:∃ f', f=f' + 1:=⟨f - 1,by omega⟩
     obtain ⟨g,rfl⟩:∃ g', g=g' + 1:=⟨g - 1,by omega⟩
     have hl:=h.kid_lt (h.par_spec (by omega) hk).1
     unfold lJ
     rw [if_neg h0,if_neg h0,ih _ hl.1 (by omega) (f:=f) (g:=g) (by omega) (by omega)]
theorem bEQ (t:List Nd):dY t 0=[]:=rfl
theorem TreeOk.path_par {t:List Nd} (h:TreeOk t) {k:Nat} (h1:1≤k) (hk:k<t.length):dY t k=dY t (par t k).1 ++ [(((par t k).1:Int),((par t k).2:Int))]:=by
 obtain ⟨f,rfl⟩:∃ f,k=f+1:=⟨k - 1,by omega⟩
 have hl:=h.kid_lt (h.par_spec (k:=f+1) (by omega) hk).1
 unfold dY
 rw [lJ,if_neg (by omega),h.pathN_eq (k:=(par t (f+1)).1) (by omega) (f:=f) (g:=(par t (f+1)).1) (by omega) (Nat.le_refl _)]
theorem TreeOk.path_kid {t:List Nd} (h:TreeOk t) {i c k:Nat} (hk:fL t i c k):dY t k=dY t i ++ [((i:Int),(c:Int))]:=by
 have hl:=h.kid_lt hk
 rw [h.path_par (by omega) hl.2,h.par_eq hk]
theorem bER (t:List Nd) (p:Int):own t p 0=[]:=rfl
theorem TreeOk.own_kid {t:List Nd} (h:TreeOk t) {p:Int} {i c k:Nat} (hk:fL t i c k):own t p k=if (t.getD i nd0).1=2∧(t.getD i nd0).2.1=p then own t p i ++ [(aX t i,(c:Int))] else own t p i:=by
 unfold own
 rw [h.path_kid hk,List.filterMap_append]
 have e:mK t p ((i:Int),(c:Int))=if (t.getD i nd0).1=2∧(t.getD i nd0).2.1=p then some (aX t i,(c:Int)) else none:=rfl
 rw [List.filterMap_cons,e]
 split <;> rename_i hc
 · split at hc
   · cases hc
   · rename_i hn; rw [if_neg hn]; simp
 · split at hc
   · rename_i hn; rw [if_pos hn]; cases hc; simp
   · cases hc
theorem aDL {t:List Nd}:∀ {f k:Nat},(lJ t f k).length≤f
 | 0,_=>Nat.le_refl _
 | f+1,k=>by
   unfold lJ
   split
   · simp
   · have:=aDL (t:=t) (f:=f) (k:=(par t k).1)
     rw [List.length_append]; simp; omega
theorem own_len (t:List Nd) (p:Int) (k:Nat):(own t p k).length≤k:=Nat.le_trans (List.length_filterMap_le _ _) aDL
theorem TreeOk.path_in {t:List Nd} (h:TreeOk t):∀ {k:Nat},k<t.length→∀ x∈dY t k,∃ (i c k' : Nat),x=((i:Int),(c:Int))∧fL t i c k' := by
 intro k
 induction k using Nat.strongRecOn with
 | ind k ih =>
   intro hk x hx
   by_cases h0:k=0
   · subst h0; cases hx
   · have hs:=(h.par_spec (k:=k) (by omega) hk).1
     have hl:=h.kid_lt hs
     rw [h.path_par (by omega) hk] at hx
     rcases List.mem_append.1 hx with hx | hx
     · exact ih _ hl.1 (by omega) x hx
     · exact ⟨_,_,k,List.mem_singleton.1 hx,hs⟩
end
end Go.Proofs.YtpngedkdkpfnkaaGreatDoor.Lib
end
section
set_option linter.unusedSimpArgs false
set_option linter.unusedVariables false
namespace Go.Proofs.YtpngedkdkpfnkaaGreatDoor.Mach
open Go Go.Proofs.YtpngedkdkpfnkaaGreatDoor Go.Proofs.YtpngedkdkpfnkaaGreatDoor.Lib
section
set_option maxRecDepth 1000000
def sL : List (Nat × List Nat):=[(8,[0,4,17,18,19]),(15,[4,29,30,31])]
def sM : List (Nat × ETy):=[(17,eS),(29,eS)]
noncomputable def wH (l:List ByteArray) (x0:ByteArray) (x1 x2:Int):St:=aQ 41 [(0,AV.imm eS l),(4,AV.str x0),(17,AV.imm eS l),(18,AV.int .i64 x1),(19,AV.int .i64 x2)] []
noncomputable def wI (l:List ByteArray) (x0:ByteArray) (x1 x2:Int):St:=aQ 41 [(4,AV.str x0),(29,AV.imm eS l),(30,AV.int .i64 x1),(31,AV.int .i64 x2)] []
theorem bES (l:List ByteArray) (n0:Nat) (K:AV→List aA→Prop) :
 aF tab (aL tab aDG [] 400) (aI sL sM (aB Tryz.prog n0 41 K)) (aG tab (fnT Tryz.f41).res K) 400 [.code (fnT Tryz.f41).body] ⟨aU (fnT Tryz.f41).n [AV.imm eS l],[]⟩ =
 (bif decide ((↑l.length:Int) > 256) then K (AV.int .i64 2) [] else TxL l∧bif !decide (dX l=0) then K (AV.int .i64 (dX l)) [] else aB Tryz.prog n0 41 K (aD (fnT Tryz.f41) 8) (wH l (ByteArray.mk #[48]) (↑l.length:Int) 0)):=by kernel_rfl
theorem bET (l:List ByteArray) (x0:ByteArray) (x1 x2:Int) (n0:Nat) (K:AV→List aA→Prop) :
 aF tab (aL tab aDG [] 400) (aI sL sM (aB Tryz.prog n0 41 K)) (aG tab (fnT Tryz.f41).res K) 400 (aR (fnT Tryz.f41) 8) (wH l x0 x1 x2) =
 (bif decide (x2<x1) then bif decide (0≤x2) && decide (x2<(↑l.length:Int)) then ∃ x y,x0=Sem.ratText x∧l.getD x2.toNat ByteArray.empty=Sem.ratText y∧Sz 4000000000 x∧Sz 4000000000 y∧∃ q,Sem.ratText (x+y)=Sem.ratText q∧Sz 9000000000 q∧bif decide (Sem.szN q > 2000∨Sem.szD q > 2000) then K (AV.int .i64 2) [] else aB Tryz.prog n0 41 K (aD (fnT Tryz.f41) 8) (wH l (Sem.ratText (x+y)) x1 (IntKind.i64.wrap (x2+1))) else False else aB Tryz.prog n0 41 K (aD (fnT Tryz.f41) 15) (wI l x0 (↑l.length:Int) 0)):=by kernel_rfl
theorem bEU (l:List ByteArray) (x0:ByteArray) (x1 x2:Int) (n0:Nat) (K:AV→List aA→Prop) :
 aF tab (aL tab aDG [] 400) (aI sL sM (aB Tryz.prog n0 41 K)) (aG tab (fnT Tryz.f41).res K) 400 (aR (fnT Tryz.f41) 15) (wI l x0 x1 x2) =
 (bif decide (x2<x1) then bif decide (0≤x2) && decide (x2<(↑l.length:Int)) then ∃ q,l.getD x2.toNat ByteArray.empty=Sem.ratText q∧Sz 9000000000 q∧bif decide (Sem.sgn q<0) then K (AV.int .i64 4) [] else aB Tryz.prog n0 41 K (aD (fnT Tryz.f41) 15) (wI l x0 x1 (IntKind.i64.wrap (x2+1))) else False else bif !x0.toList == (ByteArray.mk #[49]).toList then K (AV.int .i64 3) [] else K (AV.int .i64 0) []):=by kernel_rfl
def aXL : List (Nat × List Nat):=[]
def aXM : List (Nat × ETy):=[]
def sN (t:List Nd) (i:Int) (y0 y1:Bool) (y2 y3 y4:Int) (y5:List Int) (y6:List ByteArray) (y7:ByteArray) (n0:Nat) (K:AV→List aA→Prop):Prop :=
    bif y1 then K (AV.int .i64 3) [bx6 y2 y3 y4 y5 y6 y7]
  else
 bif decide (y2=0) then Tx y7∧K (AV.int .i64 (eU y7)) [bx6 y2 y3 y4 y5 y6 y7]
 else
  bif decide (y2=1) then
   bif y0 then K (AV.int .i64 3) [bx6 y2 y3 y4 y5 y6 y7]
   else
      bif bif true then bif false then true else !y7.toList == (ByteArray.mk #[]).toList else false then K (AV.int .i64 3) [bx6 y2 y3 y4 y5 y6 y7]
      else
       bif decide (y2=2) then
        bif decide ((↑y6.length:Int) > 0) then K (AV.int .i64 3) [bx6 y2 y3 y4 y5 y6 y7]
        else
           bif bif true then bif false then true else !y7.toList == (ByteArray.mk #[]).toList else false then K (AV.int .i64 3) [bx6 y2 y3 y4 y5 y6 y7]
           else
              bif decide (y2=2) then
               bif !decide (y3=0) then bif bif true then !decide (y3=1) else false then K (AV.int .i64 4) [bx6 y2 y3 y4 y5 y6 y7] else bif bif false then true else decide (y4<0) then K (AV.int .i64 4) [bx6 y2 y3 y4 y5 y6 y7] else bif bif true then bif false then true else decide (y4 > 9) else false then K (AV.int .i64 4) [bx6 y2 y3 y4 y5 y6 y7] else bif decide (y2<0) then K (AV.int .i64 1) [bx6 y2 y3 y4 y5 y6 y7] else bif bif false then true else decide (y2 > 2) then K (AV.int .i64 1) [bx6 y2 y3 y4 y5 y6 y7] else InT i t∧bif !decide (bR t i.toNat=0) then K (AV.int .i64 (bR t i.toNat)) [bx6 y2 y3 y4 y5 y6 y7] else bif bif false then true else decide (y2=2) then K (AV.int .i64 (bR t i.toNat)) [bx6 y2 y3 y4 y5 y6 y7] else bif !decide ((↑y6.length:Int)=(↑y5.length:Int)) then K (AV.int .i64 3) [bx6 y2 y3 y4 y5 y6 y7] else TxL y6∧K (AV.int .i64 (cL y6)) [bx6 y2 y3 y4 y5 y6 y7]
               else bif bif false then true else decide (y4<0) then K (AV.int .i64 4) [bx6 y2 y3 y4 y5 y6 y7] else bif bif true then bif false then true else decide (y4 > 9) else false then K (AV.int .i64 4) [bx6 y2 y3 y4 y5 y6 y7] else bif decide (y2<0) then K (AV.int .i64 1) [bx6 y2 y3 y4 y5 y6 y7] else bif bif false then true else decide (y2 > 2) then K (AV.int .i64 1) [bx6 y2 y3 y4 y5 y6 y7] else InT i t∧bif !decide (bR t i.toNat=0) then K (AV.int .i64 (bR t i.toNat)) [bx6 y2 y3 y4 y5 y6 y7] else bif bif false then true else decide (y2=2) then K (AV.int .i64 (bR t i.toNat)) [bx6 y2 y3 y4 y5 y6 y7] else bif !decide ((↑y6.length:Int)=(↑y5.length:Int)) then K (AV.int .i64 3) [bx6 y2 y3 y4 y5 y6 y7] else TxL y6∧K (AV.int .i64 (cL y6)) [bx6 y2 y3 y4 y5 y6 y7]
              else bif decide (y2<0) then K (AV.int .i64 1) [bx6 y2 y3 y4 y5 y6 y7] else bif bif false then true else decide (y2 > 2) then K (AV.int .i64 1) [bx6 y2 y3 y4 y5 y6 y7] else InT i t∧bif !decide (bR t i.toNat=0) then K (AV.int .i64 (bR t i.toNat)) [bx6 y2 y3 y4 y5 y6 y7] else bif bif false then true else decide (y2=2) then K (AV.int .i64 (bR t i.toNat)) [bx6 y2 y3 y4 y5 y6 y7] else bif !decide ((↑y6.length:Int)=(↑y5.length:Int)) then K (AV.int .i64 3) [bx6 y2 y3 y4 y5 y6 y7] else TxL y6∧K (AV.int .i64 (cL y6)) [bx6 y2 y3 y4 y5 y6 y7]
       else
        bif decide (y2=2) then
         bif !decide (y3=0) then bif bif true then !decide (y3=1) else false then K (AV.int .i64 4) [bx6 y2 y3 y4 y5 y6 y7] else bif bif false then true else decide (y4<0) then K (AV.int .i64 4) [bx6 y2 y3 y4 y5 y6 y7] else bif bif true then bif false then true else decide (y4 > 9) else false then K (AV.int .i64 4) [bx6 y2 y3 y4 y5 y6 y7] else bif decide (y2<0) then K (AV.int .i64 1) [bx6 y2 y3 y4 y5 y6 y7] else bif bif false then true else decide (y2 > 2) then K (AV.int .i64 1) [bx6 y2 y3 y4 y5 y6 y7] else InT i t∧bif !decide (bR t i.toNat=0) then K (AV.int .i64 (bR t i.toNat)) [bx6 y2 y3 y4 y5 y6 y7] else bif bif false then true else decide (y2=2) then K (AV.int .i64 (bR t i.toNat)) [bx6 y2 y3 y4 y5 y6 y7] else bif !decide ((↑y6.length:Int)=(↑y5.length:Int)) then K (AV.int .i64 3) [bx6 y2 y3 y4 y5 y6 y7] else TxL y6∧K (AV.int .i64 (cL y6)) [bx6 y2 y3 y4 y5 y6 y7]
         else bif bif false then true else decide (y4<0) then K (AV.int .i64 4) [bx6 y2 y3 y4 y5 y6 y7] else bif bif true then bif false then true else decide (y4 > 9) else false then K (AV.int .i64 4) [bx6 y2 y3 y4 y5 y6 y7] else bif decide (y2<0) then K (AV.int .i64 1) [bx6 y2 y3 y4 y5 y6 y7] else bif bif false then true else decide (y2 > 2) then K (AV.int .i64 1) [bx6 y2 y3 y4 y5 y6 y7] else InT i t∧bif !decide (bR t i.toNat=0) then K (AV.int .i64 (bR t i.toNat)) [bx6 y2 y3 y4 y5 y6 y7] else bif bif false then true else decide (y2=2) then K (AV.int .i64 (bR t i.toNat)) [bx6 y2 y3 y4 y5 y6 y7] else bif !decide ((↑y6.length:Int)=(↑y5.length:Int)) then K (AV.int .i64 3) [bx6 y2 y3 y4 y5 y6 y7] else TxL y6∧K (AV.int .i64 (cL y6)) [bx6 y2 y3 y4 y5 y6 y7]
        else bif decide (y2<0) then K (AV.int .i64 1) [bx6 y2 y3 y4 y5 y6 y7] else bif bif false then true else decide (y2 > 2) then K (AV.int .i64 1) [bx6 y2 y3 y4 y5 y6 y7] else InT i t∧bif !decide (bR t i.toNat=0) then K (AV.int .i64 (bR t i.toNat)) [bx6 y2 y3 y4 y5 y6 y7] else bif bif false then true else decide (y2=2) then K (AV.int .i64 (bR t i.toNat)) [bx6 y2 y3 y4 y5 y6 y7] else bif !decide ((↑y6.length:Int)=(↑y5.length:Int)) then K (AV.int .i64 3) [bx6 y2 y3 y4 y5 y6 y7] else TxL y6∧K (AV.int .i64 (cL y6)) [bx6 y2 y3 y4 y5 y6 y7]
  else
   bif decide (y2=2) then
    bif decide ((↑y6.length:Int) > 0) then K (AV.int .i64 3) [bx6 y2 y3 y4 y5 y6 y7]
    else
       bif bif true then bif false then true else !y7.toList == (ByteArray.mk #[]).toList else false then K (AV.int .i64 3) [bx6 y2 y3 y4 y5 y6 y7]
       else
        bif decide (y2=2) then
         bif !decide (y3=0) then bif bif true then !decide (y3=1) else false then K (AV.int .i64 4) [bx6 y2 y3 y4 y5 y6 y7] else bif bif false then true else decide (y4<0) then K (AV.int .i64 4) [bx6 y2 y3 y4 y5 y6 y7] else bif bif true then bif false then true else decide (y4 > 9) else false then K (AV.int .i64 4) [bx6 y2 y3 y4 y5 y6 y7] else bif decide (y2<0) then K (AV.int .i64 1) [bx6 y2 y3 y4 y5 y6 y7] else bif bif false then true else decide (y2 > 2) then K (AV.int .i64 1) [bx6 y2 y3 y4 y5 y6 y7] else InT i t∧bif !decide (bR t i.toNat=0) then K (AV.int .i64 (bR t i.toNat)) [bx6 y2 y3 y4 y5 y6 y7] else bif bif false then true else decide (y2=2) then K (AV.int .i64 (bR t i.toNat)) [bx6 y2 y3 y4 y5 y6 y7] else bif !decide ((↑y6.length:Int)=(↑y5.length:Int)) then K (AV.int .i64 3) [bx6 y2 y3 y4 y5 y6 y7] else TxL y6∧K (AV.int .i64 (cL y6)) [bx6 y2 y3 y4 y5 y6 y7]
         else bif bif false then true else decide (y4<0) then K (AV.int .i64 4) [bx6 y2 y3 y4 y5 y6 y7] else bif bif true then bif false then true else decide (y4 > 9) else false then K (AV.int .i64 4) [bx6 y2 y3 y4 y5 y6 y7] else bif decide (y2<0) then K (AV.int .i64 1) [bx6 y2 y3 y4 y5 y6 y7] else bif bif false then true else decide (y2 > 2) then K (AV.int .i64 1) [bx6 y2 y3 y4 y5 y6 y7] else InT i t∧bif !decide (bR t i.toNat=0) then K (AV.int .i64 (bR t i.toNat)) [bx6 y2 y3 y4 y5 y6 y7] else bif bif false then true else decide (y2=2) then K (AV.int .i64 (bR t i.toNat)) [bx6 y2 y3 y4 y5 y6 y7] else bif !decide ((↑y6.length:Int)=(↑y5.length:Int)) then K (AV.int .i64 3) [bx6 y2 y3 y4 y5 y6 y7] else TxL y6∧K (AV.int .i64 (cL y6)) [bx6 y2 y3 y4 y5 y6 y7]
        else bif decide (y2<0) then K (AV.int .i64 1) [bx6 y2 y3 y4 y5 y6 y7] else bif bif false then true else decide (y2 > 2) then K (AV.int .i64 1) [bx6 y2 y3 y4 y5 y6 y7] else InT i t∧bif !decide (bR t i.toNat=0) then K (AV.int .i64 (bR t i.toNat)) [bx6 y2 y3 y4 y5 y6 y7] else bif bif false then true else decide (y2=2) then K (AV.int .i64 (bR t i.toNat)) [bx6 y2 y3 y4 y5 y6 y7] else bif !decide ((↑y6.length:Int)=(↑y5.length:Int)) then K (AV.int .i64 3) [bx6 y2 y3 y4 y5 y6 y7] else TxL y6∧K (AV.int .i64 (cL y6)) [bx6 y2 y3 y4 y5 y6 y7]
   else
    bif decide (y2=2) then
     bif !decide (y3=0) then bif bif true then !decide (y3=1) else false then K (AV.int .i64 4) [bx6 y2 y3 y4 y5 y6 y7] else bif bif false then true else decide (y4<0) then K (AV.int .i64 4) [bx6 y2 y3 y4 y5 y6 y7] else bif bif true then bif false then true else decide (y4 > 9) else false then K (AV.int .i64 4) [bx6 y2 y3 y4 y5 y6 y7] else bif decide (y2<0) then K (AV.int .i64 1) [bx6 y2 y3 y4 y5 y6 y7] else bif bif false then true else decide (y2 > 2) then K (AV.int .i64 1) [bx6 y2 y3 y4 y5 y6 y7] else InT i t∧bif !decide (bR t i.toNat=0) then K (AV.int .i64 (bR t i.toNat)) [bx6 y2 y3 y4 y5 y6 y7] else bif bif false then true else decide (y2=2) then K (AV.int .i64 (bR t i.toNat)) [bx6 y2 y3 y4 y5 y6 y7] else bif !decide ((↑y6.length:Int)=(↑y5.length:Int)) then K (AV.int .i64 3) [bx6 y2 y3 y4 y5 y6 y7] else TxL y6∧K (AV.int .i64 (cL y6)) [bx6 y2 y3 y4 y5 y6 y7]
     else bif bif false then true else decide (y4<0) then K (AV.int .i64 4) [bx6 y2 y3 y4 y5 y6 y7] else bif bif true then bif false then true else decide (y4 > 9) else false then K (AV.int .i64 4) [bx6 y2 y3 y4 y5 y6 y7] else bif decide (y2<0) then K (AV.int .i64 1) [bx6 y2 y3 y4 y5 y6 y7] else bif bif false then true else decide (y2 > 2) then K (AV.int .i64 1) [bx6 y2 y3 y4 y5 y6 y7] else InT i t∧bif !decide (bR t i.toNat=0) then K (AV.int .i64 (bR t i.toNat)) [bx6 y2 y3 y4 y5 y6 y7] else bif bif false then true else decide (y2=2) then K (AV.int .i64 (bR t i.toNat)) [bx6 y2 y3 y4 y5 y6 y7] else bif !decide ((↑y6.length:Int)=(↑y5.length:Int)) then K (AV.int .i64 3) [bx6 y2 y3 y4 y5 y6 y7] else TxL y6∧K (AV.int .i64 (cL y6)) [bx6 y2 y3 y4 y5 y6 y7]
    else bif decide (y2<0) then K (AV.int .i64 1) [bx6 y2 y3 y4 y5 y6 y7] else bif bif false then true else decide (y2 > 2) then K (AV.int .i64 1) [bx6 y2 y3 y4 y5 y6 y7] else InT i t∧bif !decide (bR t i.toNat=0) then K (AV.int .i64 (bR t i.toNat)) [bx6 y2 y3 y4 y5 y6 y7] else bif bif false then true else decide (y2=2) then K (AV.int .i64 (bR t i.toNat)) [bx6 y2 y3 y4 y5 y6 y7] else bif !decide ((↑y6.length:Int)=(↑y5.length:Int)) then K (AV.int .i64 3) [bx6 y2 y3 y4 y5 y6 y7] else TxL y6∧K (AV.int .i64 (cL y6)) [bx6 y2 y3 y4 y5 y6 y7]
theorem bEV (t:List Nd) (i:Int) (n0:Nat) (K:AV→List aA→Prop) :
 aF tab (aL tab aW7 [] 400) (aI aXL aXM (aB Tryz.prog n0 37 K)) (aG tab (fnT Tryz.f37).res K) 400 [.code (fnT Tryz.f37).body] ⟨aU (fnT Tryz.f37).n [AV.imm aT t,AV.int .i64 i],[]⟩ =
 (bif decide (0≤i) && decide (i<(↑t.length:Int)) then bif !decide ((t.getD i.toNat (0,0,0,[],[],ByteArray.empty)).2.1=0) then bif decide ((t.getD i.toNat (0,0,0,[],[],ByteArray.empty)).1=0) then sN t i true true (t.getD i.toNat (0,0,0,[],[],ByteArray.empty)).1 (t.getD i.toNat (0,0,0,[],[],ByteArray.empty)).2.1 (t.getD i.toNat (0,0,0,[],[],ByteArray.empty)).2.2.1 (t.getD i.toNat (0,0,0,[],[],ByteArray.empty)).2.2.2.1 (t.getD i.toNat (0,0,0,[],[],ByteArray.empty)).2.2.2.2.1 (t.getD i.toNat (0,0,0,[],[],ByteArray.empty)).2.2.2.2.2 n0 K else sN t i true false (t.getD i.toNat (0,0,0,[],[],ByteArray.empty)).1 (t.getD i.toNat (0,0,0,[],[],ByteArray.empty)).2.1 (t.getD i.toNat (0,0,0,[],[],ByteArray.empty)).2.2.1 (t.getD i.toNat (0,0,0,[],[],ByteArray.empty)).2.2.2.1 (t.getD i.toNat (0,0,0,[],[],ByteArray.empty)).2.2.2.2.1 (t.getD i.toNat (0,0,0,[],[],ByteArray.empty)).2.2.2.2.2 n0 K else bif decide ((t.getD i.toNat (0,0,0,[],[],ByteArray.empty)).1=0) then bif bif false then true else !decide ((t.getD i.toNat (0,0,0,[],[],ByteArray.empty)).2.2.1=0) then sN t i (bif false then true else !decide ((t.getD i.toNat (0,0,0,[],[],ByteArray.empty)).2.2.1=0)) true (t.getD i.toNat (0,0,0,[],[],ByteArray.empty)).1 (t.getD i.toNat (0,0,0,[],[],ByteArray.empty)).2.1 (t.getD i.toNat (0,0,0,[],[],ByteArray.empty)).2.2.1 (t.getD i.toNat (0,0,0,[],[],ByteArray.empty)).2.2.2.1 (t.getD i.toNat (0,0,0,[],[],ByteArray.empty)).2.2.2.2.1 (t.getD i.toNat (0,0,0,[],[],ByteArray.empty)).2.2.2.2.2 n0 K else sN t i (bif false then true else !decide ((t.getD i.toNat (0,0,0,[],[],ByteArray.empty)).2.2.1=0)) (bif true then bif false then true else decide (IntKind.i64.wrap ((↑(List.length (t.getD i.toNat (0,0,0,[],[],ByteArray.empty)).2.2.2.1):Int)+(↑(List.length (t.getD i.toNat (0,0,0,[],[],ByteArray.empty)).2.2.2.2.1):Int)) > 0) else false) (t.getD i.toNat (0,0,0,[],[],ByteArray.empty)).1 (t.getD i.toNat (0,0,0,[],[],ByteArray.empty)).2.1 (t.getD i.toNat (0,0,0,[],[],ByteArray.empty)).2.2.1 (t.getD i.toNat (0,0,0,[],[],ByteArray.empty)).2.2.2.1 (t.getD i.toNat (0,0,0,[],[],ByteArray.empty)).2.2.2.2.1 (t.getD i.toNat (0,0,0,[],[],ByteArray.empty)).2.2.2.2.2 n0 K else sN t i (bif false then true else !decide ((t.getD i.toNat (0,0,0,[],[],ByteArray.empty)).2.2.1=0)) false (t.getD i.toNat (0,0,0,[],[],ByteArray.empty)).1 (t.getD i.toNat (0,0,0,[],[],ByteArray.empty)).2.1 (t.getD i.toNat (0,0,0,[],[],ByteArray.empty)).2.2.1 (t.getD i.toNat (0,0,0,[],[],ByteArray.empty)).2.2.2.1 (t.getD i.toNat (0,0,0,[],[],ByteArray.empty)).2.2.2.2.1 (t.getD i.toNat (0,0,0,[],[],ByteArray.empty)).2.2.2.2.2 n0 K else False):=by kernel_rfl
def kP : List (Nat × List Nat):=[(6,[0,17,18]),(13,[0,5]),(18,[0,39,40,41]),(21,[0,6,7,39,40,41,46,47,48])]
def kQ : List (Nat × ETy):=[(39,aT),(46,aT)]
noncomputable def aDM (t:List Nd) (x0 x1:Int):St:=aQ 95 [(0,AV.imm aT t),(17,AV.int .i64 x0),(18,AV.int .i64 x1)] []
noncomputable def wJ (t:List Nd) (x0:Int):St:=aQ 95 [(0,AV.imm aT t),(5,AV.int .i64 x0)] []
noncomputable def wK (t:List Nd) (x0 x1:Int):St:=aQ 95 [(0,AV.imm aT t),(39,AV.imm aT t),(40,AV.int .i64 x0),(41,AV.int .i64 x1)] []
noncomputable def kR (t:List Nd) (x0 x1 x2 x3 x4 x5 x6 x7:Int) (x8:List Int) (x9:List ByteArray) (x10:ByteArray):St:=aQ 95 [(0,AV.imm aT t),(6,AV.int .i64 x0),(7,AV.ptr 0 0),(39,AV.imm aT t),(40,AV.int .i64 x1),(41,AV.int .i64 x2),(46,AV.imm aT t),(47,AV.int .i64 x3),(48,AV.int .i64 x4)] [bx6 x5 x6 x7 x8 x9 x10]
theorem bEW (t:List Nd) (n0:Nat) (K:AV→List aA→Prop) :
 aF tab (aL tab sK [] 400) (aI kP kQ (aB Tryz.prog n0 11 K)) (aG tab (fnT Tryz.f11).res K) 400 [.code (fnT Tryz.f11).body] ⟨aU (fnT Tryz.f11).n [AV.imm aT t],[]⟩ =
 (bif decide ((↑t.length:Int) > 120) then K (AV.int .i64 2) [] else bif decide ((↑t.length:Int)=0) then K (AV.int .i64 8) [] else aB Tryz.prog n0 11 K (aD (fnT Tryz.f11) 6) (aDM t (↑t.length:Int) 0)):=by kernel_rfl
theorem bEX (t:List Nd) (x0 x1:Int) (n0:Nat) (K:AV→List aA→Prop) :
 aF tab (aL tab sK [] 400) (aI kP kQ (aB Tryz.prog n0 11 K)) (aG tab (fnT Tryz.f11).res K) 400 (aR (fnT Tryz.f11) 6) (aDM t x0 x1) =
 (bif decide (x1<x0) then (TxT t∧InT x1 t)∧bif !decide (fU t x1.toNat=0) then K (AV.int .i64 (fU t x1.toNat)) [] else aB Tryz.prog n0 11 K (aD (fnT Tryz.f11) 6) (aDM t x0 (IntKind.i64.wrap (x1+1))) else aB Tryz.prog n0 11 K (aD (fnT Tryz.f11) 13) (wJ t 1)):=by kernel_rfl
theorem bEY (t:List Nd) (x0:Int) (n0:Nat) (K:AV→List aA→Prop) :
 aF tab (aL tab sK [] 400) (aI kP kQ (aB Tryz.prog n0 11 K)) (aG tab (fnT Tryz.f11).res K) 400 (aR (fnT Tryz.f11) 13) (wJ t x0) =
 (bif decide (x0<(↑t.length:Int)) then aDE t∧bif !decide ((↑(dD t x0).length:Int)=1) then K (AV.int .i64 3) [] else aB Tryz.prog n0 11 K (aD (fnT Tryz.f11) 13) (wJ t (IntKind.i64.wrap (x0+1))) else aB Tryz.prog n0 11 K (aD (fnT Tryz.f11) 18) (wK t (↑t.length:Int) 0)):=by kernel_rfl
theorem bEZ (t:List Nd) (x0 x1:Int) (n0:Nat) (K:AV→List aA→Prop) :
 aF tab (aL tab sK [] 400) (aI kP kQ (aB Tryz.prog n0 11 K)) (aG tab (fnT Tryz.f11).res K) 400 (aR (fnT Tryz.f11) 18) (wK t x0 x1) =
 (bif decide (x1<x0) then bif decide (0≤x1) && decide (x1<(↑t.length:Int)) then aB Tryz.prog n0 11 K (aD (fnT Tryz.f11) 21) (kR t x1 x0 x1 (↑t.length:Int) 0 (t.getD x1.toNat (0,0,0,[],[],ByteArray.empty)).1 (t.getD x1.toNat (0,0,0,[],[],ByteArray.empty)).2.1 (t.getD x1.toNat (0,0,0,[],[],ByteArray.empty)).2.2.1 (t.getD x1.toNat (0,0,0,[],[],ByteArray.empty)).2.2.2.1 (t.getD x1.toNat (0,0,0,[],[],ByteArray.empty)).2.2.2.2.1 (t.getD x1.toNat (0,0,0,[],[],ByteArray.empty)).2.2.2.2.2) else False else K (AV.int .i64 0) []):=by kernel_rfl
theorem bE0 (t:List Nd) (x0 x1 x2 x3 x4 x5 x6 x7:Int) (x8:List Int) (x9:List ByteArray) (x10:ByteArray) (n0:Nat) (K:AV→List aA→Prop) :
 aF tab (aL tab sK [] 400) (aI kP kQ (aB Tryz.prog n0 11 K)) (aG tab (fnT Tryz.f11).res K) 400 (aR (fnT Tryz.f11) 21) (kR t x0 x1 x2 x3 x4 x5 x6 x7 x8 x9 x10) =
 (bif decide (x4<x3) then bif decide (0≤x4) && decide (x4<(↑t.length:Int)) then bif decide (x5=2) then bif bif true then decide ((t.getD x4.toNat (0,0,0,[],[],ByteArray.empty)).1=2) else false then bif bif true then decide (x6=(t.getD x4.toNat (0,0,0,[],[],ByteArray.empty)).2.1) else false then bif decide (0≤x0) && decide (x0<(↑t.length:Int)) then bif bif true then decide (x7=(t.getD x0.toNat (0,0,0,[],[],ByteArray.empty)).2.2.1) else false then bif bif true then decide ((t.getD x4.toNat (0,0,0,[],[],ByteArray.empty)).2.2.1=x7) else false then bif bif true then !decide ((↑x8.length:Int)=(↑(List.length (t.getD x4.toNat (0,0,0,[],[],ByteArray.empty)).2.2.2.1):Int)) else false then K (AV.int .i64 3) [bx6 x5 x6 x7 x8 x9 x10,bxN (t.getD x4.toNat (0,0,0,[],[],ByteArray.empty))] else aB Tryz.prog n0 11 K (aD (fnT Tryz.f11) 21) (kR t x0 x1 x2 x3 (IntKind.i64.wrap (x4+1)) x5 x6 x7 x8 x9 x10) else aB Tryz.prog n0 11 K (aD (fnT Tryz.f11) 21) (kR t x0 x1 x2 x3 (IntKind.i64.wrap (x4+1)) x5 x6 x7 x8 x9 x10) else aB Tryz.prog n0 11 K (aD (fnT Tryz.f11) 21) (kR t x0 x1 x2 x3 (IntKind.i64.wrap (x4+1)) x5 x6 x7 x8 x9 x10) else False else aB Tryz.prog n0 11 K (aD (fnT Tryz.f11) 21) (kR t x0 x1 x2 x3 (IntKind.i64.wrap (x4+1)) x5 x6 x7 x8 x9 x10) else aB Tryz.prog n0 11 K (aD (fnT Tryz.f11) 21) (kR t x0 x1 x2 x3 (IntKind.i64.wrap (x4+1)) x5 x6 x7 x8 x9 x10) else aB Tryz.prog n0 11 K (aD (fnT Tryz.f11) 21) (kR t x0 x1 x2 x3 (IntKind.i64.wrap (x4+1)) x5 x6 x7 x8 x9 x10) else False else aB Tryz.prog n0 11 K (aD (fnT Tryz.f11) 18) (wK t x1 (IntKind.i64.wrap (x2+1)))):=by kernel_rfl
def aXN : List (Nat × List Nat):=[]
def aXO : List (Nat × ETy):=[]
theorem bE1 (t:List Nd) (p:Int) (n0:Nat) (K:AV→List aA→Prop) :
 aF tab (aL tab lK [] 400) (aI aXN aXO (aB Tryz.prog n0 48 K)) (aG tab (fnT Tryz.f48).res K) 400 [.code (fnT Tryz.f48).body] ⟨aU (fnT Tryz.f48).n [AV.imm aT t,AV.int .i64 p],[]⟩ =
 (TxT t∧bif !decide (cF t=0) then K (AV.int .i64 (cF t)) [] else bif !decide (p=0) then bif bif true then !decide (p=1) else false then K (AV.int .i64 4) [] else K (AV.int .i64 0) [] else K (AV.int .i64 0) []):=by kernel_rfl
def aDN : List (Nat × List Nat):=[(3,[3,6,7,8])]
def aDO : List (Nat × ETy):=[(6,aT)]
noncomputable def wL (t:List Nd) (x0 x1 x2:Int):St:=aQ 24 [(3,AV.int .i64 x0),(6,AV.imm aT t),(7,AV.int .i64 x1),(8,AV.int .i64 x2)] []
theorem bE2 (t:List Nd) (n0:Nat) (K:AV→List aA→Prop) :
 aF tab (aL tab lK [] 400) (aI aDN aDO (aB Tryz.prog n0 6 K)) (aG tab (fnT Tryz.f6).res K) 400 [.code (fnT Tryz.f6).body] ⟨aU (fnT Tryz.f6).n [AV.imm aT t],[]⟩ =
 (aB Tryz.prog n0 6 K (aD (fnT Tryz.f6) 3) (wL t 0 (↑t.length:Int) 0)):=by kernel_rfl
theorem bE3 (t:List Nd) (x0 x1 x2:Int) (n0:Nat) (K:AV→List aA→Prop) :
 aF tab (aL tab lK [] 400) (aI aDN aDO (aB Tryz.prog n0 6 K)) (aG tab (fnT Tryz.f6).res K) 400 (aR (fnT Tryz.f6) 3) (wL t x0 x1 x2) =
 (bif decide (x2<x1) then bif decide (0≤x2) && decide (x2<(↑t.length:Int)) then ([(t.getD x2.toNat (0,0,0,[],[],ByteArray.empty)).2.2.2.2.1].length≤1000000000000000∧∀ (r:List ByteArray),r∈[(t.getD x2.toNat (0,0,0,[],[],ByteArray.empty)).2.2.2.2.1]→r.length≤1000000000000000)∧∀ (n:Int),aB Tryz.prog n0 6 K (aD (fnT Tryz.f6) 3) (wL t (IntKind.i64.wrap (x0+IntKind.i64.wrap ((↑(ByteArray.size (t.getD x2.toNat (0,0,0,[],[],ByteArray.empty)).2.2.2.2.2):Int)+n))) x1 (IntKind.i64.wrap (x2+1))) else False else K (AV.int .i64 x0) []):=by kernel_rfl
def aDP : List (Nat × List Nat):=[(2,[0,1,5])]
def aDQ : List (Nat × ETy):=[(5,eP)]
noncomputable def bE4 (t:List Nd) (k:Int) (x0:List (Int × Int)):St:=aQ 21 [(0,AV.imm aT t),(1,AV.int .i64 k),(5,AV.own 0)] [aA.typed eP x0 false]
noncomputable def wM (t:List Nd) (k x0:Int) (x1:List (Int × Int)):St:=aQ 21 [(0,AV.imm aT t),(1,AV.int .i64 x0),(5,AV.own 0)] [aA.typed eP x1 false]
theorem bE5 (t:List Nd) (k:Int) (n0:Nat) (K:AV→List aA→Prop) :
 aF tab (aL tab lK [] 400) (aI aDP aDQ (aB Tryz.prog n0 47 K)) (aG tab (fnT Tryz.f47).res K) 400 [.code (fnT Tryz.f47).body] ⟨aU (fnT Tryz.f47).n [AV.imm aT t,AV.int .i64 k],[]⟩ =
 (aB Tryz.prog n0 47 K (aD (fnT Tryz.f47) 2) (bE4 t k [])):=by kernel_rfl
theorem bE6 (t:List Nd) (k x0:Int) (x1:List (Int × Int)) (n0:Nat) (K:AV→List aA→Prop) :
 aF tab (aL tab lK [] 400) (aI aDP aDQ (aB Tryz.prog n0 47 K)) (aG tab (fnT Tryz.f47).res K) 400 (aR (fnT Tryz.f47) 2) (wM t k x0 x1) =
 (bif decide (x0 > 0) then aDE t∧bif decide (0<(↑(dD t x0).length:Int)) then bif bif ([([((dD t x0).getD 0 (0,0)).1,((dD t x0).getD 0 (0,0)).2].getD 0 0,[((dD t x0).getD 0 (0,0)).1,((dD t x0).getD 0 (0,0)).2].getD 1 0)].length+x1.length).ble 9223372036854775807 then (([([((dD t x0).getD 0 (0,0)).1,((dD t x0).getD 0 (0,0)).2].getD 0 0,[((dD t x0).getD 0 (0,0)).1,((dD t x0).getD 0 (0,0)).2].getD 1 0)].length+x1.length) * 16).ble 140737488355328 else false then aB Tryz.prog n0 47 K (aD (fnT Tryz.f47) 2) (wM t k ([((dD t x0).getD 0 (0,0)).1,((dD t x0).getD 0 (0,0)).2].getD 0 0) ([([((dD t x0).getD 0 (0,0)).1,((dD t x0).getD 0 (0,0)).2].getD 0 0,[((dD t x0).getD 0 (0,0)).1,((dD t x0).getD 0 (0,0)).2].getD 1 0)] ++ x1)) else False else False else K (AV.own 0) [aA.typed eP x1 false]):=by kernel_rfl
def aDR : List (Nat × List Nat):=[(3,[0,1,7,13,14,15])]
def aDS : List (Nat × ETy):=[(7,eP),(13,eP)]
noncomputable def sO (t:List Nd) (p k:Int) (x0:List (Int × Int)) (x1 x2:Int) (x3:List (Int × Int)):St:=aQ 43 [(0,AV.imm aT t),(1,AV.int .i64 p),(7,AV.own 0),(13,AV.imm eP x0),(14,AV.int .i64 x1),(15,AV.int .i64 x2)] [aA.typed eP x3 false]
theorem bE7 (t:List Nd) (p k:Int) (n0:Nat) (K:AV→List aA→Prop) :
 aF tab (aL tab aLE [] 400) (aI aDR aDS (aB Tryz.prog n0 92 K)) (aG tab (fnT Tryz.f92).res K) 400 [.code (fnT Tryz.f92).body] ⟨aU (fnT Tryz.f92).n [AV.imm aT t,AV.int .i64 p,AV.int .i64 k],[]⟩ =
 ((eH t∧InT k t)∧aB Tryz.prog n0 92 K (aD (fnT Tryz.f92) 3) (sO t p k (dY t k.toNat) (↑(dY t k.toNat).length:Int) 0 [])):=by kernel_rfl
theorem bE8 (t:List Nd) (p k:Int) (x0:List (Int × Int)) (x1 x2:Int) (x3:List (Int × Int)) (n0:Nat) (K:AV→List aA→Prop) :
 aF tab (aL tab aLE [] 400) (aI aDR aDS (aB Tryz.prog n0 92 K)) (aG tab (fnT Tryz.f92).res K) 400 (aR (fnT Tryz.f92) 3) (sO t p k x0 x1 x2 x3) =
 (bif decide (x2<x1) then bif decide (0≤x2) && decide (x2<(↑x0.length:Int)) then bif decide (0≤[(x0.getD x2.toNat (0,0)).1,(x0.getD x2.toNat (0,0)).2].getD 0 0) && decide ([(x0.getD x2.toNat (0,0)).1,(x0.getD x2.toNat (0,0)).2].getD 0 0<(↑t.length:Int)) then bif decide ((t.getD (Int.toNat ([(x0.getD x2.toNat (0,0)).1,(x0.getD x2.toNat (0,0)).2].getD 0 0)) (0,0,0,[],[],ByteArray.empty)).1=2) then bif bif true then decide ((t.getD (Int.toNat ([(x0.getD x2.toNat (0,0)).1,(x0.getD x2.toNat (0,0)).2].getD 0 0)) (0,0,0,[],[],ByteArray.empty)).2.1=p) else false then bif bif (x3.length+[((t.getD (Int.toNat ([(x0.getD x2.toNat (0,0)).1,(x0.getD x2.toNat (0,0)).2].getD 0 0)) (0,0,0,[],[],ByteArray.empty)).2.2.1,[(x0.getD x2.toNat (0,0)).1,(x0.getD x2.toNat (0,0)).2].getD 1 0)].length).ble 9223372036854775807 then ((x3.length+[((t.getD (Int.toNat ([(x0.getD x2.toNat (0,0)).1,(x0.getD x2.toNat (0,0)).2].getD 0 0)) (0,0,0,[],[],ByteArray.empty)).2.2.1,[(x0.getD x2.toNat (0,0)).1,(x0.getD x2.toNat (0,0)).2].getD 1 0)].length) * 16).ble 140737488355328 else false then aB Tryz.prog n0 92 K (aD (fnT Tryz.f92) 3) (sO t p k x0 x1 (IntKind.i64.wrap (x2+1)) (x3 ++ [((t.getD (Int.toNat ([(x0.getD x2.toNat (0,0)).1,(x0.getD x2.toNat (0,0)).2].getD 0 0)) (0,0,0,[],[],ByteArray.empty)).2.2.1,[(x0.getD x2.toNat (0,0)).1,(x0.getD x2.toNat (0,0)).2].getD 1 0)])) else False else aB Tryz.prog n0 92 K (aD (fnT Tryz.f92) 3) (sO t p k x0 x1 (IntKind.i64.wrap (x2+1)) x3) else aB Tryz.prog n0 92 K (aD (fnT Tryz.f92) 3) (sO t p k x0 x1 (IntKind.i64.wrap (x2+1)) x3) else False else False else K (AV.own 0) [aA.typed eP x3 false]):=by kernel_rfl
def aDT : List (Nat × List Nat):=[(4,[0,1,12,13])]
def aDU : List (Nat × ETy):=[]
noncomputable def aDV (a b:List (Int × Int)) (x0 x1:Int):St:=aQ 26 [(0,AV.imm eP a),(1,AV.imm eP b),(12,AV.int .i64 x0),(13,AV.int .i64 x1)] []
theorem bE9 (a b:List (Int × Int)) (n0:Nat) (K:AV→List aA→Prop) :
 aF tab (aL tab bE [] 400) (aI aDT aDU (aB Tryz.prog n0 91 K)) (aG tab (fnT Tryz.f91).res K) 400 [.code (fnT Tryz.f91).body] ⟨aU (fnT Tryz.f91).n [AV.imm eP a,AV.imm eP b],[]⟩ =
 (bif !decide ((↑a.length:Int)=(↑b.length:Int)) then K (AV.bool false) [] else aB Tryz.prog n0 91 K (aD (fnT Tryz.f91) 4) (aDV a b (↑a.length:Int) 0)):=by kernel_rfl
theorem bFA (a b:List (Int × Int)) (x0 x1:Int) (n0:Nat) (K:AV→List aA→Prop) :
 aF tab (aL tab bE [] 400) (aI aDT aDU (aB Tryz.prog n0 91 K)) (aG tab (fnT Tryz.f91).res K) 400 (aR (fnT Tryz.f91) 4) (aDV a b x0 x1) =
 (bif decide (x1<x0) then bif decide (0≤x1) && decide (x1<(↑a.length:Int)) then bif decide (0≤x1) && decide (x1<(↑b.length:Int)) then bif !bif decide ((a.getD x1.toNat (0,0)).1=(b.getD x1.toNat (0,0)).1) then bif decide ((a.getD x1.toNat (0,0)).2=(b.getD x1.toNat (0,0)).2) then true else false else false then K (AV.bool false) [] else aB Tryz.prog n0 91 K (aD (fnT Tryz.f91) 4) (aDV a b x0 (IntKind.i64.wrap (x1+1))) else False else False else K (AV.bool true) []):=by kernel_rfl
def aXP : List (Nat × List Nat):=[]
def aXQ : List (Nat × ETy):=[]
theorem bFB (l:List (Int × Int)) (n0:Nat) (K:AV→List aA→Prop) :
 aF tab (aL tab bE [] 400) (aI aXP aXQ (aB Tryz.prog n0 114 K)) (aG tab (fnT Tryz.f114).res K) 400 [.code (fnT Tryz.f114).body] ⟨aU (fnT Tryz.f114).n [AV.imm eP l],[]⟩ =
 (bif Nat.blt 0 l.length then bif bif (0+l.length).ble 9223372036854775807 then ((0+l.length) * 16).ble 140737488355328 else false then K (AV.own 1) [aA.dead,aA.typed eP ([] ++ l) false] else False else False):=by kernel_rfl
def aXR : List (Nat × List Nat):=[]
def aXS : List (Nat × ETy):=[]
theorem bFC (A:Option Addr) (k n0:Nat) (K:AV→List aA→Prop) :
 aF tab (aL tab bE [] 400) (aI aXR aXS (aB Tryz.prog n0 114 K)) (aG tab (fnT Tryz.f114).res K) 400 [.code (fnT Tryz.f114).body] ⟨aU (fnT Tryz.f114).n [AV.raw (Value.slice A 0 k)],[]⟩ =
 (bif A.isNone then K AV.nils [] else K (AV.own 1) [aA.dead,aA.typed eP ([] ++ []) false]):=by kernel_rfl
def aDW : List (Nat × List Nat):=[(4,[0,1,12,13])]
def aDX : List (Nat × ETy):=[]
noncomputable def aDY (l m:List (Int × Int)) (x0 x1:Int):St:=aQ 26 [(0,AV.imm eP l),(1,AV.imm eP m),(12,AV.int .i64 x0),(13,AV.int .i64 x1)] []
theorem bFD (l m:List (Int × Int)) (n0:Nat) (K:AV→List aA→Prop) :
 aF tab (aL tab bE [] 400) (aI aDW aDX (aB Tryz.prog n0 86 K)) (aG tab (fnT Tryz.f86).res K) 400 [.code (fnT Tryz.f86).body] ⟨aU (fnT Tryz.f86).n [AV.imm eP l,AV.imm eP m],[]⟩ =
 (bif !decide ((↑l.length:Int)=(↑m.length:Int)) then K (AV.bool false) [] else aB Tryz.prog n0 86 K (aD (fnT Tryz.f86) 4) (aDY l m (↑l.length:Int) 0)):=by kernel_rfl
theorem bFE (l m:List (Int × Int)) (x0 x1:Int) (n0:Nat) (K:AV→List aA→Prop) :
 aF tab (aL tab bE [] 400) (aI aDW aDX (aB Tryz.prog n0 86 K)) (aG tab (fnT Tryz.f86).res K) 400 (aR (fnT Tryz.f86) 4) (aDY l m x0 x1) =
 (bif decide (x1<x0) then bif decide (0≤x1) && decide (x1<(↑l.length:Int)) then bif decide (0≤x1) && decide (x1<(↑m.length:Int)) then bif !bif decide ((l.getD x1.toNat (0,0)).1=(m.getD x1.toNat (0,0)).1) then bif decide ((l.getD x1.toNat (0,0)).2=(m.getD x1.toNat (0,0)).2) then true else false else false then K (AV.bool false) [] else aB Tryz.prog n0 86 K (aD (fnT Tryz.f86) 4) (aDY l m x0 (IntKind.i64.wrap (x1+1))) else False else False else K (AV.bool true) []):=by kernel_rfl
def sP : List (Nat × List Nat):=[(3,[1,5,13,14,15]),(6,[1,5,6,7,13,14,15,21,22,23])]
def sQ : List (Nat × ETy):=[(5,ETy.one (CTy.slice eP)),(13,aT),(21,eI)]
noncomputable def wN (t:List Nd) (p x0 x1:Int) (x2:List (List (Int × Int))):St:=aQ 61 [(1,AV.int .i64 p),(5,AV.own 0),(13,AV.imm aT t),(14,AV.int .i64 x0),(15,AV.int .i64 x1)] [aA.typed (ETy.one (CTy.slice eP)) x2 false]
noncomputable def i4 (t:List Nd) (p x0 x1 x2:Int) (x3:List Int) (x4 x5:Int) (x6:List (List (Int × Int))) (x7 x8 x9:Int) (x10:List Int) (x11:List ByteArray) (x12:ByteArray):St:=aQ 61 [(1,AV.int .i64 p),(5,AV.own 0),(6,AV.int .i64 x0),(7,AV.ptr 1 0),(13,AV.imm aT t),(14,AV.int .i64 x1),(15,AV.int .i64 x2),(21,AV.imm eI x3),(22,AV.int .i64 x4),(23,AV.int .i64 x5)] [aA.typed (ETy.one (CTy.slice eP)) x6 false,bx6 x7 x8 x9 x10 x11 x12]
theorem bFF (t:List Nd) (p:Int) (n0:Nat) (K:AV→List aA→Prop) :
 aF tab (aL tab lK [] 400) (aI sP sQ (aB Tryz.prog n0 85 K)) (aG tab (fnT Tryz.f85).res K) 400 [.code (fnT Tryz.f85).body] ⟨aU (fnT Tryz.f85).n [AV.imm aT t,AV.int .i64 p],[]⟩ =
 (bif decide (0≤(↑t.length:Int)) && decide ((↑t.length:Int)≤(↑t.length:Int)) && bif (↑t.length:Int).toNat.ble 9223372036854775807 then ((↑t.length:Int).toNat * 24).ble 281474976710656 else false then aB Tryz.prog n0 85 K (aD (fnT Tryz.f85) 3) (wN t p (↑t.length:Int) 0 (List.replicate (↑t.length:Int).toNat [])) else False):=by kernel_rfl
theorem bFG (t:List Nd) (p x0 x1:Int) (x2:List (List (Int × Int))) (n0:Nat) (K:AV→List aA→Prop) :
 aF tab (aL tab lK [] 400) (aI sP sQ (aB Tryz.prog n0 85 K)) (aG tab (fnT Tryz.f85).res K) 400 (aR (fnT Tryz.f85) 3) (wN t p x0 x1 x2) =
 (bif decide (x1<x0) then bif decide (0≤x1) && decide (x1<(↑t.length:Int)) then aB Tryz.prog n0 85 K (aD (fnT Tryz.f85) 6) (i4 t p x1 x0 x1 (t.getD x1.toNat (0,0,0,[],[],ByteArray.empty)).2.2.2.1 (↑(List.length (t.getD x1.toNat (0,0,0,[],[],ByteArray.empty)).2.2.2.1):Int) 0 x2 (t.getD x1.toNat (0,0,0,[],[],ByteArray.empty)).1 (t.getD x1.toNat (0,0,0,[],[],ByteArray.empty)).2.1 (t.getD x1.toNat (0,0,0,[],[],ByteArray.empty)).2.2.1 (t.getD x1.toNat (0,0,0,[],[],ByteArray.empty)).2.2.2.1 (t.getD x1.toNat (0,0,0,[],[],ByteArray.empty)).2.2.2.2.1 (t.getD x1.toNat (0,0,0,[],[],ByteArray.empty)).2.2.2.2.2) else False else K (AV.own 0) [aA.typed (ETy.one (CTy.slice eP)) x2 false]):=by kernel_rfl
theorem bFH (t:List Nd) (p x0 x1 x2:Int) (x3:List Int) (x4 x5:Int) (x6:List (List (Int × Int))) (x7 x8 x9:Int) (x10:List Int) (x11:List ByteArray) (x12:ByteArray) (n0:Nat) (K:AV→List aA→Prop) :
 aF tab (aL tab lK [] 400) (aI sP sQ (aB Tryz.prog n0 85 K)) (aG tab (fnT Tryz.f85).res K) 400 (aR (fnT Tryz.f85) 6) (i4 t p x0 x1 x2 x3 x4 x5 x6 x7 x8 x9 x10 x11 x12) =
 (bif decide (x5<x4) then
 bif decide (0≤x5) && decide (x5<(↑x3.length:Int)) then
  bif decide (0≤x0) && decide (x0<(↑x6.length:Int)) then
     bif decide (0≤x3.getD x5.toNat 0) && decide (x3.getD x5.toNat 0<(↑x6.length:Int)) then
      bif decide (x7=2) then
         bif bif true then decide (x8=p) else false then
          bif decide (0≤x0) && decide (x0<(↑(x6.set (Int.toNat (x3.getD x5.toNat 0)) (x6.getD x0.toNat [])).length:Int)) then
             (List.length ((x6.set (Int.toNat (x3.getD x5.toNat 0)) (x6.getD x0.toNat [])).getD x0.toNat [])≤1000000∧((x6.set (Int.toNat (x3.getD x5.toNat 0)) (x6.getD x0.toNat [])).getD x0.toNat []≠[]→bif bif (List.length ((x6.set (Int.toNat (x3.getD x5.toNat 0)) (x6.getD x0.toNat [])).getD x0.toNat [])+[(x9,x5)].length).ble 9223372036854775807 then ((List.length ((x6.set (Int.toNat (x3.getD x5.toNat 0)) (x6.getD x0.toNat [])).getD x0.toNat [])+[(x9,x5)].length) * 16).ble 140737488355328 else false then bif decide (0≤x3.getD x5.toNat 0) && decide (x3.getD x5.toNat 0<(↑(x6.set (Int.toNat (x3.getD x5.toNat 0)) (x6.getD x0.toNat [])).length:Int)) then aB Tryz.prog n0 85 K (aD (fnT Tryz.f85) 6) (i4 t p x0 x1 x2 x3 x4 (IntKind.i64.wrap (x5+1)) ((x6.set (Int.toNat (x3.getD x5.toNat 0)) (x6.getD x0.toNat [])).set (Int.toNat (x3.getD x5.toNat 0)) ((x6.set (Int.toNat (x3.getD x5.toNat 0)) (x6.getD x0.toNat [])).getD x0.toNat [] ++ [(x9,x5)])) x7 x8 x9 x10 x11 x12) else False else False)∧((x6.set (Int.toNat (x3.getD x5.toNat 0)) (x6.getD x0.toNat [])).getD x0.toNat []=[]→(bif decide (0≤x3.getD x5.toNat 0) && decide (x3.getD x5.toNat 0<(↑(x6.set (Int.toNat (x3.getD x5.toNat 0)) (x6.getD x0.toNat [])).length:Int)) then aB Tryz.prog n0 85 K (aD (fnT Tryz.f85) 6) (i4 t p x0 x1 x2 x3 x4 (IntKind.i64.wrap (x5+1)) ((x6.set (Int.toNat (x3.getD x5.toNat 0)) (x6.getD x0.toNat [])).set (Int.toNat (x3.getD x5.toNat 0)) ([] ++ [(x9,x5)])) x7 x8 x9 x10 x11 x12) else False)∧bif decide (0≤x3.getD x5.toNat 0) && decide (x3.getD x5.toNat 0<(↑(x6.set (Int.toNat (x3.getD x5.toNat 0)) (x6.getD x0.toNat [])).length:Int)) then aB Tryz.prog n0 85 K (aD (fnT Tryz.f85) 6) (i4 t p x0 x1 x2 x3 x4 (IntKind.i64.wrap (x5+1)) ((x6.set (Int.toNat (x3.getD x5.toNat 0)) (x6.getD x0.toNat [])).set (Int.toNat (x3.getD x5.toNat 0)) ([] ++ [(x9,x5)])) x7 x8 x9 x10 x11 x12) else False))∧List.length ((x6.set (Int.toNat (x3.getD x5.toNat 0)) (x6.getD x0.toNat [])).getD x0.toNat [])≤1000000∧((x6.set (Int.toNat (x3.getD x5.toNat 0)) (x6.getD x0.toNat [])).getD x0.toNat []≠[]→bif bif (List.length ((x6.set (Int.toNat (x3.getD x5.toNat 0)) (x6.getD x0.toNat [])).getD x0.toNat [])+[(x9,x5)].length).ble 9223372036854775807 then ((List.length ((x6.set (Int.toNat (x3.getD x5.toNat 0)) (x6.getD x0.toNat [])).getD x0.toNat [])+[(x9,x5)].length) * 16).ble 140737488355328 else false then bif decide (0≤x3.getD x5.toNat 0) && decide (x3.getD x5.toNat 0<(↑(x6.set (Int.toNat (x3.getD x5.toNat 0)) (x6.getD x0.toNat [])).length:Int)) then aB Tryz.prog n0 85 K (aD (fnT Tryz.f85) 6) (i4 t p x0 x1 x2 x3 x4 (IntKind.i64.wrap (x5+1)) ((x6.set (Int.toNat (x3.getD x5.toNat 0)) (x6.getD x0.toNat [])).set (Int.toNat (x3.getD x5.toNat 0)) ((x6.set (Int.toNat (x3.getD x5.toNat 0)) (x6.getD x0.toNat [])).getD x0.toNat [] ++ [(x9,x5)])) x7 x8 x9 x10 x11 x12) else False else False)∧((x6.set (Int.toNat (x3.getD x5.toNat 0)) (x6.getD x0.toNat [])).getD x0.toNat []=[]→(bif decide (0≤x3.getD x5.toNat 0) && decide (x3.getD x5.toNat 0<(↑(x6.set (Int.toNat (x3.getD x5.toNat 0)) (x6.getD x0.toNat [])).length:Int)) then aB Tryz.prog n0 85 K (aD (fnT Tryz.f85) 6) (i4 t p x0 x1 x2 x3 x4 (IntKind.i64.wrap (x5+1)) ((x6.set (Int.toNat (x3.getD x5.toNat 0)) (x6.getD x0.toNat [])).set (Int.toNat (x3.getD x5.toNat 0)) ([] ++ [(x9,x5)])) x7 x8 x9 x10 x11 x12) else False)∧bif decide (0≤x3.getD x5.toNat 0) && decide (x3.getD x5.toNat 0<(↑(x6.set (Int.toNat (x3.getD x5.toNat 0)) (x6.getD x0.toNat [])).length:Int)) then aB Tryz.prog n0 85 K (aD (fnT Tryz.f85) 6) (i4 t p x0 x1 x2 x3 x4 (IntKind.i64.wrap (x5+1)) ((x6.set (Int.toNat (x3.getD x5.toNat 0)) (x6.getD x0.toNat [])).set (Int.toNat (x3.getD x5.toNat 0)) ([] ++ [(x9,x5)])) x7 x8 x9 x10 x11 x12) else False)
          else False
         else aB Tryz.prog n0 85 K (aD (fnT Tryz.f85) 6) (i4 t p x0 x1 x2 x3 x4 (IntKind.i64.wrap (x5+1)) (x6.set (Int.toNat (x3.getD x5.toNat 0)) (x6.getD x0.toNat [])) x7 x8 x9 x10 x11 x12)
      else aB Tryz.prog n0 85 K (aD (fnT Tryz.f85) 6) (i4 t p x0 x1 x2 x3 x4 (IntKind.i64.wrap (x5+1)) (x6.set (Int.toNat (x3.getD x5.toNat 0)) (x6.getD x0.toNat [])) x7 x8 x9 x10 x11 x12)
     else False
  else False
 else False
  else aB Tryz.prog n0 85 K (aD (fnT Tryz.f85) 3) (wN t p x1 (IntKind.i64.wrap (x2+1)) x6)):=by kernel_rfl
def aXT : List (Nat × List Nat):=[]
def aXU : List (Nat × ETy):=[]
theorem bFI (s:ByteArray) (n0:Nat) (K:AV→List aA→Prop) :
 aF tab (aL tab rF [] 400) (aI aXT aXU (aB Tryz.prog n0 77 K)) (aG tab (fnT Tryz.f77).res K) 400 [.code (fnT Tryz.f77).body] ⟨aU (fnT Tryz.f77).n [AV.str s],[]⟩ =
 (∃ q,s=Sem.ratText q∧Sz 9000000000 q∧bif decide ((↑(Sem.natText q.num.natAbs).size:Int) > 2000) then K (AV.bool true) [] else K (AV.bool (bif false then true else decide ((↑(Sem.natText q.den).size:Int) > 2000))) []):=by kernel_rfl
end
end Go.Proofs.YtpngedkdkpfnkaaGreatDoor.Mach
end
section
set_option linter.unusedSimpArgs false
set_option linter.unusedVariables false
namespace Go.Proofs.YtpngedkdkpfnkaaGreatDoor.Lib
open Go Go.Proofs.YtpngedkdkpfnkaaGreatDoor.Mach Go.Proofs.YtpngedkdkpfnkaaGreatDoorW.PrintWords Go.Proofs.YtpngedkdkpfnkaaGreatDoor.Sem Go.Proofs.YtpngedkdkpfnkaaGreatDoor.Pure
section
section
variable {t:List Nd} {k:Int} {Q:Res}
theorem aXV (h:aK9 t k Q):Con Tryz.prog 38 [.imm aT t, .int .i64 k] Q:=by
 obtain ⟨⟨hn,hw⟩,hq⟩:=h
 refine kH (e:=eP) (l:=dD t k) ?_ hq
 refine aW (gn:=fnT Tryz.f38) (by kernel_rfl) bG (inl:=[]) (LT:=sA) (NT:=sB) rfl fun n0=>?_
 rw [bEC]
 have big:∀ i,i≤t.length→(iZ t k i).length≤720:=fun i hi=>Nat.le_trans (aLG fun j hj=>hw j (by omega)) (by omega)
 have main:=bJ (f:=38) (gn:=fnT Tryz.f38) (n0:=n0) (r:=3) (by kernel_rfl) bG (inl:=[]) (LT:=sA) (NT:=sB) (K:=aO fun v o=>v = .own 0∧∃ fz,o=[.typed eP (dD t k) fz]) (fun i:Nat=>aDD t k (t.length:Int) (i:Int) (iZ t k i)) (fun i=>t.length - i) (fun i=>i≤t.length) (fun i hi0 ih=>by
  rw [bED]
  by_cases hi:i<t.length
  · refine aC (by omega) (aY hi ?_)
    rw [Int.toNat_natCast]
    show aB _ _ _ _ _ (sC t k (i:Int) (t.length:Int) (i:Int) (aK t i) ((aK t i).length:Int) 0 (iZ t k i))
    have b:=big i (by omega)
    have w:=hw i hi
    have inner:=bJ (f:=38) (gn:=fnT Tryz.f38) (n0:=n0) (r:=6) (by kernel_rfl) bG (inl:=[]) (LT:=sA) (NT:=sB) (K:=aO fun v o=>v = .own 0∧∃ fz,o=[.typed eP (dD t k) fz]) (fun c:Nat=>sC t k (i:Int) (t.length:Int) (i:Int) (aK t i) ((aK t i).length:Int) (c:Int) (iZ t k i ++ fV (aK t i) i k c)) (fun c=>(aK t i).length - c) (fun c=>c≤(aK t i).length) (fun c hc0 ih2=>by
        rw [bEE]
        have b2:=aDJ (aK t i) i k c
        by_cases hc:c<(aK t i).length
        · refine aC (by omega) (aY hc ?_)
          rw [Int.toNat_natCast,wrS hc (by omega)]
          have ih3:=ih2 (c+1) (by omega) (by omega)
          have e:fV (aK t i) i k (c+1)=if (aK t i).getD c 0=k then fV (aK t i) i k c ++ [((i:Int),(c:Int))] else fV (aK t i) i k c:=rfl
          rw [e] at ih3
          by_cases hk:(aK t i).getD c 0=k
          · rw [if_pos hk,← List.append_assoc] at ih3
            exact aC hk (aS (g8 (by rw [List.length_append]; simp; omega) (by decide)) ih3)
          · rw [if_neg hk] at ih3
            exact aE hk ih3
        · have hcc:c=(aK t i).length:=by omega
          refine aE (by omega) ?_
          rw [wrS hi (by omega),hcc]
          exact ih (i+1) (by omega) (by omega))
    have:=inner 0 (Nat.zero_le _)
    rw [show fV (aK t i) i k 0=[] from rfl,List.append_nil] at this
    exact this
  · have hii:i=t.length:=by omega
    subst hii
    exact aE (by omega) (iR rfl ⟨rfl,false,rfl⟩))
 exact main 0 (Nat.zero_le _)
end
theorem bFJ {s:ByteArray} {Q:Res} (h:xbig s Q):Con Tryz.prog 77 [.str s] Q:=by
 obtain ⟨q,rfl,hs,hq⟩:=h
 refine aW (gn:=fnT Tryz.f77) (by kernel_rfl) v2 (inl:=[]) (LT:=aXT) (NT:=aXU) rfl fun n0=>?_
 rw [bFI]
 refine ⟨q,rfl,hs,?_⟩
 have e1:(natText q.num.natAbs).size=szN q:=rfl
 have e2:(natText q.den).size=szD q:=rfl
 rw [e1,e2]
 by_cases h1:szN q > 2000
 · refine aC (by omega) (oC ?_)
   rw [decide_eq_true (show szN q > 2000∨szD q > 2000 from .inl h1)] at hq
   exact hq
 · refine aE (by omega) (oC ?_)
   rw [cond_false]
   by_cases h2:szD q > 2000
   · rw [decide_eq_true (show szN q > 2000∨szD q > 2000 from .inr h2)] at hq
     rw [decide_eq_true (by omega)]; exact hq
   · rw [decide_eq_false (show ¬ (szN q > 2000∨szD q > 2000) by omega)] at hq
     rw [decide_eq_false (by omega)]; exact hq
theorem aLH : ∀ g xs Q,aDG g xs Q→Con Tryz.prog g xs Q:=cH fun p hp=>by
 simp only [List.mem_cons,List.not_mem_nil,or_false] at hp
 rcases hp with rfl | rfl | rfl | rfl
 · exact bF fun _ _ h=>aWS h
 · exact bA fun _ _ _ h=>aCY h
 · exact bF fun _ _ h=>bFJ h
 · exact bF fun _ _ h=>bC9 h
section
variable {l:List ByteArray} {Q:Res}
theorem aXW (h:256<l.length):cL l=2:=by
 have e:fZ l=2:=by unfold fZ jW; simp only [if_pos h]; rfl
 unfold cL; rw [e]; rfl
theorem aXX (h:¬ 256<l.length) (h1:dX l≠0):cL l=dX l:=by
 have e:fZ l=dX l:=by unfold fZ jW; simp only [if_neg h]; rw [if_neg h1]
 unfold cL; rw [e,if_pos h1]
theorem bFK (h:¬ 256<l.length) (h1:dX l=0) (h2:gI 0 l=none):cL l=2:=by
 have e:fZ l=2:=by unfold fZ jW; simp only [if_neg h]; rw [if_pos h1,h2]; rfl
 unfold cL; rw [e]; rfl
theorem bFL {q:Rat} (h:¬ 256<l.length) (h1:dX l=0) (h2:gI 0 l=some q):cL l=if v4 l=true then 4 else if ratText q=⟨#[49]⟩ then 0 else 3:=by
 have e:fZ l=0:=by unfold fZ jW; simp only [if_neg h]; rw [if_pos h1,h2]; rfl
 have e2:jX l=ratText q:=by unfold jX jW; simp only [if_neg h]; rw [if_pos h1,h2]
 unfold cL; rw [e,e2,if_neg (fun h=>h rfl)]
theorem aXY (h:rT l Q):Con Tryz.prog 41 [.imm eS l] Q:=by
 obtain ⟨ht,hq⟩:=h
 have hk:∀ e H,cL l=e→aO Q (.int .i64 e) H:=fun e H h1=>by rw [h1] at hq; exact dI hq
 refine aW (gn:=fnT Tryz.f41) (by kernel_rfl) aLH (inl:=[]) (LT:=sL) (NT:=sM) rfl fun n0=>?_
 rw [bES]
 by_cases h1:256<l.length
 · exact aC (by omega) (hk _ _ (aXW h1))
 refine aE (by omega) ⟨ht,?_⟩
 by_cases h0:dX l=0
 · refine aP (aC h0 ?_)
   have loop15:∀ q,gI 0 l=some q→aB Tryz.prog n0 41 (aO Q) (aD (fnT Tryz.f41) 15) (wI l (ratText q) (l.length:Int) ((0:Nat):Int)):=fun q hsum=>by
    refine bJ (f:=41) (gn:=fnT Tryz.f41) (n0:=n0) (r:=15) (by kernel_rfl) aLH (inl:=[]) (LT:=sL) (NT:=sM) (K:=aO Q) (fun x:Nat=>wI l (ratText q) (l.length:Int) (x:Int)) (fun x=>l.length - x) (fun x=>x≤l.length∧∀ y,y<x→¬ sgn (bQ (l.getD y ByteArray.empty))<0) (fun x hpre ih=>?_) 0 ⟨Nat.zero_le _,fun y hy=>absurd hy (Nat.not_lt_zero _)⟩
    obtain ⟨hxl,hneg⟩:=hpre
    have e:=bFL h1 h0 hsum
    rw [bEU]
    by_cases hx:x<l.length
    · refine aC (by omega) (aY hx ?_)
      rw [Int.toNat_natCast,wrS hx (by omega)]
      obtain ⟨a1,a2⟩:=rX h0 hx
      refine ⟨_,a1,a2.mono (by decide),?_⟩
      by_cases hc:sgn (bQ (l.getD x ByteArray.empty))<0
      · rw [if_pos (aWX hx hc)] at e
        exact aC hc (hk _ _ e)
      · refine aE hc (ih (x+1) ⟨by omega,fun y hy=>?_⟩ (by omega))
        by_cases hyx:y=x
        · rw [hyx]; exact hc
        · exact hneg y (by omega)
    · have hxx:x=l.length:=by omega
      subst hxx
      rw [aWY hneg,if_neg (by decide)] at e
      refine aE (by omega) ?_
      by_cases h2:ratText q=⟨#[49]⟩
      · rw [if_pos h2] at e
        exact aP (aS (lH.2 h2) (hk _ _ e))
      · rw [if_neg h2] at e
        exact aP (aZ (fun h=>h2 (lH.1 h)) (hk _ _ e))
   have step:∀ {x:Nat} {q:Rat},x<l.length→gI q (l.drop x)=if dG (q+bQ (l.getD x ByteArray.empty))=0 then gI (q+bQ (l.getD x ByteArray.empty)) (l.drop (x+1)) else none:=fun {x q} hx=>by
    rw [aWV hx]; rfl
   have main:=bJ (f:=41) (gn:=fnT Tryz.f41) (n0:=n0) (r:=8) (by kernel_rfl) aLH (inl:=[]) (LT:=sL) (NT:=sM) (K:=aO Q) (fun y:Nat × Rat=>wH l (ratText y.2) (l.length:Int) (y.1:Int)) (fun y=>l.length - y.1) (fun y=>y.1≤l.length∧Sz 2000 y.2∧gI y.2 (l.drop y.1)=gI 0 l) (fun y hp ih=>by
    obtain ⟨x,q⟩:=y
    obtain ⟨hp,sq,he⟩:=hp
    simp only at hp sq he
    show aF _ _ _ _ _ _ (wH l (ratText q) (l.length:Int) (x:Int))
    rw [bET]
    by_cases hx:x<l.length
    · refine aC (by omega) (aY hx ?_)
      rw [Int.toNat_natCast,wrS hx (by omega)]
      obtain ⟨a1,a2⟩:=rX h0 hx
      rw [step hx] at he
      refine ⟨_,_,rfl,a1,sq.mono (by decide),a2.mono (by decide),_,rfl,(aKX (sq.mono (by decide)) (a2.mono (by decide))).mono (by decide),?_⟩
      by_cases hf:dG (q+bQ (l.getD x ByteArray.empty))=0
      · rw [if_pos hf] at he
        have sf:=aK1 hf
        refine aE (fun hc=>?_) (ih (x+1,q+bQ (l.getD x ByteArray.empty)) ⟨by show x+1≤l.length; omega,sf,he⟩ (by show l.length - (x+1)<l.length - x; omega))
        have:=sf.1; have:=sf.2
        rcases hc with hc | hc <;> omega
      · rw [if_neg hf] at he
        refine aC ?_ (hk _ _ (bFK h1 h0 he.symm))
        exact Decidable.not_not.1 fun hc=>hf (rW ⟨by omega,by omega⟩)
    · rw [List.drop_eq_nil_of_le (by omega)] at he
      exact aE (by omega) (loop15 q he.symm))
   have:=main (0,0) ⟨Nat.zero_le _,mI.mono (by decide),by rw [List.drop_zero]⟩
   rw [show (⟨#[48]⟩:ByteArray)=ratText 0 from n8.symm]
   exact this
 · exact aP (aE h0 (hk _ _ (aXX h1 h0)))
end
theorem bFM : ∀ g xs Q,aW7 g xs Q→Con Tryz.prog g xs Q:=cH fun p hp=>by
 simp only [List.mem_cons,List.not_mem_nil,or_false] at hp
 rcases hp with rfl | rfl | rfl
 · exact bA fun _ _ _ h=>bEN h
 · exact bF fun _ _ h=>aWO h
 · exact bF fun _ _ h=>aXY h
section
variable {t:List Nd} {i k p:Int} {Q:Res}
theorem aXZ (h:r9 t i Q):Con Tryz.prog 37 [.imm aT t, .int .i64 i] Q:=by
 obtain ⟨⟨ht,i0,i1⟩,hq⟩:=h
 have hx:TxNd (t.getD i.toNat nd0):=ht.2 _ (d8 (by omega))
 have hk:∀ e H,fU t i.toNat=e→aO Q (.int .i64 e) H:=fun e H h1=>by rw [h1] at hq; exact dI hq
 refine aW (gn:=fnT Tryz.f37) (by kernel_rfl) bFM (inl:=[]) (LT:=aXL) (NT:=aXM) rfl fun n0=>?_
 rw [bEV]
 refine aV (aC i0 (aC i1 ?_))
 unfold fU at hk
 have e0:nd0=(0,0,0,[],[],ByteArray.empty):=rfl
 rw [e0] at hk hx
 clear e0
 generalize t.getD i.toNat (0,0,0,[],[],ByteArray.empty)=x at *
 obtain ⟨kd,pl,inf,nx,od,py⟩:=x
 obtain ⟨x1,x2,x3⟩:=hx
 simp only at hk x1 x2 x3 ⊢
 have hInT:InT i t:=⟨i0,i1⟩
 have hw:IntKind.i64.wrap ((nx.length:Int)+(od.length:Int))=(nx.length:Int)+(od.length:Int):=wr (by omega) (by have:=x2.1; omega)
 have hpy:(py.toList == (ByteArray.mk #[]).toList)=decide (py=⟨#[]⟩):=by
  by_cases h:py=⟨#[]⟩
  · rw [decide_eq_true h,h,beq_self_eq_true]
  · rw [decide_eq_false h]; exact beq_eq_false_iff_ne.2 (aK8 h)
 unfold sN
 rw [hw,hpy]
 by_cases k0:kd=0
 · subst k0
   by_cases c1:pl=0
   · subst c1
     by_cases c2:inf=0
     · subst c2
       by_cases c3:(nx.length:Int)+(od.length:Int) > 0
       · simp only [decide_true,decide_false,cond_true,cond_false,Bool.not_true,Bool.not_false,decide_eq_true c3]
         exact hk _ _ (by rw [if_pos rfl,if_pos (by omega)])
       · simp only [decide_true,decide_false,cond_true,cond_false,Bool.not_true,Bool.not_false,decide_eq_false c3]
         exact ⟨x3,hk _ _ (by rw [if_pos rfl,if_neg (by omega)])⟩
     · simp only [decide_true,decide_false,cond_true,cond_false,Bool.not_true,Bool.not_false,decide_eq_false c2]
       exact hk _ _ (by rw [if_pos rfl,if_pos (.inr (.inl c2))])
   · simp only [decide_true,decide_false,cond_true,cond_false,Bool.not_true,Bool.not_false,decide_eq_false c1]
     exact hk _ _ (by rw [if_pos rfl,if_pos (.inl c1)])
 by_cases k1:kd=1
 · subst k1
   by_cases c1:pl=0
   · subst c1
     by_cases c2:inf=0
     · subst c2
       by_cases c3:py=⟨#[]⟩
       · by_cases c4:bR t i.toNat=0
         · by_cases c5:(od.length:Int)=(nx.length:Int)
           · simp [c3,c4,c5]
             refine ⟨hInT,x2,hk _ _ ?_⟩
             simp [c3,c4]; omega
           · simp [c3,c4,c5]
             refine ⟨hInT,hk _ _ ?_⟩
             simp [c3,c4]; omega
         · simp [c3,c4]
           exact ⟨hInT,hk _ _ (by simp [c3,c4])⟩
       · simp [c3]
         exact hk _ _ (by simp [c3])
     · simp [c2]
       exact hk _ _ (by simp [c2])
   · simp [c1]
     exact hk _ _ (by simp [c1])
 by_cases k2:kd=2
 · subst k2
   by_cases c1:0<od.length
   · have c1' : (od.length:Int) > 0:=by omega
     have hk' := fun H=>hk 3 H (by simp [c1])
     have c1e:od≠[]:=List.length_pos_iff.1 c1
     by_cases d1:pl=0 <;> by_cases d2:inf=0 <;> simp [c1', c1e,d1,d2,hk']
   · have c0:od=[]:=List.length_eq_zero_iff.1 (by omega)
     subst c0
     by_cases c3:py=⟨#[]⟩
     · subst c3
       by_cases c4:pl<0∨1<pl∨inf<0∨10≤inf
       · have hk' := fun H=>hk 4 H (by simp [c4])
         by_cases p0:pl=0
         · subst p0
           have d2:inf≠0:=by omega
           by_cases d3:inf<0
           · simp [d2,d3,hk']
           · have d4:inf > 9:=by omega
             simp [d2,d3,d4,hk']
         · by_cases p1:pl=1
           · subst p1
             have d2:inf≠0:=by omega
             by_cases d3:inf<0
             · simp [d2,d3,hk']
             · have d4:inf > 9:=by omega
               simp [d2,d3,d4,hk']
           · by_cases d2:inf=0 <;> simp [p0,p1,d2,hk']
       · have hk' := fun H=>hk (bR t i.toNat) H (by simp [c4])
         have d3:¬ inf<0:=by omega
         have d4:¬ inf > 9:=by omega
         have hp:pl=0∨pl=1:=by omega
         by_cases d2:inf=0 <;> by_cases d5:bR t i.toNat=0 <;> rcases hp with rfl | rfl <;> simp [d2,d3,d4,d5] <;> first | exact ⟨hInT,hk' _⟩ | exact ⟨hInT,by rw [← d5]; exact hk' _⟩
     · have hk' := fun H=>hk 3 H (by simp [c3])
       by_cases d1:pl=0 <;> by_cases d2:inf=0 <;> simp [c3,d1,d2,hk']
 · have hk' := fun H=>hk 1 H (by simp [k0,k1,k2])
   by_cases d6:kd<0
   · by_cases d1:pl=0 <;> by_cases d2:inf=0 <;> simp [k0,k1,k2,d6,d1,d2,hk']
   · have d7:kd > 2:=by omega
     by_cases d1:pl=0 <;> by_cases d2:inf=0 <;> simp [k0,k1,k2,d6,d7,d1,d2,hk']
end
theorem sR : ∀ g xs Q,oD g xs Q→Con Tryz.prog g xs Q:=cH fun p hp=>by
 simp only [List.mem_cons,List.not_mem_nil,or_false] at hp
 rcases hp with rfl | rfl
 · exact bA fun _ _ _ h=>aXA h
 · exact bA fun _ _ _ h=>aXZ h
section
variable {t:List Nd} {Q:Res}
def oH (t:List Nd) (i c:Nat) (xs:List Int):Prop:=xs.length=t.length∧∀ k:Nat,k<t.length→xs.getD k 0=(((iZ t (k:Int) i).length+(fV (aK t i) i (k:Int) c).length:Nat):Int)
theorem bFN {i c:Nat} {xs:List Int} (h:oH t i c xs) {m:Nat} (hm:(aK t i).getD c 0=(m:Int)) (hml:m<t.length):oH t i (c+1) (xs.set m (xs.getD m 0+1)):=by
 obtain ⟨h1,h2⟩:=h
 refine ⟨by rw [List.length_set]; exact h1,fun k hk=>?_⟩
 have e:fV (aK t i) i (k:Int) (c+1)=if (aK t i).getD c 0=(k:Int) then fV (aK t i) i (k:Int) c ++ [((i:Int),(c:Int))] else fV (aK t i) i (k:Int) c:=rfl
 rw [e,List.getD_eq_getElem?_getD,List.getElem?_set]
 by_cases hmk:m=k
 · subst hmk
   rw [if_pos rfl,if_pos (by omega),if_pos hm,List.length_append,Option.getD_some,h2 m hk]
   simp; omega
 · rw [if_neg hmk,if_neg (by rw [hm]; omega),← List.getD_eq_getElem?_getD,h2 k hk]
theorem bFO {i:Nat} {xs:List Int} (h:oH t i (aK t i).length xs):oH t (i+1) 0 xs:=⟨h.1,fun k hk=>by
 rw [h.2 k hk]
 show _=(((iZ t (k:Int) i ++ fV (aK t i) i (k:Int) (aK t i).length).length+0:Nat):Int)
 rw [List.length_append]; rfl⟩
def mO (t:List Nd) (i j:Nat):Prop:=(t.getD i nd0).1=2→(t.getD j nd0).1=2→(t.getD i nd0).2.1=(t.getD j nd0).2.1→(t.getD i nd0).2.2.1=(t.getD j nd0).2.2.1→(aK t i).length=(aK t j).length
theorem bFP (h:∀ i j,i<t.length→j<i→mO t i j):sG t:=fun i j hi hj a b c d=>by
 rcases Nat.lt_trichotomy i j with hl | hl | hl
 · exact (h j i hj hl b a c.symm d.symm).symm
 · rw [hl]
 · exact h i j hi hl a b c d
theorem aX0 {i j:Nat} (hi:i<t.length) (hj:j<t.length) (h:¬ mO t i j):¬ sG t:=fun hs=>h fun a b c d=>hs i j hi hj a b c d
theorem bFQ {i j:Nat} (hj:j<i):(t.take i).getD j ((0:Int),(0:Int),(0:Int),([]:List Int),([]:List ByteArray),ByteArray.empty)=t.getD j nd0:=by
 show (t.take i).getD j nd0=_
 rw [List.getD_eq_getElem?_getD,List.getD_eq_getElem?_getD,List.getElem?_take,if_pos hj]
theorem aX1 (h:120<t.length):cF t=2:=by unfold cF; rw [if_pos h]
theorem aX2 (h:t.length=0):cF t=8:=by unfold cF; rw [if_neg (by omega),if_pos h]
theorem aX3 (h1:¬ 120<t.length) {i:Nat} (hi:i<t.length) (hz:fK t i=0) (hb:fU t i≠0):cF t=fU t i:=by
 have:=aXK hz hb t.length hi
 unfold cF; rw [if_neg h1,if_neg (by omega),if_pos (by rw [this]; exact hb),this]
theorem aDZ (h1:¬ 120<t.length) (h0:¬ t.length=0) (hz:fK t t.length=0) (hb:¬ (sF t∧sG t)):cF t=3:=by
 unfold cF; rw [if_neg h1,if_neg h0,if_neg (fun h=>h hz),if_neg hb]
theorem aX4 (h1:¬ 120<t.length) (h0:¬ t.length=0) (hz:fK t t.length=0) (ho:sF t) (hs:sG t):cF t=0:=by
 unfold cF; rw [if_neg h1,if_neg h0,if_neg (fun h=>h hz),if_pos ⟨ho,hs⟩]
theorem aX5 (h:sH t Q):Con Tryz.prog 42 [.imm aT t] Q:=by
 obtain ⟨ht,hq⟩:=h
 have hk:∀ e H,cF t=e→aO Q (.int .i64 e) H:=fun e H h1=>by rw [h1] at hq; exact dI hq
 refine aW (gn:=fnT Tryz.f42) (by kernel_rfl) sR (inl:=[]) (LT:=jL) (NT:=jM) rfl fun n0=>?_
 rw [bEF]
 by_cases h1:120<t.length
 · exact aC (by omega) (hk _ _ (aX1 h1))
 refine aE (by omega) ?_
 by_cases h0:t.length=0
 · exact aC (by omega) (hk _ _ (aX2 h0))
 refine aE (by omega) ?_
 -- the widths
 have loop25 : fK t t.length=0→sF t→aB Tryz.prog n0 42 (aO Q) (aD (fnT Tryz.f42) 25) (wD t (t.length:Int) ((0:Nat):Int)):=fun hz ho =>
  bJ (f:=42) (gn:=fnT Tryz.f42) (n0:=n0) (r:=25) (by kernel_rfl) sR (inl:=[]) (LT:=jL) (NT:=jM) (K:=aO Q) (fun i:Nat=>wD t (t.length:Int) (i:Int)) (fun i=>t.length - i) (fun i=>i≤t.length∧∀ i' j,i' < i→j<i' → mO t i' j) (fun i hp ih=>by
   obtain ⟨hi0,hw⟩:=hp
   rw [bEJ]
   by_cases hi:i<t.length
   · refine aC (by omega) (aY hi (aV (aC (by omega) (aC (by omega) ?_))))
     rw [Int.toNat_natCast]
     have hl:(t.take i).length=i:=by rw [List.length_take]; omega
     have inner:=bJ (f:=42) (gn:=fnT Tryz.f42) (n0:=n0) (r:=28) (by kernel_rfl) sR (inl:=[]) (LT:=jL) (NT:=jM) (K:=aO Q) (fun j:Nat=>lI t (t.length:Int) (i:Int) (t.take i) ((t.take i).length:Int) (j:Int) (t.getD i nd0).1 (t.getD i nd0).2.1 (t.getD i nd0).2.2.1 (t.getD i nd0).2.2.2.1 (t.getD i nd0).2.2.2.2.1 (t.getD i nd0).2.2.2.2.2) (fun j=>i - j) (fun j=>j≤i∧∀ j', j' < j→mO t i j') (fun j hp2 ih2=>by
        obtain ⟨hj0,hw2⟩:=hp2
        rw [bEK]
        by_cases hj:j<i
        · refine aC (by omega) (aY (by omega) ?_)
          rw [Int.toNat_natCast,wrS hj (by omega),bFQ hj]
          have go:mO t i j→aB Tryz.prog n0 42 (aO Q) (aD (fnT Tryz.f42) 28) (lI t (t.length:Int) (i:Int) (t.take i) ((t.take i).length:Int) ((j+1:Nat):Int) (t.getD i nd0).1 (t.getD i nd0).2.1 (t.getD i nd0).2.2.1 (t.getD i nd0).2.2.2.1 (t.getD i nd0).2.2.2.2.1 (t.getD i nd0).2.2.2.2.2):=fun hpw=>ih2 (j+1) ⟨by omega,fun j' hj' => by
             by_cases hjj:j' = j
             · rw [hjj]; exact hpw
             · exact hw2 j' (by omega)⟩ (by omega)
          by_cases c1:(t.getD i nd0).1=2
          · refine aC c1 ?_
            by_cases c2:(t.getD j nd0).1=2
            · refine gU c2 ?_
              by_cases c3:(t.getD i nd0).2.1=(t.getD j nd0).2.1
              · refine gU c3 ?_
                by_cases c4:(t.getD i nd0).2.2.1=(t.getD j nd0).2.2.1
                · refine gU c4 ?_
                  rw [cond_true]
                  by_cases c5:(aK t i).length=(aK t j).length
                  · refine aP (aC (by unfold aK at c5; omega) (go fun _ _ _ _=>c5))
                  · refine aP (aE (by unfold aK at c5; omega) (hk _ _ (aDZ h1 h0 hz fun hc=>aX0 hi (by omega) (fun hpw=>c5 (hpw c1 c2 c3 c4)) hc.2)))
                · exact i3 c4 (go fun _ _ _ d=>absurd d c4)
              · exact i3 c3 (go fun _ _ c _=>absurd c c3)
            · exact i3 c2 (go fun _ b _ _=>absurd b c2)
          · exact aE c1 (go fun a _ _ _=>absurd a c1)
        · refine aE (by omega) ?_
          rw [wrS hi (by omega)]
          exact ih (i+1) ⟨by omega,fun i' j' hi' hj' => by
             by_cases hii:i' = i
             · rw [hii] at hj' ⊢; exact hw2 j' (by omega)
             · exact hw i' j' (by omega) hj'⟩ (by omega))
     exact inner 0 ⟨Nat.zero_le _,fun j' hj' => absurd hj' (Nat.not_lt_zero _)⟩
   · exact aE (by omega) (hk _ _ (aX4 h1 h0 hz ho (bFP fun i' j hi' hj=>hw i' j (by omega) hj)))) 0 ⟨Nat.zero_le _,fun i' j hi' => absurd hi' (Nat.not_lt_zero _)⟩
 -- one parent each
 have loop19:fK t t.length=0→∀ xs,oH t t.length 0 xs→aB Tryz.prog n0 42 (aO Q) (aD (fnT Tryz.f42) 19) (sE t (xs.length:Int) ((0:Nat):Int) xs):=fun hz xs hc =>
  bJ (f:=42) (gn:=fnT Tryz.f42) (n0:=n0) (r:=19) (by kernel_rfl) sR (inl:=[]) (LT:=jL) (NT:=jM) (K:=aO Q) (fun i:Nat=>sE t (xs.length:Int) (i:Int) xs) (fun i=>t.length - i) (fun i=>i≤t.length∧∀ j:Nat,1≤j→j<i→(dD t (j:Int)).length=1) (fun i hp ih=>by
   obtain ⟨hi0,hw⟩:=hp
   have hxl:=hc.1
   rw [bEI]
   by_cases hi:i<t.length
   · have hci:=hc.2 i hi
     have hci' : xs.getD i 0=((dD t (i:Int)).length:Int):=hci
     refine aC (by omega) (aY (by omega) ?_)
     rw [Int.toNat_natCast,wrS hi (by omega)]
     by_cases c0:0<i
     · refine aC (by omega) ?_
       rw [cond_true]
       by_cases c1:(dD t (i:Int)).length=1
       · refine aP (aC (by omega) (ih (i+1) ⟨by omega,fun j hj1 hj2=>?_⟩ (by omega)))
         by_cases hji:j=i
         · rw [hji]; exact c1
         · exact hw j hj1 (by omega)
       · exact aP (aE (by omega) (hk _ _ (aDZ h1 h0 hz fun hc2=>c1 (hc2.1 i (by omega) hi))))
     · refine aE (by omega) (ih (i+1) ⟨by omega,fun j hj1 hj2=>by omega⟩ (by omega))
   · exact aE (by omega) (loop25 hz fun j hj1 hj2=>hw j hj1 (by omega))) 0 ⟨Nat.zero_le _,fun j _ hj=>absurd hj (Nat.not_lt_zero _)⟩
 -- the nodes
 have loop7:=bJ (f:=42) (gn:=fnT Tryz.f42) (n0:=n0) (r:=7) (by kernel_rfl) sR (inl:=[]) (LT:=jL) (NT:=jM) (K:=aO Q) (fun y:Nat × List Int=>wC t (t.length:Int) (y.1:Int) y.2) (fun y=>t.length - y.1) (fun y=>y.1≤t.length∧fK t y.1=0∧oH t y.1 0 y.2) (fun y hp ih=>by
  obtain ⟨i,xs⟩:=y
  obtain ⟨hi0,hz,hc⟩:=hp
  simp only at hi0 hz hc
  show aF _ _ _ _ _ _ (wC t (t.length:Int) (i:Int) xs)
  rw [bEG]
  by_cases hi:i<t.length
  · refine aC (by omega) (aY hi ⟨⟨ht,by omega,by omega⟩,?_⟩)
    rw [Int.toNat_natCast]
    by_cases hn:fU t i=0
    · have N:=aDK hn
      have hw:=N.w
      refine aP (aC hn ?_)
      show aB _ _ _ _ _ (sD t (t.length:Int) (i:Int) (aK t i) ((aK t i).length:Int) ((0:Nat):Int) xs)
      refine bJ (f:=42) (gn:=fnT Tryz.f42) (n0:=n0) (r:=13) (by kernel_rfl) sR (inl:=[]) (LT:=jL) (NT:=jM) (K:=aO Q) (fun z:Nat × List Int=>sD t (t.length:Int) (i:Int) (aK t i) ((aK t i).length:Int) (z.1:Int) z.2) (fun z=>(aK t i).length - z.1) (fun z=>z.1≤(aK t i).length∧oH t i z.1 z.2) (fun z hp2 ih2=>?_) (0,xs) ⟨Nat.zero_le _,hc⟩
      obtain ⟨c,zs⟩:=z
      obtain ⟨hc0,hcz⟩:=hp2
      simp only at hc0 hcz
      have hzl:=hcz.1
      show aF _ _ _ _ _ _ (sD t (t.length:Int) (i:Int) (aK t i) ((aK t i).length:Int) (c:Int) zs)
      rw [bEH]
      by_cases hcl:c<(aK t i).length
      · have K:=N.kid c hcl
        obtain ⟨m,hm⟩:∃ m:Nat,(aK t i).getD c 0=(m:Int):=⟨((aK t i).getD c 0).toNat,by omega⟩
        rw [hm] at K
        refine aC (by omega) (aY hcl ?_)
        rw [Int.toNat_natCast,hm,Int.toNat_natCast,wrS hcl (by omega)]
        have hcm:=hcz.2 m (by omega)
        have b1:=aLG (t:=t) (k:=(m:Int)) (n:=i) fun j hj=>(aDK (wG.1 hz j hj)).w
        have b2:=aDJ (aK t i) i (m:Int) c
        refine aY (by omega) (aY (by omega) ?_)
        rw [wr (n:=zs.getD m 0+1) (by omega) (by omega)]
        exact ih2 (c+1,zs.set m (zs.getD m 0+1)) ⟨by show c+1≤_; omega,bFN hcz hm (by omega)⟩ (by show _ - (c+1)<_ - c; omega)
      · have hcc:c=(aK t i).length:=by omega
        subst hcc
        refine aE (by omega) ?_
        rw [wrS hi (by omega)]
        exact ih (i+1,zs) ⟨by show i+1≤_; omega,by unfold fK; rw [if_pos hz]; exact hn,bFO hcz⟩ (by show _ - (i+1)<_ - i; omega)
    · exact aP (aE hn (hk _ _ (aX3 h1 hi hz hn)))
  · have hii:i=t.length:=by omega
    subst hii
    exact aE (by omega) (loop19 hz xs hc))
 have k1:=aDH (n:=t.length) (b:=8) (by omega) (by decide)
 simp only [Int.toNat_natCast] at k1 ⊢
 refine aS k1 ?_
 exact loop7 (0,List.replicate t.length 0) ⟨Nat.zero_le _,rfl,List.length_replicate,fun k hk=>by
  rw [List.getD_eq_getElem?_getD,List.getElem?_replicate,if_pos hk]; rfl⟩
end
end
end Go.Proofs.YtpngedkdkpfnkaaGreatDoor.Lib
end
