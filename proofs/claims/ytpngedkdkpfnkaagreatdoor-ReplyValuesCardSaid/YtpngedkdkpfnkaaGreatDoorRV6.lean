/- Texts of this session, put together. -/
import Derived.Test.YtpngedkdkpfnkaaGreatDoorRV5
section
set_option linter.unusedSimpArgs false
set_option linter.unusedVariables false
namespace Go.Proofs.YtpngedkdkpfnkaaGreatDoor.Lib
open Go Go.Proofs.YtpngedkdkpfnkaaGreatDoor.Mach Go.Proofs.YtpngedkdkpfnkaaGreatDoorW.PrintWords Go.Proofs.YtpngedkdkpfnkaaGreatDoor.Sem Go.Proofs.YtpngedkdkpfnkaaGreatDoor.Pure
section
theorem wO : ∀ g xs Q,sK g xs Q→Con Tryz.prog g xs Q:=cH fun p hp=>by
 simp only [List.mem_cons,List.not_mem_nil,or_false] at hp
 rcases hp with rfl | rfl | rfl
 · exact bA fun _ _ _ h=>aXA h
 · exact bA fun _ _ _ h=>aXZ h
 · exact bA fun _ _ _ h=>aXV h
section
variable {t:List Nd} {k p:Int} {Q:Res}
theorem aX6 (h:sH t Q):Con Tryz.prog 11 [.imm aT t] Q:=by
 obtain ⟨ht,hq⟩:=h
 have hk:∀ e H,cF t=e→aO Q (.int .i64 e) H:=fun e H h1=>by rw [h1] at hq; exact dI hq
 refine aW (gn:=fnT Tryz.f11) (by kernel_rfl) wO (inl:=[]) (LT:=kP) (NT:=kQ) rfl fun n0=>?_
 rw [bEW]
 by_cases h1:120<t.length
 · exact aC (by omega) (hk _ _ (aX1 h1))
 refine aE (by omega) ?_
 by_cases h0:t.length=0
 · exact aC (by omega) (hk _ _ (aX2 h0))
 refine aE (by omega) ?_
 have loop18 : fK t t.length=0→sF t→aB Tryz.prog n0 11 (aO Q) (aD (fnT Tryz.f11) 18) (wK t (t.length:Int) ((0:Nat):Int)):=fun hz ho =>
  bJ (f:=11) (gn:=fnT Tryz.f11) (n0:=n0) (r:=18) (by kernel_rfl) wO (inl:=[]) (LT:=kP) (NT:=kQ) (K:=aO Q) (fun i:Nat=>wK t (t.length:Int) (i:Int)) (fun i=>t.length - i) (fun i=>i≤t.length∧∀ i' j,i' < i→j<t.length→mO t i' j) (fun i hp ih=>by
   obtain ⟨hi0,hw⟩:=hp
   rw [bEZ]
   by_cases hi:i<t.length
   · refine aC (by omega) (aY hi ?_)
     rw [Int.toNat_natCast]
     have inner:=bJ (f:=11) (gn:=fnT Tryz.f11) (n0:=n0) (r:=21) (by kernel_rfl) wO (inl:=[]) (LT:=kP) (NT:=kQ) (K:=aO Q) (fun j:Nat=>kR t (i:Int) (t.length:Int) (i:Int) (t.length:Int) (j:Int) (t.getD i nd0).1 (t.getD i nd0).2.1 (t.getD i nd0).2.2.1 (t.getD i nd0).2.2.2.1 (t.getD i nd0).2.2.2.2.1 (t.getD i nd0).2.2.2.2.2) (fun j=>t.length - j) (fun j=>j≤t.length∧∀ j', j' < j→mO t i j') (fun j hp2 ih2=>by
        obtain ⟨hj0,hw2⟩:=hp2
        rw [bE0]
        by_cases hj:j<t.length
        · refine aC (by omega) (aY (by omega) ?_)
          rw [Int.toNat_natCast,Int.toNat_natCast,wrS hj (by omega)]
          have go:mO t i j→aB Tryz.prog n0 11 (aO Q) (aD (fnT Tryz.f11) 21) (kR t (i:Int) (t.length:Int) (i:Int) (t.length:Int) ((j+1:Nat):Int) (t.getD i nd0).1 (t.getD i nd0).2.1 (t.getD i nd0).2.2.1 (t.getD i nd0).2.2.2.1 (t.getD i nd0).2.2.2.2.1 (t.getD i nd0).2.2.2.2.2):=fun hpw=>ih2 (j+1) ⟨by omega,fun j' hj' => by
             by_cases hjj:j' = j
             · rw [hjj]; exact hpw
             · exact hw2 j' (by omega)⟩ (by omega)
          by_cases c1:(t.getD i nd0).1=2
          · refine aC c1 ?_
            by_cases c2:(t.getD j nd0).1=2
            · refine gU c2 ?_
              by_cases c3:(t.getD i nd0).2.1=(t.getD j nd0).2.1
              · refine gU c3 (aY hi (gU rfl ?_))
                by_cases c4:(t.getD j nd0).2.2.1=(t.getD i nd0).2.2.1
                · refine gU c4 ?_
                  rw [cond_true]
                  by_cases c5:(aK t i).length=(aK t j).length
                  · refine aP (aC (congrArg (fun n:Nat=>(n:Int)) c5) (go fun _ _ _ _=>c5))
                  · refine aP (aE (fun h=>c5 (Int.ofNat_inj.1 h)) (hk _ _ (aDZ h1 h0 hz fun hc=>aX0 hi hj (fun hpw=>c5 (hpw c1 c2 c3 c4.symm)) hc.2)))
                · exact i3 c4 (go fun _ _ _ d=>absurd d.symm c4)
              · exact i3 c3 (go fun _ _ c _=>absurd c c3)
            · exact i3 c2 (go fun _ b _ _=>absurd b c2)
          · exact aE c1 (go fun a _ _ _=>absurd a c1)
        · refine aE (by omega) ?_
          rw [wrS hi (by omega)]
          exact ih (i+1) ⟨by omega,fun i' j' hi' hj' => by
             by_cases hii:i' = i
             · rw [hii]; exact hw2 j' (by omega)
             · exact hw i' j' (by omega) hj'⟩ (by omega))
     exact inner 0 ⟨Nat.zero_le _,fun j' hj' => absurd hj' (Nat.not_lt_zero _)⟩
   · exact aE (by omega) (hk _ _ (aX4 h1 h0 hz ho fun i' j hi' hj=>hw i' j (by omega) hj))) 0 ⟨Nat.zero_le _,fun i' j hi' => absurd hi' (Nat.not_lt_zero _)⟩
 have loop13:fK t t.length=0→aB Tryz.prog n0 11 (aO Q) (aD (fnT Tryz.f11) 13) (wJ t ((1:Nat):Int)):=fun hz =>
  bJ (f:=11) (gn:=fnT Tryz.f11) (n0:=n0) (r:=13) (by kernel_rfl) wO (inl:=[]) (LT:=kP) (NT:=kQ) (K:=aO Q) (fun i:Nat=>wJ t (i:Int)) (fun i=>t.length - i) (fun i=>(1≤i∧i≤t.length)∧∀ j:Nat,1≤j→j<i→(dD t (j:Int)).length=1) (fun i hp ih=>by
   obtain ⟨⟨hi1,hi0⟩,hw⟩:=hp
   rw [bEY]
   by_cases hi:i<t.length
   · refine aC (by omega) ⟨⟨by omega,fun j hj=>(aDK (wG.1 hz j hj)).w⟩,?_⟩
     rw [wrS hi (by omega)]
     by_cases c1:(dD t (i:Int)).length=1
     · refine aP (aC (by omega) (ih (i+1) ⟨⟨by omega,by omega⟩,fun j hj1 hj2=>?_⟩ (by omega)))
       by_cases hji:j=i
       · rw [hji]; exact c1
       · exact hw j hj1 (by omega)
     · refine aP (aE (by omega) (hk _ _ (aDZ h1 h0 hz fun hc2=>c1 (hc2.1 i hi1 hi))))
   · exact aE (by omega) (loop18 hz fun j hj1 hj2=>hw j hj1 (by omega))) 1 ⟨⟨Nat.le_refl _,by omega⟩,fun j h1 hj=>by omega⟩
 exact bJ (f:=11) (gn:=fnT Tryz.f11) (n0:=n0) (r:=6) (by kernel_rfl) wO (inl:=[]) (LT:=kP) (NT:=kQ) (K:=aO Q) (fun i:Nat=>aDM t (t.length:Int) (i:Int)) (fun i=>t.length - i) (fun i=>i≤t.length∧fK t i=0) (fun i hp ih=>by
  obtain ⟨hi0,hz⟩:=hp
  rw [bEX]
  by_cases hi:i<t.length
  · refine aC (by omega) ⟨⟨ht,by omega,by omega⟩,?_⟩
    rw [Int.toNat_natCast,wrS hi (by omega)]
    by_cases hn:fU t i=0
    · exact aP (aC hn (ih (i+1) ⟨by omega,by unfold fK; rw [if_pos hz]; exact hn⟩ (by omega)))
    · exact aP (aE hn (hk _ _ (aX3 h1 hi hz hn)))
  · have hii:i=t.length:=by omega
    subst hii
    exact aE (by omega) (loop13 hz)) 0 ⟨Nat.zero_le _,rfl⟩
end
section
variable {a b l:List (Int × Int)} {Q:Res}
theorem aLI {α:Type} {d:α} {l m:List α} (hl:l.length=m.length) (h:∀ j,j<l.length→l.getD j d=m.getD j d):l=m:=by
 apply List.ext_getElem hl
 intro i h1 h2
 have:=h i h1
 rwa [List.getD_eq_getElem?_getD,List.getD_eq_getElem?_getD,List.getElem?_eq_getElem h1,List.getElem?_eq_getElem h2] at this
theorem aX7 {x y:Int × Int} {A B:Prop} (h:x=y→B) (h' : x≠y→A):bif !(bif decide (x.1=y.1) then bif decide (x.2=y.2) then true else false else false) then A else B:=by
 by_cases c1:x.1=y.1
 · by_cases c2:x.2=y.2
   · rw [decide_eq_true c1,decide_eq_true c2]; exact h (Prod.ext c1 c2)
   · rw [decide_eq_true c1,decide_eq_false c2]; exact h' fun he=>c2 (by rw [he])
 · rw [decide_eq_false c1]; exact h' fun he=>c1 (by rw [he])
theorem aX8 (h:sI a b Q):Con Tryz.prog 86 [.imm eP a, .imm eP b] Q:=by
 obtain ⟨hl,hq⟩:=h
 unfold SmL at hl
 have hk:∀ e H,aLB a b=e→aO Q (.bool e) H:=fun e H h1=>by rw [h1] at hq; exact oC hq
 refine aW (gn:=fnT Tryz.f86) (by kernel_rfl) bG (inl:=[]) (LT:=aDW) (NT:=aDX) rfl fun n0=>?_
 rw [bFD]
 by_cases h0:a.length=b.length
 · refine aP (aC (by omega) ?_)
   refine bJ (f:=86) (gn:=fnT Tryz.f86) (n0:=n0) (r:=4) (by kernel_rfl) bG (inl:=[]) (LT:=aDW) (NT:=aDX) (K:=aO Q) (fun x:Nat=>aDY a b (a.length:Int) (x:Int)) (fun x=>a.length - x) (fun x=>x≤a.length∧∀ j,j<x→a.getD j p0=b.getD j p0) (fun x hp ih=>?_) 0 ⟨Nat.zero_le _,fun j hj=>absurd hj (Nat.not_lt_zero _)⟩
   obtain ⟨hx0,he⟩:=hp
   rw [bFE]
   by_cases hx:x<a.length
   · refine aC (by omega) (aY hx (aY (by omega) ?_))
     rw [Int.toNat_natCast,wrS hx (by omega)]
     refine aX7 (fun hab=>ih (x+1) ⟨by omega,fun j hj=>?_⟩ (by omega)) fun hab=>hk _ _ (decide_eq_false fun hc=>hab (by rw [hc]))
     by_cases hjx:j=x
     · rw [hjx]; exact hab
     · exact he j (by omega)
   · exact aE (by omega) (hk _ _ (decide_eq_true (aLI h0 fun j hj=>he j (by omega))))
 · exact aP (aE (by omega) (hk _ _ (decide_eq_false fun hc=>h0 (by rw [hc]))))
theorem aX9 (h:sI a b Q):Con Tryz.prog 91 [.imm eP a, .imm eP b] Q:=by
 obtain ⟨hl,hq⟩:=h
 unfold SmL at hl
 have hk:∀ e H,aLB a b=e→aO Q (.bool e) H:=fun e H h1=>by rw [h1] at hq; exact oC hq
 refine aW (gn:=fnT Tryz.f91) (by kernel_rfl) bG (inl:=[]) (LT:=aDT) (NT:=aDU) rfl fun n0=>?_
 rw [bE9]
 by_cases h0:a.length=b.length
 · refine aP (aC (by omega) ?_)
   refine bJ (f:=91) (gn:=fnT Tryz.f91) (n0:=n0) (r:=4) (by kernel_rfl) bG (inl:=[]) (LT:=aDT) (NT:=aDU) (K:=aO Q) (fun x:Nat=>aDV a b (a.length:Int) (x:Int)) (fun x=>a.length - x) (fun x=>x≤a.length∧∀ j,j<x→a.getD j p0=b.getD j p0) (fun x hp ih=>?_) 0 ⟨Nat.zero_le _,fun j hj=>absurd hj (Nat.not_lt_zero _)⟩
   obtain ⟨hx0,he⟩:=hp
   rw [bFA]
   by_cases hx:x<a.length
   · refine aC (by omega) (aY hx (aY (by omega) ?_))
     rw [Int.toNat_natCast,wrS hx (by omega)]
     refine aX7 (fun hab=>ih (x+1) ⟨by omega,fun j hj=>?_⟩ (by omega)) fun hab=>hk _ _ (decide_eq_false fun hc=>hab (by rw [hc]))
     by_cases hjx:j=x
     · rw [hjx]; exact hab
     · exact he j (by omega)
   · exact aE (by omega) (hk _ _ (decide_eq_true (aLI h0 fun j hj=>he j (by omega))))
 · exact aP (aE (by omega) (hk _ _ (decide_eq_false fun hc=>h0 (by rw [hc]))))
theorem aYA (h:aXC l Q):Con Tryz.prog 114 [.imm eP l] Q:=by
 obtain ⟨hF,h1,h2⟩:=h
 by_cases hl:l=[]
 · subst hl
   obtain ⟨q1,q2⟩:=h2 rfl
   refine a55 (xs:=[]) (ys:=[]) fun A k=>?_
   refine aW (gn:=fnT Tryz.f114) (by kernel_rfl) bG (inl:=[]) (LT:=aXR) (NT:=aXS) rfl fun n0=>?_
   rw [List.nil_append,bFC]
   cases A with
   | none=>exact bP q1 rfl rfl
   | some a=>exact iR rfl q2
 · have hp:0<l.length:=List.length_pos_iff.2 hl
   refine aW (gn:=fnT Tryz.f114) (by kernel_rfl) bG (inl:=[]) (LT:=aXP) (NT:=aXQ) rfl fun n0=>?_
   rw [bFB,Nat.zero_add]
   exact cQ hp (aS (g8 (by omega) (by decide)) (iR rfl (h1 hl)))
end
theorem mP : ∀ g xs Q,lK g xs Q→Con Tryz.prog g xs Q:=cH fun p hp=>by
 simp only [List.mem_cons,List.not_mem_nil,or_false] at hp
 rcases hp with rfl | rfl | rfl | rfl | rfl | rfl
 · exact bF fun _ _ h=>aX5 h
 · exact bF fun _ _ h=>aX6 h
 · exact bA fun _ _ _ h=>aXV h
 · exact bF fun _ _ h=>aW5 h
 · exact bF fun _ _ h=>aYA h
 · exact bA fun _ _ _ h=>aX8 h
section
variable {t:List Nd} {k p:Int} {Q:Res}
theorem bFR (t:List Nd) (p:Int):(cF t≠0∧plE t p=cF t)∨(cF t=0∧(p=0∨p=1)∧plE t p=0)∨(cF t=0∧¬ (p=0∨p=1)∧plE t p=4):=by
 unfold plE
 by_cases h:cF t=0
 · rw [if_neg (fun hc=>hc h)]
   by_cases h2:p=0∨p=1
   · rw [if_pos h2]; exact .inr (.inl ⟨h,h2,rfl⟩)
   · rw [if_neg h2]; exact .inr (.inr ⟨h,h2,rfl⟩)
 · rw [if_pos h]; exact .inl ⟨h,rfl⟩
theorem bFS (h:plS t p Q):Con Tryz.prog 48 [.imm aT t, .int .i64 p] Q:=by
 obtain ⟨ht,hq⟩:=h
 have hk:∀ e H,plE t p=e→aO Q (.int .i64 e) H:=fun e H h1=>by rw [h1] at hq; exact dI hq
 refine aW (gn:=fnT Tryz.f48) (by kernel_rfl) mP (inl:=[]) (LT:=aXN) (NT:=aXO) rfl fun n0=>?_
 rw [bE1]
 refine ⟨ht,?_⟩
 rcases bFR t p with ⟨h1,h2⟩ | ⟨h1,h2,h3⟩ | ⟨h1,h2,h3⟩
 · exact aP (aE h1 (hk _ _ h2))
 · refine aP (aC h1 ?_)
   by_cases p0:p=0
   · exact aP (aC p0 (hk _ _ h3))
   · refine aP (aE p0 ?_)
     rw [cond_true]
     exact aP (aC (by omega) (hk _ _ h3))
 · refine aP (aC h1 (aP (aE (by omega) ?_)))
   rw [cond_true]
   exact aP (aE (by omega) (hk _ _ h3))
theorem bFT (h:wtS t Q):Con Tryz.prog 6 [.imm aT t] Q:=by
 obtain ⟨ht,hq⟩:=h
 have hl:=ht.1
 refine aW (gn:=fnT Tryz.f6) (by kernel_rfl) mP (inl:=[]) (LT:=aDN) (NT:=aDO) rfl fun n0=>?_
 rw [bE2]
 exact bJ (f:=6) (gn:=fnT Tryz.f6) (n0:=n0) (r:=3) (by kernel_rfl) mP (inl:=[]) (LT:=aDN) (NT:=aDO) (K:=aO Q) (fun y:Int × Nat=>wL t y.1 (t.length:Int) (y.2:Int)) (fun y=>t.length - y.2) (fun y=>y.2≤t.length) (fun y hp ih=>by
  obtain ⟨n,x⟩:=y
  simp only at hp
  show aF _ _ _ _ _ _ (wL t n (t.length:Int) (x:Int))
  rw [bE3]
  by_cases hx:x<t.length
  · have hr:=(ht.2 _ (d8 (d:=nd0) hx)).2.1.1
    refine aC (by omega) (aY hx ⟨⟨by simp,fun r hr2=>?_⟩,fun m=>?_⟩)
    · rw [List.mem_singleton.1 hr2]; exact hr
    · rw [wrS hx (by omega)]
      exact ih (_,x+1) (by show x+1≤t.length; omega) (by show t.length - (x+1)<t.length - x; omega)
  · exact aE (by omega) (dI (hq _))) (0,0) (Nat.zero_le _)
theorem aYB (h:aLA t k Q):Con Tryz.prog 47 [.imm aT t, .int .i64 k] Q:=by
 obtain ⟨⟨hg,k0,k1⟩,hq⟩:=h
 have T:=eJ hg
 have hn:=T.n120
 obtain ⟨m,rfl⟩:∃ m:Nat,k=(m:Int):=⟨k.toNat,by omega⟩
 rw [Int.toNat_natCast] at hq
 refine kH (e:=eP) (l:=dY t m) ?_ hq
 refine aW (gn:=fnT Tryz.f47) (by kernel_rfl) mP (inl:=[]) (LT:=aDP) (NT:=aDQ) rfl fun n0=>?_
 rw [bE5]
 show aB _ _ _ _ _ (wM t (m:Int) (m:Int) [])
 refine bJ (f:=47) (gn:=fnT Tryz.f47) (n0:=n0) (r:=2) (by kernel_rfl) mP (inl:=[]) (LT:=aDP) (NT:=aDQ) (K:=aO fun v o=>v = .own 0∧∃ fz,o=[.typed eP (dY t m) fz]) (fun y:Nat × List (Int × Int)=>wM t (m:Int) (y.1:Int) y.2) (fun y=>y.1) (fun y=>y.1<t.length∧y.1+y.2.length≤m∧dY t m=dY t y.1 ++ y.2) (fun y hp ih=>?_) (m,[]) ⟨by show m<_; omega,by show m+0≤m; omega,by rw [List.append_nil]⟩
 obtain ⟨x,out⟩:=y
 obtain ⟨hx,hl,he⟩:=hp
 simp only at hx hl he
 show aF _ _ _ _ _ _ (wM t (m:Int) (x:Int) out)
 rw [bE6]
 by_cases h0:0<x
 · obtain ⟨hs,hp⟩:=T.par_spec (k:=x) (by omega) hx
   have hlt:=T.kid_lt hs
   refine aC (by omega) ⟨T.small,?_⟩
   rw [hp]
   simp only [List.getD_cons_zero,List.getD_cons_succ,List.length_singleton]
   refine aC (by decide) (aS (g8 (by omega) (by decide)) ?_)
   refine ih ((par t x).1,[(((par t x).1:Int),((par t x).2:Int))] ++ out) ⟨by show (par t x).1<_; omega,?_,?_⟩ (by show (par t x).1<x; omega)
   · show (par t x).1+([_] ++ out).length≤m
     rw [List.length_append]; simp; omega
   · show dY t m=dY t (par t x).1 ++ ([_] ++ out)
     rw [he,T.path_par (by omega) hx,List.append_assoc]
 · have hx0:x=0:=by omega
   subst hx0
   refine aE (by omega) ?_
   rw [bEQ,List.nil_append] at he
   rw [he]
   exact iR rfl ⟨rfl,false,rfl⟩
def eZ (t:List Nd) (i c k:Nat):Prop:=k=0∨∃ i' c', fL t i' c' k∧(i' < i∨(i' = i∧c' < c))
theorem TreeOk.done {t:List Nd} (T:TreeOk t) {i:Nat} (hi:i<t.length) {c:Nat}:eZ t i c i:=by
 by_cases h0:i=0
 · exact .inl h0
 · have hs:=(T.par_spec (k:=i) (by omega) hi).1
   exact .inr ⟨_,_,hs, .inl (T.kid_lt hs).1⟩
theorem TreeOk.done_step {t:List Nd} (T:TreeOk t) {i c k m:Nat} (hm:fL t i c m) (h:eZ t i (c+1) k):k=m∨eZ t i c k:=by
 rcases h with h | ⟨i', c', hk,h⟩
 · exact .inr (.inl h)
 · rcases h with h | ⟨h1,h2⟩
   · exact .inr (.inr ⟨i', c', hk, .inl h⟩)
   · by_cases hc:c' = c
     · subst h1; subst hc
       have e1:=hk.2.2; have e2:=hm.2.2
       exact .inl (by omega)
     · exact .inr (.inr ⟨i', c', hk, .inr ⟨h1,by omega⟩⟩)
theorem aLJ {t:List Nd} {i k:Nat} (h:eZ t (i+1) 0 k):eZ t i (aK t i).length k:=by
 rcases h with h | ⟨i', c', hk,h⟩
 · exact .inl h
 · refine .inr ⟨i', c', hk,?_⟩
   rcases h with h | ⟨_,h⟩
   · by_cases hi:i' = i
     · subst hi; exact .inr ⟨rfl,hk.2.1⟩
     · exact .inl (by omega)
   · omega
theorem TreeOk.done_all {t:List Nd} (T:TreeOk t) {k:Nat} (hk:k<t.length):eZ t t.length 0 k:=by
 by_cases h0:k=0
 · exact .inl h0
 · have hs:=(T.par_spec (k:=k) (by omega) hk).1
   exact .inr ⟨_,_,hs, .inl hs.1⟩
theorem wP {t:List Nd} {k:Nat} (h:eZ t 0 0 k):k=0:=by
 rcases h with h | ⟨i', c', _,h⟩
 · exact h
 · omega
def RowsOk {α:Type} (t:List Nd) (f:Nat→α) (d:α) (i c:Nat) (rows:List α):Prop:=rows.length=t.length∧∀ k,k<t.length→eZ t i c k→rows.getD k d=f k
theorem RowsOk.step {α:Type} {t:List Nd} (T:TreeOk t) {f:Nat→α} {d:α} {i c m:Nat} {rows:List α} (h:RowsOk t f d i c rows) (hm:fL t i c m):RowsOk t f d i (c+1) (rows.set m (f m)):=⟨by rw [List.length_set]; exact h.1,fun k hk hd=>by
 rw [List.getD_eq_getElem?_getD,List.getElem?_set]
 by_cases hkm:m=k
 · subst hkm
   rw [if_pos rfl,if_pos (by rw [h.1]; exact hk)]; rfl
 · rw [if_neg hkm,← List.getD_eq_getElem?_getD]
   rcases T.done_step hm hd with h1 | h1
   · exact absurd h1.symm hkm
   · exact h.2 k hk h1⟩
theorem RowsOk.next {α:Type} {t:List Nd} {f:Nat→α} {d:α} {i:Nat} {rows:List α} (h:RowsOk t f d i (aK t i).length rows):RowsOk t f d (i+1) 0 rows:=⟨h.1,fun k hk hd=>h.2 k hk (aLJ hd)⟩
theorem RowsOk.all {α:Type} {t:List Nd} (T:TreeOk t) {f:Nat→α} {d:α} {rows:List α} (h:RowsOk t f d t.length 0 rows):rows=(List.range t.length).map f:=by
 refine aLI (d:=d) (by rw [h.1]; simp) fun k hk=>?_
 rw [h.1] at hk
 rw [h.2 k hk (T.done_all hk),List.getD_eq_getElem?_getD,List.getElem?_map,List.getElem?_range hk]; rfl
theorem TreeOk.kid_at {t:List Nd} (T:TreeOk t) {i c:Nat} (hi:i<t.length) (hc:c<(aK t i).length):∃ m:Nat,(aK t i).getD c 0=(m:Int)∧fL t i c m∧i<m∧m<t.length:=by
 have hk:=T.kid_of hi hc
 exact ⟨_,hk.2.2,hk,T.kid_lt hk⟩
theorem bFU (h:aXB t p Q):Con Tryz.prog 85 [.imm aT t, .int .i64 p] Q:=by
 obtain ⟨hg,hq⟩:=h
 have T:=eJ hg
 have hn:=T.n120
 refine kH (e:=eL eP) (l:=wE t p) ?_ hq
 refine aW (gn:=fnT Tryz.f85) (by kernel_rfl) mP (inl:=[]) (LT:=sP) (NT:=sQ) rfl fun n0=>?_
 rw [bFF]
 have loop3 := bJ (f:=85) (gn:=fnT Tryz.f85) (n0:=n0) (r:=3) (by kernel_rfl) mP (inl:=[]) (LT:=sP) (NT:=sQ) (K:=aO fun v o=>v = .own 0∧∃ fz,o=[.typed (eL eP) (wE t p) fz]) (fun y:Nat × List (List (Int × Int))=>wN t p (t.length:Int) (y.1:Int) y.2) (fun y=>t.length - y.1) (fun y=>y.1≤t.length∧RowsOk t (own t p) [] y.1 0 y.2) (fun y hp ih=>by
  obtain ⟨i,rows⟩:=y
  obtain ⟨hi0,hr⟩:=hp
  simp only at hi0 hr
  show aF _ _ _ _ _ _ (wN t p (t.length:Int) (i:Int) rows)
  rw [bFG]
  by_cases hi:i<t.length
  · have hw:=(T.node i hi).w
    refine aC (by omega) (aY hi ?_)
    rw [Int.toNat_natCast]
    have inner:=bJ (f:=85) (gn:=fnT Tryz.f85) (n0:=n0) (r:=6) (by kernel_rfl) mP (inl:=[]) (LT:=sP) (NT:=sQ) (K:=aO fun v o=>v = .own 0∧∃ fz,o=[.typed (eL eP) (wE t p) fz]) (fun z:Nat × List (List (Int × Int))=>i4 t p (i:Int) (t.length:Int) (i:Int) (aK t i) ((aK t i).length:Int) (z.1:Int) z.2 (t.getD i nd0).1 (t.getD i nd0).2.1 (t.getD i nd0).2.2.1 (t.getD i nd0).2.2.2.1 (t.getD i nd0).2.2.2.2.1 (t.getD i nd0).2.2.2.2.2) (fun z=>(aK t i).length - z.1) (fun z=>z.1≤(aK t i).length∧RowsOk t (own t p) [] i z.1 z.2) (fun z hp2 ih2=>by
        obtain ⟨c,rows⟩:=z
        obtain ⟨hc0,hr⟩:=hp2
        simp only at hc0 hr
        have hrl:=hr.1
        show aF _ _ _ _ _ _ (i4 t p (i:Int) (t.length:Int) (i:Int) (aK t i) ((aK t i).length:Int) (c:Int) rows (t.getD i nd0).1 (t.getD i nd0).2.1 (t.getD i nd0).2.2.1 (t.getD i nd0).2.2.2.1 (t.getD i nd0).2.2.2.2.1 (t.getD i nd0).2.2.2.2.2)
        rw [bFH]
        by_cases hc:c<(aK t i).length
        · obtain ⟨m,hm,hkid,him,hml⟩:=T.kid_at hi hc
          have ho:rows.getD i []=own t p i:=hr.2 i hi (T.done hi)
          have hol:=own_len t p i
          have hok:=T.own_kid (p:=p) hkid
          have ih3:=ih2 (c+1,rows.set m (own t p m)) ⟨by show c+1≤_; omega,hr.step T hkid⟩ (by show _ - (c+1)<_ - c; omega)
          refine aC (by omega) (aY hc (aY (by omega) ?_))
          rw [Int.toNat_natCast,Int.toNat_natCast,hm,Int.toNat_natCast,wrS hc (by omega),ho]
          refine aY (by omega) ?_
          by_cases c1:(t.getD i nd0).1=2
          · refine aC c1 ?_
            by_cases c2:(t.getD i nd0).2.1=p
            · rw [if_pos ⟨c1,c2⟩] at hok
              rw [hok] at ih3
              have hR:(rows.set m (own t p i)).getD i []=own t p i:=by
               rw [List.getD_eq_getElem?_getD,List.getElem?_set,if_neg (by omega),← List.getD_eq_getElem?_getD,ho]
              have hRl:(rows.set m (own t p i)).length=t.length:=by rw [List.length_set]; exact hrl
              refine gU c2 (aY (by omega) ?_)
              rw [hR,List.set_set,List.set_set]
              have P1:own t p i=[]→aB Tryz.prog n0 85 (aO fun v o=>v = .own 0∧∃ fz,o=[.typed (eL eP) (wE t p) fz]) (aD (fnT Tryz.f85) 6) (i4 t p (i:Int) (t.length:Int) (i:Int) (aK t i) ((aK t i).length:Int) ((c+1:Nat):Int) (rows.set m ([] ++ [((t.getD i nd0).2.2.1,(c:Int))])) (t.getD i nd0).1 (t.getD i nd0).2.1 (t.getD i nd0).2.2.1 (t.getD i nd0).2.2.2.1 (t.getD i nd0).2.2.2.2.1 (t.getD i nd0).2.2.2.2.2):=fun h0=>by
               rw [h0] at ih3; exact ih3
              exact ⟨⟨by omega,fun _=>aS (g8 (by simp; omega) (by decide)) (aY (by omega) ih3),fun h0=>⟨aY (by omega) (P1 h0),aY (by omega) (P1 h0)⟩⟩,⟨by omega,fun _=>aS (g8 (by simp; omega) (by decide)) (aY (by omega) ih3),fun h0=>⟨aY (by omega) (P1 h0),aY (by omega) (P1 h0)⟩⟩⟩
            · rw [if_neg (fun h=>c2 h.2)] at hok
              rw [hok] at ih3
              exact i3 c2 ih3
          · rw [if_neg (fun h=>c1 h.1)] at hok
            rw [hok] at ih3
            exact aE c1 ih3
        · have hcc:c=(aK t i).length:=by omega
          subst hcc
          refine aE (by omega) ?_
          rw [wrS hi (by omega)]
          exact ih (i+1,rows) ⟨by show i+1≤_; omega,hr.next⟩ (by show _ - (i+1)<_ - i; omega))
    exact inner (0,rows) ⟨Nat.zero_le _,hr⟩
  · have hii:i=t.length:=by omega
    subst hii
    refine aE (by omega) (iR rfl ⟨rfl,false,?_⟩)
    rw [hr.all T]; rfl)
 have k1:=aDH (n:=t.length) (b:=24) (by omega) (by decide)
 simp only [Int.toNat_natCast] at k1 ⊢
 refine aS k1 ?_
 exact loop3 (0,List.replicate t.length []) ⟨Nat.zero_le _,List.length_replicate,fun k hk hd=>by
  rw [wP hd,bER,List.getD_eq_getElem?_getD,List.getElem?_replicate,if_pos T.n0]; rfl⟩
theorem aYC : ∀ g xs Q,aLE g xs Q→Con Tryz.prog g xs Q:=cH fun p hp=>by
 simp only [List.mem_cons,List.not_mem_nil,or_false] at hp
 rcases hp with rfl | rfl | rfl | rfl | rfl
 · exact bA fun _ _ _ h=>bFS h
 · exact bA fun _ _ _ h=>aYB h
 · exact bA fun _ _ _ h=>bFU h
 · exact bA fun _ _ _ h=>aX8 h
 · exact bA fun _ _ _ h=>aX9 h
theorem aYD {α:Type} {l:List α} {x:Nat} {d:α} (hx:x<l.length):l.take (x+1)=l.take x ++ [l.getD x d]:=by
 rw [List.take_succ_eq_append_getElem hx,List.getD_eq_getElem?_getD,List.getElem?_eq_getElem hx]; rfl
theorem bFV (h:ownS t p k Q):Con Tryz.prog 92 [.imm aT t, .int .i64 p, .int .i64 k] Q:=by
 obtain ⟨⟨hg,k0,k1⟩,hq⟩:=h
 have T:=eJ hg
 have hn:=T.n120
 have hpi:=T.path_in (k:=k.toNat) (by omega)
 have hpl:(dY t k.toNat).length≤k.toNat:=aDL
 unfold own at hq
 refine kH (e:=eP) (l:=(dY t k.toNat).filterMap (mK t p)) ?_ hq
 refine aW (gn:=fnT Tryz.f92) (by kernel_rfl) aYC (inl:=[]) (LT:=aDR) (NT:=aDS) rfl fun n0=>?_
 rw [bE7]
 refine ⟨⟨hg,k0,k1⟩,?_⟩
 generalize dY t k.toNat=l at *
 refine bJ (f:=92) (gn:=fnT Tryz.f92) (n0:=n0) (r:=3) (by kernel_rfl) aYC (inl:=[]) (LT:=aDR) (NT:=aDS) (K:=aO fun v o=>v = .own 0∧∃ fz,o=[.typed eP (l.filterMap (mK t p)) fz]) (fun x:Nat=>sO t p k l (l.length:Int) (x:Int) ((l.take x).filterMap (mK t p))) (fun x=>l.length - x) (fun x=>x≤l.length) (fun x hp ih=>?_) 0 (Nat.zero_le _)
 rw [bE8]
 by_cases hx:x<l.length
 · have ih' := ih (x+1) (by omega) (by omega)
   rw [aYD (d:=((0:Int),(0:Int))) hx,List.filterMap_append] at ih'
   obtain ⟨i,c,k', e,hkid⟩:=hpi _ (d8 (d:=((0:Int),(0:Int))) hx)
   have hi:=hkid.1
   refine aC (by omega) (aY hx ?_)
   rw [Int.toNat_natCast,wrS hx (by omega)]
   rw [e] at ih' ⊢
   simp only [List.getD_cons_zero,List.getD_cons_succ,Int.toNat_natCast]
   have eF:[((i:Int),(c:Int))].filterMap (mK t p)=if (t.getD i nd0).1=2∧(t.getD i nd0).2.1=p then [((t.getD i nd0).2.2.1,(c:Int))] else []:=by
    have e1:mK t p ((i:Int),(c:Int))=if (t.getD i nd0).1=2∧(t.getD i nd0).2.1=p then some ((t.getD i nd0).2.2.1,(c:Int)) else none:=rfl
    by_cases hc:(t.getD i nd0).1=2∧(t.getD i nd0).2.1=p
    · rw [if_pos hc] at e1 ⊢; simp [e1]
    · rw [if_neg hc] at e1 ⊢; simp [e1]
   rw [eF] at ih'
   have hroom:((l.take x).filterMap (mK t p)).length≤x:=Nat.le_trans (List.length_filterMap_le _ _) (by rw [List.length_take]; omega)
   refine aY hi ?_
   by_cases c1:(t.getD i nd0).1=2
   · refine aC c1 ?_
     by_cases c2:(t.getD i nd0).2.1=p
     · rw [if_pos ⟨c1,c2⟩] at ih'
       exact gU c2 (aS (g8 (by simp; omega) (by decide)) ih')
     · rw [if_neg (fun h=>c2 h.2),List.append_nil] at ih'
       exact i3 c2 ih'
   · rw [if_neg (fun h=>c1 h.1),List.append_nil] at ih'
     exact aE c1 ih'
 · refine aE (by omega) ?_
   rw [List.take_of_length_le (by omega)]
   exact iR rfl ⟨rfl,false,rfl⟩
end
end
section
def aD0 (e:ETy):AV→Option (List e.D)
 | .imm e' l=>gW e e' l
 | _=>none
def sT : AV→Option (List AV)
 | .adr cs=>some cs
 | _=>none
def wQ (g:Nat):AV→Option (List AV)
 | .fn g' cs=>if g' = g then some cs else none
 | _=>none
def aLK (cs:List AV):Option Nd:=match cs with
 | [a,b,c,d,e,f]=>(match l3 .i64 a with
   | some a=>(match l3 .i64 b with
     | some b=>(match l3 .i64 c with
       | some c=>(match aD0 eI d with
         | some d=>(match aD0 eS e with
           | some e=>(match asS f with | some f=>some (a,b,c,d,e,f) | none=>none)
           | none=>none)
         | none=>none)
       | none=>none)
     | none=>none)
   | none=>none)
 | _=>none
def aLL (x:Nd):List AV:=[.int .i64 x.1, .int .i64 x.2.1, .int .i64 x.2.2.1, .imm eI x.2.2.2.1, .imm eS x.2.2.2.2.1, .str x.2.2.2.2.2]
def wR (cs:List AV):Option Int:=match cs with
 | [a]=>l3 .i64 a
 | _=>none
theorem aD1 {k:IntKind} {x:AV} {n:Int} (h:l3 k x=some n):x = .int k n:=by
 unfold l3 at h
 split at h
 · split at h
   · rename_i hk; cases h; rw [of_decide_eq_true hk]
   · cases h
 · cases h
theorem aYE {e:ETy} {x:AV} {l:List e.D} (h:aD0 e x=some l):x = .imm e l:=by
 unfold aD0 at h
 split at h
 · obtain ⟨he,hr⟩:=kB h
   subst he; subst hr; rfl
 · cases h
theorem bFW {x:AV} {s:ByteArray} (h:asS x=some s):x = .str s:=by
 unfold asS at h
 split at h
 · cases h; rfl
 · cases h
theorem aD2 {x:AV} {cs:List AV} (h:sT x=some cs):x = .adr cs:=by
 unfold sT at h
 split at h
 · cases h; rfl
 · cases h
theorem aLM {g:Nat} {x:AV} {cs:List AV} (h:wQ g x=some cs):x = .fn g cs:=by
 unfold wQ at h
 split at h
 · split at h
   · rename_i hg; cases h; rw [hg]
   · cases h
 · cases h
theorem aLN {cs:List AV} {n:Int} (h:wR cs=some n):cs=[.int .i64 n]:=by
 unfold wR at h
 split at h
 · rw [aD1 h]
 · cases h
theorem bFX {cs:List AV} {x:Nd} (h:aLK cs=some x):cs=aLL x:=by
 unfold aLK at h
 split at h
 · split at h
   · rename_i h1
     split at h
     · rename_i h2
       split at h
       · rename_i h3
         split at h
         · rename_i h4
           split at h
           · rename_i h5
             split at h
             · rename_i h6
               cases h
               rw [aD1 h1,aD1 h2,aD1 h3,aYE h4,aYE h5,bFW h6]; rfl
             · cases h
           · cases h
         · cases h
       · cases h
     · cases h
   · cases h
 · cases h
def aYF (g:Nat) (x:AV):Option Nd:=match wQ g x with
 | some cs=>(match cs with
   | [c]=>(match sT c with | some cs=>aLK cs | none=>none)
   | _=>none)
 | none=>none
def aYG (g:Nat) (x:AV):Option Int:=match wQ g x with
 | some cs=>(match cs with
   | [c]=>(match sT c with | some cs=>wR cs | none=>none)
   | _=>none)
 | none=>none
def aYH (g:Nat) (x:AV):Option (Int × Int):=match wQ g x with
 | some cs=>(match cs with
   | [c,d]=>(match sT c with
     | some cs=>(match wR cs with
       | some p=>(match sT d with
         | some ds=>(match wR ds with | some f=>some (p,f) | none=>none)
         | none=>none)
       | none=>none)
     | none=>none)
   | _=>none)
 | none=>none
def bFY (g:Nat):cB Nd:=⟨aYF g,fun x => .fn g [.adr (aLL x)],fun {x a} h {c w v} hx=>by
 unfold aYF at h
 split at h
 · rename_i h1
   split at h
   · split at h
     · rename_i h2
       have h3:=bFX h
       rw [aLM h1,aD2 h2,h3] at hx
       exact hx
     · cases h
   · cases h
 · cases h⟩
def bFZ (g:Nat):cB Int:=⟨aYG g,fun n => .fn g [.adr [.int .i64 n]],fun {x a} h {c w v} hx=>by
 unfold aYG at h
 split at h
 · rename_i h1
   split at h
   · split at h
     · rename_i h2
       have h3:=aLN h
       rw [aLM h1,aD2 h2,h3] at hx
       exact hx
     · cases h
   · cases h
 · cases h⟩
def bF0 (g:Nat):cB (Int × Int):=⟨aYH g,fun p => .fn g [.adr [.int .i64 p.1], .adr [.int .i64 p.2]],fun {x a} h {c w v} hx=>by
 unfold aYH at h
 split at h
 · rename_i h1
   split at h
   · split at h
     · rename_i h2
       split at h
       · rename_i h3
         split at h
         · rename_i h4
           split at h
           · rename_i h5
             cases h
             rw [aLM h1,aD2 h2,aLN h3,aD2 h4,aLN h5] at hx
             exact hx
           · cases h
         · cases h
       · cases h
     · cases h
   · cases h
 · cases h⟩
def mQ {α:Type} (p:α→Bool) (l:List α):Int:=match l.findIdx? p with | some i=>(i:Int) | none => -1
def sU (p f:Int) (x:Nd):Bool:=decide (x.1=2) && decide (x.2.1=p) && decide (x.2.2.1=f)
def gV (t:List Nd) (p f:Int):Int:=mQ (sU p f) t
def jZ (l:List Sq) (f:Int):Int:=mQ (fun s=>decide (s.1=f)) l
def jN (s:List Ch) (f:Int):Int:=mQ (fun c=>decide (c.1=f)) s
def SmA {α:Type} (l:List α):Prop:=l.length≤1000000000000000
def aYI (t:List Nd) (pf:Int × Int) (Q:Res):Prop:=SmA t∧Q (.int .i64 (gV t pf.1 pf.2)) []
def aYJ (l:List Sq) (x:Nd) (Q:Res):Prop:=SmA l∧Q (.int .i64 (jZ l x.2.2.1)) []
def aYK (s:List Ch) (f:Int) (Q:Res):Prop:=SmA s∧Q (.int .i64 (jN s f)) []
def dN (s:List Ch) (f c:Int):ByteArray:=((s.getD (jN s f).toNat ch0).2).getD c.toNat b0
def oI (s:List Ch) (f c:Int):Prop:=SmA s∧0≤jN s f∧jN s f<s.length∧0≤c∧c<(s.getD (jN s f).toNat ch0).2.length∧eU (dN s f c)=0
def oddS (s:List Ch) (f c:Int) (Q:Res):Prop:=oI s f c∧∀ z,QV z (bQ (dN s f c))→Q (qa z) []
noncomputable def aLO : FuncId→List AV→Res→Prop:=cD [(108,c2 vN (bF0 109) aYI)]
noncomputable def wS : FuncId→List AV→Res→Prop:=cD [(115,c2 vSq (bFY 116) aYJ)]
noncomputable def aYL : FuncId→List AV→Res→Prop:=cD [(96,c2 vCh (bFZ 97) aYK),(35,c1 vS inS)]
noncomputable def aLP : FuncId→List AV→Res→Prop:=cD [(40,c3 vN vI vI aLD),(92,c3 vN vI vI ownS),(91,c2 vP vP sI)]
noncomputable def wT : FuncId→List AV→Res→Prop:=cD [(40,c3 vN vI vI aLD),(39,c2 vN vI aXE),(41,c1 vLS rT),(79,c2 vN vI aXF),(80,c1 vLS rT)]
noncomputable def aLQ : FuncId→List AV→Res→Prop:=cD [(43,c3 vN vI vCh wF),(87,c2 vN vI aXD),(28,c1 vT aK3)]
noncomputable def aLR : FuncId→List AV→Res→Prop:=cD [(59,c2 vLS (vCl 30) aC4)]
noncomputable def aD3 : FuncId→List AV→Res→Prop:=cD [(59,c2 vLS (vCl 44) aC4)]
def aYM (Q:Res):Prop:=Q (.bool true) []
end
section
section
variable {α:Type} {q:α→Bool} {l m:List α} {d:α} {j:Nat}
theorem oJ : (l ++ m).getD j d=if j<l.length then l.getD j d else m.getD (j - l.length) d:=by
 rw [List.getD_eq_getElem?_getD,List.getD_eq_getElem?_getD,List.getD_eq_getElem?_getD]
 by_cases h:j<l.length
 · rw [if_pos h,List.getElem?_append_left h]
 · rw [if_neg h,List.getElem?_append_right (by omega)]
theorem aD4 (q:α→Bool) (l:List α) (d:α):(∃ j:Nat,mQ q l=(j:Int)∧j<l.length∧q (l.getD j d)=true∧∀ i,i<j→q (l.getD i d)=false)∨(mQ q l = -1∧∀ i,i<l.length→q (l.getD i d)=false):=by
 unfold mQ
 have gd:∀ i (h:i<l.length),l.getD i d=l[i]:=fun i h=>by rw [List.getD_eq_getElem?_getD,List.getElem?_eq_getElem h]; rfl
 cases h:l.findIdx? q with
 | none =>
   refine .inr ⟨rfl,fun i hi=>?_⟩
   have:=List.findIdx?_eq_none_iff.1 h (l.getD i d) (d8 hi)
   simpa using this
 | some i =>
   obtain ⟨h1,h2,h3⟩:=List.findIdx?_eq_some_iff_getElem.1 h
   refine .inl ⟨i,rfl,h1,by rw [gd i h1]; exact h2,fun k hk=>?_⟩
   rw [gd k (by omega)]
   have:=h3 k hk
   simpa using this
theorem mR (hj:j<l.length) (h:q (l.getD j d)=true) (h' : ∀ i,i<j→q (l.getD i d)=false):mQ q l=(j:Int):=by
 rcases aD4 q l d with ⟨k,e,hk,h1,h2⟩ | ⟨e,h1⟩
 · rcases Nat.lt_trichotomy j k with hl | hl | hl
   · rw [h2 j hl] at h; cases h
   · rw [e,hl]
   · rw [h' k hl] at h1; cases h1
 · rw [h1 j hj] at h; cases h
theorem wU (d:α) (h:∀ i,i<l.length→q (l.getD i d)=false):mQ q l = -1:=by
 rcases aD4 q l d with ⟨k,e,hk,h1,h2⟩ | ⟨e,h1⟩
 · rw [h k hk] at h1; cases h1
 · exact e
end
theorem TreeOk.own_mine {t:List Nd} (T:TreeOk t) {p:Int} {i c k:Nat} (hm:fC t p i) (h:fL t i c k):own t p k=own t p i ++ [(aX t i,(c:Int))]:=by
 rw [T.own_kid h]; exact if_pos hm
theorem TreeOk.own_other {t:List Nd} (T:TreeOk t) {p:Int} {i c k:Nat} (hm:¬ fC t p i) (h:fL t i c k):own t p k=own t p i:=by
 rw [T.own_kid h]; exact if_neg hm
theorem aD5 (f:Int) (b w:Nat):(gT f b w).length=w:=by unfold gT; simp
theorem bF1 (f:Int) (o:List (Int × Int)) (w:Nat):(kN f o w).length=w:=by unfold kN; simp
theorem aYN {f:Int} {b w c:Nat} (h:c<w):(gT f b w).getD c q0=(f,((c:Int),(b:Int))):=by
 unfold gT
 rw [List.getD_eq_getElem?_getD,List.getElem?_map,List.getElem?_range h]; rfl
theorem bF2 {f:Int} {o:List (Int × Int)} {w c:Nat} (h:c<w):(kN f o w).getD c []=o ++ [(f,(c:Int))]:=by
 unfold kN
 rw [List.getD_eq_getElem?_getD,List.getElem?_map,List.getElem?_range h]; rfl
theorem wV {l:List Sq} {f:Int}:jY l f=true↔∃ j,j<l.length∧(l.getD j q0).1=f:=by
 unfold jY
 rw [List.any_eq_true]
 constructor
 · rintro ⟨s,hs,h⟩
   obtain ⟨i,hi,rfl⟩:=List.getElem_of_mem hs
   exact ⟨i,hi,by rw [List.getD_eq_getElem?_getD,List.getElem?_eq_getElem hi]; exact of_decide_eq_true h⟩
 · rintro ⟨j,hj,h⟩
   exact ⟨_,d8 hj,decide_eq_true h⟩
structure SeqInv (t:List Nd) (p:Int) (i:Nat) (L:List Sq) (W:List (List (Int × Int))):Prop where
 len:W.length=L.length
 pos:0<L.length
 big:L.length≤1+6 * i
 s0:L.getD 0 q0=(-1, -1, -1)
 w0:W.getD 0 []=[]
 at_:∀ j,1≤j→j<L.length→∃ m c:Nat,m<i∧fC t p m∧c<(aK t m).length∧(L.getD j q0).1=aX t m∧(L.getD j q0).2.1=(c:Int)∧W.getD j []=own t p m ++ [(aX t m,(c:Int))]∧∃ b:Nat,(L.getD j q0).2.2=(b:Int)∧b<j∧W.getD b []=own t p m
 one:∀ j k,j<L.length→k<L.length→(L.getD j q0).1=(L.getD k q0).1→(L.getD j q0).2.1=(L.getD k q0).2.1→j=k
 blk:∀ m,m<i→fC t p m→∃ j0,(∀ j,j<j0→(L.getD j q0).1≠aX t m)∧∀ c,c<(aK t m).length→j0+c<L.length∧(L.getD (j0+c) q0).1=aX t m∧(L.getD (j0+c) q0).2.1=(c:Int)
 has:∀ k,k<t.length→eZ t i 0 k→∃ j,j<L.length∧W.getD j []=own t p k
theorem SeqInv.inj {t:List Nd} {p:Int} {i:Nat} {L:List Sq} {W:List (List (Int × Int))} (h:SeqInv t p i L W) {j k:Nat} (hj:j<L.length) (hk:k<L.length) (e:W.getD j []=W.getD k []):j=k:=by
 have key:∀ j,1≤j→j<L.length→∃ o,W.getD j []=o ++ [((L.getD j q0).1,(L.getD j q0).2.1)]:=fun j h1 h2=>by
  obtain ⟨m,c,_,_,_,e1,e2,e3,_⟩:=h.at_ j h1 h2
  exact ⟨_,by rw [e1,e2]; exact e3⟩
 by_cases hj0:j=0
 · by_cases hk0:k=0
   · omega
   · obtain ⟨o,ho⟩:=key k (by omega) hk
     rw [hj0,h.w0,ho] at e
     exact absurd e.symm (by simp)
 · obtain ⟨o,ho⟩:=key j (by omega) hj
   by_cases hk0:k=0
   · rw [hk0,h.w0,ho] at e
     exact absurd e (by simp)
   · obtain ⟨o', ho'⟩:=key k (by omega) hk
     rw [ho,ho'] at e
     have e2:=(List.append_inj' e rfl).2
     simp only [List.cons.injEq,Prod.mk.injEq,and_true] at e2
     exact h.one j k hj hk e2.1 e2.2
theorem SeqInv.first {t:List Nd} {p:Int} {i:Nat} {L:List Sq} {W:List (List (Int × Int))} (h:SeqInv t p i L W) {j:Nat} (hj:j<L.length) {o:List (Int × Int)} (e:W.getD j []=o):aLC W o=(j:Int):=by
 refine mR (q:=fun w=>decide (w=o)) (d:=[]) (by rw [h.len]; exact hj) (decide_eq_true e) fun k hk=>decide_eq_false fun hc=>?_
 have:=h.inj hj (show k<L.length by omega) (e.trans hc.symm)
 omega
theorem SeqInv.last {t:List Nd} {p:Int} {i:Nat} {L:List Sq} {W:List (List (Int × Int))} (h:SeqInv t p i L W) {j:Nat} {o:List (Int × Int)} (e:W.getD j []=o):∀ n,j<n→n≤L.length→mL W o n=j
 | 0,hn,_=>absurd hn (Nat.not_lt_zero _)
 | n+1,hn,hl=>by
   unfold mL
   by_cases hj:j=n
   · subst hj; rw [if_pos e]
   · rw [if_neg (fun hc=>hj (h.inj (by omega) (by omega) (e.trans hc.symm)))]
     exact h.last e n (by omega) (by omega)
theorem wW {t:List Nd} {p:Int} (T:TreeOk t) (hr:rem t p):∀ i,i≤t.length→SeqInv t p i (bB t p i).1 (bB t p i).2
 | 0,_=>by
   refine ⟨rfl,show 0<1 from Nat.zero_lt_one,show 1≤1+6 * 0 from by decide,rfl,rfl,fun j h1 h2=>?_,fun j k h1 h2 _ _=>?_,fun m hm=>absurd hm (Nat.not_lt_zero _),fun k hk hd=>⟨0,show 0<1 from Nat.zero_lt_one,?_⟩⟩
   · have:(bB t p 0).1.length=1:=rfl
     omega
   · have:(bB t p 0).1.length=1:=rfl
     omega
   · rw [wP hd]; rfl
 | i + 1, hi => by
   have I:=wW T hr i (by omega)
   have hil:i<t.length:=by omega
   have N:=T.node i hil
   -- children of node i
   have kid:∀ k,k<t.length→eZ t (i+1) 0 k→eZ t i 0 k∨∃ c,fL t i c k:=fun k hk hd=>by
     rcases hd with h | ⟨i', c', hk', h⟩
     · exact .inl (.inl h)
     · by_cases he:i' = i
       · subst he; exact .inr ⟨c', hk'⟩
       · exact .inl (.inr ⟨i', c', hk', .inl (by omega)⟩)
   obtain ⟨ji,hji,hjw⟩:=I.has i hil (T.done hil)
   by_cases hm:fC t p i
   · have hinf:=N.who hm.1
     by_cases hk:jY (bB t p i).1 (aX t i)=false
     · -- a new set
       have e:bB t p (i+1)=((bB t p i).1 ++ gT (aX t i) (mL (bB t p i).2 (own t p i) (bB t p i).2.length) (aK t i).length,(bB t p i).2 ++ kN (aX t i) (own t p i) (aK t i).length):=by
        rw [bB,if_pos ⟨hm,hk⟩]
       have hl:mL (bB t p i).2 (own t p i) (bB t p i).2.length=ji:=I.last hjw _ (by rw [I.len]; exact hji) (by rw [I.len]; exact Nat.le_refl _)
       rw [hl] at e
       rw [e]
       clear hl e
       generalize (bB t p i).1=L at *
       generalize (bB t p i).2=W at *
       show SeqInv t p (i+1) (L ++ gT (aX t i) ji (aK t i).length) (W ++ kN (aX t i) (own t p i) (aK t i).length)
       have hnew:∀ j,j<L.length→(L.getD j q0).1≠aX t i:=fun j hj hc=>by
        have:=wV.2 ⟨j,hj,hc⟩
        rw [hk] at this; cases this
       have hlen:(L ++ gT (aX t i) ji (aK t i).length).length=L.length+(aK t i).length:=by rw [List.length_append,aD5]
       have lo:∀ j,j<L.length→(L ++ gT (aX t i) ji (aK t i).length).getD j q0=L.getD j q0:=fun j hj=>by rw [oJ,if_pos hj]
       have lw:∀ j,j<L.length→(W ++ kN (aX t i) (own t p i) (aK t i).length).getD j []=W.getD j []:=fun j hj=>by rw [oJ,if_pos (by rw [I.len]; exact hj)]
       have ho:∀ c,c<(aK t i).length→(L ++ gT (aX t i) ji (aK t i).length).getD (L.length+c) q0=(aX t i,((c:Int),(ji:Int))):=fun c hc=>by
        rw [oJ,if_neg (by omega),Nat.add_sub_cancel_left,aYN hc]
       have hw:∀ c,c<(aK t i).length→(W ++ kN (aX t i) (own t p i) (aK t i).length).getD (L.length+c) []=own t p i ++ [(aX t i,(c:Int))]:=fun c hc=>by
        rw [oJ,if_neg (by rw [I.len]; omega),I.len,Nat.add_sub_cancel_left,bF2 hc]
       refine ⟨by rw [List.length_append,List.length_append,aD5,bF1,I.len],by rw [hlen]; have:=I.pos; omega,by rw [hlen]; have:=I.big; have:=N.w; omega,by rw [lo 0 I.pos]; exact I.s0,by rw [lw 0 I.pos]; exact I.w0,fun j h1 h2=>?_,fun j k hj hk e1 e2=>?_,fun m hmi hmm=>?_,fun k hkl hd=>?_⟩
       · by_cases hj:j<L.length
         · rw [lo j hj,lw j hj]
           obtain ⟨m,c,a1,a2,a3,a4,a5,a6,b,b1,b2,b3⟩:=I.at_ j h1 hj
           exact ⟨m,c,by omega,a2,a3,a4,a5,a6,b,b1,b2,by rw [lw b (by omega)]; exact b3⟩
         · obtain ⟨c,rfl⟩:∃ c,j=L.length+c:=⟨j - L.length,by omega⟩
           have hc:c<(aK t i).length:=by omega
           rw [ho c hc,hw c hc]
           exact ⟨i,c,by omega,hm,hc,rfl,rfl,rfl,ji,rfl,by omega,by rw [lw ji hji]; exact hjw⟩
       · by_cases hj1:j<L.length
         · by_cases hk1:k<L.length
           · rw [lo j hj1,lo k hk1] at e1 e2
             exact I.one j k hj1 hk1 e1 e2
           · obtain ⟨c,rfl⟩:∃ c,k=L.length+c:=⟨k - L.length,by omega⟩
             rw [lo j hj1,ho c (by omega)] at e1
             exact absurd e1 (hnew j hj1)
         · obtain ⟨c,rfl⟩:∃ c,j=L.length+c:=⟨j - L.length,by omega⟩
           by_cases hk1:k<L.length
           · rw [lo k hk1,ho c (by omega)] at e1
             exact absurd e1.symm (hnew k hk1)
           · obtain ⟨c', rfl⟩:∃ c,k=L.length+c:=⟨k - L.length,by omega⟩
             rw [ho c (by omega),ho c' (by omega)] at e2
             have e2' : (c:Int)=(c' : Int):=e2
             omega
       · by_cases hmi' : m=i
         · subst hmi'
           refine ⟨L.length,fun j hj=>by rw [lo j hj]; exact hnew j hj,fun c hc=>⟨by omega,by rw [ho c hc],by rw [ho c hc]⟩⟩
         · obtain ⟨j0,g1,g2⟩:=I.blk m (by omega) hmm
           have hml:0<(aK t m).length:=((T.node m (by omega)).who hmm.1).2.2.2.2
           have hj0:=(g2 0 hml).1
           refine ⟨j0,fun j hj=>by rw [lo j (by omega)]; exact g1 j hj,fun c hc=>?_⟩
           obtain ⟨g3,g4,g5⟩:=g2 c hc
           exact ⟨by omega,by rw [lo _ g3]; exact g4,by rw [lo _ g3]; exact g5⟩
       · rcases kid k hkl hd with h | ⟨c,h⟩
         · obtain ⟨j,hj,hjo⟩:=I.has k hkl h
           exact ⟨j,by omega,by rw [lw j hj]; exact hjo⟩
         · refine ⟨L.length+c,by rw [hlen]; have:=h.2.1; omega,?_⟩
           rw [hw c h.2.1,T.own_mine hm h]
     · -- pC
       have hk' : jY (bB t p i).1 (aX t i)=true:=by cases h:jY (bB t p i).1 (aX t i) with
        | true=>rfl
        | false=>exact absurd h hk
       have e:bB t p (i+1)=bB t p i:=by
        rw [bB,if_neg (fun h=>hk h.2)]
       rw [e]
       generalize (bB t p i).1=L at *
       generalize (bB t p i).2=W at *
       obtain ⟨j,hj,hjf⟩:=wV.1 hk'
       have hj1:1≤j:=by
        rcases Nat.eq_zero_or_pos j with h | h
        · rw [h,I.s0] at hjf
          have:(-1:Int)=aX t i:=hjf
          unfold aX at this; omega
        · exact h
       obtain ⟨m,c,a1,a2,a3,a4,_⟩:=I.at_ j hj1 hj
       have hmi:aX t m=aX t i:=a4.symm.trans hjf
       have hown:own t p m=own t p i:=hr m i (by omega) hil a2 hm hmi
       have hwd:(aK t m).length=(aK t i).length:=T.same m i (by omega) hil a2.1 hm.1 (a2.2.trans hm.2.symm) hmi
       have blki:∃ j0,(∀ j,j<j0→(L.getD j q0).1≠aX t i)∧∀ c,c<(aK t i).length→j0+c<L.length∧(L.getD (j0+c) q0).1=aX t i∧(L.getD (j0+c) q0).2.1=(c:Int):=by
        obtain ⟨j0,g1,g2⟩:=I.blk m a1 a2
        rw [hmi] at g1 g2
        rw [hwd] at g2
        exact ⟨j0,g1,g2⟩
       refine ⟨I.len,I.pos,by have:=I.big; omega,I.s0,I.w0,fun j h1 h2=>by
        obtain ⟨m,c,a1,a2⟩:=I.at_ j h1 h2
        exact ⟨m,c,by omega,a2⟩,I.one,fun m' hm' hmm=>?_,fun k hkl hd=>?_⟩
       · by_cases he:m' = i
         · subst he; exact blki
         · exact I.blk m' (by omega) hmm
       · rcases kid k hkl hd with h | ⟨c,h⟩
         · exact I.has k hkl h
         · obtain ⟨j0,_,g2⟩:=blki
           obtain ⟨g3,g4,g5⟩:=g2 c h.2.1
           have hge:1≤j0+c:=by
             rcases Nat.eq_zero_or_pos (j0+c) with h0 | h0
             · rw [h0,I.s0] at g4
               have:(-1:Int)=aX t i:=g4
               unfold aX at this; omega
             · exact h0
           obtain ⟨m2,c2,b1,b2,b3,b4,b5,b6,_⟩:=I.at_ _ hge g3
           have hi2:aX t m2=aX t i:=b4.symm.trans g4
           have hc2:(c2:Int)=(c:Int):=b5.symm.trans g5
           refine ⟨j0+c,g3,?_⟩
           rw [b6,hr m2 i (by omega) hil b2 hm hi2,hi2,hc2,T.own_mine hm h]
   · have e:bB t p (i+1)=bB t p i:=by
       rw [bB,if_neg (fun h=>hm h.1)]
     rw [e]
     refine ⟨I.len,I.pos,by have:=I.big; omega,I.s0,I.w0,fun j h1 h2=>by
      obtain ⟨m,c,a1,a2⟩:=I.at_ j h1 h2
      exact ⟨m,c,by omega,a2⟩,I.one,fun m' hm' hmm=>?_,fun k hkl hd=>?_⟩
     · by_cases he:m' = i
       · subst he; exact absurd hmm hm
       · exact I.blk m' (by omega) hmm
     · rcases kid k hkl hd with h | ⟨c,h⟩
       · exact I.has k hkl h
       · refine ⟨ji,hji,?_⟩
         rw [hjw,T.own_other hm h]
open Classical in
theorem wX {t:List Nd} {p:Int} (h:sJ t p=true):rem t p:=by
 unfold sJ at h
 exact of_decide_eq_true h
theorem bF3 {t:List Nd} {p:Int} (hg:eH t) (h:sJ t p=true):SeqInv t p t.length (mM t p) (aDF t p):=wW (eJ hg) (wX h) _ (Nat.le_refl _)
theorem aYO (t:List Nd) (p:Int) (i:Nat):∀ n,i≤n→(∃ l,(bB t p n).1=(bB t p i).1 ++ l)∧∃ w,(bB t p n).2=(bB t p i).2 ++ w
 | 0,h=>by
   have:i=0:=by omega
   subst this
   exact ⟨⟨[],by rw [List.append_nil]⟩,[],by rw [List.append_nil]⟩
 | n+1,h=>by
   by_cases hn:i=n+1
   · subst hn; exact ⟨⟨[],by rw [List.append_nil]⟩,[],by rw [List.append_nil]⟩
   · obtain ⟨⟨l,hl⟩,w,hw⟩:=aYO t p i n (by omega)
     rw [bB]
     split
     · exact ⟨⟨l ++ _,by rw [hl,List.append_assoc]⟩,w ++ _,by rw [hw,List.append_assoc]⟩
     · exact ⟨⟨l,hl⟩,w,hw⟩
noncomputable def atF (t:List Nd) (p:Int) (k:Nat):Int:=aLC (aDF t p) (own t p k)
theorem aLS {t:List Nd} {p:Int} (hg:eH t) (h:sJ t p=true) {i:Nat} (hi:i≤t.length) {j k:Nat} (hj:j<(bB t p i).1.length) (e:(bB t p i).2.getD j []=own t p k):atF t p k=(j:Int):=by
 have I:=wW (eJ hg) (wX h) i hi
 have J:=bF3 hg h
 obtain ⟨⟨l,hl⟩,w,hw⟩:=aYO t p i t.length hi
 have hL:(mM t p)=(bB t p i).1 ++ l:=hl
 have hW:(aDF t p)=(bB t p i).2 ++ w:=hw
 refine J.first ?_ ?_
 · rw [hL,List.length_append]; omega
 · rw [hW,oJ,if_pos (by rw [I.len]; exact hj)]; exact e
section
variable {t:List Nd} {p f:Int}
def i5 (t:List Nd) (p f:Int) (i:Nat):Prop:=fC t p i∧aX t i=f
theorem wY : ∀ {n:Nat},(∀ i,i<n→¬ i5 t p f i)→oE t p f n=0
 | 0,_=>rfl
 | n+1,h=>by
   unfold oE
   rw [if_neg (fun hc=>h n (by omega) ⟨⟨hc.2.1,hc.2.2.1⟩,hc.2.2.2⟩)]
   exact wY fun i hi=>h i (by omega)
theorem TreeOk.widthN_some (T:TreeOk t):∀ {n:Nat},n≤t.length→∀ {i:Nat},i<n→i5 t p f i→oE t p f n=(aK t i).length
 | 0,_,i,hi,_=>absurd hi (Nat.not_lt_zero _)
 | n + 1,hn,i,hi,hs=>by
   have sm:∀ {a b:Nat},a<t.length→b<t.length→i5 t p f a→i5 t p f b→(aK t a).length=(aK t b).length:=fun {a b} ha hb h1 h2=>T.same a b ha hb h1.1.1 h2.1.1 (h1.1.2.trans h2.1.2.symm) (h1.2.trans h2.2.symm)
   unfold oE
   by_cases hex:∃ j,j<n∧i5 t p f j
   · obtain ⟨j,hj,hjs⟩:=hex
     have e:=T.widthN_some (n:=n) (by omega) hj hjs
     have hp:=((T.node j (by omega)).who hjs.1.1).2.2.2.2
     rw [if_neg (fun hc=>by omega),e]
     exact sm (by omega) (by omega) hjs hs
   · have hin:i=n:=by
       by_cases h:i=n
       · exact h
       · exact absurd ⟨i,by omega,hs⟩ hex
     subst hin
     rw [if_pos ⟨wY fun j hj hc=>hex ⟨j,hj,hc⟩,hs.1.1,hs.1.2,hs.2⟩]
theorem TreeOk.width_of (T:TreeOk t) {i:Nat} (hi:i<t.length) (hs:i5 t p f i):widthOf t p f=(aK t i).length:=T.widthN_some (Nat.le_refl _) hi hs
theorem TreeOk.width_pos (T:TreeOk t):0<widthOf t p f↔∃ i,i<t.length∧i5 t p f i:=by
 constructor
 · intro h
   by_cases hex:∃ j,j<t.length∧i5 t p f j
   · exact hex
   · have:widthOf t p f=0:=wY fun j hj hc=>hex ⟨j,hj,hc⟩
     omega
 · rintro ⟨i,hi,hs⟩
   rw [T.width_of hi hs]
   exact ((T.node i hi).who hs.1.1).2.2.2.2
theorem aD6 {i:Nat}:sU p f (t.getD i nd0)=true↔i5 t p f i:=by
 unfold sU i5 fC aX
 rw [Bool.and_eq_true,Bool.and_eq_true,decide_eq_true_iff,decide_eq_true_iff,decide_eq_true_iff]
theorem TreeOk.idx_width (T:TreeOk t):(gV t p f = -1∧widthOf t p f=0)∨∃ i:Nat,gV t p f=(i:Int)∧i<t.length∧widthOf t p f=(aK t i).length∧0<widthOf t p f:=by
 rcases aD4 (sU p f) t nd0 with ⟨i,e,hi,h1,_⟩ | ⟨e,h1⟩
 · have hs:=aD6.1 h1
   refine .inr ⟨i,e,hi,T.width_of hi hs,T.width_pos.2 ⟨i,hi,hs⟩⟩
 · exact .inl ⟨e,wY fun i hi hc=>by have:=h1 i hi; rw [aD6.2 hc] at this; cases this⟩
theorem aD7 : ∀ n,(d9 t p n).length≤n
 | 0=>Nat.le_refl _
 | n+1=>by
   have:=aD7 n
   unfold d9
   split
   · rw [List.length_append]; simp; omega
   · omega
theorem wZ {f:Int}:∀ {n:Nat},f∈d9 t p n↔∃ k:Nat,k<n∧f=(k:Int)∧0<widthOf t p (k:Int)
 | 0=>by simp [d9]
 | n+1=>by
   unfold d9
   constructor
   · intro h
     split at h
     · rename_i hw
       rcases List.mem_append.1 h with h | h
       · obtain ⟨k,h1,h2⟩:=wZ.1 h; exact ⟨k,by omega,h2⟩
       · exact ⟨n,by omega,List.mem_singleton.1 h,hw⟩
     · obtain ⟨k,h1,h2⟩:=wZ.1 h; exact ⟨k,by omega,h2⟩
   · rintro ⟨k,h1,h2,h3⟩
     by_cases hk:k=n
     · subst hk; rw [if_pos h3,h2]; exact List.mem_append.2 (.inr (List.mem_singleton.2 rfl))
     · have:f∈d9 t p n:=wZ.2 ⟨k,by omega,h2,h3⟩
       split
       · exact List.mem_append.2 (.inl this)
       · exact this
theorem aYP : ∀ n,(d9 t p n).Pairwise (· < ·)
 | 0=>List.Pairwise.nil
 | n+1=>by
   have ih:=aYP n
   unfold d9
   split
   · refine List.pairwise_append.2 ⟨ih,List.pairwise_singleton _ _,fun a ha b hb=>?_⟩
     obtain ⟨k,h1,h2,_⟩:=wZ.1 ha
     rw [h2,List.mem_singleton.1 hb]; omega
   · exact ih
theorem oK : (bT t p).length≤10:=aD7 10
theorem aYQ {i j:Nat} (h:i<j) (hj:j<(bT t p).length):(bT t p).getD i 0<(bT t p).getD j 0:=by
 have hp:(bT t p).Pairwise (· < ·):=aYP 10
 generalize bT t p=l at *
 have:=List.pairwise_iff_getElem.1 hp i j (by omega) hj h
 rw [List.getD_eq_getElem?_getD,List.getD_eq_getElem?_getD,List.getElem?_eq_getElem (show i<l.length by omega),List.getElem?_eq_getElem hj]
 exact this
theorem aYR {i j:Nat} (hi:i<(bT t p).length) (hj:j<(bT t p).length) (h:(bT t p).getD i 0=(bT t p).getD j 0):i=j:=by
 rcases Nat.lt_trichotomy i j with hl | hl | hl
 · have:=aYQ hl hj; omega
 · exact hl
 · have:=aYQ hl hi; omega
theorem bF4 : (kO t p).length=(bT t p).length:=by unfold kO; simp
theorem bF5 {i:Nat} (hi:i<(bT t p).length):(kO t p).getD i 0=(widthOf t p ((bT t p).getD i 0):Int):=by
 unfold kO
 rw [List.getD_eq_getElem?_getD,List.getD_eq_getElem?_getD,List.getElem?_map,List.getElem?_eq_getElem hi]; rfl
theorem TreeOk.infos_at (T:TreeOk t) {m:Nat} (hm:m<t.length) (h:fC t p m):∃ i,i<(bT t p).length∧(bT t p).getD i 0=aX t m:=by
 have hw:=((T.node m hm).who h.1)
 have hmem:aX t m∈bT t p:=wZ.2 ⟨(aX t m).toNat,by unfold aX; omega,by unfold aX; omega,T.width_pos.2 ⟨m,hm,h,by unfold aX; omega⟩⟩
 obtain ⟨i,hi,e⟩:=List.getElem_of_mem hmem
 exact ⟨i,hi,by rw [List.getD_eq_getElem?_getD,List.getElem?_eq_getElem hi]; exact e⟩
end
section
variable {t:List Nd} {p:Int} {s:List Ch}
theorem aLT : ∀ {n:Nat},hJ t p s n=0↔∀ i,i<n→chE t p s i=0
 | 0=>⟨fun _ i hi=>absurd hi (Nat.not_lt_zero _),fun _=>rfl⟩
 | n+1=>by
   unfold hJ
   constructor
   · intro h
     split at h
     · rename_i h0
       intro i hi
       by_cases hin:i=n
       · rw [hin]; exact h
       · exact aLT.1 h0 i (by omega)
     · rename_i h0; exact absurd h h0
   · intro h
     rw [if_pos (aLT.2 fun i hi=>h i (by omega))]
     exact h n (by omega)
theorem aYS {n:Nat} (h0:hJ t p s n=0) (h1:chE t p s n≠0):∀ m,n<m→hJ t p s m=chE t p s n
 | 0,h=>absurd h (Nat.not_lt_zero _)
 | m+1,h=>by
   unfold hJ
   by_cases hm:m=n
   · rw [hm,if_pos h0]
   · have ih:=aYS h0 h1 m (by omega)
     rw [if_neg (by rw [ih]; exact h1),ih]
theorem aLU (h:s.length≠(bT t p).length):bI t p s=3:=if_pos h
theorem aD8 (h:s.length=(bT t p).length):bI t p s=hJ t p s s.length:=if_neg fun hc=>hc h
structure StratOk (t:List Nd) (p:Int) (s:List Ch):Prop where
 len:s.length=(bT t p).length
 at_:∀ i,i<s.length→(s.getD i ch0).1=(bT t p).getD i 0∧(s.getD i ch0).2.length=widthOf t p ((bT t p).getD i 0)∧cL (s.getD i ch0).2=0
theorem mS (h:bI t p s=0):StratOk t p s:=by
 by_cases hl:s.length=(bT t p).length
 · rw [aD8 hl] at h
   refine ⟨hl,fun i hi=>?_⟩
   have e:=aLT.1 h i hi
   unfold chE at e
   split at e
   · cases e
   · rename_i h1
     exact ⟨Decidable.not_not.1 fun hc=>h1 (.inl hc),Decidable.not_not.1 fun hc=>h1 (.inr hc),e⟩
 · rw [aLU hl] at h; cases h
theorem aYT {l:List ByteArray} (h:cL l=0):l.length≤256∧dX l=0:=by
 by_cases h1:256<l.length
 · rw [aXW h1] at h; cases h
 · by_cases h2:dX l=0
   · exact ⟨by omega,h2⟩
   · rw [aXX h1 h2] at h; exact absurd h h2
theorem StratOk.idx (S:StratOk t p s) {i:Nat} (hi:i<s.length) {f:Int} (hf:(bT t p).getD i 0=f):jN s f=(i:Int):=by
 refine mR (q:=fun c:Ch=>decide (c.1=f)) (d:=ch0) hi (decide_eq_true ((S.at_ i hi).1.trans hf)) fun j hj=>decide_eq_false fun hc=>?_
 have hji:j<s.length:=by omega
 have:=aYR (t:=t) (p:=p) (by rw [← S.len]; exact hji) (by rw [← S.len]; exact hi) (((S.at_ j hji).1.symm.trans hc).trans hf.symm)
 omega
theorem StratOk.odd (S:StratOk t p s) (T:TreeOk t) {m c:Nat} (hm:m<t.length) (h:fC t p m) (hc:c<(aK t m).length):oI s (aX t m) (c:Int):=by
 obtain ⟨i,hi,e⟩:=T.infos_at hm h
 rw [← S.len] at hi
 have e2:=S.idx hi e
 obtain ⟨a1,a2,a3⟩:=S.at_ i hi
 rw [e,T.width_of hm ⟨h,rfl⟩] at a2
 have hle:=oK (t:=t) (p:=p)
 have hsl:=S.len
 refine ⟨by unfold SmA; omega,by rw [e2]; omega,by rw [e2]; omega,by omega,by rw [e2,Int.toNat_natCast]; omega,?_⟩
 unfold dN
 rw [e2,Int.toNat_natCast,Int.toNat_natCast]
 exact aK0 (aYT a3).2 _ (d8 (by omega))
end
section
variable {l:List Sq} {s:List Ch}
theorem sV {f c:Int} (h:oI s f c):dN s f c=ratText (bQ (dN s f c))∧Sz 2000 (bQ (dN s f c)):=aKW h.2.2.2.2.2
end
end
end Go.Proofs.YtpngedkdkpfnkaaGreatDoor.Lib
end
section
set_option linter.unusedSimpArgs false
set_option linter.unusedVariables false
namespace Go.Proofs.YtpngedkdkpfnkaaGreatDoor.Mach
open Go Go.Proofs.YtpngedkdkpfnkaaGreatDoor Go.Proofs.YtpngedkdkpfnkaaGreatDoor.Lib
section
set_option maxRecDepth 1000000
def aD9 : List (Nat × List Nat):=[(2,[0,1,7,8])]
def aEA : List (Nat × ETy):=[]
noncomputable def oL (t:List Nd) (p f x0 x1:Int):St:=aQ 19 [(0,AV.imm aT t),(1,AV.fn 109 [AV.adr [AV.int .i64 p],AV.adr [AV.int .i64 f]]),(7,AV.int .i64 x0),(8,AV.int .i64 x1)] []
theorem bF6 (t:List Nd) (p f:Int) (n0:Nat) (K:AV→List aA→Prop) :
 aF tab (aL tab bE [109] 400) (aI aD9 aEA (aB Tryz.prog n0 108 K)) (aG tab (fnT Tryz.f108).res K) 400 [.code (fnT Tryz.f108).body] ⟨aU (fnT Tryz.f108).n [AV.imm aT t,AV.fn 109 [AV.adr [AV.int .i64 p],AV.adr [AV.int .i64 f]]],[]⟩ =
 (aB Tryz.prog n0 108 K (aD (fnT Tryz.f108) 2) (oL t p f (↑t.length:Int) 0)):=by kernel_rfl
theorem bF7 (t:List Nd) (p f x0 x1:Int) (n0:Nat) (K:AV→List aA→Prop) :
 aF tab (aL tab bE [109] 400) (aI aD9 aEA (aB Tryz.prog n0 108 K)) (aG tab (fnT Tryz.f108).res K) 400 (aR (fnT Tryz.f108) 2) (oL t p f x0 x1) =
 (bif decide (x1<x0) then bif decide (0≤x1) && decide (x1<(↑t.length:Int)) then bif decide ((t.getD x1.toNat (0,0,0,[],[],ByteArray.empty)).1=2) then bif bif true then decide ((t.getD x1.toNat (0,0,0,[],[],ByteArray.empty)).2.1=p) else false then bif bif true then decide ((t.getD x1.toNat (0,0,0,[],[],ByteArray.empty)).2.2.1=f) else false then K (AV.int .i64 x1) [bxN (t.getD x1.toNat (0,0,0,[],[],ByteArray.empty))] else aB Tryz.prog n0 108 K (aD (fnT Tryz.f108) 2) (oL t p f x0 (IntKind.i64.wrap (x1+1))) else aB Tryz.prog n0 108 K (aD (fnT Tryz.f108) 2) (oL t p f x0 (IntKind.i64.wrap (x1+1))) else aB Tryz.prog n0 108 K (aD (fnT Tryz.f108) 2) (oL t p f x0 (IntKind.i64.wrap (x1+1))) else False else K (AV.int .i64 (-1)) []):=by kernel_rfl
def aEB : List (Nat × List Nat):=[(2,[0,1,7,8])]
def aEC : List (Nat × ETy):=[]
noncomputable def aED (l:List (Int × Int × Int)) (k w f:Int) (n:List Int) (o:List ByteArray) (y:ByteArray) (x0 x1:Int):St:=aQ 19 [(0,AV.imm eSq l),(1,AV.fn 116 [AV.adr [AV.int .i64 k,AV.int .i64 w,AV.int .i64 f,AV.imm eI n,AV.imm eS o,AV.str y]]),(7,AV.int .i64 x0),(8,AV.int .i64 x1)] []
theorem bF8 (l:List (Int × Int × Int)) (k w f:Int) (n:List Int) (o:List ByteArray) (y:ByteArray) (n0:Nat) (K:AV→List aA→Prop) :
 aF tab (aL tab bE [116] 400) (aI aEB aEC (aB Tryz.prog n0 115 K)) (aG tab (fnT Tryz.f115).res K) 400 [.code (fnT Tryz.f115).body] ⟨aU (fnT Tryz.f115).n [AV.imm eSq l,AV.fn 116 [AV.adr [AV.int .i64 k,AV.int .i64 w,AV.int .i64 f,AV.imm eI n,AV.imm eS o,AV.str y]]],[]⟩ =
 (aB Tryz.prog n0 115 K (aD (fnT Tryz.f115) 2) (aED l k w f n o y (↑l.length:Int) 0)):=by kernel_rfl
theorem bF9 (l:List (Int × Int × Int)) (k w f:Int) (n:List Int) (o:List ByteArray) (y:ByteArray) (x0 x1:Int) (n0:Nat) (K:AV→List aA→Prop) :
 aF tab (aL tab bE [116] 400) (aI aEB aEC (aB Tryz.prog n0 115 K)) (aG tab (fnT Tryz.f115).res K) 400 (aR (fnT Tryz.f115) 2) (aED l k w f n o y x0 x1) =
 (bif decide (x1<x0) then bif decide (0≤x1) && decide (x1<(↑l.length:Int)) then bif decide ((l.getD x1.toNat (0,0,0)).1=f) then K (AV.int .i64 x1) [aA.box [AV.int .i64 (l.getD x1.toNat (0,0,0)).1,AV.int .i64 (l.getD x1.toNat (0,0,0)).2.1,AV.int .i64 (l.getD x1.toNat (0,0,0)).2.2]] else aB Tryz.prog n0 115 K (aD (fnT Tryz.f115) 2) (aED l k w f n o y x0 (IntKind.i64.wrap (x1+1))) else False else K (AV.int .i64 (-1)) []):=by kernel_rfl
def aEE : List (Nat × List Nat):=[(2,[0,1,7,8])]
def aEF : List (Nat × ETy):=[]
noncomputable def aEG (s:List (Int × List ByteArray)) (f x0 x1:Int):St:=aQ 19 [(0,AV.imm eCh s),(1,AV.fn 97 [AV.adr [AV.int .i64 f]]),(7,AV.int .i64 x0),(8,AV.int .i64 x1)] []
theorem bGA (s:List (Int × List ByteArray)) (f:Int) (n0:Nat) (K:AV→List aA→Prop) :
 aF tab (aL tab bE [97] 400) (aI aEE aEF (aB Tryz.prog n0 96 K)) (aG tab (fnT Tryz.f96).res K) 400 [.code (fnT Tryz.f96).body] ⟨aU (fnT Tryz.f96).n [AV.imm eCh s,AV.fn 97 [AV.adr [AV.int .i64 f]]],[]⟩ =
 (aB Tryz.prog n0 96 K (aD (fnT Tryz.f96) 2) (aEG s f (↑s.length:Int) 0)):=by kernel_rfl
theorem bGB (s:List (Int × List ByteArray)) (f x0 x1:Int) (n0:Nat) (K:AV→List aA→Prop) :
 aF tab (aL tab bE [97] 400) (aI aEE aEF (aB Tryz.prog n0 96 K)) (aG tab (fnT Tryz.f96).res K) 400 (aR (fnT Tryz.f96) 2) (aEG s f x0 x1) =
 (bif decide (x1<x0) then bif decide (0≤x1) && decide (x1<(↑s.length:Int)) then bif decide ((s.getD x1.toNat (0,[])).1=f) then K (AV.int .i64 x1) [aA.box [AV.int .i64 (s.getD x1.toNat (0,[])).1,AV.imm eS (s.getD x1.toNat (0,[])).2]] else aB Tryz.prog n0 96 K (aD (fnT Tryz.f96) 2) (aEG s f x0 (IntKind.i64.wrap (x1+1))) else False else K (AV.int .i64 (-1)) []):=by kernel_rfl
def aEH : List (Nat × List Nat):=[(2,[0,1,7,8])]
def aEI : List (Nat × ETy):=[]
noncomputable def aEJ (l:List ByteArray) (x0 x1:Int):St:=aQ 19 [(0,AV.imm eS l),(1,AV.fn 30 []),(7,AV.int .i64 x0),(8,AV.int .i64 x1)] []
theorem bGC (l:List ByteArray) (n0:Nat) (K:AV→List aA→Prop) :
 aF tab (aL tab bE [30] 400) (aI aEH aEI (aB Tryz.prog n0 59 K)) (aG tab (fnT Tryz.f59).res K) 400 [.code (fnT Tryz.f59).body] ⟨aU (fnT Tryz.f59).n [AV.imm eS l,AV.fn 30 []],[]⟩ =
 (aB Tryz.prog n0 59 K (aD (fnT Tryz.f59) 2) (aEJ l (↑l.length:Int) 0)):=by kernel_rfl
theorem bGD (l:List ByteArray) (x0 x1:Int) (n0:Nat) (K:AV→List aA→Prop) :
 aF tab (aL tab bE [30] 400) (aI aEH aEI (aB Tryz.prog n0 59 K)) (aG tab (fnT Tryz.f59).res K) 400 (aR (fnT Tryz.f59) 2) (aEJ l x0 x1) =
 (bif decide (x1<x0) then bif decide (0≤x1) && decide (x1<(↑l.length:Int)) then bif decide ((↑(ByteArray.size (l.getD x1.toNat ByteArray.empty)):Int) > 12) then K (AV.int .i64 x1) [] else aB Tryz.prog n0 59 K (aD (fnT Tryz.f59) 2) (aEJ l x0 (IntKind.i64.wrap (x1+1))) else False else K (AV.int .i64 (-1)) []):=by kernel_rfl
def aEK : List (Nat × List Nat):=[(2,[0,1,7,8])]
def aEL : List (Nat × ETy):=[]
noncomputable def aEM (l:List ByteArray) (x0 x1:Int):St:=aQ 19 [(0,AV.imm eS l),(1,AV.fn 44 []),(7,AV.int .i64 x0),(8,AV.int .i64 x1)] []
theorem bGE (l:List ByteArray) (n0:Nat) (K:AV→List aA→Prop) :
 aF tab (aL tab bE [44] 400) (aI aEK aEL (aB Tryz.prog n0 59 K)) (aG tab (fnT Tryz.f59).res K) 400 [.code (fnT Tryz.f59).body] ⟨aU (fnT Tryz.f59).n [AV.imm eS l,AV.fn 44 []],[]⟩ =
 (aB Tryz.prog n0 59 K (aD (fnT Tryz.f59) 2) (aEM l (↑l.length:Int) 0)):=by kernel_rfl
theorem bGF (l:List ByteArray) (x0 x1:Int) (n0:Nat) (K:AV→List aA→Prop) :
 aF tab (aL tab bE [44] 400) (aI aEK aEL (aB Tryz.prog n0 59 K)) (aG tab (fnT Tryz.f59).res K) 400 (aR (fnT Tryz.f59) 2) (aEM l x0 x1) =
 (bif decide (x1<x0) then bif decide (0≤x1) && decide (x1<(↑l.length:Int)) then bif decide ((↑(ByteArray.size (l.getD x1.toNat ByteArray.empty)):Int) > 12) then K (AV.int .i64 x1) [] else aB Tryz.prog n0 59 K (aD (fnT Tryz.f59) 2) (aEM l x0 (IntKind.i64.wrap (x1+1))) else False else K (AV.int .i64 (-1)) []):=by kernel_rfl
def aEN : List (Nat × List Nat):=[(3,[0,3,6,7,10])]
def aEO : List (Nat × ETy):=[(6,eI),(7,eI)]
noncomputable def mT (t:List Nd) (p x0:Int) (x1 x2:List Int):St:=aQ 34 [(0,AV.imm aT t),(3,AV.ptr 0 0),(6,AV.own 1),(7,AV.own 2),(10,AV.int .i64 x0)] [aA.box [AV.int .i64 p],aA.typed eI x1 false,aA.typed eI x2 false]
theorem bGG (t:List Nd) (p:Int) (n0:Nat) (K:AV→List aA→Prop) :
 aF tab (aL tab aLO [] 400) (aI aEN aEO (aB Tryz.prog n0 79 K)) (aG tab (fnT Tryz.f79).res K) 400 [.code (fnT Tryz.f79).body] ⟨aU (fnT Tryz.f79).n [AV.imm aT t,AV.int .i64 p],[]⟩ =
 (aB Tryz.prog n0 79 K (aD (fnT Tryz.f79) 3) (mT t p 0 [] [])):=by kernel_rfl
theorem bGH (t:List Nd) (p x0:Int) (x1 x2:List Int) (n0:Nat) (K:AV→List aA→Prop) :
 aF tab (aL tab aLO [] 400) (aI aEN aEO (aB Tryz.prog n0 79 K)) (aG tab (fnT Tryz.f79).res K) 400 (aR (fnT Tryz.f79) 3) (mT t p x0 x1 x2) =
 (bif decide (x0<10) then SmA t∧bif decide (gV t p x0 ≥ 0) then bif decide (0≤gV t p x0) && decide (gV t p x0<(↑t.length:Int)) then (bif bif (x1.length+[x0].length).ble 9223372036854775807 then ((x1.length+[x0].length) * 8).ble 140737488355328 else false then bif bif (x2.length+[(↑(List.length (t.getD (gV t p x0).toNat (0,0,0,[],[],ByteArray.empty)).2.2.2.1):Int)].length).ble 9223372036854775807 then ((x2.length+[(↑(List.length (t.getD (gV t p x0).toNat (0,0,0,[],[],ByteArray.empty)).2.2.2.1):Int)].length) * 8).ble 140737488355328 else false then aB Tryz.prog n0 79 K (aD (fnT Tryz.f79) 3) (mT t p (IntKind.i64.wrap (x0+1)) (x1 ++ [x0]) (x2 ++ [(↑(List.length (t.getD (gV t p x0).toNat (0,0,0,[],[],ByteArray.empty)).2.2.2.1):Int)])) else False else False)∧(bif bif (x1.length+[x0].length).ble 9223372036854775807 then ((x1.length+[x0].length) * 8).ble 140737488355328 else false then bif bif (x2.length+[(↑(List.length (t.getD (gV t p x0).toNat (0,0,0,[],[],ByteArray.empty)).2.2.2.1):Int)].length).ble 9223372036854775807 then ((x2.length+[(↑(List.length (t.getD (gV t p x0).toNat (0,0,0,[],[],ByteArray.empty)).2.2.2.1):Int)].length) * 8).ble 140737488355328 else false then aB Tryz.prog n0 79 K (aD (fnT Tryz.f79) 3) (mT t p (IntKind.i64.wrap (x0+1)) (x1 ++ [x0]) (x2 ++ [(↑(List.length (t.getD (gV t p x0).toNat (0,0,0,[],[],ByteArray.empty)).2.2.2.1):Int)])) else False else False)∧bif bif (x1.length+[x0].length).ble 9223372036854775807 then ((x1.length+[x0].length) * 8).ble 140737488355328 else false then bif bif (x2.length+[(↑(List.length (t.getD (gV t p x0).toNat (0,0,0,[],[],ByteArray.empty)).2.2.2.1):Int)].length).ble 9223372036854775807 then ((x2.length+[(↑(List.length (t.getD (gV t p x0).toNat (0,0,0,[],[],ByteArray.empty)).2.2.2.1):Int)].length) * 8).ble 140737488355328 else false then aB Tryz.prog n0 79 K (aD (fnT Tryz.f79) 3) (mT t p (IntKind.i64.wrap (x0+1)) (x1 ++ [x0]) (x2 ++ [(↑(List.length (t.getD (gV t p x0).toNat (0,0,0,[],[],ByteArray.empty)).2.2.2.1):Int)])) else False else False else False else aB Tryz.prog n0 79 K (aD (fnT Tryz.f79) 3) (mT t p (IntKind.i64.wrap (x0+1)) x1 x2) else K (AV.tup [AV.own 1,AV.own 2]) [aA.box [AV.int .i64 p],aA.typed eI x1 false,aA.typed eI x2 false]):=by kernel_rfl
def mU : List (Nat × List Nat):=[(4,[1,6,7,20,21,22]),(13,[1,6,7,8,9,10,11,20,21,22,46,47]),(18,[1,6,7,8,10,11,20,21,22,63,64,65])]
def mV : List (Nat × ETy):=[(6,eSq),(7,eI),(20,aT),(63,eI)]
noncomputable def w4 (t:List Nd) (p x0 x1:Int) (x2:List (Int × Int × Int)) (x3:List Int):St:=aQ 88 [(1,AV.int .i64 p),(6,AV.own 0),(7,AV.own 1),(20,AV.imm aT t),(21,AV.int .i64 x0),(22,AV.int .i64 x1)] [aA.typed eSq x2 false,aA.typed eI x3 false]
noncomputable def aEP (t:List Nd) (p x0:Int) (x1:Bool) (x2 x3 x4 x5 x6:Int) (x7:List (Int × Int × Int)) (x8:List Int) (x9 x10 x11:Int) (x12:List Int) (x13:List ByteArray) (x14:ByteArray):St:=aQ 88 [(1,AV.int .i64 p),(6,AV.own 0),(7,AV.own 1),(8,AV.int .i64 x0),(9,AV.ptr 2 0),(10,AV.bool x1),(11,AV.int .i64 x2),(20,AV.imm aT t),(21,AV.int .i64 x3),(22,AV.int .i64 x4),(46,AV.int .i64 x5),(47,AV.int .i64 x6)] [aA.typed eSq x7 false,aA.typed eI x8 false,bx6 x9 x10 x11 x12 x13 x14]
noncomputable def lL (t:List Nd) (p x0:Int) (x1:Bool) (x2 x3 x4:Int) (x5:List Int) (x6 x7:Int) (x8:List (Int × Int × Int)) (x9:List Int):St:=aQ 88 [(1,AV.int .i64 p),(6,AV.own 0),(7,AV.own 1),(8,AV.int .i64 x0),(10,AV.bool x1),(11,AV.int .i64 x2),(20,AV.imm aT t),(21,AV.int .i64 x3),(22,AV.int .i64 x4),(63,AV.imm eI x5),(64,AV.int .i64 x6),(65,AV.int .i64 x7)] [aA.typed eSq x8 false,aA.typed eI x9 false]
noncomputable def bGI (t:List Nd) (p x0 x1 x2 x3:Int) (x4:List Int) (x5 x6:Int) (x7:List (Int × Int × Int)) (x8:List Int):St:=aQ 88 [(1,AV.int .i64 p),(6,AV.own 0),(7,AV.own 1),(8,AV.int .i64 x0),(10,AV.bool false),(11,AV.int .i64 x1),(20,AV.imm aT t),(21,AV.int .i64 x2),(22,AV.int .i64 x3),(63,AV.imm eI x4),(64,AV.int .i64 x5),(65,AV.int .i64 x6)] [aA.typed eSq x7 false,aA.typed eI x8 false]
theorem bGJ (t:List Nd) (p:Int) (n0:Nat) (K:AV→List aA→Prop) :
 aF tab (aL tab wS [] 400) (aI mU mV (aB Tryz.prog n0 87 K)) (aG tab (fnT Tryz.f87).res K) 400 [.code (fnT Tryz.f87).body] ⟨aU (fnT Tryz.f87).n [AV.imm aT t,AV.int .i64 p],[]⟩ =
 (bif decide (0≤(↑t.length:Int)) && decide ((↑t.length:Int)≤(↑t.length:Int)) && bif (↑t.length:Int).toNat.ble 9223372036854775807 then ((↑t.length:Int).toNat * 8).ble 281474976710656 else false then aB Tryz.prog n0 87 K (aD (fnT Tryz.f87) 4) (w4 t p (↑t.length:Int) 0 [(-1, -1, -1)] (List.replicate (↑t.length:Int).toNat 0)) else False):=by kernel_rfl
theorem bGK (t:List Nd) (p x0 x1:Int) (x2:List (Int × Int × Int)) (x3:List Int) (n0:Nat) (K:AV→List aA→Prop) :
 aF tab (aL tab wS [] 400) (aI mU mV (aB Tryz.prog n0 87 K)) (aG tab (fnT Tryz.f87).res K) 400 (aR (fnT Tryz.f87) 4) (w4 t p x0 x1 x2 x3) =
 (bif decide (x1<x0) then bif decide (0≤x1) && decide (x1<(↑t.length:Int)) then bif decide ((t.getD x1.toNat (0,0,0,[],[],ByteArray.empty)).1=2) then bif bif true then decide ((t.getD x1.toNat (0,0,0,[],[],ByteArray.empty)).2.1=p) else false then SmA x2∧bif decide (jZ x2 (t.getD x1.toNat (0,0,0,[],[],ByteArray.empty)).2.2.1<0) then aB Tryz.prog n0 87 K (aD (fnT Tryz.f87) 13) (aEP t p x1 (bif true then decide ((t.getD x1.toNat (0,0,0,[],[],ByteArray.empty)).2.1=p) else false) (↑x2.length:Int) x0 x1 (↑(List.length (t.getD x1.toNat (0,0,0,[],[],ByteArray.empty)).2.2.2.1):Int) 0 x2 x3 (t.getD x1.toNat (0,0,0,[],[],ByteArray.empty)).1 (t.getD x1.toNat (0,0,0,[],[],ByteArray.empty)).2.1 (t.getD x1.toNat (0,0,0,[],[],ByteArray.empty)).2.2.1 (t.getD x1.toNat (0,0,0,[],[],ByteArray.empty)).2.2.2.1 (t.getD x1.toNat (0,0,0,[],[],ByteArray.empty)).2.2.2.2.1 (t.getD x1.toNat (0,0,0,[],[],ByteArray.empty)).2.2.2.2.2) else aB Tryz.prog n0 87 K (aD (fnT Tryz.f87) 18) (lL t p x1 (bif true then decide ((t.getD x1.toNat (0,0,0,[],[],ByteArray.empty)).2.1=p) else false) (jZ x2 (t.getD x1.toNat (0,0,0,[],[],ByteArray.empty)).2.2.1) x0 x1 (t.getD x1.toNat (0,0,0,[],[],ByteArray.empty)).2.2.2.1 (↑(List.length (t.getD x1.toNat (0,0,0,[],[],ByteArray.empty)).2.2.2.1):Int) 0 x2 x3) else aB Tryz.prog n0 87 K (aD (fnT Tryz.f87) 18) (lL t p x1 (bif true then decide ((t.getD x1.toNat (0,0,0,[],[],ByteArray.empty)).2.1=p) else false) (-1) x0 x1 (t.getD x1.toNat (0,0,0,[],[],ByteArray.empty)).2.2.2.1 (↑(List.length (t.getD x1.toNat (0,0,0,[],[],ByteArray.empty)).2.2.2.1):Int) 0 x2 x3) else aB Tryz.prog n0 87 K (aD (fnT Tryz.f87) 18) (bGI t p x1 (-1) x0 x1 (t.getD x1.toNat (0,0,0,[],[],ByteArray.empty)).2.2.2.1 (↑(List.length (t.getD x1.toNat (0,0,0,[],[],ByteArray.empty)).2.2.2.1):Int) 0 x2 x3) else False else K (AV.tup [AV.own 0,AV.own 1]) [aA.typed eSq x2 false,aA.typed eI x3 false]):=by kernel_rfl
theorem bGL (t:List Nd) (p x0:Int) (x1:Bool) (x2 x3 x4 x5 x6:Int) (x7:List (Int × Int × Int)) (x8:List Int) (x9 x10 x11:Int) (x12:List Int) (x13:List ByteArray) (x14:ByteArray) (n0:Nat) (K:AV→List aA→Prop) :
 aF tab (aL tab wS [] 400) (aI mU mV (aB Tryz.prog n0 87 K)) (aG tab (fnT Tryz.f87).res K) 400 (aR (fnT Tryz.f87) 13) (aEP t p x0 x1 x2 x3 x4 x5 x6 x7 x8 x9 x10 x11 x12 x13 x14) =
 (bif decide (x6<x5) then bif decide (0≤x0) && decide (x0<(↑x8.length:Int)) then bif bif (x7.length+[(x11,x6,x8.getD x0.toNat 0)].length).ble 9223372036854775807 then ((x7.length+[(x11,x6,x8.getD x0.toNat 0)].length) * 24).ble 140737488355328 else false then aB Tryz.prog n0 87 K (aD (fnT Tryz.f87) 13) (aEP t p x0 x1 x2 x3 x4 x5 (IntKind.i64.wrap (x6+1)) (x7 ++ [(x11,x6,x8.getD x0.toNat 0)]) x8 x9 x10 x11 x12 x13 x14) else False else False else aB Tryz.prog n0 87 K (aD (fnT Tryz.f87) 18) (lL t p x0 x1 x2 x3 x4 x12 (↑x12.length:Int) 0 x7 x8)):=by kernel_rfl
theorem bGM (t:List Nd) (p x0:Int) (x1:Bool) (x2 x3 x4:Int) (x5:List Int) (x6 x7:Int) (x8:List (Int × Int × Int)) (x9:List Int) (n0:Nat) (K:AV→List aA→Prop) :
 aF tab (aL tab wS [] 400) (aI mU mV (aB Tryz.prog n0 87 K)) (aG tab (fnT Tryz.f87).res K) 400 (aR (fnT Tryz.f87) 18) (lL t p x0 x1 x2 x3 x4 x5 x6 x7 x8 x9) =
 (bif decide (x7<x6) then bif decide (0≤x7) && decide (x7<(↑x5.length:Int)) then bif decide (0≤x0) && decide (x0<(↑x9.length:Int)) then bif decide (0≤x5.getD x7.toNat 0) && decide (x5.getD x7.toNat 0<(↑x9.length:Int)) then bif x1 then bif decide (0≤x5.getD x7.toNat 0) && decide (x5.getD x7.toNat 0<(↑(x9.set (Int.toNat (x5.getD x7.toNat 0)) (x9.getD x0.toNat 0)).length:Int)) then aB Tryz.prog n0 87 K (aD (fnT Tryz.f87) 18) (lL t p x0 x1 x2 x3 x4 x5 x6 (IntKind.i64.wrap (x7+1)) x8 ((x9.set (Int.toNat (x5.getD x7.toNat 0)) (x9.getD x0.toNat 0)).set (Int.toNat (x5.getD x7.toNat 0)) (IntKind.i64.wrap (x2+x7)))) else False else aB Tryz.prog n0 87 K (aD (fnT Tryz.f87) 18) (lL t p x0 x1 x2 x3 x4 x5 x6 (IntKind.i64.wrap (x7+1)) x8 (x9.set (Int.toNat (x5.getD x7.toNat 0)) (x9.getD x0.toNat 0))) else False else False else False else aB Tryz.prog n0 87 K (aD (fnT Tryz.f87) 4) (w4 t p x3 (IntKind.i64.wrap (x4+1)) x8 x9)):=by kernel_rfl
def aYU : List (Nat × List Nat):=[]
def aYV : List (Nat × ETy):=[]
theorem bGN (s:List (Int × List ByteArray)) (f c:Int) (n0:Nat) (K:AV→List aA→Prop) :
 aF tab (aL tab aYL [] 400) (aI aYU aYV (aB Tryz.prog n0 61 K)) (aG tab (fnT Tryz.f61).res K) 400 [.code (fnT Tryz.f61).body] ⟨aU (fnT Tryz.f61).n [AV.imm eCh s,AV.int .i64 f,AV.int .i64 c],[]⟩ =
 (SmA s∧bif decide (0≤jN s f) && decide (jN s f<(↑s.length:Int)) then bif decide (0≤c) && decide (c<(↑(List.length (s.getD (jN s f).toNat (0,[])).2):Int)) then ∃ q,List.getD (s.getD (jN s f).toNat (0,[])).2 c.toNat ByteArray.empty=Sem.ratText q∧Sz 4000000000 q∧∀ (z:Bool × List Int × List Int),Sem.QV z q→K (AV.agg [AV.bool z.1,AV.imm eW z.2.1,AV.imm eW z.2.2]) [aA.box [AV.int .i64 f],aA.box [AV.bool z.1,AV.imm eW z.2.1,AV.imm eW z.2.2]] else False else False):=by kernel_rfl
def aEQ : List (Nat × List Nat):=[(2,[1,2,9,10,11])]
def aER : List (Nat × ETy):=[(9,aT)]
noncomputable def oM (t:List Nd) (p f x0 x1:Int):St:=aQ 34 [(1,AV.int .i64 p),(2,AV.int .i64 f),(9,AV.imm aT t),(10,AV.int .i64 x0),(11,AV.int .i64 x1)] []
theorem bGO (t:List Nd) (p f:Int) (n0:Nat) (K:AV→List aA→Prop) :
 aF tab (aL tab bE [] 400) (aI aEQ aER (aB Tryz.prog n0 40 K)) (aG tab (fnT Tryz.f40).res K) 400 [.code (fnT Tryz.f40).body] ⟨aU (fnT Tryz.f40).n [AV.imm aT t,AV.int .i64 p,AV.int .i64 f],[]⟩ =
 (aB Tryz.prog n0 40 K (aD (fnT Tryz.f40) 2) (oM t p f (↑t.length:Int) 0)):=by kernel_rfl
theorem bGP (t:List Nd) (p f x0 x1:Int) (n0:Nat) (K:AV→List aA→Prop) :
 aF tab (aL tab bE [] 400) (aI aEQ aER (aB Tryz.prog n0 40 K)) (aG tab (fnT Tryz.f40).res K) 400 (aR (fnT Tryz.f40) 2) (oM t p f x0 x1) =
 (bif decide (x1<x0) then bif decide (0≤x1) && decide (x1<(↑t.length:Int)) then bif decide ((t.getD x1.toNat (0,0,0,[],[],ByteArray.empty)).1=2) then bif bif true then decide ((t.getD x1.toNat (0,0,0,[],[],ByteArray.empty)).2.1=p) else false then bif bif true then decide ((t.getD x1.toNat (0,0,0,[],[],ByteArray.empty)).2.2.1=f) else false then K (AV.int .i64 (↑(List.length (t.getD x1.toNat (0,0,0,[],[],ByteArray.empty)).2.2.2.1):Int)) [bxN (t.getD x1.toNat (0,0,0,[],[],ByteArray.empty))] else aB Tryz.prog n0 40 K (aD (fnT Tryz.f40) 2) (oM t p f x0 (IntKind.i64.wrap (x1+1))) else aB Tryz.prog n0 40 K (aD (fnT Tryz.f40) 2) (oM t p f x0 (IntKind.i64.wrap (x1+1))) else aB Tryz.prog n0 40 K (aD (fnT Tryz.f40) 2) (oM t p f x0 (IntKind.i64.wrap (x1+1))) else False else K (AV.int .i64 0) []):=by kernel_rfl
def aES : List (Nat × List Nat):=[(3,[0,1,5,7])]
def aET : List (Nat × ETy):=[(5,eI)]
noncomputable def w5 (t:List Nd) (p x0:Int) (x1:List Int):St:=aQ 21 [(0,AV.imm aT t),(1,AV.int .i64 p),(5,AV.own 0),(7,AV.int .i64 x0)] [aA.typed eI x1 false]
theorem bGQ (t:List Nd) (p:Int) (n0:Nat) (K:AV→List aA→Prop) :
 aF tab (aL tab aLP [] 400) (aI aES aET (aB Tryz.prog n0 39 K)) (aG tab (fnT Tryz.f39).res K) 400 [.code (fnT Tryz.f39).body] ⟨aU (fnT Tryz.f39).n [AV.imm aT t,AV.int .i64 p],[]⟩ =
 (aB Tryz.prog n0 39 K (aD (fnT Tryz.f39) 3) (w5 t p 0 [])):=by kernel_rfl
theorem bGR (t:List Nd) (p x0:Int) (x1:List Int) (n0:Nat) (K:AV→List aA→Prop) :
 aF tab (aL tab aLP [] 400) (aI aES aET (aB Tryz.prog n0 39 K)) (aG tab (fnT Tryz.f39).res K) 400 (aR (fnT Tryz.f39) 3) (w5 t p x0 x1) =
 (bif decide (x0<10) then eH t∧bif decide ((↑(widthOf t p x0):Int) > 0) then bif bif (x1.length+[x0].length).ble 9223372036854775807 then ((x1.length+[x0].length) * 8).ble 140737488355328 else false then aB Tryz.prog n0 39 K (aD (fnT Tryz.f39) 3) (w5 t p (IntKind.i64.wrap (x0+1)) (x1 ++ [x0])) else False else aB Tryz.prog n0 39 K (aD (fnT Tryz.f39) 3) (w5 t p (IntKind.i64.wrap (x0+1)) x1) else K (AV.own 0) [aA.typed eI x1 false]):=by kernel_rfl
def aEU : List (Nat × List Nat):=[(5,[0,1,7,19,20,21])]
def aEV : List (Nat × ETy):=[(7,eI),(19,eCh)]
noncomputable def aEW (t:List Nd) (p:Int) (s:List (Int × List ByteArray)) (x0:List Int) (x1 x2:Int):St:=aQ 53 [(0,AV.imm aT t),(1,AV.int .i64 p),(7,AV.imm eI x0),(19,AV.imm eCh s),(20,AV.int .i64 x1),(21,AV.int .i64 x2)] []
theorem bGS (t:List Nd) (p:Int) (s:List (Int × List ByteArray)) (n0:Nat) (K:AV→List aA→Prop) :
 aF tab (aL tab wT [] 400) (aI aEU aEV (aB Tryz.prog n0 13 K)) (aG tab (fnT Tryz.f13).res K) 400 [.code (fnT Tryz.f13).body] ⟨aU (fnT Tryz.f13).n [AV.imm aT t,AV.int .i64 p,AV.imm eCh s],[]⟩ =
 (eH t∧bif !decide ((↑(bT t p).length:Int)=(↑s.length:Int)) then K (AV.int .i64 3) [] else aB Tryz.prog n0 13 K (aD (fnT Tryz.f13) 5) (aEW t p s (bT t p) (↑s.length:Int) 0)):=by kernel_rfl
theorem bGT (t:List Nd) (p:Int) (s:List (Int × List ByteArray)) (x0:List Int) (x1 x2:Int) (n0:Nat) (K:AV→List aA→Prop) :
 aF tab (aL tab wT [] 400) (aI aEU aEV (aB Tryz.prog n0 13 K)) (aG tab (fnT Tryz.f13).res K) 400 (aR (fnT Tryz.f13) 5) (aEW t p s x0 x1 x2) =
 (bif decide (x2<x1) then bif decide (0≤x2) && decide (x2<(↑s.length:Int)) then bif decide (0≤x2) && decide (x2<(↑x0.length:Int)) then bif !decide ((s.getD x2.toNat (0,[])).1=x0.getD x2.toNat 0) then K (AV.int .i64 3) [aA.box [AV.int .i64 (s.getD x2.toNat (0,[])).1,AV.imm eS (s.getD x2.toNat (0,[])).2]] else bif decide (0≤x2) && decide (x2<(↑x0.length:Int)) then eH t∧bif bif false then true else !decide ((↑(List.length (s.getD x2.toNat (0,[])).2):Int)=(↑(widthOf t p (x0.getD x2.toNat 0)):Int)) then K (AV.int .i64 3) [aA.box [AV.int .i64 (s.getD x2.toNat (0,[])).1,AV.imm eS (s.getD x2.toNat (0,[])).2]] else TxL (s.getD x2.toNat (0,[])).2∧bif !decide (cL (s.getD x2.toNat (0,[])).2=0) then K (AV.int .i64 (cL (s.getD x2.toNat (0,[])).2)) [aA.box [AV.int .i64 (s.getD x2.toNat (0,[])).1,AV.imm eS (s.getD x2.toNat (0,[])).2]] else aB Tryz.prog n0 13 K (aD (fnT Tryz.f13) 5) (aEW t p s x0 x1 (IntKind.i64.wrap (x2+1))) else False else False else False else K (AV.int .i64 0) []):=by kernel_rfl
def aEX : List (Nat × List Nat):=[(5,[7,8,23,24,25])]
def aEY : List (Nat × ETy):=[(7,eI),(8,eI),(23,eCh)]
noncomputable def aEZ (t:List Nd) (p:Int) (s:List (Int × List ByteArray)) (x0 x1:List Int) (x2 x3:Int):St:=aQ 54 [(7,AV.imm eI x0),(8,AV.imm eI x1),(23,AV.imm eCh s),(24,AV.int .i64 x2),(25,AV.int .i64 x3)] []
theorem bGU (t:List Nd) (p:Int) (s:List (Int × List ByteArray)) (n0:Nat) (K:AV→List aA→Prop) :
 aF tab (aL tab wT [] 400) (aI aEX aEY (aB Tryz.prog n0 43 K)) (aG tab (fnT Tryz.f43).res K) 400 [.code (fnT Tryz.f43).body] ⟨aU (fnT Tryz.f43).n [AV.imm aT t,AV.int .i64 p,AV.imm eCh s],[]⟩ =
 (eH t∧bif !decide ((↑s.length:Int)=(↑(bT t p).length:Int)) then K (AV.int .i64 3) [] else aB Tryz.prog n0 43 K (aD (fnT Tryz.f43) 5) (aEZ t p s (bT t p) (kO t p) (↑s.length:Int) 0)):=by kernel_rfl
theorem bGV (t:List Nd) (p:Int) (s:List (Int × List ByteArray)) (x0 x1:List Int) (x2 x3:Int) (n0:Nat) (K:AV→List aA→Prop) :
 aF tab (aL tab wT [] 400) (aI aEX aEY (aB Tryz.prog n0 43 K)) (aG tab (fnT Tryz.f43).res K) 400 (aR (fnT Tryz.f43) 5) (aEZ t p s x0 x1 x2 x3) =
 (bif decide (x3<x2) then bif decide (0≤x3) && decide (x3<(↑s.length:Int)) then bif decide (0≤x3) && decide (x3<(↑x0.length:Int)) then bif !decide ((s.getD x3.toNat (0,[])).1=x0.getD x3.toNat 0) then K (AV.int .i64 3) [aA.box [AV.int .i64 (s.getD x3.toNat (0,[])).1,AV.imm eS (s.getD x3.toNat (0,[])).2]] else bif decide (0≤x3) && decide (x3<(↑x1.length:Int)) then bif bif false then true else !decide ((↑(List.length (s.getD x3.toNat (0,[])).2):Int)=x1.getD x3.toNat 0) then K (AV.int .i64 3) [aA.box [AV.int .i64 (s.getD x3.toNat (0,[])).1,AV.imm eS (s.getD x3.toNat (0,[])).2]] else TxL (s.getD x3.toNat (0,[])).2∧bif !decide (cL (s.getD x3.toNat (0,[])).2=0) then K (AV.int .i64 (cL (s.getD x3.toNat (0,[])).2)) [aA.box [AV.int .i64 (s.getD x3.toNat (0,[])).1,AV.imm eS (s.getD x3.toNat (0,[])).2]] else aB Tryz.prog n0 43 K (aD (fnT Tryz.f43) 5) (aEZ t p s x0 x1 x2 (IntKind.i64.wrap (x3+1))) else False else False else False else K (AV.int .i64 0) []):=by kernel_rfl
def aE0 : List (Nat × List Nat):=[(3,[3,6,7,8])]
def aE1 : List (Nat × ETy):=[(6,eCh)]
noncomputable def w6 (s:List (Int × List ByteArray)) (x0 x1 x2:Int):St:=aQ 20 [(3,AV.int .i64 x0),(6,AV.imm eCh s),(7,AV.int .i64 x1),(8,AV.int .i64 x2)] []
theorem bGW (s:List (Int × List ByteArray)) (n0:Nat) (K:AV→List aA→Prop) :
 aF tab (aL tab aLQ [] 400) (aI aE0 aE1 (aB Tryz.prog n0 7 K)) (aG tab (fnT Tryz.f7).res K) 400 [.code (fnT Tryz.f7).body] ⟨aU (fnT Tryz.f7).n [AV.imm eCh s],[]⟩ =
 (aB Tryz.prog n0 7 K (aD (fnT Tryz.f7) 3) (w6 s 0 (↑s.length:Int) 0)):=by kernel_rfl
theorem bGX (s:List (Int × List ByteArray)) (x0 x1 x2:Int) (n0:Nat) (K:AV→List aA→Prop) :
 aF tab (aL tab aLQ [] 400) (aI aE0 aE1 (aB Tryz.prog n0 7 K)) (aG tab (fnT Tryz.f7).res K) 400 (aR (fnT Tryz.f7) 3) (w6 s x0 x1 x2) =
 (bif decide (x2<x1) then bif decide (0≤x2) && decide (x2<(↑s.length:Int)) then ([(s.getD x2.toNat (0,[])).2].length≤1000000000000000∧∀ (r:List ByteArray),r∈[(s.getD x2.toNat (0,[])).2]→r.length≤1000000000000000)∧∀ (n:Int),aB Tryz.prog n0 7 K (aD (fnT Tryz.f7) 3) (w6 s (IntKind.i64.wrap (x0+n)) x1 (IntKind.i64.wrap (x2+1))) else False else K (AV.int .i64 x0) []):=by kernel_rfl
def aE2 : List (Nat × List Nat):=[(2,[0,5,6,7])]
def aE3 : List (Nat × ETy):=[(5,aT)]
noncomputable def aE4 (t:List Nd) (x0 x1:Int):St:=aQ 24 [(0,AV.imm aT t),(5,AV.imm aT t),(6,AV.int .i64 x0),(7,AV.int .i64 x1)] []
theorem bGY (t:List Nd) (n0:Nat) (K:AV→List aA→Prop) :
 aF tab (aL tab aLR [29] 400) (aI aE2 aE3 (aB Tryz.prog n0 8 K)) (aG tab (fnT Tryz.f8).res K) 400 [.code (fnT Tryz.f8).body] ⟨aU (fnT Tryz.f8).n [AV.imm aT t],[]⟩ =
 (aB Tryz.prog n0 8 K (aD (fnT Tryz.f8) 2) (aE4 t (↑t.length:Int) 0)):=by kernel_rfl
theorem bGZ (t:List Nd) (x0 x1:Int) (n0:Nat) (K:AV→List aA→Prop) :
 aF tab (aL tab aLR [29] 400) (aI aE2 aE3 (aB Tryz.prog n0 8 K)) (aG tab (fnT Tryz.f8).res K) 400 (aR (fnT Tryz.f8) 2) (aE4 t x0 x1) =
 (bif decide (x1<x0) then bif decide (0≤x1) && decide (x1<(↑t.length:Int)) then bif decide ((↑(ByteArray.size (t.getD x1.toNat (0,0,0,[],[],ByteArray.empty)).2.2.2.2.2):Int) > 12) then K (AV.bool false) [bxN (t.getD x1.toNat (0,0,0,[],[],ByteArray.empty))] else List.length (t.getD x1.toNat (0,0,0,[],[],ByteArray.empty)).2.2.2.2.1≤1000000000000000∧bif bif false then true else decide (fJ 12 (t.getD x1.toNat (0,0,0,[],[],ByteArray.empty)).2.2.2.2.1 ≥ 0) then K (AV.bool false) [bxN (t.getD x1.toNat (0,0,0,[],[],ByteArray.empty))] else aB Tryz.prog n0 8 K (aD (fnT Tryz.f8) 2) (aE4 t x0 (IntKind.i64.wrap (x1+1))) else False else K (AV.bool (decide ((↑t.length:Int)≤40))) []):=by kernel_rfl
def sX : List (Nat × List Nat):=[(2,[7,8,9]),(5,[7,8,9,13,14,15])]
def sY : List (Nat × ETy):=[(7,ETy.one (CTy.slice eCh)),(13,eCh)]
noncomputable def aE5 (ss:List (List (Int × List ByteArray))) (x0 x1:Int):St:=aQ 24 [(7,AV.imm (ETy.one (CTy.slice eCh)) ss),(8,AV.int .i64 x0),(9,AV.int .i64 x1)] []
noncomputable def aE6 (ss:List (List (Int × List ByteArray))) (x0 x1:Int) (x2:List (Int × List ByteArray)) (x3 x4:Int):St:=aQ 24 [(7,AV.imm (ETy.one (CTy.slice eCh)) ss),(8,AV.int .i64 x0),(9,AV.int .i64 x1),(13,AV.imm eCh x2),(14,AV.int .i64 x3),(15,AV.int .i64 x4)] []
theorem bG0 (ss:List (List (Int × List ByteArray))) (n0:Nat) (K:AV→List aA→Prop) :
 aF tab (aL tab aD3 [29] 400) (aI sX sY (aB Tryz.prog n0 15 K)) (aG tab (fnT Tryz.f15).res K) 400 [.code (fnT Tryz.f15).body] ⟨aU (fnT Tryz.f15).n [AV.imm (ETy.one (CTy.slice eCh)) ss],[]⟩ =
 (aB Tryz.prog n0 15 K (aD (fnT Tryz.f15) 2) (aE5 ss (↑ss.length:Int) 0)):=by kernel_rfl
theorem bG1 (ss:List (List (Int × List ByteArray))) (x0 x1:Int) (n0:Nat) (K:AV→List aA→Prop) :
 aF tab (aL tab aD3 [29] 400) (aI sX sY (aB Tryz.prog n0 15 K)) (aG tab (fnT Tryz.f15).res K) 400 (aR (fnT Tryz.f15) 2) (aE5 ss x0 x1) =
 (bif decide (x1<x0) then bif decide (0≤x1) && decide (x1<(↑ss.length:Int)) then aB Tryz.prog n0 15 K (aD (fnT Tryz.f15) 5) (aE6 ss x0 x1 (ss.getD x1.toNat []) (↑(List.length (ss.getD x1.toNat [])):Int) 0) else False else K (AV.bool true) []):=by kernel_rfl
theorem bG2 (ss:List (List (Int × List ByteArray))) (x0 x1:Int) (x2:List (Int × List ByteArray)) (x3 x4:Int) (n0:Nat) (K:AV→List aA→Prop) :
 aF tab (aL tab aD3 [29] 400) (aI sX sY (aB Tryz.prog n0 15 K)) (aG tab (fnT Tryz.f15).res K) 400 (aR (fnT Tryz.f15) 5) (aE6 ss x0 x1 x2 x3 x4) =
 (bif decide (x4<x3) then bif decide (0≤x4) && decide (x4<(↑x2.length:Int)) then List.length (x2.getD x4.toNat (0,[])).2≤1000000000000000∧bif decide (fJ 12 (x2.getD x4.toNat (0,[])).2 ≥ 0) then K (AV.bool false) [aA.box [AV.int .i64 (x2.getD x4.toNat (0,[])).1,AV.imm eS (x2.getD x4.toNat (0,[])).2]] else aB Tryz.prog n0 15 K (aD (fnT Tryz.f15) 5) (aE6 ss x0 x1 x2 x3 (IntKind.i64.wrap (x4+1))) else False else aB Tryz.prog n0 15 K (aD (fnT Tryz.f15) 2) (aE5 ss x0 (IntKind.i64.wrap (x1+1)))):=by kernel_rfl
end
end Go.Proofs.YtpngedkdkpfnkaaGreatDoor.Mach
end
section
set_option linter.unusedSimpArgs false
set_option linter.unusedVariables false
namespace Go.Proofs.YtpngedkdkpfnkaaGreatDoor.Lib
open Go Go.Proofs.YtpngedkdkpfnkaaGreatDoor.Mach Go.Proofs.YtpngedkdkpfnkaaGreatDoorW.PrintWords Go.Proofs.YtpngedkdkpfnkaaGreatDoor.Sem Go.Proofs.YtpngedkdkpfnkaaGreatDoor.Pure
section
def mW (e e' : ETy) (l:List e.D) (l' : List e'.D):Res:=fun v o=>v = .tup [.own 0, .own 1]∧∃ fz fz', o=[.typed e l fz, .typed e' l' fz']
theorem aYW {e e' : ETy} {l:List e.D} {l' : List e'.D} {P:Program} {g:FuncId} {args:List AV} {Q:Res} (h:Con P g args (mW e e' l l')) (hQ:Q (.tup [.imm e l, .imm e' l']) []):Con P g args Q :=
 h.sealTo fun v o hv=>by
  obtain ⟨rfl,fz,fz', rfl⟩:=hv
  exact ⟨_,⟨_,rfl, .cons ⟨e,l,fz,rfl,rfl⟩ (.cons ⟨e', l', fz', rfl,rfl⟩ .nil)⟩,hQ⟩
theorem aYX {e e' : ETy} {l:List e.D} {l' : List e'.D} {fz fz' : Bool} {i j:Nat} {H:List aA} (hij:i≠j) (h1:aJ H i = .typed e l fz) (h2:aJ H j = .typed e' l' fz'):aO (mW e e' l l') (.tup [.own i, .own j]) H :=
 ⟨.tup [.own 0, .own 1],[.typed e l fz, .typed e' l' fz'],⟨rfl,fz,fz', rfl⟩,rfl,rfl,[i,j],rfl,by simp [hij],fun k id hk=>by
  match k,hk with
  | 0,hk=>cases hk; exact congrArg some h1.symm
  | 1,hk=>cases hk; exact congrArg some h2.symm,rfl⟩
section
variable {t:List Nd} {p f c:Int} {Q:Res}
theorem bG3 {pf:Int × Int} (h:aYI t pf Q):Con Tryz.prog 108 [.imm aT t, .fn 109 [.adr [.int .i64 pf.1], .adr [.int .i64 pf.2]]] Q:=by
 obtain ⟨p,f⟩:=pf
 obtain ⟨hl,hq⟩:=h
 unfold SmA at hl
 simp only at hq
 have hk:∀ e H,gV t p f=e→aO Q (.int .i64 e) H:=fun e H h1=>by rw [h1] at hq; exact dI hq
 refine aW (gn:=fnT Tryz.f108) (by kernel_rfl) bG (inl:=[109]) (LT:=aD9) (NT:=aEA) rfl fun n0=>?_
 rw [bF6]
 refine bJ (f:=108) (gn:=fnT Tryz.f108) (n0:=n0) (r:=2) (by kernel_rfl) bG (inl:=[109]) (LT:=aD9) (NT:=aEA) (K:=aO Q) (fun x:Nat=>oL t p f (t.length:Int) (x:Int)) (fun x=>t.length - x) (fun x=>x≤t.length∧∀ i,i<x→sU p f (t.getD i nd0)=false) (fun x hp ih=>?_) 0 ⟨Nat.zero_le _,fun j hj=>absurd hj (Nat.not_lt_zero _)⟩
 obtain ⟨hx0,hn⟩:=hp
 rw [bF7]
 by_cases hx:x<t.length
 · refine aC (by omega) (aY hx ?_)
   rw [Int.toNat_natCast,wrS hx (by omega)]
   have go:¬ i5 t p f x→aB Tryz.prog n0 108 (aO Q) (aD (fnT Tryz.f108) 2) (oL t p f (t.length:Int) ((x+1:Nat):Int)):=fun hno=>ih (x+1) ⟨by omega,fun i hi=>by
    by_cases hix:i=x
    · rw [hix]
      cases hb:sU p f (t.getD x nd0) with
      | false=>rfl
      | true=>exact absurd (aD6.1 hb) hno
    · exact hn i (by omega)⟩ (by omega)
   by_cases c1:(t.getD x nd0).1=2
   · refine aC c1 ?_
     by_cases c2:(t.getD x nd0).2.1=p
     · refine gU c2 ?_
       by_cases c3:(t.getD x nd0).2.2.1=f
       · exact gU c3 (hk _ _ (mR hx (aD6.2 ⟨⟨c1,c2⟩,c3⟩) hn))
       · exact i3 c3 (go fun h=>c3 h.2)
     · exact i3 c2 (go fun h=>c2 h.1.2)
   · exact aE c1 (go fun h=>c1 h.1.1)
 · exact aE (by omega) (hk _ _ (wU nd0 fun i hi=>hn i (by omega)))
theorem bG4 {l:List Sq} {x:Nd} (h:aYJ l x Q):Con Tryz.prog 115 [.imm eSq l, .fn 116 [.adr (aLL x)]] Q:=by
 obtain ⟨kd,pl,f,nx,od,py⟩:=x
 obtain ⟨hl,hq⟩:=h
 unfold SmA at hl
 simp only at hq
 have hk:∀ e H,jZ l f=e→aO Q (.int .i64 e) H:=fun e H h1=>by rw [h1] at hq; exact dI hq
 show Con Tryz.prog 115 [.imm eSq l, .fn 116 [.adr [.int .i64 kd, .int .i64 pl, .int .i64 f, .imm eI nx, .imm eS od, .str py]]] Q
 refine aW (gn:=fnT Tryz.f115) (by kernel_rfl) bG (inl:=[116]) (LT:=aEB) (NT:=aEC) rfl fun n0=>?_
 rw [bF8]
 refine bJ (f:=115) (gn:=fnT Tryz.f115) (n0:=n0) (r:=2) (by kernel_rfl) bG (inl:=[116]) (LT:=aEB) (NT:=aEC) (K:=aO Q) (fun x:Nat=>aED l kd pl f nx od py (l.length:Int) (x:Int)) (fun x=>l.length - x) (fun x=>x≤l.length∧∀ i,i<x→decide ((l.getD i q0).1=f)=false) (fun x hp ih=>?_) 0 ⟨Nat.zero_le _,fun j hj=>absurd hj (Nat.not_lt_zero _)⟩
 obtain ⟨hx0,hn⟩:=hp
 rw [bF9]
 by_cases hx:x<l.length
 · refine aC (by omega) (aY hx ?_)
   rw [Int.toNat_natCast,wrS hx (by omega)]
   by_cases c1:(l.getD x q0).1=f
   · exact aC c1 (hk _ _ (mR (q:=fun s:Sq=>decide (s.1=f)) hx (decide_eq_true c1) hn))
   · refine aE c1 (ih (x+1) ⟨by omega,fun i hi=>?_⟩ (by omega))
     by_cases hix:i=x
     · rw [hix]; exact decide_eq_false c1
     · exact hn i (by omega)
 · exact aE (by omega) (hk _ _ (wU q0 fun i hi=>hn i (by omega)))
theorem bG5 {s:List Ch} (h:aYK s f Q):Con Tryz.prog 96 [.imm eCh s, .fn 97 [.adr [.int .i64 f]]] Q:=by
 obtain ⟨hl,hq⟩:=h
 unfold SmA at hl
 have hk:∀ e H,jN s f=e→aO Q (.int .i64 e) H:=fun e H h1=>by rw [h1] at hq; exact dI hq
 refine aW (gn:=fnT Tryz.f96) (by kernel_rfl) bG (inl:=[97]) (LT:=aEE) (NT:=aEF) rfl fun n0=>?_
 rw [bGA]
 refine bJ (f:=96) (gn:=fnT Tryz.f96) (n0:=n0) (r:=2) (by kernel_rfl) bG (inl:=[97]) (LT:=aEE) (NT:=aEF) (K:=aO Q) (fun x:Nat=>aEG s f (s.length:Int) (x:Int)) (fun x=>s.length - x) (fun x=>x≤s.length∧∀ i,i<x→decide ((s.getD i ch0).1=f)=false) (fun x hp ih=>?_) 0 ⟨Nat.zero_le _,fun j hj=>absurd hj (Nat.not_lt_zero _)⟩
 obtain ⟨hx0,hn⟩:=hp
 rw [bGB]
 by_cases hx:x<s.length
 · refine aC (by omega) (aY hx ?_)
   rw [Int.toNat_natCast,wrS hx (by omega)]
   by_cases c1:(s.getD x ch0).1=f
   · exact aC c1 (hk _ _ (mR (q:=fun c:Ch=>decide (c.1=f)) hx (decide_eq_true c1) hn))
   · refine aE c1 (ih (x+1) ⟨by omega,fun i hi=>?_⟩ (by omega))
     by_cases hix:i=x
     · rw [hix]; exact decide_eq_false c1
     · exact hn i (by omega)
 · exact aE (by omega) (hk _ _ (wU ch0 fun i hi=>hn i (by omega)))
theorem bG6 {l:List ByteArray} (h:aC4 l () Q):Con Tryz.prog 59 [.imm eS l, .fn 30 []] Q:=by
 obtain ⟨hl,hq⟩:=h
 have hk:∀ e H,fJ 12 l=e→aO Q (.int .i64 e) H:=fun e H h1=>by rw [h1] at hq; exact dI hq
 refine aW (gn:=fnT Tryz.f59) (by kernel_rfl) bG (inl:=[30]) (LT:=aEH) (NT:=aEI) rfl fun n0=>?_
 rw [bGC]
 refine bJ (f:=59) (gn:=fnT Tryz.f59) (n0:=n0) (r:=2) (by kernel_rfl) bG (inl:=[30]) (LT:=aEH) (NT:=aEI) (K:=aO Q) (fun x:Nat=>aEJ l (l.length:Int) (x:Int)) (fun x=>l.length - x) (fun x=>x≤l.length∧∀ i,i<x→decide (12<(l.getD i b0).size)=false) (fun x hp ih=>?_) 0 ⟨Nat.zero_le _,fun j hj=>absurd hj (Nat.not_lt_zero _)⟩
 obtain ⟨hx0,hn⟩:=hp
 rw [bGD]
 by_cases hx:x<l.length
 · refine aC (by omega) (aY hx ?_)
   rw [Int.toNat_natCast,wrS hx (by omega)]
   by_cases c1:12<(l.getD x ByteArray.empty).size
   · exact aC (by omega) (hk _ _ (mR (q:=fun s:ByteArray=>decide (12<s.size)) hx (decide_eq_true c1) hn))
   · refine aE (by omega) (ih (x+1) ⟨by omega,fun i hi=>?_⟩ (by omega))
     by_cases hix:i=x
     · rw [hix]; exact decide_eq_false c1
     · exact hn i (by omega)
 · exact aE (by omega) (hk _ _ (wU b0 fun i hi=>hn i (by omega)))
theorem bG7 {l:List ByteArray} (h:aC4 l () Q):Con Tryz.prog 59 [.imm eS l, .fn 44 []] Q:=by
 obtain ⟨hl,hq⟩:=h
 have hk:∀ e H,fJ 12 l=e→aO Q (.int .i64 e) H:=fun e H h1=>by rw [h1] at hq; exact dI hq
 refine aW (gn:=fnT Tryz.f59) (by kernel_rfl) bG (inl:=[44]) (LT:=aEK) (NT:=aEL) rfl fun n0=>?_
 rw [bGE]
 refine bJ (f:=59) (gn:=fnT Tryz.f59) (n0:=n0) (r:=2) (by kernel_rfl) bG (inl:=[44]) (LT:=aEK) (NT:=aEL) (K:=aO Q) (fun x:Nat=>aEM l (l.length:Int) (x:Int)) (fun x=>l.length - x) (fun x=>x≤l.length∧∀ i,i<x→decide (12<(l.getD i b0).size)=false) (fun x hp ih=>?_) 0 ⟨Nat.zero_le _,fun j hj=>absurd hj (Nat.not_lt_zero _)⟩
 obtain ⟨hx0,hn⟩:=hp
 rw [bGF]
 by_cases hx:x<l.length
 · refine aC (by omega) (aY hx ?_)
   rw [Int.toNat_natCast,wrS hx (by omega)]
   by_cases c1:12<(l.getD x ByteArray.empty).size
   · exact aC (by omega) (hk _ _ (mR (q:=fun s:ByteArray=>decide (12<s.size)) hx (decide_eq_true c1) hn))
   · refine aE (by omega) (ih (x+1) ⟨by omega,fun i hi=>?_⟩ (by omega))
     by_cases hix:i=x
     · rw [hix]; exact decide_eq_false c1
     · exact hn i (by omega)
 · exact aE (by omega) (hk _ _ (wU b0 fun i hi=>hn i (by omega)))
end
theorem aYY : ∀ g xs Q,aLO g xs Q→Con Tryz.prog g xs Q:=cH fun p hp=>by
 simp only [List.mem_cons,List.not_mem_nil,or_false] at hp
 rcases hp with rfl
 exact bA fun _ _ _ h=>bG3 h
theorem aE7 : ∀ g xs Q,wS g xs Q→Con Tryz.prog g xs Q:=cH fun p hp=>by
 simp only [List.mem_cons,List.not_mem_nil,or_false] at hp
 rcases hp with rfl
 exact bA fun _ _ _ h=>bG4 h
theorem bG8 : ∀ g xs Q,aYL g xs Q→Con Tryz.prog g xs Q:=cH fun p hp=>by
 simp only [List.mem_cons,List.not_mem_nil,or_false] at hp
 rcases hp with rfl | rfl
 · exact bA fun _ _ _ h=>bG5 h
 · exact bF fun _ _ h=>rL h
section
variable {t:List Nd} {p f c:Int} {s:List Ch} {Q:Res}
theorem bG9 (h:aXF t p Q):Con Tryz.prog 79 [.imm aT t, .int .i64 p] Q:=by
 obtain ⟨hg,hq⟩:=h
 have T:=eJ hg
 have hn:=T.n120
 refine aYW (e:=eI) (e' := eI) (l:=bT t p) (l' := kO t p) ?_ hq
 refine aW (gn:=fnT Tryz.f79) (by kernel_rfl) aYY (inl:=[]) (LT:=aEN) (NT:=aEO) rfl fun n0=>?_
 rw [bGG]
 refine bJ (f:=79) (gn:=fnT Tryz.f79) (n0:=n0) (r:=3) (by kernel_rfl) aYY (inl:=[]) (LT:=aEN) (NT:=aEO) (K:=aO (mW eI eI (bT t p) (kO t p))) (fun x:Nat=>mT t p (x:Int) (d9 t p x) ((d9 t p x).map fun f=>(widthOf t p f:Int))) (fun x=>10 - x) (fun x=>x≤10) (fun x hx0 ih=>?_) 0 (Nat.zero_le _)
 rw [bGH]
 by_cases hx:x<10
 · have hil:=aD7 (t:=t) (p:=p) x
   have ih' := ih (x+1) (by omega) (by omega)
   rw [show d9 t p (x+1)=if 0<widthOf t p (x:Int) then d9 t p x ++ [(x:Int)] else d9 t p x from rfl] at ih'
   refine aC (by omega) ⟨by unfold SmA; omega,?_⟩
   rw [wrS hx (by omega)]
   rcases T.idx_width (p:=p) (f:=(x:Int)) with ⟨e1,e2⟩ | ⟨i,e1,hi,e2,e3⟩
   · rw [if_neg (by omega)] at ih'
     rw [e1]
     exact aE (by decide) ih'
   · rw [if_pos e3,List.map_append] at ih'
     rw [e1]
     refine aC (by omega) (aY hi ?_)
     rw [Int.toNat_natCast]
     have e4:(((t.getD i nd0).2.2.2.1.length:Nat):Int)=(widthOf t p (x:Int):Int):=by rw [e2]; rfl
     have A:bif (bif ((d9 t p x).length+[(x:Int)].length).ble 9223372036854775807 then (((d9 t p x).length+[(x:Int)].length) * 8).ble 140737488355328 else false) then bif (bif (((d9 t p x).map fun f=>(widthOf t p f:Int)).length+[(widthOf t p (x:Int):Int)].length).ble 9223372036854775807 then ((((d9 t p x).map fun f=>(widthOf t p f:Int)).length+[(widthOf t p (x:Int):Int)].length) * 8).ble 140737488355328 else false) then aB Tryz.prog n0 79 (aO (mW eI eI (bT t p) (kO t p))) (aD (fnT Tryz.f79) 3) (mT t p ((x+1:Nat):Int) (d9 t p x ++ [(x:Int)]) (((d9 t p x).map fun f=>(widthOf t p f:Int)) ++ [(widthOf t p (x:Int):Int)])) else False else False :=
        aS (g8 (by simp; omega) (by decide)) (aS (g8 (by simp; omega) (by decide)) ih')
     rw [← e4] at A
     exact ⟨A,A,A⟩
 · have hxx:x=10:=by omega
   subst hxx
   exact aE (by decide) (aYX (by decide) rfl rfl)
theorem bHA (h:oddS s f c Q):Con Tryz.prog 61 [.imm eCh s, .int .i64 f, .int .i64 c] Q:=by
 obtain ⟨ho,hq⟩:=h
 obtain ⟨a1,a2⟩:=sV ho
 obtain ⟨h0,h1,h2,h3,h4,_⟩:=ho
 refine aW (gn:=fnT Tryz.f61) (by kernel_rfl) bG8 (inl:=[]) (LT:=aYU) (NT:=aYV) rfl fun n0=>?_
 rw [bGN]
 exact ⟨h0,aV (aC h1 (aC h2 (aV (aC h3 (aC h4 ⟨_,a1,a2.mono (by decide),fun z hz=>bP (hq z hz) rfl rfl⟩)))))⟩
theorem aYZ (h:aLD t p f Q):Con Tryz.prog 40 [.imm aT t, .int .i64 p, .int .i64 f] Q:=by
 obtain ⟨hg,hq⟩:=h
 have T:=eJ hg
 have hn:=T.n120
 have hk:∀ (e:Nat) H,widthOf t p f=e→aO Q (.int .i64 (e:Int)) H:=fun e H h1=>by rw [h1] at hq; exact dI hq
 refine aW (gn:=fnT Tryz.f40) (by kernel_rfl) bG (inl:=[]) (LT:=aEQ) (NT:=aER) rfl fun n0=>?_
 rw [bGO]
 refine bJ (f:=40) (gn:=fnT Tryz.f40) (n0:=n0) (r:=2) (by kernel_rfl) bG (inl:=[]) (LT:=aEQ) (NT:=aER) (K:=aO Q) (fun x:Nat=>oM t p f (t.length:Int) (x:Int)) (fun x=>t.length - x) (fun x=>x≤t.length∧∀ i,i<x→¬ i5 t p f i) (fun x hp ih=>?_) 0 ⟨Nat.zero_le _,fun j hj=>absurd hj (Nat.not_lt_zero _)⟩
 obtain ⟨hx0,hno⟩:=hp
 rw [bGP]
 by_cases hx:x<t.length
 · refine aC (by omega) (aY hx ?_)
   rw [Int.toNat_natCast,wrS hx (by omega)]
   have go:¬ i5 t p f x→aB Tryz.prog n0 40 (aO Q) (aD (fnT Tryz.f40) 2) (oM t p f (t.length:Int) ((x+1:Nat):Int)):=fun hn2=>ih (x+1) ⟨by omega,fun i hi=>by
    by_cases hix:i=x
    · rw [hix]; exact hn2
    · exact hno i (by omega)⟩ (by omega)
   by_cases c1:(t.getD x nd0).1=2
   · refine aC c1 ?_
     by_cases c2:(t.getD x nd0).2.1=p
     · refine gU c2 ?_
       by_cases c3:(t.getD x nd0).2.2.1=f
       · exact gU c3 (hk _ _ (T.width_of hx ⟨⟨c1,c2⟩,c3⟩))
       · exact i3 c3 (go fun h=>c3 h.2)
     · exact i3 c2 (go fun h=>c2 h.1.2)
   · exact aE c1 (go fun h=>c1 h.1.1)
 · exact aE (by omega) (hk 0 _ (wY fun i hi=>hno i (by omega)))
end
theorem aY0 : ∀ g xs Q,aLP g xs Q→Con Tryz.prog g xs Q:=cH fun p hp=>by
 simp only [List.mem_cons,List.not_mem_nil,or_false] at hp
 rcases hp with rfl | rfl | rfl
 · exact gZ fun _ _ _ _ h=>aYZ h
 · exact gZ fun _ _ _ _ h=>bFV h
 · exact bA fun _ _ _ h=>aX9 h
section
variable {t:List Nd} {p f c:Int} {s:List Ch} {l:List Sq} {Q:Res}
theorem bHB (h:aXE t p Q):Con Tryz.prog 39 [.imm aT t, .int .i64 p] Q:=by
 obtain ⟨hg,hq⟩:=h
 refine kH (e:=eI) (l:=bT t p) ?_ hq
 refine aW (gn:=fnT Tryz.f39) (by kernel_rfl) aY0 (inl:=[]) (LT:=aES) (NT:=aET) rfl fun n0=>?_
 rw [bGQ]
 refine bJ (f:=39) (gn:=fnT Tryz.f39) (n0:=n0) (r:=3) (by kernel_rfl) aY0 (inl:=[]) (LT:=aES) (NT:=aET) (K:=aO fun v o=>v = .own 0∧∃ fz,o=[.typed eI (bT t p) fz]) (fun x:Nat=>w5 t p (x:Int) (d9 t p x)) (fun x=>10 - x) (fun x=>x≤10) (fun x hx0 ih=>?_) 0 (Nat.zero_le _)
 rw [bGR]
 by_cases hx:x<10
 · have hil:=aD7 (t:=t) (p:=p) x
   have ih' := ih (x+1) (by omega) (by omega)
   rw [show d9 t p (x+1)=if 0<widthOf t p (x:Int) then d9 t p x ++ [(x:Int)] else d9 t p x from rfl] at ih'
   refine aC (by omega) ⟨hg,?_⟩
   rw [wrS hx (by omega)]
   by_cases hw:0<widthOf t p (x:Int)
   · rw [if_pos hw] at ih'
     exact aC (by omega) (aS (g8 (by simp; omega) (by decide)) ih')
   · rw [if_neg hw] at ih'
     exact aE (by omega) ih'
 · have hxx:x=10:=by omega
   subst hxx
   exact aE (by decide) (iR rfl ⟨rfl,false,rfl⟩)
theorem aY1 {j:Nat} (hj:j<l.length) (h:(l.getD j q0).1=f) (h' : ∀ i,i<j→(l.getD i q0).1≠f):jZ l f=(j:Int):=mR (q:=fun s:Sq=>decide (s.1=f)) (d:=q0) hj (decide_eq_true h) fun i hi=>decide_eq_false (h' i hi)
theorem aY2 : jZ l f<0↔jY l f=false:=by
 rcases aD4 (fun s:Sq=>decide (s.1=f)) l q0 with ⟨j,e,hj,h1,_⟩ | ⟨e,h1⟩
 · have hk:=wV.2 ⟨j,hj,of_decide_eq_true h1⟩
   have e' : jZ l f=(j:Int):=e
   rw [hk,e']
   constructor
   · intro h; omega
   · intro h; cases h
 · have e' : jZ l f = -1:=e
   rw [e']
   refine ⟨fun _=>?_,fun _=>by decide⟩
   cases hk:jY l f with
   | false=>rfl
   | true =>
     obtain ⟨j,hj,hjf⟩:=wV.1 hk
     exact absurd hjf (of_decide_eq_false (h1 j hj))
theorem bHC (hg:eH t) (h:sJ t p=true) {i:Nat} (hi:i<t.length) (hm:fC t p i):∃ j0:Nat,j0≤721∧jZ (bB t p (i+1)).1 (aX t i)=(j0:Int)∧∀ c k,fL t i c k→atF t p k=((j0+c:Nat):Int):=by
 have T:=eJ hg
 have hn:=T.n120
 have I:=wW T (wX h) (i+1) (by omega)
 obtain ⟨j0,g1,g2⟩:=I.blk i (by omega) hm
 have hw:=((T.node i hi).who hm.1)
 have hlt:=(g2 0 hw.2.2.2.2).1
 have hb:=I.big
 refine ⟨j0,by omega,aY1 (by omega) (g2 0 hw.2.2.2.2).2.1 g1,fun c k hk=>?_⟩
 obtain ⟨g3,g4,g5⟩:=g2 c hk.2.1
 have hge:1≤j0+c:=by
  rcases Nat.eq_zero_or_pos (j0+c) with h0 | h0
  · rw [h0,I.s0] at g4
    have:(-1:Int)=aX t i:=g4
    unfold aX at this; omega
  · exact h0
 obtain ⟨m2,c2,b1,b2,b3,b4,b5,b6,_⟩:=I.at_ _ hge g3
 have hi2:aX t m2=aX t i:=b4.symm.trans g4
 have hc2:(c2:Int)=(c:Int):=b5.symm.trans g5
 refine aLS hg h (i:=i+1) (by omega) g3 ?_
 rw [b6,wX h m2 i (by omega) hi b2 hm hi2,hi2,hc2,T.own_mine hm hk]
theorem bHD (f:Int) (b c:Nat):gT f b (c+1)=gT f b c ++ [(f,((c:Int),(b:Int)))]:=by
 unfold gT; rw [List.range_succ,List.map_append]; rfl
theorem bHE {i:Nat} (hm:fC t p i) (hk:jY (bB t p i).1 (aX t i)=false):bB t p (i+1)=((bB t p i).1 ++ gT (aX t i) (mL (bB t p i).2 (own t p i) (bB t p i).2.length) (aK t i).length,(bB t p i).2 ++ kN (aX t i) (own t p i) (aK t i).length):=by
 rw [bB,if_pos ⟨hm,hk⟩]
theorem aLV {i:Nat} (h:¬ (fC t p i∧jY (bB t p i).1 (aX t i)=false)):bB t p (i+1)=bB t p i:=by
 rw [bB,if_neg h]
theorem bHF (h:aXD t p Q):Con Tryz.prog 87 [.imm aT t, .int .i64 p] Q:=by
 obtain ⟨⟨hg,hrb⟩,hq⟩:=h
 have T:=eJ hg
 have hn:=T.n120
 have hr:=wX hrb
 refine aYW (e:=eSq) (e' := eI) (l:=mM t p) (l' := atL t p) ?_ hq
 refine aW (gn:=fnT Tryz.f87) (by kernel_rfl) aE7 (inl:=[]) (LT:=mU) (NT:=mV) rfl fun n0=>?_
 rw [bGJ]
 have loop4 := bJ (f:=87) (gn:=fnT Tryz.f87) (n0:=n0) (r:=4) (by kernel_rfl) aE7 (inl:=[]) (LT:=mU) (NT:=mV) (K:=aO (mW eSq eI (mM t p) (atL t p))) (fun y:Nat × List Int=>w4 t p (t.length:Int) (y.1:Int) (bB t p y.1).1 y.2) (fun y=>t.length - y.1) (fun y=>y.1≤t.length∧RowsOk t (atF t p) 0 y.1 0 y.2) (fun y hp ih=>by
  obtain ⟨i,rows⟩:=y
  obtain ⟨hi0,hrow⟩:=hp
  simp only at hi0 hrow
  show aF _ _ _ _ _ _ (w4 t p (t.length:Int) (i:Int) (bB t p i).1 rows)
  rw [bGK]
  by_cases hi:i<t.length
  · have hw := (T.node i hi).w
    have I:=wW T hr i (by omega)
    have hbig:=I.big
    have hati:=hrow.2 i hi (T.done hi)
    -- the children
    have loop18:∀ (b:Bool) (first:Nat),first≤721→(b=true→fC t p i∧∀ c k,fL t i c k→atF t p k=((first+c:Nat):Int))→(b=false→¬ fC t p i)→∀ fi:Int,(b=true→fi=(first:Int))→aB Tryz.prog n0 87 (aO (mW eSq eI (mM t p) (atL t p))) (aD (fnT Tryz.f87) 18) (lL t p (i:Int) b fi (t.length:Int) (i:Int) (aK t i) ((aK t i).length:Int) ((0:Nat):Int) (bB t p (i+1)).1 rows):=fun b first hf hbt hbf fi hfi =>
        bJ (f:=87) (gn:=fnT Tryz.f87) (n0:=n0) (r:=18) (by kernel_rfl) aE7 (inl:=[]) (LT:=mU) (NT:=mV) (K:=aO (mW eSq eI (mM t p) (atL t p))) (fun z:Nat × List Int=>lL t p (i:Int) b fi (t.length:Int) (i:Int) (aK t i) ((aK t i).length:Int) (z.1:Int) (bB t p (i+1)).1 z.2) (fun z=>(aK t i).length - z.1) (fun z=>z.1≤(aK t i).length∧RowsOk t (atF t p) 0 i z.1 z.2) (fun z hp2 ih2=>by
         obtain ⟨c,rows⟩:=z
         obtain ⟨hc0,hrow⟩:=hp2
         simp only at hc0 hrow
         have hrl:=hrow.1
         have hati:=hrow.2 i hi (T.done hi)
         show aF _ _ _ _ _ _ (lL t p (i:Int) b fi (t.length:Int) (i:Int) (aK t i) ((aK t i).length:Int) (c:Int) (bB t p (i+1)).1 rows)
         rw [bGM]
         by_cases hc:c<(aK t i).length
         · obtain ⟨m,hm,hkid,him,hml⟩:=T.kid_at hi hc
           have ih3:=ih2 (c+1,rows.set m (atF t p m)) ⟨by show c+1≤_; omega,hrow.step T hkid⟩ (by show _ - (c+1)<_ - c; omega)
           refine aC (by omega) (aY hc (aY (by omega) ?_))
           rw [Int.toNat_natCast,Int.toNat_natCast,hm,Int.toNat_natCast,wrS hc (by omega),hati]
           refine aY (by omega) ?_
           cases b with
           | true =>
             obtain ⟨hmi,hfc⟩:=hbt rfl
             rw [hfc c m hkid] at ih3
             have hfc2:fi+(c:Int)=((first+c:Nat):Int):=by rw [hfi rfl]; omega
             refine cC (aY (by rw [List.length_set]; omega) ?_)
             rw [List.set_set,hfc2,wr (n:=((first+c:Nat):Int)) (by omega) (by omega)]
             exact ih3
           | false =>
             have e:atF t p m=atF t p i:=by unfold atF; rw [T.own_other (hbf rfl) hkid]
             rw [e] at ih3
             exact cE ih3
         · have hcc:c=(aK t i).length:=by omega
           subst hcc
           refine aE (by omega) ?_
           rw [wrS hi (by omega)]
           exact ih (i+1,rows) ⟨by show i+1≤_; omega,hrow.next⟩ (by show _ - (i+1)<_ - i; omega)) (0,rows) ⟨Nat.zero_le _,hrow⟩
    refine aC (by omega) (aY hi ?_)
    rw [Int.toNat_natCast,← show nd0=(0,0,0,[],[],ByteArray.empty) from rfl]
    by_cases c1:(t.getD i nd0).1=2
    · refine aC c1 ?_
      by_cases c2:(t.getD i nd0).2.1=p
      · have hm:fC t p i:=⟨c1,c2⟩
        obtain ⟨j0,b0', b1,b2⟩:=bHC hg hrb hi hm
        refine gU c2 ⟨by unfold SmA; omega,?_⟩
        have hb:(bif true then decide ((t.getD i nd0).2.1=p) else false)=true:=by rw [cond_true]; exact decide_eq_true c2
        rw [hb]
        by_cases hk:jY (bB t p i).1 (aX t i)=false
        · refine aC (aY2.2 hk) ?_
          have en:=bHE hm hk
          obtain ⟨ji,hji,hjw⟩:=I.has i hi (T.done hi)
          have hl:mL (bB t p i).2 (own t p i) (bB t p i).2.length=ji:=I.last hjw _ (by rw [I.len]; exact hji) (by rw [I.len]; exact Nat.le_refl _)
          have hat:atF t p i=(ji:Int):=aLS hg hrb (by omega) hji hjw
          rw [hl] at en
          have ej:j0=(bB t p i).1.length:=by
            have hwp:=((T.node i hi).who hm.1).2.2.2.2
            have e2:jZ (bB t p (i+1)).1 (aX t i)=((bB t p i).1.length:Int):=by
               rw [en]
               refine aY1 (by rw [List.length_append,aD5]; omega) ?_ fun j hj hc=>?_
               · rw [oJ,if_neg (by omega),Nat.sub_self,aYN hwp]
               · rw [oJ,if_pos hj] at hc
                 have:=wV.2 ⟨j,hj,hc⟩
                 rw [hk] at this; cases this
            omega
          have l18:=loop18 true j0 b0' (fun _=>⟨hm,b2⟩) (fun h=>by cases h) (j0:Int) (fun _=>rfl)
          rw [en,ej] at l18
          have main:=bJ (f:=87) (gn:=fnT Tryz.f87) (n0:=n0) (r:=13) (by kernel_rfl) aE7 (inl:=[]) (LT:=mU) (NT:=mV) (K:=aO (mW eSq eI (mM t p) (atL t p))) (fun c:Nat=>aEP t p (i:Int) true ((bB t p i).1.length:Int) (t.length:Int) (i:Int) ((aK t i).length:Int) (c:Int) ((bB t p i).1 ++ gT (aX t i) ji c) rows (t.getD i nd0).1 (t.getD i nd0).2.1 (t.getD i nd0).2.2.1 (t.getD i nd0).2.2.2.1 (t.getD i nd0).2.2.2.2.1 (t.getD i nd0).2.2.2.2.2) (fun c=>(aK t i).length - c) (fun c=>c≤(aK t i).length) (fun c hc0 ih2=>by
            rw [bGL]
            by_cases hc:c<(aK t i).length
            · have ih3:=ih2 (c+1) (by omega) (by omega)
              rw [bHD,← List.append_assoc] at ih3
              refine aC (by omega) (aY (by rw [hrow.1]; exact hi) ?_)
              rw [Int.toNat_natCast,hati,hat,wrS hc (by omega)]
              exact aS (g8 (by rw [List.length_append,aD5]; simp; omega) (by decide)) ih3
            · have hcc:c=(aK t i).length:=by omega
              subst hcc
              exact aE (by omega) l18) 0 (Nat.zero_le _)
          rw [show gT (aX t i) ji 0=[] from rfl,List.append_nil] at main
          exact main
        · refine aE (fun h=>hk (aY2.1 h)) ?_
          have en:=aLV (t:=t) (p:=p) (i:=i) fun h=>hk h.2
          rw [en] at b1
          have l18:=loop18 true j0 b0' (fun _=>⟨hm,b2⟩) (fun h=>by cases h) (j0:Int) (fun _=>rfl)
          rw [en] at l18
          have b1' : jZ (bB t p i).1 (t.getD i nd0).2.2.1=(j0:Int):=b1
          rw [b1']
          exact l18
      · refine i3 c2 ?_
        have hb:(bif true then decide ((t.getD i nd0).2.1=p) else false)=false:=by rw [cond_true]; exact decide_eq_false c2
        rw [hb]
        have en:=aLV (t:=t) (p:=p) (i:=i) fun h=>c2 h.1.2
        have l18:=loop18 false 0 (by omega) (fun h=>by cases h) (fun _ h=>c2 h.2) (-1) (fun h=>by cases h)
        rw [en] at l18
        exact l18
    · refine aE c1 ?_
      have en:=aLV (t:=t) (p:=p) (i:=i) fun h=>c1 h.1.1
      have l18:=loop18 false 0 (by omega) (fun h=>by cases h) (fun _ h=>c1 h.1) (-1) (fun h=>by cases h)
      rw [en] at l18
      exact l18
  · have hii:i=t.length:=by omega
    subst hii
    refine aE (by omega) ?_
    have e:rows=atL t p:=hrow.all T
    rw [e]
    exact aYX (by decide) rfl rfl)
 have k1:=aDH (n:=t.length) (b:=8) (by omega) (by decide)
 simp only [Int.toNat_natCast] at k1 ⊢
 refine aS k1 ?_
 exact loop4 (0,List.replicate t.length 0) ⟨Nat.zero_le _,List.length_replicate,fun k hk hd=>by
  rw [wP hd,List.getD_eq_getElem?_getD,List.getElem?_replicate,if_pos T.n0]
  exact (aLS hg hrb (i:=0) (Nat.zero_le _) (j:=0) (show 0<1 from Nat.zero_lt_one) rfl).symm⟩
end
end
section
theorem aE8 : ∀ g xs Q,wT g xs Q→Con Tryz.prog g xs Q:=cH fun p hp=>by
 simp only [List.mem_cons,List.not_mem_nil,or_false] at hp
 rcases hp with rfl | rfl | rfl | rfl | rfl
 · exact gZ fun _ _ _ _ h=>aYZ h
 · exact bA fun _ _ _ h=>bHB h
 · exact bF fun _ _ h=>aXY h
 · exact bA fun _ _ _ h=>bG9 h
 · exact bF fun _ _ h=>aWZ h
section
variable {t:List Nd} {p f c:Int} {s:List Ch} {Q:Res}
theorem aY3 {i:Nat} (h:(s.getD i ch0).1≠(bT t p).getD i 0):chE t p s i=3:=if_pos (.inl h)
theorem aY4 {i:Nat} (h:(s.getD i ch0).2.length≠widthOf t p ((bT t p).getD i 0)):chE t p s i=3:=if_pos (.inr h)
theorem aY5 {i:Nat} (h:(s.getD i ch0).1=(bT t p).getD i 0) (h2:(s.getD i ch0).2.length=widthOf t p ((bT t p).getD i 0)):chE t p s i=cL (s.getD i ch0).2:=if_neg (by rintro (h3 | h3); exact h3 h; exact h3 h2)
theorem sZ {i:Nat} (hl:s.length=(bT t p).length) (hi:i<s.length) (h0:hJ t p s i=0) (h1:chE t p s i≠0):bI t p s=chE t p s i:=by
 rw [aD8 hl]; exact aYS h0 h1 _ hi
theorem aY6 {i:Nat} (h0:hJ t p s i=0) (h1:chE t p s i=0):hJ t p s (i+1)=0:=by unfold hJ; rw [if_pos h0]; exact h1
theorem bHG (h:wF t p s Q):Con Tryz.prog 13 [.imm aT t, .int .i64 p, .imm eCh s] Q:=by
 obtain ⟨⟨hg,hs⟩,hq⟩:=h
 have hle:=oK (t:=t) (p:=p)
 have hk:∀ e H,bI t p s=e→aO Q (.int .i64 e) H:=fun e H h1=>by rw [h1] at hq; exact dI hq
 refine aW (gn:=fnT Tryz.f13) (by kernel_rfl) aE8 (inl:=[]) (LT:=aEU) (NT:=aEV) rfl fun n0=>?_
 rw [bGS]
 refine ⟨hg,?_⟩
 by_cases hl:s.length=(bT t p).length
 · refine aP (aC (by omega) ?_)
   refine bJ (f:=13) (gn:=fnT Tryz.f13) (n0:=n0) (r:=5) (by kernel_rfl) aE8 (inl:=[]) (LT:=aEU) (NT:=aEV) (K:=aO Q) (fun i:Nat=>aEW t p s (bT t p) (s.length:Int) (i:Int)) (fun i=>s.length - i) (fun i=>i≤s.length∧hJ t p s i=0) (fun i hp ih=>?_) 0 ⟨Nat.zero_le _,rfl⟩
   obtain ⟨hi0,hz⟩:=hp
   rw [bGT]
   by_cases hi:i<s.length
   · refine aC (by omega) (aY hi (aY (by omega) ?_))
     rw [Int.toNat_natCast,wrS hi (by omega)]
     have hx:=hs.2 _ (d8 (d:=ch0) hi)
     by_cases c1:(s.getD i ch0).1=(bT t p).getD i 0
     · refine aP (aC c1 (aY (by omega) ⟨hg,?_⟩))
       rw [cond_false]
       by_cases c2:(s.getD i ch0).2.length=widthOf t p ((bT t p).getD i 0)
       · refine aP (aC (congrArg (fun n:Nat=>(n:Int)) c2) ⟨hx,?_⟩)
         have e:=aY5 (t:=t) (p:=p) c1 c2
         by_cases c3:cL (s.getD i ch0).2=0
         · exact aP (aC c3 (ih (i+1) ⟨by omega,aY6 hz (e.trans c3)⟩ (by omega)))
         · exact aP (aE c3 (hk _ _ ((sZ hl hi hz (by rw [e]; exact c3)).trans e)))
       · have e:=aY4 (t:=t) (p:=p) c2
         exact aP (aE (fun h=>c2 (Int.ofNat_inj.1 h)) (hk _ _ ((sZ hl hi hz (by rw [e]; decide)).trans e)))
     · have e:=aY3 (t:=t) (p:=p) c1
       exact aP (aE c1 (hk _ _ ((sZ hl hi hz (by rw [e]; decide)).trans e)))
   · have hii:i=s.length:=by omega
     subst hii
     exact aE (by omega) (hk _ _ ((aD8 hl).trans hz))
 · exact aP (aE (by omega) (hk _ _ (aLU hl)))
theorem aY7 (h:wF t p s Q):Con Tryz.prog 43 [.imm aT t, .int .i64 p, .imm eCh s] Q:=by
 obtain ⟨⟨hg,hs⟩,hq⟩:=h
 have hle:=oK (t:=t) (p:=p)
 have hwl:=bF4 (t:=t) (p:=p)
 have hk:∀ e H,bI t p s=e→aO Q (.int .i64 e) H:=fun e H h1=>by rw [h1] at hq; exact dI hq
 refine aW (gn:=fnT Tryz.f43) (by kernel_rfl) aE8 (inl:=[]) (LT:=aEX) (NT:=aEY) rfl fun n0=>?_
 rw [bGU]
 refine ⟨hg,?_⟩
 by_cases hl:s.length=(bT t p).length
 · refine aP (aC (by omega) ?_)
   refine bJ (f:=43) (gn:=fnT Tryz.f43) (n0:=n0) (r:=5) (by kernel_rfl) aE8 (inl:=[]) (LT:=aEX) (NT:=aEY) (K:=aO Q) (fun i:Nat=>aEZ t p s (bT t p) (kO t p) (s.length:Int) (i:Int)) (fun i=>s.length - i) (fun i=>i≤s.length∧hJ t p s i=0) (fun i hp ih=>?_) 0 ⟨Nat.zero_le _,rfl⟩
   obtain ⟨hi0,hz⟩:=hp
   rw [bGV]
   by_cases hi:i<s.length
   · refine aC (by omega) (aY hi (aY (by omega) ?_))
     rw [Int.toNat_natCast,wrS hi (by omega)]
     have hx:=hs.2 _ (d8 (d:=ch0) hi)
     by_cases c1:(s.getD i ch0).1=(bT t p).getD i 0
     · refine aP (aC c1 (aY (by omega) ?_))
       rw [cond_false,bF5 (by omega)]
       by_cases c2:(s.getD i ch0).2.length=widthOf t p ((bT t p).getD i 0)
       · refine aP (aC (congrArg (fun n:Nat=>(n:Int)) c2) ⟨hx,?_⟩)
         have e:=aY5 (t:=t) (p:=p) c1 c2
         by_cases c3:cL (s.getD i ch0).2=0
         · exact aP (aC c3 (ih (i+1) ⟨by omega,aY6 hz (e.trans c3)⟩ (by omega)))
         · exact aP (aE c3 (hk _ _ ((sZ hl hi hz (by rw [e]; exact c3)).trans e)))
       · have e:=aY4 (t:=t) (p:=p) c2
         exact aP (aE (fun h=>c2 (Int.ofNat_inj.1 h)) (hk _ _ ((sZ hl hi hz (by rw [e]; decide)).trans e)))
     · have e:=aY3 (t:=t) (p:=p) c1
       exact aP (aE c1 (hk _ _ ((sZ hl hi hz (by rw [e]; decide)).trans e)))
   · have hii:i=s.length:=by omega
     subst hii
     exact aE (by omega) (hk _ _ ((aD8 hl).trans hz))
 · exact aP (aE (by omega) (hk _ _ (aLU hl)))
end
theorem aY8 : ∀ g xs Q,aLQ g xs Q→Con Tryz.prog g xs Q:=cH fun p hp=>by
 simp only [List.mem_cons,List.not_mem_nil,or_false] at hp
 rcases hp with rfl | rfl | rfl
 · exact gZ fun _ _ _ _ h=>aY7 h
 · exact bA fun _ _ _ h=>bHF h
 · exact bF fun _ _ h=>aW5 h
theorem aY9 : ∀ g xs Q,aLR g xs Q→Con Tryz.prog g xs Q:=cH fun p hp=>by
 simp only [List.mem_cons,List.not_mem_nil,or_false] at hp
 rcases hp with rfl
 exact bA fun _ _ _ h=>bG6 h
theorem aLW : ∀ g xs Q,aD3 g xs Q→Con Tryz.prog g xs Q:=cH fun p hp=>by
 simp only [List.mem_cons,List.not_mem_nil,or_false] at hp
 rcases hp with rfl
 exact bA fun _ _ _ h=>bG7 h
section
variable {t:List Nd} {p f c:Int} {s:List Ch} {Q:Res}
theorem bHH (h:cwtS s Q):Con Tryz.prog 7 [.imm eCh s] Q:=by
 obtain ⟨ht,hq⟩:=h
 have hl:=ht.1
 refine aW (gn:=fnT Tryz.f7) (by kernel_rfl) aY8 (inl:=[]) (LT:=aE0) (NT:=aE1) rfl fun n0=>?_
 rw [bGW]
 exact bJ (f:=7) (gn:=fnT Tryz.f7) (n0:=n0) (r:=3) (by kernel_rfl) aY8 (inl:=[]) (LT:=aE0) (NT:=aE1) (K:=aO Q) (fun y:Int × Nat=>w6 s y.1 (s.length:Int) (y.2:Int)) (fun y=>s.length - y.2) (fun y=>y.2≤s.length) (fun y hp ih=>by
  obtain ⟨n,x⟩:=y
  simp only at hp
  show aF _ _ _ _ _ _ (w6 s n (s.length:Int) (x:Int))
  rw [bGX]
  by_cases hx:x<s.length
  · have hr:=(ht.2 _ (d8 (d:=ch0) hx)).1
    refine aC (by omega) (aY hx ⟨⟨by simp,fun r hr2=>?_⟩,fun m=>?_⟩)
    · rw [List.mem_singleton.1 hr2]; exact hr
    · rw [wrS hx (by omega)]
      exact ih (_,x+1) (by show x+1≤s.length; omega) (by show s.length - (x+1)<s.length - x; omega)
  · exact aE (by omega) (dI (hq _))) (0,0) (Nat.zero_le _)
theorem bHI (h:aXG t Q):Con Tryz.prog 8 [.imm aT t] Q:=by
 obtain ⟨ht,hq⟩:=h
 have hl:=ht.1
 have hk:∀ e H,oG t=e→aO Q (.bool e) H:=fun e H h1=>by rw [h1] at hq; exact oC hq
 unfold oG at hk
 refine aW (gn:=fnT Tryz.f8) (by kernel_rfl) aY9 (inl:=[29]) (LT:=aE2) (NT:=aE3) rfl fun n0=>?_
 rw [bGY]
 refine bJ (f:=8) (gn:=fnT Tryz.f8) (n0:=n0) (r:=2) (by kernel_rfl) aY9 (inl:=[29]) (LT:=aE2) (NT:=aE3) (K:=aO Q) (fun x:Nat=>aE4 t (t.length:Int) (x:Int)) (fun x=>t.length - x) (fun x=>x≤t.length∧t.all oF=(t.drop x).all oF) (fun x hp ih=>?_) 0 ⟨Nat.zero_le _,by rw [List.drop_zero]⟩
 obtain ⟨hx0,he⟩:=hp
 rw [bGZ]
 by_cases hx:x<t.length
 · have hX:=(ht.2 _ (d8 (d:=nd0) hx)).2.1.1
   rw [aK6 (d:=nd0) hx,List.all_cons] at he
   refine aC (by omega) (aY hx ?_)
   rw [Int.toNat_natCast,wrS hx (by omega)]
   have e0:oF (t.getD x nd0)=(decide ((t.getD x nd0).2.2.2.2.2.size≤12) && decide (fJ 12 (t.getD x nd0).2.2.2.2.1<0)):=rfl
   by_cases c1:12<(t.getD x nd0).2.2.2.2.2.size
   · refine aC (by show ((t.getD x nd0).2.2.2.2.2.size:Int) > 12; omega) (hk _ _ ?_)
     rw [he,e0,decide_eq_false (by omega)]; rfl
   · refine aE (by show ¬ ((t.getD x nd0).2.2.2.2.2.size:Int) > 12; omega) ⟨hX,?_⟩
     rw [cond_false]
     by_cases c2:fJ 12 (t.getD x nd0).2.2.2.2.1<0
     · refine aE (by show ¬ fJ 12 (t.getD x nd0).2.2.2.2.1 ≥ 0; omega) (ih (x+1) ⟨by omega,?_⟩ (by omega))
       rw [he,e0,decide_eq_true (by omega),decide_eq_true c2]; rfl
     · refine aC (by show fJ 12 (t.getD x nd0).2.2.2.2.1 ≥ 0; omega) (hk _ _ ?_)
       rw [he,e0,decide_eq_false c2,Bool.and_false]; rfl
 · rw [List.drop_eq_nil_of_le (by omega)] at he
   refine aE (by omega) (hk _ _ ?_)
   rw [he]
   show (true && decide (t.length≤40))=_
   rw [Bool.true_and]
   exact decide_eq_decide.2 (by omega)
theorem bHJ {ss:List (List Ch)} (h:aXH ss Q):Con Tryz.prog 15 [.imm (eL eCh) ss] Q:=by
 obtain ⟨⟨hl,hs⟩,hq⟩:=h
 have hk:∀ e H,mN ss=e→aO Q (.bool e) H:=fun e H h1=>by rw [h1] at hq; exact oC hq
 unfold mN at hk
 refine aW (gn:=fnT Tryz.f15) (by kernel_rfl) aLW (inl:=[29]) (LT:=sX) (NT:=sY) rfl fun n0=>?_
 rw [bG0]
 refine bJ (f:=15) (gn:=fnT Tryz.f15) (n0:=n0) (r:=2) (by kernel_rfl) aLW (inl:=[29]) (LT:=sX) (NT:=sY) (K:=aO Q) (fun x:Nat=>aE5 ss (ss.length:Int) (x:Int)) (fun x=>ss.length - x) (fun x=>x≤ss.length∧(ss.all fun s=>s.all fun c=>decide (fJ 12 c.2<0))=((ss.drop x).all fun s=>s.all fun c=>decide (fJ 12 c.2<0))) (fun x hp ih=>?_) 0 ⟨Nat.zero_le _,by rw [List.drop_zero]⟩
 obtain ⟨hx0,he⟩:=hp
 rw [bG1]
 by_cases hx:x<ss.length
 · have hX:=hs _ (d8 (d:=[]) hx)
   rw [aK6 (d:=[]) hx,List.all_cons] at he
   refine aC (by omega) (aY hx ?_)
   rw [Int.toNat_natCast]
   generalize ss.getD x []=s at *
   have hsl:=hX.1
   refine bJ (f:=15) (gn:=fnT Tryz.f15) (n0:=n0) (r:=5) (by kernel_rfl) aLW (inl:=[29]) (LT:=sX) (NT:=sY) (K:=aO Q) (fun y:Nat=>aE6 ss (ss.length:Int) (x:Int) s (s.length:Int) (y:Int)) (fun y=>s.length - y) (fun y=>y≤s.length∧(s.all fun c=>decide (fJ 12 c.2<0))=((s.drop y).all fun c=>decide (fJ 12 c.2<0))) (fun y hp2 ih2=>?_) 0 ⟨Nat.zero_le _,by rw [List.drop_zero]⟩
   obtain ⟨hy0,he2⟩:=hp2
   rw [bG2]
   by_cases hy:y<s.length
   · have hY:=(hX.2 _ (d8 (d:=ch0) hy)).1
     rw [aK6 (d:=ch0) hy,List.all_cons] at he2
     refine aC (by omega) (aY hy ⟨by rw [Int.toNat_natCast]; exact hY,?_⟩)
     rw [Int.toNat_natCast,wrS hy (by omega)]
     by_cases c2:fJ 12 (s.getD y ch0).2<0
     · refine aE (by show ¬ fJ 12 (s.getD y ch0).2 ≥ 0; omega) (ih2 (y+1) ⟨by omega,?_⟩ (by omega))
       rw [he2,decide_eq_true c2]; rfl
     · refine aC (by show fJ 12 (s.getD y ch0).2 ≥ 0; omega) (hk _ _ ?_)
       rw [he,he2,decide_eq_false c2]; rfl
   · rw [List.drop_eq_nil_of_le (by omega)] at he2
     refine aE (by omega) ?_
     rw [wrS hx (by omega)]
     exact ih (x+1) ⟨by omega,by rw [he,he2]; rfl⟩ (by omega)
 · rw [List.drop_eq_nil_of_le (by omega)] at he
   exact aE (by omega) (hk _ _ he)
end
end
section
noncomputable def eX (t:List Nd) (a b:List Ch) (i c:Nat):Rat :=
 if (t.getD i nd0).1=1 then bQ ((t.getD i nd0).2.2.2.2.1.getD c b0)
 else if (t.getD i nd0).2.1=0 then bQ (dN a (aX t i) (c:Int)) else bQ (dN b (aX t i) (c:Int))
noncomputable def i6 (t:List Nd) (a b:List Ch) (w:List (Int × Int)):Rat:=w.foldl (fun q x=>q * eX t a b x.1.toNat x.2.toNat) 1
noncomputable def cM (t:List Nd) (a b:List Ch) (k:Nat):Rat:=i6 t a b (dY t k)
def j2 (t:List Nd) (i:Nat):ByteArray:=(t.getD i nd0).2.2.2.2.2
noncomputable def fW (t:List Nd) (a b:List Ch):Nat→Rat
 | 0=>0
 | n+1=>if (t.getD n nd0).1=0 then fW t a b n+cM t a b n * bQ (j2 t n) else fW t a b n
noncomputable def oN (t:List Nd) (a b:List Ch):Nat→Nat→Rat
 | 0,_=>0
 | n+1,k=>if (t.getD k nd0).1=0 then bQ (j2 t k) else b7 (fun c=>eX t a b k c * oN t a b n ((aK t k).getD c 0).toNat) (aK t k).length
noncomputable def dO (t:List Nd) (a b:List Ch) (k:Nat):Rat:=oN t a b (t.length - k) k
structure RepOk (t:List Nd) (a b:List Ch):Prop where
 g:eH t
 sa:bI t 0 a=0
 sb:bI t 1 b=0
noncomputable def dP (t:List Nd) (a b:List Ch):Int:=if cF t≠0 then cF t else if bI t 0 a≠0 then bI t 0 a else bI t 1 b
def repS (t:List Nd) (a b:List Ch) (Q:Res):Prop:=(TxT t∧TxC a∧TxC b)∧Q (.int .i64 (dP t a b)) []
def aZA : AV→Option (List Ch × List Ch)
 | .agg cs=>(match cs with
   | [x,y]=>(match nV eCh x with
     | some a=>(match nV eCh y with | some b=>some (a,b) | none=>none)
     | none=>none)
   | _=>none)
 | _=>none
def aE9 : cB (List Ch × List Ch):=⟨aZA,fun p => .agg [.imm eCh p.1, .imm eCh p.2],fun {x a} h {c w v} hx=>by
 unfold aZA at h
 split at h
 · split at h
   · rename_i cs b n
     split at h
     · rename_i h1
       split at h
       · rename_i h2
         cases h
         cases hx with
         | agg hl u q1 q2 =>
           refine .agg (by simpa using hl) u (fun j y hy=>?_) (fun j y hy=>?_)
           · match j,hy with
             | 0,hy=>exact q1 0 _ rfl
             | 1,hy=>exact q1 1 _ rfl
           · match j,hy with
             | 0,hy=>cases hy; exact aCI h1 (q2 0 _ rfl)
             | 1,hy=>cases hy; exact aCI h2 (q2 1 _ rfl)
       · cases h
     · cases h
   · cases h
 · cases h⟩
def aZB : AV→Option (Bool × Bool)
 | .agg cs=>(match cs with
   | [x,y]=>(match asB x with
     | some a=>(match asB y with | some b=>some (a,b) | none=>none)
     | none=>none)
   | _=>none)
 | _=>none
def vBoth : cB (Bool × Bool):=⟨aZB,fun p => .agg [.bool p.1, .bool p.2],fun {x a} h {c w v} hx=>by
 unfold aZB at h
 split at h
 · split at h
   · split at h
     · rename_i h1
       split at h
       · rename_i h2
         cases h
         rw [aKD h1,aKD h2] at hx
         exact hx
       · cases h
     · cases h
   · cases h
 · cases h⟩
def c4 {α β γ δ:Type} (u:cB α) (v:cB β) (t:cB γ) (z:cB δ) (f:α→β→γ→δ→Res→Prop):Ctr:=fun xs Q=>match xs with
 | [x,y,w,k]=>(match u.get x with | some a=>(match v.get y with | some b=>(match t.get w with | some c=>(match z.get k with | some d=>f a b c d Q | none=>False) | none=>False) | none=>False) | none=>False)
 | _=>False
theorem c4_ok {P:Program} {α β γ δ:Type} {u:cB α} {v:cB β} {t:cB γ} {z:cB δ} {g:FuncId} {f:α→β→γ→δ→Res→Prop} (h:∀ a b c d Q,f a b c d Q→Con P g [u.av a,v.av b,t.av c,z.av d] Q):qE P g (c4 u v t z f):=by
 intro xs Q hq
 unfold c4 at hq
 split at hq
 · rename_i x y w k
   split at hq
   · rename_i a ha
     split at hq
     · rename_i b hb
       split at hq
       · rename_i c hc
         split at hq
         · rename_i d hd
           refine aAH (h a b c d Q hq) rfl fun j y' hy=>?_
           match j,hy with
           | 0,hy=>cases hy; exact ⟨x,rfl,fun h=>u.ok ha h⟩
           | 1,hy=>cases hy; exact ⟨y,rfl,fun h=>v.ok hb h⟩
           | 2,hy=>cases hy; exact ⟨w,rfl,fun h=>t.ok hc h⟩
           | 3,hy=>cases hy; exact ⟨k,rfl,fun h=>z.ok hd h⟩
         · exact hq.elim
       · exact hq.elim
     · exact hq.elim
   · exact hq.elim
 · exact hq.elim
def aZC (t:List Nd) (ab:List Ch × List Ch) (Q:Res):Prop:=RepOk t ab.1 ab.2∧∀ zs:List QT,QF zs t.length (cM t ab.1 ab.2)→Q (.own 0) [.typed eQ zs false]
noncomputable def jO (t:List Nd) (a b:List Ch):Int:=if dP t a b≠0 then dP t a b else dG (fW t a b t.length)
noncomputable def kS (t:List Nd) (a b:List Ch):ByteArray:=if jO t a b=0 then ratText (fW t a b t.length) else ⟨#[]⟩
def valS (t:List Nd) (a b:List Ch) (Q:Res):Prop:=(TxT t∧TxC a∧TxC b)∧Q (.tup [.str (kS t a b), .int .i64 (jO t a b)]) []
noncomputable def iJ (t:List Nd) (a b:List Ch):Int:=if dP t a b≠0 then dP t a b else v6 t.length (cM t a b)
noncomputable def jP (t:List Nd) (a b:List Ch):List ByteArray:=if iJ t a b=0 then iY t.length (cM t a b) else []
def aZD (t:List Nd) (a b:List Ch) (Q:Res):Prop:=(TxT t∧TxC a∧TxC b)∧Q (.tup [.imm eS (jP t a b), .int .i64 (iJ t a b)]) []
structure aFA (t:List Nd) (a b:List Ch):Prop where
 n:t.length≤40
 pay:∀ i,i<t.length→(j2 t i).size≤12
 odds:∀ i,i<t.length→∀ r∈(t.getD i nd0).2.2.2.2.1,r.size≤12
 a:∀ c∈a,∀ r∈c.2,r.size≤12
 b:∀ c∈b,∀ r∈c.2,r.size≤12
def aZE (g:Bool × Bool):Prop:=g.1=true∧g.2=true
def aZF (t:List Nd) (k:Int) (ab:List Ch × List Ch) (g:Bool × Bool) (Q:Res):Prop:=(RepOk t ab.1 ab.2∧InT k t∧aZE g)∧Q (.str (ratText (cM t ab.1 ab.2 k.toNat))) []
def aFB (t:List Nd) (k:Int) (ab:List Ch × List Ch):Prop:=RepOk t ab.1 ab.2∧aFA t ab.1 ab.2∧InT k t
def aZG (t:List Nd) (k:Int) (ab:List Ch × List Ch) (Q:Res):Prop:=aFB t k ab∧Q (.str (ratText (dO t ab.1 ab.2 k.toNat))) []
def w7 (n:Nat) (t:List Nd) (k:Int) (ab:List Ch × List Ch):Prop:=aFB t k ab∧t.length - k.toNat<n
def aLX (n:Nat) (t:List Nd) (k:Int) (ab:List Ch × List Ch) (Q:Res):Prop:=w7 n t k ab∧Q (.str (ratText (dO t ab.1 ab.2 k.toNat))) []
noncomputable def w8 : FuncId→List AV→Res→Prop:=cD [(42,c1 vN sH),(43,c3 vN vI vCh wF),(61,c3 vCh vI vI oddS),(60,c1 vI intQ),(35,c1 vS inS),(34,c2 vQ vQ mulQ)]
noncomputable def w9 : FuncId→List AV→Res→Prop:=cD [(14,c3 vN vCh vCh repS),(31,c2 vN aE9 aZC),(35,c1 vS inS),(36,c1 vQ aCK),(34,c2 vQ vQ mulQ),(33,c2 vQ vQ aCL)]
noncomputable def aFC : FuncId→List AV→Res→Prop:=cD [(47,c2 vN vI aLA),(46,c2 vS vS aCM)]
noncomputable def xA (n:Nat):FuncId→List AV→Res→Prop:=cD [(16,c3 vN vI aE9 (aLX n)),(46,c2 vS vS aCM),(45,c2 vS vS vV)]
noncomputable def aLY : FuncId→List AV→Res→Prop:=cD [(5,c0 aYM),(6,c1 vN wtS),(7,c1 vCh cwtS),(8,c1 vN aXG),(15,c1 (kG (eL eCh)) aXH),(9,c3 vN vCh vCh valS),(10,c3 vN vCh vCh aZD),(14,c3 vN vCh vCh repS),(11,c1 vN sH),(13,c3 vN vI vCh wF),(12,c1 vL aW0),(16,c3 vN vI aE9 aZG),(17,c4 vN vI aE9 vBoth aZF)]
end
end Go.Proofs.YtpngedkdkpfnkaaGreatDoor.Lib
end
section
set_option linter.unusedSimpArgs false
set_option linter.unusedVariables false
namespace Go.Proofs.YtpngedkdkpfnkaaGreatDoor.Mach
open Go Go.Proofs.YtpngedkdkpfnkaaGreatDoor Go.Proofs.YtpngedkdkpfnkaaGreatDoor.Lib
section
set_option maxRecDepth 1000000
def aZH : List (Nat × List Nat):=[]
def aZI : List (Nat × ETy):=[]
theorem bHK (t:List Nd) (a b:List (Int × List ByteArray)) (n0:Nat) (K:AV→List aA→Prop) :
 aF tab (aL tab w8 [] 400) (aI aZH aZI (aB Tryz.prog n0 14 K)) (aG tab (fnT Tryz.f14).res K) 400 [.code (fnT Tryz.f14).body] ⟨aU (fnT Tryz.f14).n [AV.imm aT t,AV.imm eCh a,AV.imm eCh b],[]⟩ =
 (TxT t∧bif !decide (cF t=0) then K (AV.int .i64 (cF t)) [] else (eH t∧TxC a)∧bif !decide (bI t 0 a=0) then K (AV.int .i64 (bI t 0 a)) [] else (eH t∧TxC b)∧K (AV.int .i64 (bI t 1 b)) []):=by kernel_rfl
def s6 : List (Nat × List Nat):=[(4,[3,5,16,17,18]),(7,[3,5,6,7,16,17,18,24,25,26])]
def s7 : List (Nat × ETy):=[(5,eQ),(16,aT),(24,eI)]
noncomputable def xB (t:List Nd) (s0 s1:List (Int × List ByteArray)) (x0 x1:Int) (x2:List (List (Int × List ByteArray))) (x3:List (Bool × List Int × List Int)):St:=aQ 81 [(3,AV.parr 0),(5,AV.own 1),(16,AV.imm aT t),(17,AV.int .i64 x0),(18,AV.int .i64 x1)] [aA.typed (ETy.one (CTy.slice eCh)) x2 false,aA.typed eQ x3 false]
noncomputable def oO (t:List Nd) (s0 s1:List (Int × List ByteArray)) (x0 x1 x2:Int) (x3:List Int) (x4 x5:Int) (x6:List (List (Int × List ByteArray))) (x7:List (Bool × List Int × List Int)) (x8 x9 x10:Int) (x11:List Int) (x12:List ByteArray) (x13:ByteArray):St:=aQ 81 [(3,AV.parr 0),(5,AV.own 1),(6,AV.int .i64 x0),(7,AV.ptr 2 0),(16,AV.imm aT t),(17,AV.int .i64 x1),(18,AV.int .i64 x2),(24,AV.imm eI x3),(25,AV.int .i64 x4),(26,AV.int .i64 x5)] [aA.typed (ETy.one (CTy.slice eCh)) x6 false,aA.typed eQ x7 false,bx6 x8 x9 x10 x11 x12 x13]
theorem bHL (t:List Nd) (s0 s1:List (Int × List ByteArray)) (n0:Nat) (K:AV→List aA→Prop) :
 aF tab (aL tab w8 [] 400) (aI s6 s7 (aB Tryz.prog n0 31 K)) (aG tab (fnT Tryz.f31).res K) 400 [.code (fnT Tryz.f31).body] ⟨aU (fnT Tryz.f31).n [AV.imm aT t,AV.agg [AV.imm eCh s0,AV.imm eCh s1]],[]⟩ =
 (bif decide (0≤(↑t.length:Int)) && decide ((↑t.length:Int)≤(↑t.length:Int)) && bif (↑t.length:Int).toNat.ble 9223372036854775807 then ((↑t.length:Int).toNat * 56).ble 281474976710656 else false then I64m 1∧∀ (r:Bool × List Int × List Int),Sem.QV r ((1:Int):Rat)→bif decide (0<(↑(List.replicate (↑t.length:Int).toNat ((false,[],[]):QT)).length:Int)) then aB Tryz.prog n0 31 K (aD (fnT Tryz.f31) 4) (xB t s0 s1 (↑t.length:Int) 0 [s0,s1] ((List.replicate (↑t.length:Int).toNat ((false,[],[]):QT)).set 0 (r.1,r.2.1,r.2.2))) else False else False):=by kernel_rfl
theorem bHM (t:List Nd) (s0 s1:List (Int × List ByteArray)) (x0 x1:Int) (x2:List (List (Int × List ByteArray))) (x3:List (Bool × List Int × List Int)) (n0:Nat) (K:AV→List aA→Prop) :
 aF tab (aL tab w8 [] 400) (aI s6 s7 (aB Tryz.prog n0 31 K)) (aG tab (fnT Tryz.f31).res K) 400 (aR (fnT Tryz.f31) 4) (xB t s0 s1 x0 x1 x2 x3) =
 (bif decide (x1<x0) then bif decide (0≤x1) && decide (x1<(↑t.length:Int)) then aB Tryz.prog n0 31 K (aD (fnT Tryz.f31) 7) (oO t s0 s1 x1 x0 x1 (t.getD x1.toNat (0,0,0,[],[],ByteArray.empty)).2.2.2.1 (↑(List.length (t.getD x1.toNat (0,0,0,[],[],ByteArray.empty)).2.2.2.1):Int) 0 x2 x3 (t.getD x1.toNat (0,0,0,[],[],ByteArray.empty)).1 (t.getD x1.toNat (0,0,0,[],[],ByteArray.empty)).2.1 (t.getD x1.toNat (0,0,0,[],[],ByteArray.empty)).2.2.1 (t.getD x1.toNat (0,0,0,[],[],ByteArray.empty)).2.2.2.1 (t.getD x1.toNat (0,0,0,[],[],ByteArray.empty)).2.2.2.2.1 (t.getD x1.toNat (0,0,0,[],[],ByteArray.empty)).2.2.2.2.2) else False else K (AV.own 1) [aA.typed (ETy.one (CTy.slice eCh)) x2 false,aA.typed eQ x3 false]):=by kernel_rfl
theorem bHN (t:List Nd) (s0 s1:List (Int × List ByteArray)) (x0 x1 x2:Int) (x3:List Int) (x4 x5:Int) (x6:List (List (Int × List ByteArray))) (x7:List (Bool × List Int × List Int)) (x8 x9 x10:Int) (x11:List Int) (x12:List ByteArray) (x13:ByteArray) (n0:Nat) (K:AV→List aA→Prop) :
 aF tab (aL tab w8 [] 400) (aI s6 s7 (aB Tryz.prog n0 31 K)) (aG tab (fnT Tryz.f31).res K) 400 (aR (fnT Tryz.f31) 7) (oO t s0 s1 x0 x1 x2 x3 x4 x5 x6 x7 x8 x9 x10 x11 x12 x13) =
 (bif decide (x5<x4) then
 bif decide (0≤x5) && decide (x5<(↑x3.length:Int)) then
  bif decide (0≤x0) && decide (x0<(↑x7.length:Int)) then bif decide (0≤x3.getD x5.toNat 0) && decide (x3.getD x5.toNat 0<(↑x7.length:Int)) then bif decide (x8=1) then bif decide (0≤x0) && decide (x0<(↑(x7.set (Int.toNat (x3.getD x5.toNat 0)) ((x7.getD x0.toNat (false,[],[])).1,(x7.getD x0.toNat (false,[],[])).2.1,(x7.getD x0.toNat (false,[],[])).2.2)).length:Int)) then bif decide (0≤x5) && decide (x5<(↑x12.length:Int)) then ∃ q,x12.getD x5.toNat ByteArray.empty=Sem.ratText q∧Sz 4000000000 q∧∀ (z:Bool × List Int × List Int),Sem.QV z q→∃ x y,Sem.QV (((x7.set (Int.toNat (x3.getD x5.toNat 0)) ((x7.getD x0.toNat (false,[],[])).1,(x7.getD x0.toNat (false,[],[])).2.1,(x7.getD x0.toNat (false,[],[])).2.2)).getD x0.toNat (false,[],[])).1,((x7.set (Int.toNat (x3.getD x5.toNat 0)) ((x7.getD x0.toNat (false,[],[])).1,(x7.getD x0.toNat (false,[],[])).2.1,(x7.getD x0.toNat (false,[],[])).2.2)).getD x0.toNat (false,[],[])).2.1,((x7.set (Int.toNat (x3.getD x5.toNat 0)) ((x7.getD x0.toNat (false,[],[])).1,(x7.getD x0.toNat (false,[],[])).2.1,(x7.getD x0.toNat (false,[],[])).2.2)).getD x0.toNat (false,[],[])).2.2) x∧Sem.QV (z.1,z.2.1,z.2.2) y∧Sz 4000000000 x∧Sz 4000000000 y∧∀ (r:Bool × List Int × List Int),Sem.QV r (x * y)→bif decide (0≤x3.getD x5.toNat 0) && decide (x3.getD x5.toNat 0<(↑(x7.set (Int.toNat (x3.getD x5.toNat 0)) ((x7.getD x0.toNat (false,[],[])).1,(x7.getD x0.toNat (false,[],[])).2.1,(x7.getD x0.toNat (false,[],[])).2.2)).length:Int)) then aB Tryz.prog n0 31 K (aD (fnT Tryz.f31) 7) (oO t s0 s1 x0 x1 x2 x3 x4 (IntKind.i64.wrap (x5+1)) x6 ((x7.set (Int.toNat (x3.getD x5.toNat 0)) ((x7.getD x0.toNat (false,[],[])).1,(x7.getD x0.toNat (false,[],[])).2.1,(x7.getD x0.toNat (false,[],[])).2.2)).set (Int.toNat (x3.getD x5.toNat 0)) (r.1,r.2.1,r.2.2)) x8 x9 x10 x11 x12 x13) else False else False else False else bif Nat.beq 2 x6.length && (decide (0≤x9) && decide (x9<(↑x6.length:Int))) then bif Nat.blt 0 (List.length (x6.getD x9.toNat [])) then bif decide (0≤x0) && decide (x0<(↑(x7.set (Int.toNat (x3.getD x5.toNat 0)) ((x7.getD x0.toNat (false,[],[])).1,(x7.getD x0.toNat (false,[],[])).2.1,(x7.getD x0.toNat (false,[],[])).2.2)).length:Int)) then bif Nat.beq 2 x6.length && (decide (0≤x9) && decide (x9<(↑x6.length:Int))) then oI (x6.getD x9.toNat []) x10 x5∧∀ (z:Bool × List Int × List Int),Sem.QV z (bQ (dN (x6.getD x9.toNat []) x10 x5))→∃ x y,Sem.QV (((x7.set (Int.toNat (x3.getD x5.toNat 0)) ((x7.getD x0.toNat (false,[],[])).1,(x7.getD x0.toNat (false,[],[])).2.1,(x7.getD x0.toNat (false,[],[])).2.2)).getD x0.toNat (false,[],[])).1,((x7.set (Int.toNat (x3.getD x5.toNat 0)) ((x7.getD x0.toNat (false,[],[])).1,(x7.getD x0.toNat (false,[],[])).2.1,(x7.getD x0.toNat (false,[],[])).2.2)).getD x0.toNat (false,[],[])).2.1,((x7.set (Int.toNat (x3.getD x5.toNat 0)) ((x7.getD x0.toNat (false,[],[])).1,(x7.getD x0.toNat (false,[],[])).2.1,(x7.getD x0.toNat (false,[],[])).2.2)).getD x0.toNat (false,[],[])).2.2) x∧Sem.QV (z.1,z.2.1,z.2.2) y∧Sz 4000000000 x∧Sz 4000000000 y∧∀ (r:Bool × List Int × List Int),Sem.QV r (x * y)→bif decide (0≤x3.getD x5.toNat 0) && decide (x3.getD x5.toNat 0<(↑(x7.set (Int.toNat (x3.getD x5.toNat 0)) ((x7.getD x0.toNat (false,[],[])).1,(x7.getD x0.toNat (false,[],[])).2.1,(x7.getD x0.toNat (false,[],[])).2.2)).length:Int)) then aB Tryz.prog n0 31 K (aD (fnT Tryz.f31) 7) (oO t s0 s1 x0 x1 x2 x3 x4 (IntKind.i64.wrap (x5+1)) x6 ((x7.set (Int.toNat (x3.getD x5.toNat 0)) ((x7.getD x0.toNat (false,[],[])).1,(x7.getD x0.toNat (false,[],[])).2.1,(x7.getD x0.toNat (false,[],[])).2.2)).set (Int.toNat (x3.getD x5.toNat 0)) (r.1,r.2.1,r.2.2)) x8 x9 x10 x11 x12 x13) else False else False else False else False else False else False else False
 else False
  else aB Tryz.prog n0 31 K (aD (fnT Tryz.f31) 4) (xB t s0 s1 x1 (IntKind.i64.wrap (x2+1)) x6 x7)):=by kernel_rfl
def aFD : List (Nat × List Nat):=[(7,[9,10,27,28,29])]
def aFE : List (Nat × ETy):=[(10,eQ),(27,aT)]
noncomputable def bHO (t:List Nd) (a b:List (Int × List ByteArray)) (x0 x1:Int) (x2:List (Bool × List Int × List Int)):St:=aQ 52 [(9,AV.ptr 0 0),(10,AV.own 1),(27,AV.imm aT t),(28,AV.int .i64 x0),(29,AV.int .i64 x1)] [aA.box [AV.bool false,AV.nils,AV.nils],aA.typed eQ x2 false]
noncomputable def xC (t:List Nd) (a b:List (Int × List ByteArray)) (x0 x1:Int) (x2:Bool) (x3 x4:List Int) (x5:List (Bool × List Int × List Int)):St:=aQ 52 [(9,AV.ptr 0 0),(10,AV.own 1),(27,AV.imm aT t),(28,AV.int .i64 x0),(29,AV.int .i64 x1)] [aA.box [AV.bool x2,AV.imm eW x3,AV.imm eW x4],aA.typed eQ x5 false]
theorem bHP (t:List Nd) (a b:List (Int × List ByteArray)) (n0:Nat) (K:AV→List aA→Prop) :
 aF tab (aL tab w9 [32] 400) (aI aFD aFE (aB Tryz.prog n0 9 K)) (aG tab (fnT Tryz.f9).res K) 400 [.code (fnT Tryz.f9).body] ⟨aU (fnT Tryz.f9).n [AV.imm aT t,AV.imm eCh a,AV.imm eCh b],[]⟩ =
 ((TxT t∧TxC a∧TxC b)∧bif !decide (dP t a b=0) then K (AV.tup [AV.str (ByteArray.mk #[]),AV.int .i64 (dP t a b)]) [] else bif bif (0+a.length).ble 9223372036854775807 then ((0+a.length) * 32).ble 140737488355328 else false then bif bif (0+b.length).ble 9223372036854775807 then ((0+b.length) * 32).ble 140737488355328 else false then RepOk t ([] ++ a) ([] ++ b)∧∀ (zs:List QT),QF zs t.length (cM t ([] ++ a) ([] ++ b))→aB Tryz.prog n0 9 K (aD (fnT Tryz.f9) 7) (bHO t a b (↑t.length:Int) 0 zs) else False else False):=by kernel_rfl
theorem bHQ (t:List Nd) (a b:List (Int × List ByteArray)) (x0 x1:Int) (x2:Bool) (x3 x4:List Int) (x5:List (Bool × List Int × List Int)) (n0:Nat) (K:AV→List aA→Prop) :
 aF tab (aL tab w9 [32] 400) (aI aFD aFE (aB Tryz.prog n0 9 K)) (aG tab (fnT Tryz.f9).res K) 400 (aR (fnT Tryz.f9) 7) (xC t a b x0 x1 x2 x3 x4 x5) =
 (bif decide (x1<x0) then bif decide (0≤x1) && decide (x1<(↑t.length:Int)) then bif decide ((t.getD x1.toNat (0,0,0,[],[],ByteArray.empty)).1=0) then bif decide (0≤x1) && decide (x1<(↑x5.length:Int)) then ∃ q,(t.getD x1.toNat (0,0,0,[],[],ByteArray.empty)).2.2.2.2.2=Sem.ratText q∧Sz 4000000000 q∧∀ (z:Bool × List Int × List Int),Sem.QV z q→∃ x y,Sem.QV ((x5.getD x1.toNat (false,[],[])).1,(x5.getD x1.toNat (false,[],[])).2.1,(x5.getD x1.toNat (false,[],[])).2.2) x∧Sem.QV (z.1,z.2.1,z.2.2) y∧Sz 4000000000 x∧Sz 4000000000 y∧∀ (r:Bool × List Int × List Int),Sem.QV r (x * y)→∃ x y,Sem.QV (x2,x3,x4) x∧Sem.QV (r.1,r.2.1,r.2.2) y∧Sz 4000000000 x∧Sz 4000000000 y∧∀ (r:Bool × List Int × List Int),Sem.QV r (x+y)→aB Tryz.prog n0 9 K (aD (fnT Tryz.f9) 7) (xC t a b x0 (IntKind.i64.wrap (x1+1)) r.1 r.2.1 r.2.2 x5) else False else aB Tryz.prog n0 9 K (aD (fnT Tryz.f9) 7) (xC t a b x0 (IntKind.i64.wrap (x1+1)) x2 x3 x4 x5) else False else ∃ q,Sem.QV (x2,x3,x4) q∧Sz 9000000000 q∧K (AV.tup [AV.str (iV q),AV.int .i64 (dG q)]) [aA.box [AV.bool x2,AV.imm eW x3,AV.imm eW x4],aA.typed eQ x5 false]):=by kernel_rfl
def aFF : List (Nat × List Nat):=[(6,[9,27,28,29])]
def aFG : List (Nat × ETy):=[(9,eS),(27,eQ)]
noncomputable def xD (t:List Nd) (a b:List (Int × List ByteArray)) (x0 x1:Int) (x2:List ByteArray) (x3:List (Bool × List Int × List Int)):St:=aQ 47 [(9,AV.own 0),(27,AV.own 1),(28,AV.int .i64 x0),(29,AV.int .i64 x1)] [aA.typed eS x2 false,aA.typed eQ x3 false]
theorem bHR (t:List Nd) (a b:List (Int × List ByteArray)) (n0:Nat) (K:AV→List aA→Prop) :
 aF tab (aL tab w9 [32] 400) (aI aFF aFG (aB Tryz.prog n0 10 K)) (aG tab (fnT Tryz.f10).res K) 400 [.code (fnT Tryz.f10).body] ⟨aU (fnT Tryz.f10).n [AV.imm aT t,AV.imm eCh a,AV.imm eCh b],[]⟩ =
 ((TxT t∧TxC a∧TxC b)∧bif !decide (dP t a b=0) then K (AV.tup [AV.nils,AV.int .i64 (dP t a b)]) [] else bif bif (0+a.length).ble 9223372036854775807 then ((0+a.length) * 32).ble 140737488355328 else false then bif bif (0+b.length).ble 9223372036854775807 then ((0+b.length) * 32).ble 140737488355328 else false then RepOk t ([] ++ a) ([] ++ b)∧∀ (zs:List QT),QF zs t.length (cM t ([] ++ a) ([] ++ b))→aB Tryz.prog n0 10 K (aD (fnT Tryz.f10) 6) (xD t a b (↑zs.length:Int) 0 [] zs) else False else False):=by kernel_rfl
theorem bHS (t:List Nd) (a b:List (Int × List ByteArray)) (x0 x1:Int) (x2:List ByteArray) (x3:List (Bool × List Int × List Int)) (n0:Nat) (K:AV→List aA→Prop) :
 aF tab (aL tab w9 [32] 400) (aI aFF aFG (aB Tryz.prog n0 10 K)) (aG tab (fnT Tryz.f10).res K) 400 (aR (fnT Tryz.f10) 6) (xD t a b x0 x1 x2 x3) =
 (bif decide (x1<x0) then bif decide (0≤x1) && decide (x1<(↑x3.length:Int)) then ∃ q,Sem.QV ((x3.getD x1.toNat (false,[],[])).1,(x3.getD x1.toNat (false,[],[])).2.1,(x3.getD x1.toNat (false,[],[])).2.2) q∧Sz 9000000000 q∧bif !decide (dG q=0) then K (AV.tup [AV.nils,AV.int .i64 (dG q)]) [aA.typed eS x2 false,aA.typed eQ x3 false,aA.box [AV.bool (x3.getD x1.toNat (false,[],[])).1,AV.imm eW (x3.getD x1.toNat (false,[],[])).2.1,AV.imm eW (x3.getD x1.toNat (false,[],[])).2.2]] else bif bif (x2.length+[iV q].length).ble 9223372036854775807 then ((x2.length+[iV q].length) * 16).ble 140737488355328 else false then aB Tryz.prog n0 10 K (aD (fnT Tryz.f10) 6) (xD t a b x0 (IntKind.i64.wrap (x1+1)) (x2 ++ [iV q]) x3) else False else False else K (AV.tup [AV.own 0,AV.int .i64 0]) [aA.typed eS x2 false,aA.typed eQ x3 false]):=by kernel_rfl
def s8 : List (Nat × List Nat):=[(3,[0,6,7,9,17,18,19]),(10,[0,6,7,9,11,12,17,18,19,51,52,53])]
def s9 : List (Nat × ETy):=[(17,eP),(51,eCh)]
noncomputable def kT (t:List Nd) (k:Int) (s0 s1:List (Int × List ByteArray)) (g0 g1:Bool) (x0:ByteArray) (x1:List (Int × Int)) (x2 x3:Int) (x4:List (List (Int × List ByteArray))) (x5:List Bool):St:=aQ 73 [(0,AV.imm aT t),(6,AV.parr 0),(7,AV.parr 1),(9,AV.str x0),(17,AV.imm eP x1),(18,AV.int .i64 x2),(19,AV.int .i64 x3)] [aA.typed (ETy.one (CTy.slice eCh)) x4 false,aA.typed (ETy.one CTy.bool) x5 false]
noncomputable def mX (t:List Nd) (k:Int) (s0 s1:List (Int × List ByteArray)) (g0 g1:Bool) (x0:ByteArray) (x1:List (Int × Int)) (x2 x3:Int) (x4:List (Int × List ByteArray)) (x5 x6:Int) (x7:List (List (Int × List ByteArray))) (x8:List Bool) (x9:List Int) (x10 x11 x12:Int) (x13:List Int) (x14:List ByteArray) (x15:ByteArray):St:=aQ 73 [(0,AV.imm aT t),(6,AV.parr 0),(7,AV.parr 1),(9,AV.str x0),(11,AV.parr 2),(12,AV.ptr 3 0),(17,AV.imm eP x1),(18,AV.int .i64 x2),(19,AV.int .i64 x3),(51,AV.imm eCh x4),(52,AV.int .i64 x5),(53,AV.int .i64 x6)] [aA.typed (ETy.one (CTy.slice eCh)) x7 false,aA.typed (ETy.one CTy.bool) x8 false,aA.typed eI x9 false,bx6 x10 x11 x12 x13 x14 x15]
theorem bHT (t:List Nd) (k:Int) (s0 s1:List (Int × List ByteArray)) (g0 g1:Bool) (n0:Nat) (K:AV→List aA→Prop) :
 aF tab (aL tab aFC [] 400) (aI s8 s9 (aB Tryz.prog n0 17 K)) (aG tab (fnT Tryz.f17).res K) 400 [.code (fnT Tryz.f17).body] ⟨aU (fnT Tryz.f17).n [AV.imm aT t,AV.int .i64 k,AV.agg [AV.imm eCh s0,AV.imm eCh s1],AV.agg [AV.bool g0,AV.bool g1]],[]⟩ =
 ((eH t∧InT k t)∧aB Tryz.prog n0 17 K (aD (fnT Tryz.f17) 3) (kT t k s0 s1 g0 g1 (ByteArray.mk #[49]) (dY t k.toNat) (↑(dY t k.toNat).length:Int) 0 [s0,s1] [g0,g1])):=by kernel_rfl
theorem bHU (t:List Nd) (k:Int) (s0 s1:List (Int × List ByteArray)) (g0 g1:Bool) (x0:ByteArray) (x1:List (Int × Int)) (x2 x3:Int) (x4:List (List (Int × List ByteArray))) (x5:List Bool) (n0:Nat) (K:AV→List aA→Prop) :
 aF tab (aL tab aFC [] 400) (aI s8 s9 (aB Tryz.prog n0 17 K)) (aG tab (fnT Tryz.f17).res K) 400 (aR (fnT Tryz.f17) 3) (kT t k s0 s1 g0 g1 x0 x1 x2 x3 x4 x5) =
 (bif decide (x3<x2) then
 bif decide (0≤x3) && decide (x3<(↑x1.length:Int)) then
  bif decide (0≤[(x1.getD x3.toNat (0,0)).1,(x1.getD x3.toNat (0,0)).2].getD 0 0) && decide ([(x1.getD x3.toNat (0,0)).1,(x1.getD x3.toNat (0,0)).2].getD 0 0<(↑t.length:Int)) then
     bif decide ((t.getD (Int.toNat ([(x1.getD x3.toNat (0,0)).1,(x1.getD x3.toNat (0,0)).2].getD 0 0)) (0,0,0,[],[],ByteArray.empty)).1=1) then bif decide (0≤[(x1.getD x3.toNat (0,0)).1,(x1.getD x3.toNat (0,0)).2].getD 1 0) && decide ([(x1.getD x3.toNat (0,0)).1,(x1.getD x3.toNat (0,0)).2].getD 1 0<(↑(List.length (t.getD (Int.toNat ([(x1.getD x3.toNat (0,0)).1,(x1.getD x3.toNat (0,0)).2].getD 0 0)) (0,0,0,[],[],ByteArray.empty)).2.2.2.2.1):Int)) then ∃ x y,x0=Sem.ratText x∧List.getD (t.getD (Int.toNat ([(x1.getD x3.toNat (0,0)).1,(x1.getD x3.toNat (0,0)).2].getD 0 0)) (0,0,0,[],[],ByteArray.empty)).2.2.2.2.1 (Int.toNat ([(x1.getD x3.toNat (0,0)).1,(x1.getD x3.toNat (0,0)).2].getD 1 0)) ByteArray.empty=Sem.ratText y∧Sz 4000000000 x∧Sz 4000000000 y∧bif decide ((t.getD (Int.toNat ([(x1.getD x3.toNat (0,0)).1,(x1.getD x3.toNat (0,0)).2].getD 0 0)) (0,0,0,[],[],ByteArray.empty)).1=2) then bif Nat.beq 2 x5.length && (decide (0≤(t.getD (Int.toNat ([(x1.getD x3.toNat (0,0)).1,(x1.getD x3.toNat (0,0)).2].getD 0 0)) (0,0,0,[],[],ByteArray.empty)).2.1) && decide ((t.getD (Int.toNat ([(x1.getD x3.toNat (0,0)).1,(x1.getD x3.toNat (0,0)).2].getD 0 0)) (0,0,0,[],[],ByteArray.empty)).2.1<(↑x5.length:Int))) then bif bif true then x5.getD (Int.toNat (t.getD (Int.toNat ([(x1.getD x3.toNat (0,0)).1,(x1.getD x3.toNat (0,0)).2].getD 0 0)) (0,0,0,[],[],ByteArray.empty)).2.1) false else false then bif Nat.beq 2 x4.length && (decide (0≤(t.getD (Int.toNat ([(x1.getD x3.toNat (0,0)).1,(x1.getD x3.toNat (0,0)).2].getD 0 0)) (0,0,0,[],[],ByteArray.empty)).2.1) && decide ((t.getD (Int.toNat ([(x1.getD x3.toNat (0,0)).1,(x1.getD x3.toNat (0,0)).2].getD 0 0)) (0,0,0,[],[],ByteArray.empty)).2.1<(↑x4.length:Int))) then aB Tryz.prog n0 17 K (aD (fnT Tryz.f17) 10) (mX t k s0 s1 g0 g1 (Sem.ratText (x * y)) x1 x2 x3 (x4.getD (Int.toNat (t.getD (Int.toNat ([(x1.getD x3.toNat (0,0)).1,(x1.getD x3.toNat (0,0)).2].getD 0 0)) (0,0,0,[],[],ByteArray.empty)).2.1) []) (↑(List.length (x4.getD (Int.toNat (t.getD (Int.toNat ([(x1.getD x3.toNat (0,0)).1,(x1.getD x3.toNat (0,0)).2].getD 0 0)) (0,0,0,[],[],ByteArray.empty)).2.1) [])):Int) 0 x4 x5 [(x1.getD x3.toNat (0,0)).1,(x1.getD x3.toNat (0,0)).2] (t.getD (Int.toNat ([(x1.getD x3.toNat (0,0)).1,(x1.getD x3.toNat (0,0)).2].getD 0 0)) (0,0,0,[],[],ByteArray.empty)).1 (t.getD (Int.toNat ([(x1.getD x3.toNat (0,0)).1,(x1.getD x3.toNat (0,0)).2].getD 0 0)) (0,0,0,[],[],ByteArray.empty)).2.1 (t.getD (Int.toNat ([(x1.getD x3.toNat (0,0)).1,(x1.getD x3.toNat (0,0)).2].getD 0 0)) (0,0,0,[],[],ByteArray.empty)).2.2.1 (t.getD (Int.toNat ([(x1.getD x3.toNat (0,0)).1,(x1.getD x3.toNat (0,0)).2].getD 0 0)) (0,0,0,[],[],ByteArray.empty)).2.2.2.1 (t.getD (Int.toNat ([(x1.getD x3.toNat (0,0)).1,(x1.getD x3.toNat (0,0)).2].getD 0 0)) (0,0,0,[],[],ByteArray.empty)).2.2.2.2.1 (t.getD (Int.toNat ([(x1.getD x3.toNat (0,0)).1,(x1.getD x3.toNat (0,0)).2].getD 0 0)) (0,0,0,[],[],ByteArray.empty)).2.2.2.2.2) else False else aB Tryz.prog n0 17 K (aD (fnT Tryz.f17) 3) (kT t k s0 s1 g0 g1 (Sem.ratText (x * y)) x1 x2 (IntKind.i64.wrap (x3+1)) x4 x5) else False else aB Tryz.prog n0 17 K (aD (fnT Tryz.f17) 3) (kT t k s0 s1 g0 g1 (Sem.ratText (x * y)) x1 x2 (IntKind.i64.wrap (x3+1)) x4 x5) else False
     else bif decide ((t.getD (Int.toNat ([(x1.getD x3.toNat (0,0)).1,(x1.getD x3.toNat (0,0)).2].getD 0 0)) (0,0,0,[],[],ByteArray.empty)).1=2) then bif Nat.beq 2 x5.length && (decide (0≤(t.getD (Int.toNat ([(x1.getD x3.toNat (0,0)).1,(x1.getD x3.toNat (0,0)).2].getD 0 0)) (0,0,0,[],[],ByteArray.empty)).2.1) && decide ((t.getD (Int.toNat ([(x1.getD x3.toNat (0,0)).1,(x1.getD x3.toNat (0,0)).2].getD 0 0)) (0,0,0,[],[],ByteArray.empty)).2.1<(↑x5.length:Int))) then bif bif true then x5.getD (Int.toNat (t.getD (Int.toNat ([(x1.getD x3.toNat (0,0)).1,(x1.getD x3.toNat (0,0)).2].getD 0 0)) (0,0,0,[],[],ByteArray.empty)).2.1) false else false then bif Nat.beq 2 x4.length && (decide (0≤(t.getD (Int.toNat ([(x1.getD x3.toNat (0,0)).1,(x1.getD x3.toNat (0,0)).2].getD 0 0)) (0,0,0,[],[],ByteArray.empty)).2.1) && decide ((t.getD (Int.toNat ([(x1.getD x3.toNat (0,0)).1,(x1.getD x3.toNat (0,0)).2].getD 0 0)) (0,0,0,[],[],ByteArray.empty)).2.1<(↑x4.length:Int))) then aB Tryz.prog n0 17 K (aD (fnT Tryz.f17) 10) (mX t k s0 s1 g0 g1 x0 x1 x2 x3 (x4.getD (Int.toNat (t.getD (Int.toNat ([(x1.getD x3.toNat (0,0)).1,(x1.getD x3.toNat (0,0)).2].getD 0 0)) (0,0,0,[],[],ByteArray.empty)).2.1) []) (↑(List.length (x4.getD (Int.toNat (t.getD (Int.toNat ([(x1.getD x3.toNat (0,0)).1,(x1.getD x3.toNat (0,0)).2].getD 0 0)) (0,0,0,[],[],ByteArray.empty)).2.1) [])):Int) 0 x4 x5 [(x1.getD x3.toNat (0,0)).1,(x1.getD x3.toNat (0,0)).2] (t.getD (Int.toNat ([(x1.getD x3.toNat (0,0)).1,(x1.getD x3.toNat (0,0)).2].getD 0 0)) (0,0,0,[],[],ByteArray.empty)).1 (t.getD (Int.toNat ([(x1.getD x3.toNat (0,0)).1,(x1.getD x3.toNat (0,0)).2].getD 0 0)) (0,0,0,[],[],ByteArray.empty)).2.1 (t.getD (Int.toNat ([(x1.getD x3.toNat (0,0)).1,(x1.getD x3.toNat (0,0)).2].getD 0 0)) (0,0,0,[],[],ByteArray.empty)).2.2.1 (t.getD (Int.toNat ([(x1.getD x3.toNat (0,0)).1,(x1.getD x3.toNat (0,0)).2].getD 0 0)) (0,0,0,[],[],ByteArray.empty)).2.2.2.1 (t.getD (Int.toNat ([(x1.getD x3.toNat (0,0)).1,(x1.getD x3.toNat (0,0)).2].getD 0 0)) (0,0,0,[],[],ByteArray.empty)).2.2.2.2.1 (t.getD (Int.toNat ([(x1.getD x3.toNat (0,0)).1,(x1.getD x3.toNat (0,0)).2].getD 0 0)) (0,0,0,[],[],ByteArray.empty)).2.2.2.2.2) else False else aB Tryz.prog n0 17 K (aD (fnT Tryz.f17) 3) (kT t k s0 s1 g0 g1 x0 x1 x2 (IntKind.i64.wrap (x3+1)) x4 x5) else False else aB Tryz.prog n0 17 K (aD (fnT Tryz.f17) 3) (kT t k s0 s1 g0 g1 x0 x1 x2 (IntKind.i64.wrap (x3+1)) x4 x5)
  else False
 else False
  else K (AV.str x0) [aA.typed (ETy.one (CTy.slice eCh)) x4 false,aA.typed (ETy.one CTy.bool) x5 false]):=by kernel_rfl
theorem bHV (t:List Nd) (k:Int) (s0 s1:List (Int × List ByteArray)) (g0 g1:Bool) (x0:ByteArray) (x1:List (Int × Int)) (x2 x3:Int) (x4:List (Int × List ByteArray)) (x5 x6:Int) (x7:List (List (Int × List ByteArray))) (x8:List Bool) (x9:List Int) (x10 x11 x12:Int) (x13:List Int) (x14:List ByteArray) (x15:ByteArray) (n0:Nat) (K:AV→List aA→Prop) :
 aF tab (aL tab aFC [] 400) (aI s8 s9 (aB Tryz.prog n0 17 K)) (aG tab (fnT Tryz.f17).res K) 400 (aR (fnT Tryz.f17) 10) (mX t k s0 s1 g0 g1 x0 x1 x2 x3 x4 x5 x6 x7 x8 x9 x10 x11 x12 x13 x14 x15) =
 (bif decide (x6<x5) then bif decide (0≤x6) && decide (x6<(↑x4.length:Int)) then bif decide ((x4.getD x6.toNat (0,[])).1=x12) then bif Nat.beq 2 x9.length && decide (1<(↑x9.length:Int)) then bif decide (0≤x9.getD 1 0) && decide (x9.getD 1 0<(↑(List.length (x4.getD x6.toNat (0,[])).2):Int)) then ∃ x y,x0=Sem.ratText x∧List.getD (x4.getD x6.toNat (0,[])).2 (Int.toNat (x9.getD 1 0)) ByteArray.empty=Sem.ratText y∧Sz 4000000000 x∧Sz 4000000000 y∧aB Tryz.prog n0 17 K (aD (fnT Tryz.f17) 10) (mX t k s0 s1 g0 g1 (Sem.ratText (x * y)) x1 x2 x3 x4 x5 (IntKind.i64.wrap (x6+1)) x7 x8 x9 x10 x11 x12 x13 x14 x15) else False else False else aB Tryz.prog n0 17 K (aD (fnT Tryz.f17) 10) (mX t k s0 s1 g0 g1 x0 x1 x2 x3 x4 x5 (IntKind.i64.wrap (x6+1)) x7 x8 x9 x10 x11 x12 x13 x14 x15) else False else aB Tryz.prog n0 17 K (aD (fnT Tryz.f17) 3) (kT t k s0 s1 g0 g1 x0 x1 x2 (IntKind.i64.wrap (x3+1)) x7 x8)):=by kernel_rfl
def tA : List (Nat × List Nat):=[(6,[0,5,7,8,24,25,26]),(12,[0,5,7,8,9,10,11,24,25,26,42,43,44])]
def tB : List (Nat × ETy):=[(24,eI),(42,eCh)]
noncomputable def lM (n:Nat) (t:List Nd) (k:Int) (s0 s1:List (Int × List ByteArray)) (x0:ByteArray) (x1:List Int) (x2 x3:Int) (x4:List (List (Int × List ByteArray))) (x5 x6 x7:Int) (x8:List Int) (x9:List ByteArray) (x10:ByteArray):St:=aQ 71 [(0,AV.imm aT t),(5,AV.parr 0),(7,AV.ptr 1 0),(8,AV.str x0),(24,AV.imm eI x1),(25,AV.int .i64 x2),(26,AV.int .i64 x3)] [aA.typed (ETy.one (CTy.slice eCh)) x4 false,bx6 x5 x6 x7 x8 x9 x10]
noncomputable def oP (n:Nat) (t:List Nd) (k:Int) (s0 s1:List (Int × List ByteArray)) (x0:ByteArray) (x1 x2:Int) (x3:ByteArray) (x4:List Int) (x5 x6:Int) (x7:List (Int × List ByteArray)) (x8 x9:Int) (x10:List (List (Int × List ByteArray))) (x11 x12 x13:Int) (x14:List Int) (x15:List ByteArray) (x16:ByteArray):St:=aQ 71 [(0,AV.imm aT t),(5,AV.parr 0),(7,AV.ptr 1 0),(8,AV.str x0),(9,AV.int .i64 x1),(10,AV.int .i64 x2),(11,AV.str x3),(24,AV.imm eI x4),(25,AV.int .i64 x5),(26,AV.int .i64 x6),(42,AV.imm eCh x7),(43,AV.int .i64 x8),(44,AV.int .i64 x9)] [aA.typed (ETy.one (CTy.slice eCh)) x10 false,bx6 x11 x12 x13 x14 x15 x16]
theorem bHW (n:Nat) (t:List Nd) (k:Int) (s0 s1:List (Int × List ByteArray)) (n0:Nat) (K:AV→List aA→Prop) :
 aF tab (aL tab (xA n) [] 400) (aI tA tB (aB Tryz.prog n0 16 K)) (aG tab (fnT Tryz.f16).res K) 400 [.code (fnT Tryz.f16).body] ⟨aU (fnT Tryz.f16).n [AV.imm aT t,AV.int .i64 k,AV.agg [AV.imm eCh s0,AV.imm eCh s1]],[]⟩ =
 (bif decide (0≤k) && decide (k<(↑t.length:Int)) then bif decide ((t.getD k.toNat (0,0,0,[],[],ByteArray.empty)).1=0) then K (AV.str (t.getD k.toNat (0,0,0,[],[],ByteArray.empty)).2.2.2.2.2) [aA.typed (ETy.one (CTy.slice eCh)) [s0,s1] false,bxN (t.getD k.toNat (0,0,0,[],[],ByteArray.empty))] else aB Tryz.prog n0 16 K (aD (fnT Tryz.f16) 6) (lM n t k s0 s1 (ByteArray.mk #[48]) (t.getD k.toNat (0,0,0,[],[],ByteArray.empty)).2.2.2.1 (↑(List.length (t.getD k.toNat (0,0,0,[],[],ByteArray.empty)).2.2.2.1):Int) 0 [s0,s1] (t.getD k.toNat (0,0,0,[],[],ByteArray.empty)).1 (t.getD k.toNat (0,0,0,[],[],ByteArray.empty)).2.1 (t.getD k.toNat (0,0,0,[],[],ByteArray.empty)).2.2.1 (t.getD k.toNat (0,0,0,[],[],ByteArray.empty)).2.2.2.1 (t.getD k.toNat (0,0,0,[],[],ByteArray.empty)).2.2.2.2.1 (t.getD k.toNat (0,0,0,[],[],ByteArray.empty)).2.2.2.2.2) else False):=by kernel_rfl
theorem bHX (n:Nat) (t:List Nd) (k:Int) (s0 s1:List (Int × List ByteArray)) (x0:ByteArray) (x1:List Int) (x2 x3:Int) (x4:List (List (Int × List ByteArray))) (x5 x6 x7:Int) (x8:List Int) (x9:List ByteArray) (x10:ByteArray) (n0:Nat) (K:AV→List aA→Prop) :
 aF tab (aL tab (xA n) [] 400) (aI tA tB (aB Tryz.prog n0 16 K)) (aG tab (fnT Tryz.f16).res K) 400 (aR (fnT Tryz.f16) 6) (lM n t k s0 s1 x0 x1 x2 x3 x4 x5 x6 x7 x8 x9 x10) =
 (bif decide (x3<x2) then bif decide (0≤x3) && decide (x3<(↑x1.length:Int)) then bif decide (x5=1) then bif decide (0≤x3) && decide (x3<(↑x9.length:Int)) then bif !ByteArray.toList (x9.getD x3.toNat ByteArray.empty) == (ByteArray.mk #[48]).toList then bif x4.length.beq 2 then w7 n t (x1.getD x3.toNat 0) (x4.getD 0 [],x4.getD 1 [])∧∃ x y,x9.getD x3.toNat ByteArray.empty=Sem.ratText x∧Sem.ratText (dO t (x4.getD 0 []) (x4.getD 1 []) (Int.toNat (x1.getD x3.toNat 0)))=Sem.ratText y∧Sz 4000000000 x∧Sz 4000000000 y∧∃ x_1 y_1,x0=Sem.ratText x_1∧Sem.ratText (x * y)=Sem.ratText y_1∧Sz 4000000000 x_1∧Sz 4000000000 y_1∧aB Tryz.prog n0 16 K (aD (fnT Tryz.f16) 6) (lM n t k s0 s1 (Sem.ratText (x_1+y_1)) x1 x2 (IntKind.i64.wrap (x3+1)) x4 x5 x6 x7 x8 x9 x10) else False else aB Tryz.prog n0 16 K (aD (fnT Tryz.f16) 6) (lM n t k s0 s1 x0 x1 x2 (IntKind.i64.wrap (x3+1)) x4 x5 x6 x7 x8 x9 x10) else False else bif Nat.beq 2 x4.length && (decide (0≤x6) && decide (x6<(↑x4.length:Int))) then aB Tryz.prog n0 16 K (aD (fnT Tryz.f16) 12) (oP n t k s0 s1 x0 x3 (x1.getD x3.toNat 0) (ByteArray.mk #[48]) x1 x2 x3 (x4.getD x6.toNat []) (↑(List.length (x4.getD x6.toNat [])):Int) 0 x4 x5 x6 x7 x8 x9 x10) else False else False else K (AV.str x0) [aA.typed (ETy.one (CTy.slice eCh)) x4 false,bx6 x5 x6 x7 x8 x9 x10]):=by kernel_rfl
theorem bHY (n:Nat) (t:List Nd) (k:Int) (s0 s1:List (Int × List ByteArray)) (x0:ByteArray) (x1 x2:Int) (x3:ByteArray) (x4:List Int) (x5 x6:Int) (x7:List (Int × List ByteArray)) (x8 x9:Int) (x10:List (List (Int × List ByteArray))) (x11 x12 x13:Int) (x14:List Int) (x15:List ByteArray) (x16:ByteArray) (n0:Nat) (K:AV→List aA→Prop) :
 aF tab (aL tab (xA n) [] 400) (aI tA tB (aB Tryz.prog n0 16 K)) (aG tab (fnT Tryz.f16).res K) 400 (aR (fnT Tryz.f16) 12) (oP n t k s0 s1 x0 x1 x2 x3 x4 x5 x6 x7 x8 x9 x10 x11 x12 x13 x14 x15 x16) =
 (bif decide (x9<x8) then bif decide (0≤x9) && decide (x9<(↑x7.length:Int)) then bif decide ((x7.getD x9.toNat (0,[])).1=x13) then bif decide (0≤x1) && decide (x1<(↑(List.length (x7.getD x9.toNat (0,[])).2):Int)) then aB Tryz.prog n0 16 K (aD (fnT Tryz.f16) 12) (oP n t k s0 s1 x0 x1 x2 (List.getD (x7.getD x9.toNat (0,[])).2 x1.toNat ByteArray.empty) x4 x5 x6 x7 x8 (IntKind.i64.wrap (x9+1)) x10 x11 x12 x13 x14 x15 x16) else False else aB Tryz.prog n0 16 K (aD (fnT Tryz.f16) 12) (oP n t k s0 s1 x0 x1 x2 x3 x4 x5 x6 x7 x8 (IntKind.i64.wrap (x9+1)) x10 x11 x12 x13 x14 x15 x16) else False else bif !x3.toList == (ByteArray.mk #[48]).toList then bif x10.length.beq 2 then w7 n t x2 (x10.getD 0 [],x10.getD 1 [])∧∃ x y,x3=Sem.ratText x∧Sem.ratText (dO t (x10.getD 0 []) (x10.getD 1 []) x2.toNat)=Sem.ratText y∧Sz 4000000000 x∧Sz 4000000000 y∧∃ x_1 y_1,x0=Sem.ratText x_1∧Sem.ratText (x * y)=Sem.ratText y_1∧Sz 4000000000 x_1∧Sz 4000000000 y_1∧aB Tryz.prog n0 16 K (aD (fnT Tryz.f16) 6) (lM n t k s0 s1 (Sem.ratText (x_1+y_1)) x4 x5 (IntKind.i64.wrap (x6+1)) x10 x11 x12 x13 x14 x15 x16) else False else aB Tryz.prog n0 16 K (aD (fnT Tryz.f16) 6) (lM n t k s0 s1 x0 x4 x5 (IntKind.i64.wrap (x6+1)) x10 x11 x12 x13 x14 x15 x16)):=by kernel_rfl
end
end Go.Proofs.YtpngedkdkpfnkaaGreatDoor.Mach
end
section
set_option linter.unusedSimpArgs false
set_option linter.unusedVariables false
namespace Go.Proofs.YtpngedkdkpfnkaaGreatDoor.Lib
open Go Go.Proofs.YtpngedkdkpfnkaaGreatDoor.Mach Go.Proofs.YtpngedkdkpfnkaaGreatDoorW.PrintWords Go.Proofs.YtpngedkdkpfnkaaGreatDoor.Sem Go.Proofs.YtpngedkdkpfnkaaGreatDoor.Pure
section
def natTo (f:Nat→Nat):Nat→Nat
 | 0=>0
 | n+1=>natTo f n+f n
section
variable {t:List Nd} {a b:List Ch}
theorem rg1 (s x y:Rat):s+x=s+y+(x - y):=by grind
theorem rg2 (s d y:Rat):s+d+y=s+y+d:=by grind
theorem rg4 (s x:Rat):s+(x - 0)=s+x:=by grind
theorem rg7 (x:Rat):(0:Rat)+(0+(x - 0))=x:=by grind
theorem rg8 {F G S E u v:Rat} (h:G+u=F+S) (h' : u=v+S):E+v+G=E+F:=by grind
theorem tC {f g:Nat→Rat}:∀ n,(∀ k,k<n→f k=g k)→b7 f n=b7 g n
 | 0,_=>rfl
 | n+1,h=>by
   unfold b7
   rw [tC n fun k hk=>h k (by omega),h n (by omega)]
theorem aFH {f g:Nat→Rat} {m:Nat}:∀ n,m<n→(∀ k,k<n→k≠m→g k=f k)→b7 g n=b7 f n+(g m - f m)
 | 0,h,_=>by omega
 | n+1,h,hk=>by
   unfold b7
   by_cases e:m=n
   · subst e
     rw [tC (f:=g) (g:=f) m fun k hk' => hk k (by omega) (by omega)]
     exact rg1 _ _ _
   · rw [aFH n (by omega) fun k h1 h2=>hk k (by omega) h2,hk n (by omega) (by omega)]
     exact rg2 _ _ _
theorem aLZ : ∀ n,b7 (fun _=>0) n=0
 | 0=>rfl
 | n+1=>by unfold b7; rw [aLZ n]; exact Rat.add_zero _
theorem aZJ : cM t a b 0=1:=rfl
theorem TreeOk.reach_kid (T:TreeOk t) {i c k:Nat} (hk:fL t i c k):cM t a b k=cM t a b i * eX t a b i c:=by
 unfold cM i6
 rw [T.path_kid hk,List.foldl_append]
 rfl
theorem TreeOk.val_fuel (T:TreeOk t):∀ n m k,k<t.length→t.length - k≤n→t.length - k≤m→oN t a b n k=oN t a b m k:=by
 intro n
 induction n with
 | zero=>intro m k hk h; omega
 | succ n ih =>
   intro m k hk h1 h2
   obtain ⟨m,rfl⟩:∃ m', m=m' + 1:=⟨m - 1,by omega⟩
   unfold oN
   split
   · rfl
   · refine tC _ fun c hc=>?_
     obtain ⟨j,e,_,h3,h4⟩:=T.kid_at hk hc
     rw [e,Int.toNat_natCast,ih m j h4 (by omega) (by omega)]
theorem aL0 {k:Nat} (hk:k<t.length) (h:(t.getD k nd0).1=0):dO t a b k=bQ (j2 t k):=by
 unfold dO
 obtain ⟨n,hn⟩:∃ n,t.length - k=n+1:=⟨t.length - k - 1,by omega⟩
 rw [hn,oN,if_pos h]
theorem TreeOk.val_move (T:TreeOk t) {k:Nat} (hk:k<t.length) (h:¬ (t.getD k nd0).1=0):dO t a b k=b7 (fun c=>eX t a b k c * dO t a b ((aK t k).getD c 0).toNat) (aK t k).length:=by
 unfold dO
 obtain ⟨n,hn⟩:∃ n,t.length - k=n+1:=⟨t.length - k - 1,by omega⟩
 rw [hn,oN,if_neg h]
 refine tC _ fun c hc=>?_
 obtain ⟨j,e,_,h3,h4⟩:=T.kid_at hk hc
 rw [e,Int.toNat_natCast,T.val_fuel n (t.length - j) j h4 (by omega) (Nat.le_refl _)]
open Classical in
noncomputable def iK (t:List Nd) (U:Nat→Rat) (i c:Nat) (k:Nat):Rat:=if i≤k∧eZ t i c k then U k else 0
theorem bHZ {i c k:Nat} (h:eZ t i c k):eZ t i (c+1) k:=by
 rcases h with h | ⟨i', c', hk,h⟩
 · exact .inl h
 · exact .inr ⟨i', c', hk,by omega⟩
theorem bH0 {i c k:Nat} (h:eZ t i c k):eZ t (i+1) 0 k:=by
 rcases h with h | ⟨i', c', hk,h⟩
 · exact .inl h
 · exact .inr ⟨i', c', hk,by omega⟩
variable {U w:Nat→Rat}
theorem xE {i c k:Nat} (h:i≤k) (h' : eZ t i c k):iK t U i c k=U k:=if_pos ⟨h,h'⟩
theorem tD {i c k:Nat} (h:¬ (i≤k∧eZ t i c k)):iK t U i c k=0:=if_neg h
theorem aZK {i c i' c' k:Nat} (h:(i≤k∧eZ t i c k)↔(i' ≤ k∧eZ t i' c' k)):iK t U i c k=iK t U i' c' k:=by
 by_cases h1:i≤k∧eZ t i c k
 · rw [xE h1.1 h1.2,xE (h.1 h1).1 (h.1 h1).2]
 · rw [tD h1,tD fun h2=>h1 (h.2 h2)]
theorem TreeOk.front_kid (T:TreeOk t) {i c m:Nat} (hm:fL t i c m):b7 (iK t U i (c+1)) t.length=b7 (iK t U i c) t.length+U m:=by
 have hl:=T.kid_lt hm
 rw [aFH (m:=m) (f:=iK t U i c) t.length hl.2 fun k hk hn=>aZK ⟨fun h=>⟨h.1,(T.done_step hm h.2).resolve_left hn⟩,fun h=>⟨h.1,bHZ h.2⟩⟩]
 rw [xE (i:=i) (c:=c+1) (by omega) (.inr ⟨i,c,hm, .inr ⟨rfl,by omega⟩⟩),tD (i:=i) (c:=c) ?_]
 · exact rg4 _ _
 · rintro ⟨_,h | ⟨i', c', h1,h2⟩⟩
   · omega
   · have e1:=T.par_eq hm
     have e2:=T.par_eq h1
     rw [e1] at e2
     cases e2
     omega
theorem TreeOk.front_next (T:TreeOk t) {i:Nat} (hi:i<t.length):b7 (iK t U i (aK t i).length) t.length=b7 (iK t U (i+1) 0) t.length+U i:=by
 rw [aFH (m:=i) (f:=iK t U (i+1) 0) t.length hi fun k hk hn=>aZK ⟨fun h=>⟨by omega,bH0 h.2⟩,fun h=>⟨by omega,aLJ h.2⟩⟩]
 rw [xE (Nat.le_refl _) (T.done hi),tD (by omega)]
 exact rg4 _ _
theorem TreeOk.front_kids (T:TreeOk t) {i:Nat} (hi:i<t.length):∀ c,c≤(aK t i).length→b7 (iK t U i c) t.length=b7 (iK t U i 0) t.length+b7 (fun c=>U ((aK t i).getD c 0).toNat) c
 | 0,_=>by rw [b7,Rat.add_zero]
 | c+1,h=>by
   obtain ⟨m,e,hm,_⟩:=T.kid_at hi h
   rw [T.front_kid hm,T.front_kids hi c (by omega)]
   rw [show ∀ f:Nat→Rat,b7 f (c+1)=b7 f c+f c from fun _=>rfl]
   simp only [e,Int.toNat_natCast]
   exact Rat.add_assoc _ _ _
theorem TreeOk.front_all (T:TreeOk t) (hU:∀ i,i<t.length→U i=w i+b7 (fun c=>U ((aK t i).getD c 0).toNat) (aK t i).length):∀ i,i≤t.length→b7 w i+b7 (iK t U i 0) t.length=U 0
 | 0,_=>by
   rw [aFH (m:=0) (f:=fun _=>0) t.length T.n0 fun k hk hn=>tD fun h=>hn (wP h.2),aLZ,xE (Nat.le_refl _) (.inl rfl),b7]
   exact rg7 _
 | i+1,h=>by
   have hi:i<t.length:=h
   have ih:=T.front_all hU i (by omega)
   have h1:=T.front_kids (U:=U) hi _ (Nat.le_refl _)
   have h2:=T.front_next (U:=U) hi
   rw [← ih,b7]
   exact rg8 (h2.symm.trans h1) (hU i hi)
theorem TreeOk.tree_sum (T:TreeOk t) (hU:∀ i,i<t.length→U i=w i+b7 (fun c=>U ((aK t i).getD c 0).toNat) (aK t i).length):b7 w t.length=U 0:=by
 rw [← T.front_all hU t.length (Nat.le_refl _)]
 rw [tC (f:=iK t U t.length 0) (g:=fun _=>0) t.length fun k hk=>tD (by omega),aLZ,Rat.add_zero]
theorem aZL : ∀ n,fW t a b n=b7 (fun k=>if (t.getD k nd0).1=0 then cM t a b k * bQ (j2 t k) else 0) n
 | 0=>rfl
 | n+1=>by
   unfold fW b7
   rw [aZL n]
   split
   · rfl
   · rw [Rat.add_zero]
theorem aZM (r:Rat) {f:Nat→Rat}:∀ n,r * b7 f n=b7 (fun k=>r * f k) n
 | 0=>Rat.mul_zero r
 | n+1=>by unfold b7; rw [Rat.mul_add,aZM r n]
theorem TreeOk.end_val (T:TreeOk t):fW t a b t.length=dO t a b 0:=by
 rw [aZL,T.tree_sum (U:=fun k=>cM t a b k * dO t a b k) fun i hi=>?_]
 · show cM t a b 0 * dO t a b 0=dO t a b 0
   rw [aZJ,Rat.one_mul]
 · show cM t a b i * dO t a b i=_+_
   by_cases e:(t.getD i nd0).1=0
   · rw [if_pos e,((T.node i hi).pay e).1,aL0 hi e,b7,Rat.add_zero]
   · rw [if_neg e,Rat.zero_add,T.val_move hi e,aZM]
     refine tC _ fun c hc=>?_
     obtain ⟨m,h1,hm,_⟩:=T.kid_at hi hc
     show _=cM t a b ((aK t i).getD c 0).toNat * dO t a b ((aK t i).getD c 0).toNat
     rw [h1,Int.toNat_natCast,T.reach_kid hm,Rat.mul_assoc]
def tE (t:List Nd):Nat→Nat→Nat
 | 0,_=>0
 | n+1,k=>1+natTo (fun c=>tE t n ((aK t k).getD c 0).toNat) (aK t k).length
def cnt (t:List Nd) (k:Nat):Nat:=tE t (t.length - k) k
theorem aL1 {f g:Nat→Nat}:∀ n,(∀ k,k<n→f k=g k)→natTo f n=natTo g n
 | 0,_=>rfl
 | n+1,h=>by
   unfold natTo
   rw [aL1 n fun k hk=>h k (by omega),h n (by omega)]
theorem aZN {f:Nat→Nat}:∀ n,((natTo f n:Nat):Rat)=b7 (fun k=>(f k:Rat)) n
 | 0=>rfl
 | n+1=>by unfold natTo b7; rw [Rat.natCast_add,aZN n]
theorem TreeOk.cnt_fuel (T:TreeOk t):∀ n m k,k<t.length→t.length - k≤n→t.length - k≤m→tE t n k=tE t m k:=by
 intro n
 induction n with
 | zero=>intro m k hk h; omega
 | succ n ih =>
   intro m k hk h1 h2
   obtain ⟨m,rfl⟩:∃ m', m=m' + 1:=⟨m - 1,by omega⟩
   unfold tE
   rw [aL1 _ fun c hc=>?_]
   obtain ⟨j,e,_,h3,h4⟩:=T.kid_at hk hc
   rw [e,Int.toNat_natCast,ih m j h4 (by omega) (by omega)]
theorem TreeOk.cnt_eq (T:TreeOk t) {k:Nat} (hk:k<t.length):cnt t k=1+natTo (fun c=>cnt t ((aK t k).getD c 0).toNat) (aK t k).length:=by
 unfold cnt
 obtain ⟨n,hn⟩:∃ n,t.length - k=n+1:=⟨t.length - k - 1,by omega⟩
 rw [hn,tE,aL1 _ fun c hc=>?_]
 obtain ⟨j,e,_,h3,h4⟩:=T.kid_at hk hc
 rw [e,Int.toNat_natCast,T.cnt_fuel n (t.length - j) j h4 (by omega) (Nat.le_refl _)]
theorem aZO : ∀ n:Nat,b7 (fun _=>1) n=(n:Rat)
 | 0=>rfl
 | n+1=>by unfold b7; rw [aZO n,Rat.natCast_add]; rfl
theorem TreeOk.cnt_all (T:TreeOk t):cnt t 0=t.length:=by
 have h:=T.tree_sum (U:=fun k=>(cnt t k:Rat)) (w:=fun _=>1) fun i hi=>by
  show ((cnt t i:Nat):Rat)=_
  rw [T.cnt_eq hi,Rat.natCast_add,aZN]; rfl
 rw [aZO] at h
 exact (Rat.natCast_inj.1 h).symm
theorem aZP {f:Nat→Rat} {g:Nat→Nat}:∀ n,(∀ c,c<n→Sz (g c) (f c))→Sz (natTo (fun c=>g c+1) n+1) (b7 f n)
 | 0,_=>mI
 | n+1,h=>by
   unfold b7 natTo
   exact (aK4 (aZP n fun c hc=>h c (by omega)) (h n (by omega))).mono (by omega)
theorem aZQ {f g:Nat→Nat}:∀ n,(∀ k,k<n→f k≤g k)→natTo f n≤natTo g n
 | 0,_=>Nat.le_refl _
 | n+1,h=>by
   unfold natTo
   exact Nat.add_le_add (aZQ n fun k hk=>h k (by omega)) (h n (by omega))
theorem aZR (r:Nat) {f:Nat→Nat}:∀ n,natTo (fun k=>r * f k) n=r * natTo f n
 | 0=>(Nat.mul_zero r).symm
 | n+1=>by unfold natTo; rw [aZR r n,Nat.mul_add]
theorem TreeOk.cnt_pos (T:TreeOk t) {k:Nat} (hk:k<t.length):0<cnt t k:=by rw [T.cnt_eq hk]; omega
theorem TreeOk.val_sz (T:TreeOk t) {s:Nat} (hp:∀ i,i<t.length→(t.getD i nd0).1=0→Sz s (bQ (j2 t i))) (hf:∀ i c,i<t.length→¬ (t.getD i nd0).1=0→c<(aK t i).length→Sz s (eX t a b i c)) :
 ∀ d k,k<t.length→t.length - k≤d→Sz ((2 * s+2) * cnt t k - (s+1)) (dO t a b k)
 | 0,k,h,h' => by omega
 | d+1,k,hk,h' => by
   have hc:=T.cnt_eq hk
   by_cases e:(t.getD k nd0).1=0
   · rw [aL0 hk e]
     refine (hp k hk e).mono ?_
     have h1:=Nat.mul_le_mul_left (2 * s+2) (T.cnt_pos hk)
     omega
   · rw [T.val_move hk e]
     refine (aZP (g:=fun c=>s+((2 * s+2) * cnt t ((aK t k).getD c 0).toNat - (s+1))) _ fun c hc=>?_).mono ?_
     · obtain ⟨j,e1,_,h3,h4⟩:=T.kid_at hk hc
       show Sz (s+((2 * s+2) * cnt t ((aK t k).getD c 0).toNat - (s+1))) _
       rw [e1,Int.toNat_natCast]
       exact mJ (hf k c hk e hc) (T.val_sz hp hf d j h4 (by omega))
     · have h1:natTo (fun c=>s+((2 * s+2) * cnt t ((aK t k).getD c 0).toNat - (s+1))+1) (aK t k).length≤natTo (fun c=>(2 * s+2) * cnt t ((aK t k).getD c 0).toNat) (aK t k).length:=aZQ _ fun c hc=>by
         obtain ⟨j,e1,_,h3,h4⟩:=T.kid_at hk hc
         rw [e1,Int.toNat_natCast]
         have h1:=Nat.mul_le_mul_left (2 * s+2) (T.cnt_pos h4)
         omega
       rw [aZR] at h1
       rw [hc,Nat.mul_add]
       omega
end
end
section
theorem aFI : ∀ g xs Q,w8 g xs Q→Con Tryz.prog g xs Q:=cH fun p hp=>by
 simp only [List.mem_cons,List.not_mem_nil,or_false] at hp
 rcases hp with rfl | rfl | rfl | rfl | rfl | rfl
 · exact bF fun _ _ h=>aX5 h
 · exact gZ fun _ _ _ _ h=>aY7 h
 · exact gZ fun _ _ _ _ h=>bHA h
 · exact bF fun _ _ h=>bD1 h
 · exact bF fun _ _ h=>rL h
 · exact bA fun _ _ _ h=>aV0 h
section
variable {t:List Nd} {a b:List Ch} {Q:Res}
theorem aZS (h:repS t a b Q):Con Tryz.prog 14 [.imm aT t, .imm eCh a, .imm eCh b] Q:=by
 obtain ⟨⟨ht,ha,hb⟩,hq⟩:=h
 have hk:∀ e H,dP t a b=e→aO Q (.int .i64 e) H:=fun e H h1=>by rw [h1] at hq; exact dI hq
 refine aW (gn:=fnT Tryz.f14) (by kernel_rfl) aFI (inl:=[]) (LT:=aZH) (NT:=aZI) rfl fun n0=>?_
 rw [bHK]
 refine ⟨ht,?_⟩
 unfold dP at hk
 by_cases h1:cF t=0
 · refine aP (aC h1 ⟨⟨h1,ha⟩,?_⟩)
   rw [if_neg (fun hc=>hc h1)] at hk
   by_cases h2:bI t 0 a=0
   · exact aP (aC h2 ⟨⟨h1,hb⟩,hk _ _ (if_neg fun hc=>hc h2)⟩)
   · exact aP (aE h2 (hk _ _ (if_pos h2)))
 · exact aP (aE h1 (hk _ _ (if_pos h1)))
theorem RepOk.kind (R:RepOk t a b) {i:Nat} (hi:i<t.length) {c:Nat} (hc:c<(aK t i).length):(t.getD i nd0).1=1∨((t.getD i nd0).1=2∧((t.getD i nd0).2.1=0∨(t.getD i nd0).2.1=1)):=by
 have N:=(eJ R.g).node i hi
 rcases N.kind with h | h | h
 · have:=(N.pay h).1; omega
 · exact .inl h
 · have:=N.who h
   exact .inr ⟨h,by omega⟩
theorem RepOk.odds (R:RepOk t a b) {i c:Nat} (hi:i<t.length) (hc:c<(aK t i).length) (h:(t.getD i nd0).1=1):c<(t.getD i nd0).2.2.2.2.1.length∧(t.getD i nd0).2.2.2.2.1.getD c b0=ratText (bQ ((t.getD i nd0).2.2.2.2.1.getD c b0))∧Sz 2000 (bQ ((t.getD i nd0).2.2.2.2.1.getD c b0)):=by
 have N:=((eJ R.g).node i hi).luck h
 exact ⟨by omega,rX (aYT N.2).2 (by omega)⟩
theorem RepOk.oddA (R:RepOk t a b) {i c:Nat} (hi:i<t.length) (hc:c<(aK t i).length) (h:(t.getD i nd0).1=2) (hp:(t.getD i nd0).2.1=0):oI a (aX t i) (c:Int):=(mS R.sa).odd (eJ R.g) hi ⟨h,hp⟩ hc
theorem RepOk.oddB (R:RepOk t a b) {i c:Nat} (hi:i<t.length) (hc:c<(aK t i).length) (h:(t.getD i nd0).1=2) (hp:(t.getD i nd0).2.1=1):oI b (aX t i) (c:Int):=(mS R.sb).odd (eJ R.g) hi ⟨h,hp⟩ hc
theorem xF {i c:Nat} (h:(t.getD i nd0).1=1):eX t a b i c=bQ ((t.getD i nd0).2.2.2.2.1.getD c b0):=if_pos h
theorem xG {i c:Nat} (h:(t.getD i nd0).1=2) (hp:(t.getD i nd0).2.1=0):eX t a b i c=bQ (dN a (aX t i) (c:Int)):=by unfold eX; rw [if_neg (by omega),if_pos hp]
theorem xH {i c:Nat} (h:(t.getD i nd0).1=2) (hp:(t.getD i nd0).2.1=1):eX t a b i c=bQ (dN b (aX t i) (c:Int)):=by unfold eX; rw [if_neg (by omega),if_neg (by omega)]
theorem RepOk.fac_sz (R:RepOk t a b) {i c:Nat} (hi:i<t.length) (hc:c<(aK t i).length):Sz 2000 (eX t a b i c):=by
 rcases R.kind hi hc with h | ⟨h,hp | hp⟩
 · rw [xF h]; exact (R.odds hi hc h).2.2
 · rw [xG h hp]; exact (sV (R.oddA hi hc h hp)).2
 · rw [xH h hp]; exact (sV (R.oddB hi hc h hp)).2
theorem TreeOk.reach_size (T:TreeOk t) {s:Nat} (hf:∀ i c,i<t.length→c<(aK t i).length→Sz s (eX t a b i c)) {k:Nat}:k<t.length→Sz (k * s+20) (cM t a b k):=by
 induction k using Nat.strongRecOn with
 | ind k ih =>
   intro hk
   by_cases h0:k=0
   · subst h0
     rw [aZJ]
     exact (aW4 1 (by decide)).mono (by omega)
   · have hs:=(T.par_spec (k:=k) (by omega) hk).1
     have hl:=T.kid_lt hs
     rw [T.reach_kid hs]
     refine (mJ (ih _ hl.1 (by omega)) (hf _ _ hs.1 hs.2.1)).mono ?_
     have:(par t k).1+1≤k:=hl.1
     have:=Nat.mul_le_mul_right s this
     rw [Nat.add_mul] at this
     omega
theorem RepOk.reach_sz (R:RepOk t a b) {k:Nat} (hk:k<t.length):Sz 300000 (cM t a b k):=by
 have T:=eJ R.g
 have hn:=T.n120
 exact (T.reach_size (s:=2000) (fun i c hi hc=>R.fac_sz hi hc) hk).mono (by omega)
theorem aZT {n:Nat} (h:0<n):Nat.blt 0 n=true:=by rw [Nat.blt_eq]; exact h
def ReachInv (t:List Nd) (a b:List Ch) (i c:Nat) (zs:List QT):Prop:=zs.length=t.length∧∀ k,k<t.length→eZ t i c k→QV (zs.getD k z0) (cM t a b k)
theorem ReachInv.step (T:TreeOk t) {i c m:Nat} {zs:List QT} (h:ReachInv t a b i c zs) (hm:fL t i c m) {z:QT} (hz:QV z (cM t a b m)):ReachInv t a b i (c+1) (zs.set m z):=⟨by rw [List.length_set]; exact h.1,fun k hk hd=>by
 rw [List.getD_eq_getElem?_getD,List.getElem?_set]
 by_cases hkm:m=k
 · subst hkm
   rw [if_pos rfl,if_pos (by rw [h.1]; exact hk)]; exact hz
 · rw [if_neg hkm,← List.getD_eq_getElem?_getD]
   rcases T.done_step hm hd with h1 | h1
   · exact absurd h1.symm hkm
   · exact h.2 k hk h1⟩
theorem ReachInv.next {i:Nat} {zs:List QT} (h:ReachInv t a b i (aK t i).length zs):ReachInv t a b (i+1) 0 zs:=⟨h.1,fun k hk hd=>h.2 k hk (aLJ hd)⟩
theorem bH1 (h:aZC t (a,b) Q):Con Tryz.prog 31 [.imm aT t, .agg [.imm eCh a, .imm eCh b]] Q:=by
 obtain ⟨R,hq⟩:=h
 simp only at R hq
 have T:=eJ R.g
 have hn:=T.n120
 have h0:=T.n0
 refine aW (gn:=fnT Tryz.f31) (by kernel_rfl) aFI (inl:=[]) (LT:=s6) (NT:=s7) rfl fun n0=>?_
 rw [bHL]
 have loop4:=bJ (f:=31) (gn:=fnT Tryz.f31) (n0:=n0) (r:=4) (by kernel_rfl) aFI (inl:=[]) (LT:=s6) (NT:=s7) (K:=aO Q) (fun y:Nat × List QT=>xB t a b (t.length:Int) (y.1:Int) [a,b] y.2) (fun y=>t.length - y.1) (fun y=>y.1≤t.length∧ReachInv t a b y.1 0 y.2) (fun y hp ih=>by
  obtain ⟨i,rows⟩:=y
  obtain ⟨hi0,hr⟩:=hp
  simp only at hi0 hr
  show aF _ _ _ _ _ _ (xB t a b (t.length:Int) (i:Int) [a,b] rows)
  rw [bHM]
  by_cases hi:i<t.length
  · have hw:=(T.node i hi).w
    refine aC (by omega) (aY hi ?_)
    rw [Int.toNat_natCast]
    have inner:=bJ (f:=31) (gn:=fnT Tryz.f31) (n0:=n0) (r:=7) (by kernel_rfl) aFI (inl:=[]) (LT:=s6) (NT:=s7) (K:=aO Q) (fun z:Nat × List QT=>oO t a b (i:Int) (t.length:Int) (i:Int) (aK t i) ((aK t i).length:Int) (z.1:Int) [a,b] z.2 (t.getD i nd0).1 (t.getD i nd0).2.1 (t.getD i nd0).2.2.1 (t.getD i nd0).2.2.2.1 (t.getD i nd0).2.2.2.2.1 (t.getD i nd0).2.2.2.2.2) (fun z=>(aK t i).length - z.1) (fun z=>z.1≤(aK t i).length∧ReachInv t a b i z.1 z.2) (fun z hp2 ih2=>by
        obtain ⟨c,rows⟩:=z
        obtain ⟨hc0,hr⟩:=hp2
        simp only at hc0 hr
        have hrl:=hr.1
        show aF _ _ _ _ _ _ (oO t a b (i:Int) (t.length:Int) (i:Int) (aK t i) ((aK t i).length:Int) (c:Int) [a,b] rows (t.getD i nd0).1 (t.getD i nd0).2.1 (t.getD i nd0).2.2.1 (t.getD i nd0).2.2.2.1 (t.getD i nd0).2.2.2.2.1 (t.getD i nd0).2.2.2.2.2)
        rw [bHN]
        by_cases hc:c<(aK t i).length
        · obtain ⟨m,hm,hkid,him,hml⟩:=T.kid_at hi hc
          have ho:QV (rows.getD i z0) (cM t a b i):=hr.2 i hi (T.done hi)
          have hso:=R.reach_sz hi
          have hok:=T.reach_kid (a:=a) (b:=b) hkid
          have hrs:=R.reach_sz (a:=a) (b:=b) hml
          refine aC (by omega) (aY hc (aY (by omega) ?_))
          rw [Int.toNat_natCast,Int.toNat_natCast,hm,Int.toNat_natCast,wrS hc (by omega)]
          refine aY (by omega) ?_
          have hR:∀ y,(rows.set m y).getD i (false,[],[])=rows.getD i z0:=fun y=>by
           rw [List.getD_eq_getElem?_getD,List.getElem?_set,if_neg (by omega),← List.getD_eq_getElem?_getD]
          have hRl:∀ y,(rows.set m y).length=t.length:=fun y=>by rw [List.length_set]; exact hrl
          have fin:∀ (y r:QT),QV r (cM t a b i * eX t a b i c)→aB Tryz.prog n0 31 (aO Q) (aD (fnT Tryz.f31) 7) (oO t a b (i:Int) (t.length:Int) (i:Int) (aK t i) ((aK t i).length:Int) ((c+1:Nat):Int) [a,b] ((rows.set m y).set m (r.1,r.2.1,r.2.2)) (t.getD i nd0).1 (t.getD i nd0).2.1 (t.getD i nd0).2.2.1 (t.getD i nd0).2.2.2.1 (t.getD i nd0).2.2.2.2.1 (t.getD i nd0).2.2.2.2.2):=fun y r hq=>by
           rw [List.set_set]
           exact ih2 (c+1,rows.set m (r.1,r.2.1,r.2.2)) ⟨by show c+1≤_; omega,hr.step T hkid (by rw [hok]; exact hq)⟩ (by show _ - (c+1)<_ - c; omega)
          have fs:=(R.fac_sz hi hc).mono (m:=4000000000) (by decide)
          have rs:=hso.mono (m:=4000000000) (by decide)
          rcases R.kind hi hc with k1 | ⟨k2,kp⟩
          · obtain ⟨o1,o2,o3⟩:=R.odds hi hc k1
            rw [xF k1] at fin fs
            refine aC k1 (aY (by rw [hRl]; omega) (aY o1 ⟨_,o2,fs,fun z hz=>⟨_,_,?_,hz,rs,fs,fun r hr' => aY (by rw [hRl]; omega) (fin _ r hr')⟩⟩))
            rw [hR]
            exact ho
          · refine aE (by omega) ?_
            rcases kp with hp | hp
            · have o:=R.oddA hi hc k2 hp
              rw [xG k2 hp] at fin fs
              rw [hp]
              have ha:0<a.length:=by have:=o.2.1; have:=o.2.2.1; omega
              refine aS rfl (aS (aZT ha) (aY (by rw [hRl]; omega) (aS rfl ⟨o,fun z hz=>⟨_,_,?_,hz,rs,fs,fun r hr' => aY (by rw [hRl]; omega) ?_⟩⟩)))
              · rw [hR]; exact ho
              · rw [hp] at fin
                exact fin _ r hr'
            · have o:=R.oddB hi hc k2 hp
              rw [xH k2 hp] at fin fs
              rw [hp]
              have hb:0<b.length:=by have:=o.2.1; have:=o.2.2.1; omega
              refine aS rfl (aS (aZT hb) (aY (by rw [hRl]; omega) (aS rfl ⟨o,fun z hz=>⟨_,_,?_,hz,rs,fs,fun r hr' => aY (by rw [hRl]; omega) ?_⟩⟩)))
              · rw [hR]; exact ho
              · rw [hp] at fin
                exact fin _ r hr'
        · have hcc:c=(aK t i).length:=by omega
          subst hcc
          refine aE (by omega) ?_
          rw [wrS hi (by omega)]
          exact ih (i+1,rows) ⟨by show i+1≤_; omega,hr.next⟩ (by show _ - (i+1)<_ - i; omega))
    exact inner (0,rows) ⟨Nat.zero_le _,hr⟩
  · have hii:i=t.length:=by omega
    subst hii
    exact aE (by omega) (iR rfl (hq rows ⟨hr.1,fun k hk=>hr.2 k hk (T.done_all hk)⟩)))
 have k1:=aDH (n:=t.length) (b:=56) (by omega) (by decide)
 simp only [Int.toNat_natCast] at k1 ⊢
 refine aS k1 ⟨⟨by decide,by decide⟩,fun r hr=>aC (by rw [List.length_replicate]; omega) ?_⟩
 exact loop4 (0,(List.replicate t.length z0).set 0 (r.1,r.2.1,r.2.2)) ⟨Nat.zero_le _,by rw [List.length_set,List.length_replicate],fun k hk hd=>by
  rw [wP hd,List.getD_eq_getElem?_getD,List.getElem?_set,if_pos rfl,if_pos (by rw [List.length_replicate]; exact h0)]; exact hr⟩
end
end
section
theorem aZU : ∀ l:List (Nat × AV),WkS l l
 | [] => .nil
 | (_,x) :: l => .cons (.one (.refl x)) (aZU l)
theorem aFJ : ∀ g xs Q,w9 g xs Q→Con Tryz.prog g xs Q:=cH fun p hp=>by
 simp only [List.mem_cons,List.not_mem_nil,or_false] at hp
 rcases hp with rfl | rfl | rfl | rfl | rfl | rfl
 · exact gZ fun _ _ _ _ h=>aZS h
 · exact bA fun _ _ _ h=>bH1 h
 · exact bF fun _ _ h=>rL h
 · exact bF fun _ _ h=>aKO h
 · exact bA fun _ _ _ h=>aV0 h
 · exact bA fun _ _ _ h=>aKJ h
section
variable {t:List Nd} {a b:List Ch} {Q:Res}
theorem aL2 (h:dP t a b=0):RepOk t a b:=by
 unfold dP at h
 by_cases h1:cF t=0
 · rw [if_neg (fun hc=>hc h1)] at h
   by_cases h2:bI t 0 a=0
   · rw [if_neg (fun hc=>hc h2)] at h
     exact ⟨h1,h2,h⟩
   · rw [if_pos h2] at h; exact absurd h h2
 · rw [if_pos h1] at h; exact absurd h h1
theorem aL3 (h:dP t a b≠0):jO t a b=dP t a b:=if_pos h
theorem aZV (h:dP t a b=0):jO t a b=dG (fW t a b t.length):=if_neg fun hc=>hc h
theorem aL4 (h:jO t a b≠0):kS t a b=⟨#[]⟩:=if_neg h
theorem RepOk.pay (R:RepOk t a b) {i:Nat} (hi:i<t.length) (h:(t.getD i nd0).1=0):j2 t i=ratText (bQ (j2 t i))∧Sz 2000 (bQ (j2 t i)):=aKW (((eJ R.g).node i hi).pay h).2
theorem aZW {i:Nat} (h:(t.getD i nd0).1=0):fW t a b (i+1)=fW t a b i+cM t a b i * bQ (j2 t i):=by unfold fW; rw [if_pos h]; cases i <;> rfl
theorem aZX {i:Nat} (h:¬ (t.getD i nd0).1=0):fW t a b (i+1)=fW t a b i:=by rw [fW,if_neg h]
theorem RepOk.end_sz (R:RepOk t a b):∀ i,i≤t.length→Sz (i * 303000+20) (fW t a b i)
 | 0,_=>mI.mono (by decide)
 | i+1,h=>by
   have ih:=R.end_sz i (by omega)
   by_cases e:(t.getD i nd0).1=0
   · rw [aZW e]
     exact (aK4 ih (mJ (R.reach_sz h) (R.pay h e).2)).mono (by omega)
   · rw [aZX e]; exact ih.mono (by omega)
theorem RepOk.lenA (R:RepOk t a b):a.length≤10:=by rw [(mS R.sa).len]; exact oK
theorem RepOk.lenB (R:RepOk t a b):b.length≤10:=by rw [(mS R.sb).len]; exact oK
theorem bH2 (h:valS t a b Q):Con Tryz.prog 9 [.imm aT t, .imm eCh a, .imm eCh b] Q:=by
 obtain ⟨ht,hq⟩:=h
 refine aW (gn:=fnT Tryz.f9) (by kernel_rfl) aFJ (inl:=[32]) (LT:=aFD) (NT:=aFE) rfl fun n0=>?_
 rw [bHP]
 refine ⟨ht,?_⟩
 by_cases h1:dP t a b=0
 · have R:=aL2 h1
   have T:=eJ R.g
   have hn:=T.n120
   have la:=R.lenA
   have lb:=R.lenB
   have hE:=aZV h1
   have hV:kS t a b=iV (fW t a b t.length):=by unfold kS iV; rw [hE]
   refine aP (aC h1 (aS (g8 (by omega) (by decide)) (aS (g8 (by omega) (by decide)) ⟨R,fun zs hz=>?_⟩)))
   rw [List.nil_append,List.nil_append] at hz
   have hzl:=hz.len
   have loop7:=bJ (f:=9) (gn:=fnT Tryz.f9) (n0:=n0) (r:=7) (by kernel_rfl) aFJ (inl:=[32]) (LT:=aFD) (NT:=aFE) (K:=aO Q) (fun y:Nat × QT=>xC t a b (t.length:Int) (y.1:Int) y.2.1 y.2.2.1 y.2.2.2 zs) (fun y=>t.length - y.1) (fun y=>y.1≤t.length∧QV y.2 (fW t a b y.1)) (fun y hp ih=>by
    obtain ⟨i,q⟩:=y
    obtain ⟨hi0,hr⟩:=hp
    simp only at hi0 hr
    have hes:=R.end_sz i hi0
    show aF _ _ _ _ _ _ (xC t a b (t.length:Int) (i:Int) q.1 q.2.1 q.2.2 zs)
    rw [bHQ]
    by_cases hi:i<t.length
    · refine aC (by omega) (aY hi ?_)
      rw [Int.toNat_natCast,wrS hi (by omega)]
      by_cases e:(t.getD i nd0).1=0
      · obtain ⟨p1,p2⟩:=R.pay hi e
        have hrs:=R.reach_sz hi
        have ee:=aZW (a:=a) (b:=b) e
        refine aC e (aY (by omega) ⟨_,p1,p2.mono (by decide),fun z hz' => ⟨_,_,hz.at_ i hi,hz', hrs.mono (by decide),p2.mono (by decide),fun r hr' => ⟨_,_,hr,hr', hes.mono (by omega),(mJ hrs p2).mono (by decide),fun r2 hr2=>?_⟩⟩⟩)
        exact ih (i+1,r2) ⟨by show i+1≤_; omega,by show QV r2 (fW t a b (i+1)); rw [ee]; exact hr2⟩ (by show _ - (i+1)<_ - i; omega)
      · have ee:=aZX (a:=a) (b:=b) e
        exact aE e (ih (i+1,q) ⟨by show i+1≤_; omega,by show QV q (fW t a b (i+1)); rw [ee]; exact hr⟩ (by show _ - (i+1)<_ - i; omega))
    · have hii:i=t.length:=by omega
      subst hii
      refine aE (by omega) ⟨_,hr,hes.mono (by omega),bP ?_ rfl rfl⟩
      rw [← hE,← hV]
      exact hq)
   exact a6O (aZU _) (.cons (.box (.cons (.refl _) (.cons (.nil eW) (.cons (.nil eW) .nil)))) (.cons (.refl _) .nil)) (loop7 (0,z0) ⟨Nat.zero_le _,QV.zero⟩)
 · refine aP (aE h1 (bP ?_ rfl rfl))
   have hE:=aL3 h1
   rw [aL4 (by rw [hE]; exact h1),hE] at hq
   exact hq
theorem aL5 (h:dP t a b≠0):iJ t a b=dP t a b:=if_pos h
theorem aZY (h:dP t a b=0):iJ t a b=v6 t.length (cM t a b):=if_neg fun hc=>hc h
theorem aFK (h:iJ t a b≠0):jP t a b=[]:=if_neg h
theorem bH3 (h:aZD t a b Q):Con Tryz.prog 10 [.imm aT t, .imm eCh a, .imm eCh b] Q:=by
 obtain ⟨ht,hq⟩:=h
 refine bDQ (e:=eS) (l:=jP t a b) (n:=iJ t a b) ?_ hq
 refine aW (gn:=fnT Tryz.f10) (by kernel_rfl) aFJ (inl:=[32]) (LT:=aFF) (NT:=aFG) rfl fun n0=>?_
 rw [bHR]
 refine ⟨ht,?_⟩
 by_cases h1:dP t a b=0
 · have R:=aL2 h1
   have T:=eJ R.g
   have hn:=T.n120
   have la:=R.lenA
   have lb:=R.lenB
   have hE:=aZY h1
   refine aP (aC h1 (aS (g8 (by omega) (by decide)) (aS (g8 (by omega) (by decide)) ⟨R,fun zs hz=>?_⟩)))
   rw [List.nil_append,List.nil_append] at hz
   have hzl:=hz.len
   refine bJ (f:=10) (gn:=fnT Tryz.f10) (n0:=n0) (r:=6) (by kernel_rfl) aFJ (inl:=[32]) (LT:=aFF) (NT:=aFG) (K:=aO (outL eS (jP t a b) (iJ t a b))) (fun x:Nat=>xD t a b (zs.length:Int) (x:Int) (iY x (cM t a b)) zs) (fun x=>zs.length - x) (fun x=>x≤zs.length∧∀ i,i<x→dG (cM t a b i)=0) (fun x hp ih=>?_) 0 ⟨Nat.zero_le _,fun i hi=>absurd hi (by omega)⟩
   obtain ⟨hx0,hf⟩:=hp
   show aF _ _ _ _ _ _ (xD t a b (zs.length:Int) (x:Int) (iY x (cM t a b)) zs)
   rw [bHS]
   by_cases hx:x<zs.length
   · have hrs:=R.reach_sz (k:=x) (by omega)
     refine aC (by omega) (aY hx ?_)
     rw [Int.toNat_natCast,wrS hx (by omega)]
     refine ⟨_,hz.at_ x (by omega),hrs.mono (by decide),?_⟩
     by_cases h0:dG (cM t a b x)=0
     · refine aP (aC h0 (aS (g8 (by rw [aK5]; simp; omega) (by decide)) ?_))
       have e:iV (cM t a b x)=ratText (cM t a b x):=if_pos h0
       rw [e,← bD3]
       exact ih (x+1) ⟨by show x+1≤_; omega,fun i hi=>by
        by_cases hix:i=x
        · rw [hix]; exact h0
        · exact hf i (by omega)⟩ (by show _ - (x+1)<_ - x; omega)
     · obtain ⟨e1,e2⟩:=bD2 (n:=t.length) (f:=cM t a b) (by omega) h0
       refine aP (aE h0 ?_)
       rw [e2,hE,e1]
       exact aWT (aFK (by rw [hE,e1]; decide))
   · have hxx:x=t.length:=by omega
     subst hxx
     have e:v6 t.length (cM t a b)=0:=if_pos hf
     have e2:jP t a b=iY t.length (cM t a b):=if_pos (by rw [hE,e])
     refine aE (by omega) ?_
     rw [hE,e,e2]
     exact bDR rfl
 · have hE:=aL5 h1
   refine aP (aE h1 ?_)
   rw [hE]
   exact aWT (aFK (by rw [hE]; exact h1))
end
end
section
theorem aL6 : ∀ g xs Q,aFC g xs Q→Con Tryz.prog g xs Q:=cH fun p hp=>by
 simp only [List.mem_cons,List.not_mem_nil,or_false] at hp
 rcases hp with rfl | rfl
 · exact bA fun _ _ _ h=>aYB h
 · exact bA fun _ _ _ h=>aKU h
section
variable {t:List Nd} {a b:List Ch} {Q:Res}
theorem StratOk.place {p:Int} {s:List Ch} (S:StratOk t p s) (T:TreeOk t) {i:Nat} (hi:i<t.length) (hm:fC t p i):∃ j0:Nat,jN s (aX t i)=(j0:Int)∧j0<s.length∧∀ j,j<s.length→((s.getD j ch0).1=aX t i↔j=j0):=by
 obtain ⟨j0,h1,h2⟩:=T.infos_at hi hm
 have hl:=S.len
 refine ⟨j0,S.idx (by omega) h2,by omega,fun j hj=>?_⟩
 rw [(S.at_ j hj).1,← h2]
 exact ⟨fun e=>aYR (by omega) h1 e,fun e=>by rw [e]⟩
theorem aZZ (T:TreeOk t) {s:List Ch} {p:Int} (S:StratOk t p s) {i c x:Nat} {k:Int} {P:List (Int × Int)} (hx:x<P.length) (hxl:P.length≤120) (hi:i<t.length) (hm:fC t p i) (hc:c<(aK t i).length) {W:Rat} (hsz:Sz 4000000000 W) {n0:Nat} {K:AV→List aA→Prop}
 (cont:aB Tryz.prog n0 17 K (aD (fnT Tryz.f17) 3) (kT t k a b true true (ratText (W * bQ (dN s (aX t i) (c:Int)))) P (P.length:Int) ((x+1:Nat):Int) [a,b] [true,true])) :
 aB Tryz.prog n0 17 K (aD (fnT Tryz.f17) 10) (mX t k a b true true (ratText W) P (P.length:Int) (x:Int) s (s.length:Int) 0 [a,b] [true,true] [(i:Int),(c:Int)] (t.getD i nd0).1 (t.getD i nd0).2.1 (t.getD i nd0).2.2.1 (t.getD i nd0).2.2.2.1 (t.getD i nd0).2.2.2.2.1 (t.getD i nd0).2.2.2.2.2):=by
 obtain ⟨j0,hj0,hjl,hju⟩:=S.place T hi hm
 have o:=S.odd T hi hm hc
 have oz:=sV o
 have hsl:s.length≤10:=by rw [S.len]; exact oK
 have ol:=o.2.2.2.2.1
 rw [hj0,Int.toNat_natCast] at ol
 have oz1:(s.getD j0 ch0).2.getD c b0=ratText (bQ (dN s (aX t i) (c:Int))):=by
  rw [← oz.1]
  unfold dN
  rw [hj0,Int.toNat_natCast,Int.toNat_natCast]
 have loop:=bJ (f:=17) (gn:=fnT Tryz.f17) (n0:=n0) (r:=10) (by kernel_rfl) aL6 (inl:=[]) (LT:=s8) (NT:=s9) (K:=K) (fun j:Nat=>mX t k a b true true (ratText (if j≤j0 then W else W * bQ (dN s (aX t i) (c:Int)))) P (P.length:Int) (x:Int) s (s.length:Int) (j:Int) [a,b] [true,true] [(i:Int),(c:Int)] (t.getD i nd0).1 (t.getD i nd0).2.1 (t.getD i nd0).2.2.1 (t.getD i nd0).2.2.2.1 (t.getD i nd0).2.2.2.2.1 (t.getD i nd0).2.2.2.2.2) (fun j=>s.length - j) (fun j=>j≤s.length) (fun j hp ih=>by
  show aF _ _ _ _ _ _ (mX t k a b true true (ratText (if j≤j0 then W else W * bQ (dN s (aX t i) (c:Int)))) P (P.length:Int) (x:Int) s (s.length:Int) (j:Int) [a,b] [true,true] [(i:Int),(c:Int)] (t.getD i nd0).1 (t.getD i nd0).2.1 (t.getD i nd0).2.2.1 (t.getD i nd0).2.2.2.1 (t.getD i nd0).2.2.2.2.1 (t.getD i nd0).2.2.2.2.2)
  rw [bHV]
  by_cases hj:j<s.length
  · refine aC (by omega) (aY hj ?_)
    rw [Int.toNat_natCast,wrS hj (by omega)]
    have ih' := ih (j+1) (by show j+1≤_; omega) (by show _ - (j+1)<_ - j; omega)
    by_cases e:(s.getD j ch0).1=aX t i
    · have e0:=(hju j hj).1 e
      subst e0
      simp only [if_neg (show ¬ j+1≤j by omega)] at ih'
      rw [if_pos (Nat.le_refl _)]
      exact aC e (aS rfl (bEP (show (0:Int)≤(c:Int) by omega) (show (c:Int)<((s.getD j ch0).2.length:Int) by omega) ⟨_,_,rfl,oz1,hsz,oz.2.mono (by decide),ih'⟩))
    · have hne:j≠j0:=fun h=>e ((hju j hj).2 h)
      have e1:(if j+1≤j0 then W else W * bQ (dN s (aX t i) (c:Int)))=if j≤j0 then W else W * bQ (dN s (aX t i) (c:Int)):=by
       by_cases h:j≤j0
       · rw [if_pos h,if_pos (by omega)]
       · rw [if_neg h,if_neg (by omega)]
      simp only [e1] at ih'
      exact aE e ih'
  · rw [if_neg (by omega),wrS hx (by omega)]
    exact aE (by omega) cont) 0 (Nat.zero_le _)
 simp only [if_pos (Nat.zero_le _)] at loop
 exact loop
theorem bH4 (l:List (Int × Int)) (x:Int × Int):i6 t a b (l ++ [x])=i6 t a b l * eX t a b x.1.toNat x.2.toNat:=by
 unfold i6
 rw [List.foldl_append]; rfl
theorem bH5 {k:Int} {g:Bool × Bool} (h:aZF t k (a,b) g Q):Con Tryz.prog 17 [.imm aT t, .int .i64 k, .agg [.imm eCh a, .imm eCh b], .agg [.bool g.1, .bool g.2]] Q:=by
 obtain ⟨⟨R,hk,hg⟩,hq⟩:=h
 obtain ⟨g0,g1⟩:=g
 obtain ⟨h1,h2⟩:=hg
 simp only at R hq h1 h2
 subst h1 h2
 have T:=eJ R.g
 have hn:=T.n120
 refine aW (gn:=fnT Tryz.f17) (by kernel_rfl) aL6 (inl:=[]) (LT:=s8) (NT:=s9) rfl fun n0=>?_
 rw [bHT]
 refine ⟨⟨R.g,hk⟩,?_⟩
 unfold InT at hk
 have hkn:k.toNat<t.length:=by omega
 have hin:=T.path_in hkn
 have hpl:(dY t k.toNat).length≤120:=by
  have:=aDL (t:=t) (f:=k.toNat) (k:=k.toNat)
  unfold dY
  omega
 have hend:cM t a b k.toNat=i6 t a b (dY t k.toNat):=rfl
 rw [hend] at hq
 generalize dY t k.toNat=P at *
 have loop:=bJ (f:=17) (gn:=fnT Tryz.f17) (n0:=n0) (r:=3) (by kernel_rfl) aL6 (inl:=[]) (LT:=s8) (NT:=s9) (K:=aO Q) (fun x:Nat=>kT t k a b true true (ratText (i6 t a b (P.take x))) P (P.length:Int) (x:Int) [a,b] [true,true]) (fun x=>P.length - x) (fun x=>x≤P.length∧Sz (x * 2000+20) (i6 t a b (P.take x))) (fun x hp ih=>by
  obtain ⟨hx0,hs⟩:=hp
  show aF _ _ _ _ _ _ (kT t k a b true true (ratText (i6 t a b (P.take x))) P (P.length:Int) (x:Int) [a,b] [true,true])
  rw [bHU]
  by_cases hx:x<P.length
  · obtain ⟨i,c,m,hp,hkid⟩:=hin _ (d8 (d:=((0:Int),(0:Int))) hx)
    have hi:=hkid.1
    have hc:=hkid.2.1
    have hW:i6 t a b (P.take (x+1))=i6 t a b (P.take x) * eX t a b i c:=by
        rw [aYD (d:=((0:Int),(0:Int))) hx,bH4,hp]; rfl
    have hs1:Sz ((x+1) * 2000+20) (i6 t a b (P.take (x+1))):=by
        rw [hW]
        exact (mJ hs (R.fac_sz hi hc)).mono (by omega)
    have ih' := ih (x+1) ⟨by show x+1≤_; omega,hs1⟩ (by show _ - (x+1)<_ - x; omega)
    simp only [hW] at ih'
    have sW:=hs.mono (m:=4000000000) (by omega)
    have e0:[(i:Int),(c:Int)].getD 0 0=(i:Int):=rfl
    have e1:[(i:Int),(c:Int)].getD 1 0=(c:Int):=rfl
    refine aC (by omega) (aY hx ?_)
    rw [Int.toNat_natCast,hp,show ((0,0,0,[],[],ByteArray.empty):Nd)=nd0 from rfl]
    simp only [e0,e1,Int.toNat_natCast]
    refine aY hi ?_
    rcases R.kind hi hc with k1 | ⟨k2,kp⟩
    · obtain ⟨o1,o2,o3⟩:=R.odds hi hc k1
      rw [xF k1] at ih'
      rw [wrS hx (by omega)]
      exact aC k1 (aY o1 ⟨_,_,rfl,o2,sW,o3.mono (by decide),aE (by omega) ih'⟩)
    · refine aE (by omega) (aC k2 ?_)
      rcases kp with hp0 | hp1
      · rw [xG k2 hp0] at ih'
        have inner:=aZZ T (mS R.sa) hx hpl hi ⟨k2,hp0⟩ hc sW ih'
        rw [hp0] at inner ⊢
        exact aS rfl (aS rfl (aS rfl inner))
      · rw [xH k2 hp1] at ih'
        have inner:=aZZ T (mS R.sb) hx hpl hi ⟨k2,hp1⟩ hc sW ih'
        rw [hp1] at inner ⊢
        exact aS rfl (aS rfl (aS rfl inner))
  · have hxx:x=P.length:=by omega
    subst hxx
    rw [List.take_length]
    exact aE (by omega) (bP hq rfl rfl)) 0 ⟨Nat.zero_le _,(aW4 1 (by decide)).mono (by decide)⟩
 rw [show ratText (i6 t a b (P.take 0))=⟨#[49]⟩ from bBW] at loop
 exact loop
end
end
section
section
variable {t:List Nd} {a b:List Ch} {Q:Res}
theorem aZ0 {f:Nat→Nat}:∀ n c,c<n→f c≤natTo f n
 | 0,c,h=>by omega
 | n+1,c,h=>by
   unfold natTo
   by_cases e:c=n
   · subst e; omega
   · have:=aZ0 (f:=f) n c (by omega); omega
theorem TreeOk.cnt_le (T:TreeOk t) {k:Nat}:k<t.length→cnt t k≤t.length:=by
 induction k using Nat.strongRecOn with
 | ind k ih =>
   intro hk
   by_cases h0:k=0
   · subst h0
     rw [T.cnt_all]; exact Nat.le_refl _
   · have hs:=(T.par_spec (k:=k) (by omega) hk).1
     have hl:=T.kid_lt hs
     have h1:=ih _ hl.1 (by omega)
     have h2:=aZ0 (f:=fun c=>cnt t ((aK t (par t k).1).getD c 0).toNat) _ _ hs.2.1
     simp only [hs.2.2,Int.toNat_natCast] at h2
     rw [T.cnt_eq hs.1] at h1
     omega
theorem RepOk.val_big (R:RepOk t a b) {k:Nat} (hk:k<t.length):Sz 1000000 (dO t a b k):=by
 have T:=eJ R.g
 have hn:=T.n120
 have h1:=T.cnt_le hk
 refine (T.val_sz (s:=2000) (fun i hi e=>(R.pay hi e).2) (fun i c hi _ hc=>R.fac_sz hi hc) _ k hk (Nat.le_refl _)).mono ?_
 have h2:=Nat.mul_le_mul_left (2 * 2000+2) h1
 omega
theorem aZ1 {n:Nat} (hYv_ok:∀ g xs Q,xA n g xs Q→Con Tryz.prog g xs Q) (R:RepOk t a b) {s:List Ch} {p:Int} (S:StratOk t p s) {k c m:Nat} (hk:k<t.length) (hm:fC t p k) (hkid:fL t k c m) (hx:w7 n t (m:Int) (a,b)) {w:Rat} (hw:Sz 900000000 w) {n0:Nat} {K:AV→List aA→Prop}
 (cont:∀ w', w' = w+bQ (dN s (aX t k) (c:Int)) * dO t a b m→aB Tryz.prog n0 16 K (aD (fnT Tryz.f16) 6) (lM n t (k:Int) a b (ratText w') (aK t k) ((aK t k).length:Int) ((c+1:Nat):Int) [a,b] (t.getD k nd0).1 (t.getD k nd0).2.1 (t.getD k nd0).2.2.1 (t.getD k nd0).2.2.2.1 (t.getD k nd0).2.2.2.2.1 (t.getD k nd0).2.2.2.2.2)) :
 aB Tryz.prog n0 16 K (aD (fnT Tryz.f16) 12) (oP n t (k:Int) a b (ratText w) (c:Int) (m:Int) (ByteArray.mk #[48]) (aK t k) ((aK t k).length:Int) (c:Int) s (s.length:Int) 0 [a,b] (t.getD k nd0).1 (t.getD k nd0).2.1 (t.getD k nd0).2.2.1 (t.getD k nd0).2.2.2.1 (t.getD k nd0).2.2.2.2.1 (t.getD k nd0).2.2.2.2.2):=by
 have T:=eJ R.g
 have hc:=hkid.2.1
 have hcw:=(T.node k hk).w
 have hml:=(T.kid_lt hkid).2
 obtain ⟨j0,hj0,hjl,hju⟩:=S.place T hk hm
 have o:=S.odd T hk hm hc
 have oz:=sV o
 have hsl:s.length≤10:=by rw [S.len]; exact oK
 have ol:=o.2.2.2.2.1
 rw [hj0,Int.toNat_natCast] at ol
 have oz1:(s.getD j0 ch0).2.getD c b0=dN s (aX t k) (c:Int):=by
  unfold dN
  rw [hj0,Int.toNat_natCast,Int.toNat_natCast]
 have loop:=bJ (f:=16) (gn:=fnT Tryz.f16) (n0:=n0) (r:=12) (by kernel_rfl) hYv_ok (inl:=[]) (LT:=tA) (NT:=tB) (K:=K) (fun j:Nat=>oP n t (k:Int) a b (ratText w) (c:Int) (m:Int) (if j≤j0 then ByteArray.mk #[48] else dN s (aX t k) (c:Int)) (aK t k) ((aK t k).length:Int) (c:Int) s (s.length:Int) (j:Int) [a,b] (t.getD k nd0).1 (t.getD k nd0).2.1 (t.getD k nd0).2.2.1 (t.getD k nd0).2.2.2.1 (t.getD k nd0).2.2.2.2.1 (t.getD k nd0).2.2.2.2.2) (fun j=>s.length - j) (fun j=>j≤s.length) (fun j hp ih=>by
  show aF _ _ _ _ _ _ (oP n t (k:Int) a b (ratText w) (c:Int) (m:Int) (if j≤j0 then ByteArray.mk #[48] else dN s (aX t k) (c:Int)) (aK t k) ((aK t k).length:Int) (c:Int) s (s.length:Int) (j:Int) [a,b] (t.getD k nd0).1 (t.getD k nd0).2.1 (t.getD k nd0).2.2.1 (t.getD k nd0).2.2.2.1 (t.getD k nd0).2.2.2.2.1 (t.getD k nd0).2.2.2.2.2)
  rw [bHY]
  by_cases hj:j<s.length
  · refine aC (by omega) (aY hj ?_)
    rw [Int.toNat_natCast,wrS hj (by omega)]
    have ih' := ih (j+1) (by show j+1≤_; omega) (by show _ - (j+1)<_ - j; omega)
    by_cases e:(s.getD j ch0).1=aX t k
    · have e0:=(hju j hj).1 e
      subst e0
      simp only [if_neg (show ¬ j+1≤j by omega)] at ih'
      refine aC e (aY (show c<(s.getD j ch0).2.length by omega) ?_)
      rw [Int.toNat_natCast]
      rw [← oz1] at ih'
      exact ih'
    · have hne:j≠j0:=fun h=>e ((hju j hj).2 h)
      have e1:(if j+1≤j0 then ByteArray.mk #[48] else dN s (aX t k) (c:Int))=if j≤j0 then ByteArray.mk #[48] else dN s (aX t k) (c:Int):=by
       by_cases h:j≤j0
       · rw [if_pos h,if_pos (by omega)]
       · rw [if_neg h,if_neg (by omega)]
      simp only [e1] at ih'
      exact aE e ih'
  · rw [if_neg (by omega),wrS (x:=c) (by omega) (by omega)]
    refine aE (by omega) ?_
    have vb:=R.val_big hml
    by_cases z:dN s (aX t k) (c:Int)=ByteArray.mk #[48]
    · have hz:bQ (dN s (aX t k) (c:Int))=0:=by rw [z,← n8,aKV]
      have c1:=cont w (by rw [hz,Rat.zero_mul,Rat.add_zero])
      rw [z]
      exact aP (aS (g7.2 rfl) c1)
    · have c1:=cont _ rfl
      refine aP (aZ (fun h=>z (g7.1 h)) (aS rfl ⟨hx,_,_,oz.1,rfl,oz.2.mono (by decide),vb.mono (by decide),_,_,rfl,rfl,hw.mono (by decide),(mJ oz.2 vb).mono (by decide),c1⟩))) 0 (Nat.zero_le _)
 simp only [if_pos (Nat.zero_le _)] at loop
 exact loop
theorem bH6 {n:Nat} (hYv_ok:∀ g xs Q,xA n g xs Q→Con Tryz.prog g xs Q) {k:Int} (h:aLX (n+1) t k (a,b) Q):Con Tryz.prog 16 [.imm aT t, .int .i64 k, .agg [.imm eCh a, .imm eCh b]] Q:=by
 obtain ⟨⟨⟨R,M,hk⟩,hn⟩,hq⟩:=h
 simp only at R M hn hq
 unfold InT at hk
 obtain ⟨k,rfl⟩:∃ k' : Nat,k=(k' : Int):=⟨k.toNat,by omega⟩
 simp only [Int.toNat_natCast] at hn hq
 have hkl:k<t.length:=by omega
 have T:=eJ R.g
 have hw:=(T.node k hkl).w
 refine aW (gn:=fnT Tryz.f16) (by kernel_rfl) hYv_ok (inl:=[]) (LT:=tA) (NT:=tB) rfl fun n0=>?_
 rw [bHW]
 refine aY hkl ?_
 rw [Int.toNat_natCast,show ((0,0,0,[],[],ByteArray.empty):Nd)=nd0 from rfl]
 by_cases e:(t.getD k nd0).1=0
 · refine aC e (bP ?_ rfl rfl)
   rw [aL0 hkl e,← (R.pay hkl e).1] at hq
   exact hq
 · refine aE e ?_
   rw [T.val_move hkl e] at hq
   have loop:=bJ (f:=16) (gn:=fnT Tryz.f16) (n0:=n0) (r:=6) (by kernel_rfl) hYv_ok (inl:=[]) (LT:=tA) (NT:=tB) (K:=aO Q) (fun c:Nat=>lM n t (k:Int) a b (ratText (b7 (fun c=>eX t a b k c * dO t a b ((aK t k).getD c 0).toNat) c)) (aK t k) ((aK t k).length:Int) (c:Int) [a,b] (t.getD k nd0).1 (t.getD k nd0).2.1 (t.getD k nd0).2.2.1 (t.getD k nd0).2.2.2.1 (t.getD k nd0).2.2.2.2.1 (t.getD k nd0).2.2.2.2.2) (fun c=>(aK t k).length - c) (fun c=>c≤(aK t k).length∧Sz (c * 2000000+20) (b7 (fun c=>eX t a b k c * dO t a b ((aK t k).getD c 0).toNat) c)) (fun c hp ih=>by
    obtain ⟨hc0,hs⟩:=hp
    show aF _ _ _ _ _ _ (lM n t (k:Int) a b (ratText (b7 (fun c=>eX t a b k c * dO t a b ((aK t k).getD c 0).toNat) c)) (aK t k) ((aK t k).length:Int) (c:Int) [a,b] (t.getD k nd0).1 (t.getD k nd0).2.1 (t.getD k nd0).2.2.1 (t.getD k nd0).2.2.2.1 (t.getD k nd0).2.2.2.2.1 (t.getD k nd0).2.2.2.2.2)
    rw [bHX]
    by_cases hc:c<(aK t k).length
    · obtain ⟨m,hm,hkid,hkm,hml⟩:=T.kid_at hkl hc
      have vb:=R.val_big hml
      have hW:b7 (fun c=>eX t a b k c * dO t a b ((aK t k).getD c 0).toNat) (c+1)=b7 (fun c=>eX t a b k c * dO t a b ((aK t k).getD c 0).toNat) c+eX t a b k c * dO t a b m:=by
       rw [show ∀ f:Nat→Rat,b7 f (c+1)=b7 f c+f c from fun _=>rfl]
       simp only [hm,Int.toNat_natCast]
      have ih' := ih (c+1) ⟨by show c+1≤_; omega,by
       rw [hW]
       exact (aK4 hs (mJ (R.fac_sz hkl hc) vb)).mono (by omega)⟩ (by show _ - (c+1)<_ - c; omega)
      simp only [hW] at ih'
      have sS:=hs.mono (m:=900000000) (by omega)
      have hx:w7 n t (m:Int) (a,b):=⟨⟨R,M,by unfold InT; omega⟩,by show t.length - (m:Int).toNat<n; omega⟩
      refine aC (by omega) (aY hc ?_)
      rw [Int.toNat_natCast,hm,Int.toNat_natCast]
      rcases R.kind hkl hc with k1 | ⟨k2,kp⟩
      · obtain ⟨o1,o2,o3⟩:=R.odds hkl hc k1
        rw [xF k1] at ih'
        rw [wrS hc (by omega)]
        refine aC k1 (aY o1 ?_)
        by_cases z:(t.getD k nd0).2.2.2.2.1.getD c b0=ByteArray.mk #[48]
        · have hz:bQ ((t.getD k nd0).2.2.2.2.1.getD c b0)=0:=by rw [z,← n8,aKV]
          rw [hz,Rat.zero_mul,Rat.add_zero] at ih'
          exact aP (aS (g7.2 z) ih')
        · exact aP (aZ (fun h=>z (g7.1 h)) (aS rfl ⟨hx,_,_,o2,rfl,o3.mono (by decide),vb.mono (by decide),_,_,rfl,rfl,sS.mono (by decide),(mJ o3 vb).mono (by decide),ih'⟩))
      · refine aE (by omega) ?_
        rcases kp with hp0 | hp1
        · rw [xG k2 hp0] at ih'
          have inner:=aZ1 hYv_ok R (mS R.sa) hkl ⟨k2,hp0⟩ hkid hx sS (n0:=n0) (K:=aO Q) (fun w' hw' => by rw [hw']; exact ih')
          rw [hp0] at inner ⊢
          exact aS rfl inner
        · rw [xH k2 hp1] at ih'
          have inner:=aZ1 hYv_ok R (mS R.sb) hkl ⟨k2,hp1⟩ hkid hx sS (n0:=n0) (K:=aO Q) (fun w' hw' => by rw [hw']; exact ih')
          rw [hp1] at inner ⊢
          exact aS rfl inner
    · have hcc:c=(aK t k).length:=by omega
      subst hcc
      exact aE (by omega) (bP hq rfl rfl)) 0 ⟨Nat.zero_le _,mI.mono (by decide)⟩
   rw [show ratText (b7 (fun c=>eX t a b k c * dO t a b ((aK t k).getD c 0).toNat) 0)=⟨#[48]⟩ from n8] at loop
   exact loop
theorem aZ2 : ∀ (n:Nat) {t:List Nd} {a b:List Ch} {k:Int} {Q:Res},aLX n t k (a,b) Q→Con Tryz.prog 16 [.imm aT t, .int .i64 k, .agg [.imm eCh a, .imm eCh b]] Q
 | 0,_,_,_,_,_,h=>absurd h.1.2 (Nat.not_lt_zero _)
 | n + 1,_,_,_,_,_,h=>bH6 (n:=n) (cH fun p hp=>by
     simp only [List.mem_cons,List.not_mem_nil,or_false] at hp
     rcases hp with rfl | rfl | rfl
     · exact gZ fun _ _ _ _ h=>aZ2 n h
     · exact bA fun _ _ _ h=>aKU h
     · exact bA fun _ _ _ h=>aCY h) h
theorem bH7 {k:Int} (h:aZG t k (a,b) Q):Con Tryz.prog 16 [.imm aT t, .int .i64 k, .agg [.imm eCh a, .imm eCh b]] Q :=
 aZ2 (t.length+1) ⟨⟨h.1,by show t.length - k.toNat<_; omega⟩,h.2⟩
end
end
end Go.Proofs.YtpngedkdkpfnkaaGreatDoor.Lib
end
section
set_option linter.unusedSimpArgs false
set_option linter.unusedVariables false
namespace Go.Proofs.YtpngedkdkpfnkaaGreatDoor.Mach
open Go Go.Proofs.YtpngedkdkpfnkaaGreatDoor Go.Proofs.YtpngedkdkpfnkaaGreatDoor.Lib
section
set_option maxRecDepth 1000000

end
section
def aL7 : bY:=⟨114,[.imm eP []], .own 0,[.typed eP [] false]⟩
theorem aZ3 : b9 Tryz.prog aL7 :=
 (aYA (l:=[]) (Q:=fun v o=>(v = .nils∧o=[])∨(v = .own 0∧o=[.typed eP [] false])) ⟨Nat.zero_le _,fun h=>absurd rfl h,fun _=>⟨.inl ⟨rfl,rfl⟩, .inr ⟨rfl,rfl⟩⟩⟩).lift (e:=eP) fun v o h=>by
  rcases h with ⟨rfl,rfl⟩ | ⟨rfl,rfl⟩
  · exact .inr ⟨rfl,rfl,rfl,rfl⟩
  · exact .inl ⟨rfl,rfl⟩
def tF : List bY:=[aL7]
theorem aZ4 : ∀ x∈tF,b9 Tryz.prog x:=fun x hx=>by
 simp only [tF,List.mem_cons,List.not_mem_nil,or_false] at hx
 rcases hx with rfl
 exact aZ3
end
section
def aL8 : List AV:=[.imm (.one .str) [⟨#[49,47,50]⟩,⟨#[49,47,50]⟩]]
def aZ5 : AV := .int .i64 0
def aFL : AV := .int .i64 0
def xI : List aA:=[]
def aZ6 : bY:=⟨80,aL8,aZ5,xI⟩
def aZ7 : Prop:=(aFL,xI)=(aFL,xI)
theorem bH8 : aZ7:=rfl
def aL9 : Prop:=dM tab [] 1500 80 aL8 [] aFL xI
set_option maxRecDepth 1000000 in
theorem bH9 : dS aL9:=⟨Eq.mpr (by kernel_rfl:aL9=aZ7) bH8⟩
theorem bIA : b9 Tryz.prog aZ6 :=
 eE (L:=[]) (k:=1500) (g:=80) (args:=aL8) (ids:=[]) (v:=aZ5) (v0:=aFL) (objs:=xI) (G:=aL9) (fun x hx=>by cases hx) (by kernel_rfl) bH9 (by kernel_rfl) (by kernel_rfl) (by kernel_rfl) (by kernel_rfl) (by kernel_rfl)
def aMA : List AV:=[.imm (.more (.int .i64) (.more (.int .i64) (.more (.int .i64) (.more (.slice (.one (.int .i64))) (.more (.slice (.one .str)) (.one .str)))))) [((2:Int),(0:Int),(0:Int),[(1:Int),(2:Int)],[],⟨#[]⟩),((2:Int),(1:Int),(3:Int),[(3:Int),(4:Int)],[],⟨#[]⟩),((2:Int),(1:Int),(3:Int),[(5:Int),(6:Int)],[],⟨#[]⟩),((0:Int),(0:Int),(0:Int),[],[],⟨#[45,49]⟩),((0:Int),(0:Int),(0:Int),[],[],⟨#[49]⟩),((0:Int),(0:Int),(0:Int),[],[],⟨#[49]⟩),((0:Int),(0:Int),(0:Int),[],[],⟨#[45,49]⟩)]]
def aZ8 : AV := .int .i64 0
def aFM : AV := .int .i64 0
def xJ : List aA:=[]
def xK : bY:=⟨42,aMA,aZ8,xJ⟩
def aZ9 : Prop:=(aFM,xJ)=(aFM,xJ)
theorem bIB : aZ9:=rfl
def aMB : Prop:=dM tab [] 1500 42 aMA [] aFM xJ
set_option maxRecDepth 1000000 in
theorem bIC : dS aMB:=⟨Eq.mpr (by kernel_rfl:aMB=aZ9) bIB⟩
theorem aFN : b9 Tryz.prog xK :=
 eE (L:=[]) (k:=1500) (g:=42) (args:=aMA) (ids:=[]) (v:=aZ8) (v0:=aFM) (objs:=xJ) (G:=aMB) (fun x hx=>by cases hx) (by kernel_rfl) bIC (by kernel_rfl) (by kernel_rfl) (by kernel_rfl) (by kernel_rfl) (by kernel_rfl)
end
section
def kU : List bY:=[aL7,aZ6,xK]
theorem aFO : ∀ x∈kU,b9 Tryz.prog x:=fun x hx=>by
 simp only [kU,List.mem_cons,List.not_mem_nil,or_false] at hx
 rcases hx with rfl | rfl | rfl
 · exact aZ3
 · exact bIA
 · exact aFN
end
section

end
section

end
section

end
section

end
section

end
end Go.Proofs.YtpngedkdkpfnkaaGreatDoor.Mach
end
section
set_option linter.unusedSimpArgs false
set_option linter.unusedVariables false
namespace Go.Proofs.YtpngedkdkpfnkaaGreatDoor.Lib
open Go Go.Proofs.YtpngedkdkpfnkaaGreatDoor.Mach
section

end
end Go.Proofs.YtpngedkdkpfnkaaGreatDoor.Lib
end
section
set_option linter.unusedSimpArgs false
set_option linter.unusedVariables false
namespace Go.Proofs.YtpngedkdkpfnkaaGreatDoor.Lib
open Go Go.Proofs.YtpngedkdkpfnkaaGreatDoor.Mach Go.Proofs.YtpngedkdkpfnkaaGreatDoorW.PrintWords Go.Proofs.YtpngedkdkpfnkaaGreatDoor.Sem Go.Proofs.YtpngedkdkpfnkaaGreatDoor.Pure
section
theorem aMC {q:Rat} {n:Nat} (h:(ratText q).size≤n):Sz (n+1) q:=by
 have:=aKM q
 exact ⟨by omega,by omega⟩
def aFP : Res:=fun v _=>v = .bool true
theorem xL (H:List aA):aO aFP (.bool true) H:=oC rfl
theorem yesB {b:Bool} (H:List aA) (h:b=true):aO aFP (.bool b) H:=by subst h; exact xL H
section
variable {t:List Nd} {p f c:Int} {s:List Ch}
def Tame (s:List Ch):Prop:=∀ c∈s,∀ r∈c.2,r.size≤12
end
end
end Go.Proofs.YtpngedkdkpfnkaaGreatDoor.Lib
end
