/- Texts of this session, put together. -/
import Derived.Test.YtehakimmioclkaaGreatDoorRA5
section
set_option linter.unusedSimpArgs false
set_option linter.unusedVariables false
namespace Go.Proofs.YtehakimmioclkaaGreatDoor.Lib
open Go Go.Proofs.YtehakimmioclkaaGreatDoor.Mach Go.Proofs.YtehakimmioclkaaGreatDoorW.PrintWords Go.Proofs.YtehakimmioclkaaGreatDoor.Sem Go.Proofs.YtehakimmioclkaaGreatDoor.Pure
section
def aAE (a b:List ByteArray) (n:Int):Res:=fun v o=>(v = .tup [.own 0, .own 1, .int .i64 n]∧o=[.typed eS a false, .typed eS b false])∨(a=[]∧b=[]∧v = .tup [.nils, .nils, .int .i64 n]∧o=[])
theorem a4W {a b:List ByteArray} {n:Int} {P:Program} {g:FuncId} {args:List AV} {Q:Res} (h:Con P g args (aAE a b n)) (hQ:Q (.tup [.imm eS a, .imm eS b, .int .i64 n]) []):Con P g args Q :=
 h.sealTo fun v o hv=>by
  rcases hv with ⟨rfl,rfl⟩ | ⟨rfl,rfl,rfl,rfl⟩
  · exact ⟨_,⟨_,rfl, .cons ⟨eS,a,false,rfl,rfl⟩ (.cons ⟨eS,b,false,rfl,rfl⟩ (.cons rfl .nil))⟩,hQ⟩
  · exact ⟨_,⟨_,rfl, .cons (Or.inr ⟨eS,rfl⟩) (.cons (Or.inr ⟨eS,rfl⟩) (.cons rfl .nil))⟩,hQ⟩
theorem a4X {a b:List ByteArray} {n:Int} {H:List aA} {i j:Nat} (hij:i≠j) (hi:aF H i = .typed eS a false) (hj:aF H j = .typed eS b false):aO (aAE a b n) (.tup [.own i, .own j, .int .i64 n]) H :=
 ⟨.tup [.own 0, .own 1, .int .i64 n],[.typed eS a false, .typed eS b false], .inl ⟨rfl,rfl⟩,rfl,rfl,[i,j],rfl,by simp [hij],fun k id hk=>by
  match k,hk with
  | 0,hk=>cases hk; exact congrArg some hi.symm
  | 1,hk=>cases hk; exact congrArg some hj.symm,rfl⟩
theorem aQP {a b:List ByteArray} {n:Int} {H:List aA} (ha:a=[]) (hb:b=[]):aO (aAE a b n) (.tup [.nils, .nils, .int .i64 n]) H:=bI (.inr ⟨ha,hb,rfl,rfl⟩) rfl rfl
section
variable {m:List (List ByteArray)} {l:List (Int × Int)} {ns:List Int} {n:Int} {Q:Res}
theorem szI {k:Nat} (h:k≤200):Sz 20 (((k:Nat):Int):Rat):=a3I _ (by rw [Int.natAbs_natCast]; exact Nat.lt_of_le_of_lt h (by decide))
theorem kS {T:Nat} (h:0<T):(((T:Nat):Int):Rat)≠0:=fun hc=>by
 have:=Rat.intCast_eq_zero_iff.1 hc
 omega
theorem aE2 {c T:Nat} (hc:c≤200) (hT:T≤200) (h0:0<T):Sz 50 (eF c T):=(l4 (szI hc) (szI hT) (kS h0)).mono (by decide)
theorem a4Y (h:aQB ns l Q):Con Tryz.prog 45 [.imm eI ns, .adr [.imm eP l]] Q:=by
 obtain ⟨⟨h0,h12,hf⟩,hq⟩:=h
 refine aU (gn:=fnT Tryz.f45) (by kernel_rfl) jA (inl:=[]) (LT:=zY) (NT:=zZ) rfl fun n0=>?_
 rw [a4H]
 refine cO (f:=45) (gn:=fnT Tryz.f45) (n0:=n0) (r:=3) (by kernel_rfl) jA (inl:=[]) (LT:=zY) (NT:=zZ) (K:=aO Q) (fun x:Nat=>z4 ns l (ns.length:Int) (x:Int) (dB x (l9 ns l))) (fun x=>ns.length - x) (fun x=>x≤ns.length) (fun x hx0 ih=>?_) 0 (Nat.zero_le _)
 rw [a4I]
 by_cases hx:x<ns.length
 · obtain ⟨f0,f1,f2,f3⟩:=hf x hx
   have ih' := ih (x+1) (by omega) (by omega)
   rw [aPY] at ih'
   have eq:l9 ns l x=eF (ns.getD x 0).toNat l.length:=rfl
   obtain ⟨k,hk⟩:∃ k:Nat,ns.getD x 0=(k:Int):=⟨(ns.getD x 0).toNat,by omega⟩
   rw [hk,Int.toNat_natCast] at eq
   rw [eq] at ih'
   refine aC (by omega) (cZ hx ?_)
   rw [Int.toNat_natCast,hk,wrS hx (by omega)]
   exact ⟨by unfold lT; omega,fun r hr=>⟨by unfold lT; omega,fun r1 hr1=>⟨_,_,hr,hr1,(szI (by omega)).mono (by decide),(szI f3).mono (by decide),fun r2 hr2=>⟨_,hr2,(aE2 (c:=k) (T:=l.length) (by omega) f3 f2).mono (by decide),aQ (sY (by rw [s6]; simp; omega) (by decide)) ih'⟩⟩⟩⟩
 · have hxx:x=ns.length:=by omega
   subst hxx
   exact aG (by omega) (jO (id:=0) rfl hq)
theorem a4Z (h:aQC n l Q):Con Tryz.prog 17 [.int .i64 n, .adr [.imm eP l]] Q:=by
 obtain ⟨⟨f0,f1,f2,f3⟩,hq⟩:=h
 obtain ⟨k,rfl⟩:∃ k:Nat,n=(k:Int):=⟨n.toNat,by omega⟩
 rw [Int.toNat_natCast] at hq
 refine aU (gn:=fnT Tryz.f17) (by kernel_rfl) a4T (inl:=[]) (LT:=aQE) (NT:=aQF) rfl fun n0=>?_
 rw [a4J]
 exact ⟨by unfold I64; omega,by unfold I64; omega,_,_,rfl,rfl,(szI (by omega)).mono (by decide),(szI f3).mono (by decide),kS f2,bI hq rfl rfl⟩
theorem aQQ : ∀ g xs Q,aEX g xs Q→Con Tryz.prog g xs Q:=dA fun p hp=>by
 simp only [List.mem_cons,List.not_mem_nil,or_false] at hp
 rcases hp with rfl | rfl
 · exact aZ fun _ _ _ h=>aP8 h
 · exact aZ fun _ _ _ h=>a4Y h
theorem aE3 (h:cY m l≠0):d7 m l=[]∧dT m l=[]:=⟨if_neg h,if_neg h⟩
theorem aQR {f:Nat→Nat} {N T:Nat} (hT:l.length=T):dB (cQ f N).length (l9 (cQ f N) l)=dB N (fun i=>eF (f i) T):=by
 rw [gF]
 refine a3R fun i hi=>?_
 unfold l9
 rw [tF hi,Int.toNat_natCast,hT]
theorem aQS {f:Nat→Nat} {N:Nat} (h0:0<N) (h12:N≤12) (hf:∀ i,f i≤200) (h1:0<l.length) (h2:l.length≤200):zW (cQ f N) l :=
 ⟨by rw [gF]; exact h0,by rw [gF]; exact h12,fun i hi=>by
  rw [gF] at hi
  rw [tF hi]
  have:=hf i
  exact ⟨by omega,by omega,h1,h2⟩⟩
theorem aAF {f g:Nat→Nat} {N I:Nat} (hI:I<N) (hf:∀ i,f i≤200) (hg:g=fun j=>if j=I then f j+1 else f j):(cQ f N).set ((I:Int)).toNat (IntKind.i64.wrap ((cQ f N).getD ((I:Int)).toNat 0+1))=cQ g N:=by
 rw [Int.toNat_natCast,tF hI,wrS (n:=1000) (Nat.lt_of_le_of_lt (hf I) (by decide)) (by decide),hg,← a4U hI]
 rfl
theorem a40 (h:avgS m l Q):Con Tryz.prog 14 [.imm (eL eS) m, .imm eP l] Q:=by
 obtain ⟨⟨ht,hn⟩,hq⟩:=h
 refine a4W (a:=d7 m l) (b:=dT m l) (n:=cY m l) ?_ hq
 refine aU (gn:=fnT Tryz.f14) (by kernel_rfl) aQQ (inl:=[]) (LT:=z5) (NT:=z6) rfl fun n0=>?_
 rw [a4K]
 refine ⟨⟨ht,hn⟩,aR ?_⟩
 by_cases h1:cP m l=0
 case neg =>
  have hE:cY m l=cP m l:=if_pos h1
  have hb:=aE3 (m:=m) (l:=l) (by rw [hE]; exact h1)
  rw [← hE]
  exact aG (by rw [hE]; exact h1) (aQP hb.1 hb.2)
 refine aC h1 ?_
 by_cases h2:(l.length:Int)=0
 · have hE:cY m l=8:=by unfold cY; rw [if_neg (fun h=>h h1),if_pos (by omega)]
   have hb:=aE3 (m:=m) (l:=l) (by rw [hE]; decide)
   rw [hE]
   exact aC h2 (aQP hb.1 hb.2)
 have hE:cY m l=0:=by unfold cY; rw [if_neg (fun h=>h h1),if_neg (by omega)]
 obtain ⟨hG,hl200,hat⟩:=zV h1
 obtain ⟨M,m0,m12,w0,w12⟩:=pH hG
 have hVA:d7 m l=dB m.length (fun i=>eF (dR l l.length i) l.length):=if_pos hE
 have hVB:dT m l=dB (wide m) (fun k=>eF (dJ l l.length k) l.length):=if_pos hE
 have loop:=cO (f:=14) (gn:=fnT Tryz.f14) (n0:=n0) (r:=8) (by kernel_rfl) aQQ (inl:=[]) (LT:=z5) (NT:=z6) (K:=aO (aAE (d7 m l) (dT m l) (cY m l))) (fun x:Nat=>tC m l (l.length:Int) (x:Int) (cQ (dR l x) m.length) (cQ (dJ l x) (wide m))) (fun x=>l.length - x) (fun x=>x≤l.length) (fun x hx0 ih=>by
  rw [a4L]
  have cr:∀ i,dR l x i≤200:=fun i=>Nat.le_trans (jT _ x) (by omega)
  have cc:∀ i,dJ l x i≤200:=fun i=>Nat.le_trans (jT _ x) (by omega)
  by_cases hx:x<l.length
  · obtain ⟨a1,a2,a3,a4⟩:=inG (hat x hx)
    obtain ⟨I,hI⟩:∃ k:Nat,(l.getD x p0).1=(k:Int):=⟨(l.getD x p0).1.toNat,by omega⟩
    obtain ⟨J,hJ⟩:∃ k:Nat,(l.getD x p0).2=(k:Int):=⟨(l.getD x p0).2.toNat,by omega⟩
    have hIm:I<m.length:=by omega
    have hJw:J<wide m:=by omega
    have ih' := ih (x+1) (by omega) (by omega)
    rw [← aAF hIm cr (aEY hI),← aAF hJw cc (aEZ hJ)] at ih'
    refine aC (by omega) (cZ hx ?_)
    rw [Int.toNat_natCast,show ((0,0):Int × Int)=p0 from rfl,show [(l.getD x p0).1,(l.getD x p0).2].getD 0 0=(l.getD x p0).1 from rfl,show [(l.getD x p0).1,(l.getD x p0).2].getD 1 0=(l.getD x p0).2 from rfl,hI,hJ,wrS hx (by omega)]
    have b1:I<(cQ (dR l x) m.length).length:=by rw [gF]; exact hIm
    have b2:J<(cQ (dJ l x) (wide m)).length:=by rw [gF]; exact hJw
    exact cZ b1 (cZ b1 (cZ b2 (cZ b2 ih')))
  · have hxx:x=l.length:=by omega
    subst hxx
    refine aG (by omega) ⟨aQS m0 m12 cr (by omega) hl200,aQS w0 w12 cc (by omega) hl200,?_⟩
    rw [aQR rfl,aQR rfl,← hVA,← hVB,hE]
    exact a4X (i:=3) (j:=4) (by decide) rfl rfl) 0 (Nat.zero_le _)
 have z1:cQ (dR l 0) m.length=List.replicate m.length 0:=cntL_zero.symm
 have z2:cQ (dJ l 0) (wide m)=List.replicate (wide m) 0:=cntL_zero.symm
 rw [z1,z2] at loop
 have mk1:=pG (n:=(m.getD 0 []).length) (b:=8) (show wide m≤_ by omega) (by decide)
 have mk2:=pG (n:=m.length) (b:=8) (by omega) (by decide)
 rw [← Int.toNat_natCast (n:=m.length)] at loop
 refine aG h2 (aC (by omega) ⟨aQ mk1 (aQ mk2 ?_),aQ mk2 (aQ mk1 ?_)⟩)
 · rw [Int.toNat_natCast,Int.toNat_natCast]; rw [Int.toNat_natCast] at loop; exact loop
 · rw [Int.toNat_natCast,Int.toNat_natCast]; rw [Int.toNat_natCast] at loop; exact loop
theorem aQT (h:d8 m l≠0):gQ m l=⟨#[]⟩∧gR m l=⟨#[]⟩:=⟨if_neg h,if_neg h⟩
theorem a41 (h:bndS m l Q):Con Tryz.prog 15 [.imm (eL eS) m, .imm eP l] Q:=by
 obtain ⟨⟨ht,hn⟩,hq⟩:=h
 refine aU (gn:=fnT Tryz.f15) (by kernel_rfl) aEW (inl:=[]) (LT:=pC) (NT:=pD) rfl fun n0=>?_
 rw [a39]
 have bad:∀ (e:Int) (H:List aA),d8 m l=e→e≠0→aO Q (.tup [.str ⟨#[]⟩, .str ⟨#[]⟩, .int .i64 e]) H:=fun e H h1 h2=>by
  have hb:=aQT (m:=m) (l:=l) (by rw [h1]; exact h2)
  rw [hb.1,hb.2,h1] at hq
  exact bI hq rfl rfl
 refine ⟨⟨ht,hn⟩,aR ?_⟩
 by_cases h1:cP m l=0
 case neg =>
  have hA:cY m l=cP m l:=if_pos h1
  exact aG h1 (bad _ _ (by unfold d8; rw [if_pos (by rw [hA]; exact h1),hA]) h1)
 refine aC h1 ?_
 by_cases h2:(l.length:Int)=0
 · have hA:cY m l=8:=by unfold cY; rw [if_neg (fun h=>h h1),if_pos (by omega)]
   exact aC h2 (bad _ _ (by unfold d8; rw [if_pos (by rw [hA]; decide),hA]) (by decide))
 have hA:cY m l=0:=by unfold cY; rw [if_neg (fun h=>h h1),if_neg (by omega)]
 obtain ⟨hG,hl200,hat⟩:=zV h1
 obtain ⟨M,m0,m12,w0,w12⟩:=pH hG
 have hM:eZ m=0:=by
  unfold e9 at hG
  split at hG
  · cases hG
  · split at hG
    · rename_i h2; exact absurd hG h2
    · rename_i h2; exact Decidable.not_not.1 h2
 refine aG h2 ⟨hM,fun g hg=>?_⟩
 have R:=a4E h1 hg
 refine ⟨_,_,_,R,fun zr zc hr hc=>?_⟩
 have hrl:=hr.len
 have hcl:=hc.len
 have szr:∀ i,i<m.length→Sz 1000000 (dQ (ent m) l l.length i):=fun i hi=>(aP9 R.at_ R.sz hi (Nat.le_refl _)).mono (by omega)
 have szc:∀ i,i<wide m→Sz 1000000 (d6 (ent m) l l.length i):=fun i hi=>(aQA R.at_ R.sz hi (Nat.le_refl _)).mono (by omega)
 have hLow:fR m l=dF (d6 (ent m) l l.length) (wide m) / (((l.length:Nat):Int):Rat):=rfl
 have hHigh:gP m l=dC (dQ (ent m) l l.length) m.length / (((l.length:Nat):Int):Rat):=rfl
 generalize dQ (ent m) l l.length=f at *
 generalize d6 (ent m) l l.length=h at *
 have loop15:∀ z:QT,QV z (dC f m.length)→∀ y:Nat × QT,(y.1≤wide m∧QV y.2 (dF h y.1))→aB Tryz.prog n0 15 (aO Q) (aE (fnT Tryz.f15) 15) (l8 m l (zc.length:Int) (y.1:Int) z.1 z.2.1 z.2.2 y.2.1 y.2.2.1 y.2.2.2 zc):=fun z hz =>
  cO (f:=15) (gn:=fnT Tryz.f15) (n0:=n0) (r:=15) (by kernel_rfl) aEW (inl:=[]) (LT:=pC) (NT:=pD) (K:=aO Q) (fun y:Nat × QT=>l8 m l (zc.length:Int) (y.1:Int) z.1 z.2.1 z.2.2 y.2.1 y.2.2.1 y.2.2.2 zc) (fun y=>wide m - y.1) (fun y=>y.1≤wide m∧QV y.2 (dF h y.1)) (fun y hp ih=>by
   obtain ⟨k,u⟩:=y
   obtain ⟨hk0,hu⟩:=hp
   simp only at hk0 hu
   show aH _ _ _ _ _ _ (l8 m l (zc.length:Int) (k:Int) z.1 z.2.1 z.2.2 u.1 u.2.1 u.2.2 zc)
   rw [a4B]
   have hms:=aE1 w0 szc hk0
   by_cases hk:k<wide m
   · refine aC (by omega) (cZ (by omega) ?_)
     rw [Int.toNat_natCast,wrS hk (by omega)]
     refine ⟨_,_,hc.at_ k hk,hu,(szc k hk).mono (by decide),hms.mono (by decide),?_⟩
     by_cases hs:sgn (h k - dF h k)<0
     · exact aC hs (ih (k+1,zc.getD k z0) ⟨by show k+1≤_; omega,by show QV _ (dF h (k+1)); rw [dF,if_pos hs]; exact hc.at_ k hk⟩ (by show _ - (k+1)<_ - k; omega))
     · exact aG hs (ih (k+1,u) ⟨by show k+1≤_; omega,by show QV _ (dF h (k+1)); rw [dF,if_neg hs]; exact hu⟩ (by show _ - (k+1)<_ - k; omega))
   · have hkk:k=wide m:=by omega
     subst hkk
     have hmx:=aAD m0 szr (Nat.le_refl _)
     refine aG (by omega) ⟨by unfold lT; omega,fun r hr1=>⟨_,_,hu,hr1,hms.mono (by decide),(szI hl200).mono (by decide),fun r1 hr2=>⟨_,hr2,(l4 hms (szI hl200) (kS (by omega))).mono (by decide),aR ?_⟩⟩⟩
     rw [← hLow]
     by_cases e1:cX (fR m l)=0
     · refine aC e1 ⟨_,_,hz,hr1,hmx.mono (by decide),(szI hl200).mono (by decide),fun r2 hr3=>⟨_,hr3,(l4 hmx (szI hl200) (kS (by omega))).mono (by decide),aR ?_⟩⟩
       rw [← hHigh]
       by_cases e2:cX (gP m l)=0
       · have hE:d8 m l=0:=by unfold d8; rw [if_neg (fun h=>h hA),if_neg (fun h=>h e1),e2]
         have t1:kL (fR m l)=gQ m l:=by unfold kL gQ; rw [if_pos e1,if_pos hE]
         have t2:kL (gP m l)=gR m l:=by unfold kL gR; rw [if_pos e2,if_pos hE]
         rw [t1,t2]
         rw [hE] at hq
         exact aC e2 (bI hq rfl rfl)
       · exact aG e2 (bad _ _ (by unfold d8; rw [if_neg (fun h=>h hA),if_neg (fun h=>h e1)]) e2)
     · exact aG e1 (bad _ _ (by unfold d8; rw [if_neg (fun h=>h hA),if_pos e1]) e1))
 have loop9:=cO (f:=15) (gn:=fnT Tryz.f15) (n0:=n0) (r:=9) (by kernel_rfl) aEW (inl:=[]) (LT:=pC) (NT:=pD) (K:=aO Q) (fun y:Nat × QT=>l7 m l (zr.length:Int) (y.1:Int) zc y.2.1 y.2.2.1 y.2.2.2 (zc.getD 0 z0).1 (zc.getD 0 z0).2.1 (zc.getD 0 z0).2.2 zr) (fun y=>m.length - y.1) (fun y=>y.1≤m.length∧QV y.2 (dC f y.1)) (fun y hp ih=>by
  obtain ⟨k,u⟩:=y
  obtain ⟨hk0,hu⟩:=hp
  simp only at hk0 hu
  show aH _ _ _ _ _ _ (l7 m l (zr.length:Int) (k:Int) zc u.1 u.2.1 u.2.2 (zc.getD 0 z0).1 (zc.getD 0 z0).2.1 (zc.getD 0 z0).2.2 zr)
  rw [a4A]
  have hms:=aAD m0 szr hk0
  by_cases hk:k<m.length
  · refine aC (by omega) (cZ (by omega) ?_)
    rw [Int.toNat_natCast,wrS hk (by omega)]
    refine ⟨_,_,hr.at_ k hk,hu,(szr k hk).mono (by decide),hms.mono (by decide),?_⟩
    by_cases hs:0<sgn (f k - dC f k)
    · exact aC hs (ih (k+1,zr.getD k z0) ⟨by show k+1≤_; omega,by show QV _ (dC f (k+1)); rw [dC,if_pos hs]; exact hr.at_ k hk⟩ (by show _ - (k+1)<_ - k; omega))
    · exact aG hs (ih (k+1,u) ⟨by show k+1≤_; omega,by show QV _ (dC f (k+1)); rw [dC,if_neg hs]; exact hu⟩ (by show _ - (k+1)<_ - k; omega))
  · have hkk:k=m.length:=by omega
    subst hkk
    exact aG (by omega) (loop15 u hu (0,zc.getD 0 z0) ⟨Nat.zero_le _,hc.at_ 0 w0⟩)) (0,zr.getD 0 z0) ⟨Nat.zero_le _,hr.at_ 0 m0⟩
 exact aC (by omega) (aC (by omega) ⟨loop9,loop9⟩)
end
end
section
theorem pI : ∀ g xs Q,mA g xs Q→Con Tryz.prog g xs Q:=dA fun p hp=>by
 simp only [List.mem_cons,List.not_mem_nil,or_false] at hp
 rcases hp with rfl | rfl | rfl | rfl | rfl | rfl | rfl | rfl | rfl | rfl
 · exact c0_ok fun _ h=>a4S h
 · exact bD fun _ _ h=>a3X h
 · exact aZ fun _ _ _ h=>a4C h
 · exact aZ fun _ _ _ h=>a3Y h
 · exact aZ fun _ _ _ h=>a40 h
 · exact aZ fun _ _ _ h=>a41 h
 · exact aZ fun _ _ _ h=>a2H h
 · exact aZ fun _ _ _ h=>a3U h
 · exact aZ fun _ k _ h=>a3W ⟨k.toNat,(Int.toNat_of_nonneg h.1.1).symm,h.1.2.1,h.1.2.2,h.2⟩
 · exact aZ fun _ _ _ h=>a4Z h
section
variable {m:List (List ByteArray)} {l:List (Int × Int)}
theorem aE4 {x:Bool} {A B:Prop} (h:x=true) (b:B):bif (bif false then true else !x) then A else B:=by rw [h]; exact b
theorem a42 {q:Rat} {n:Nat} (h:(ratText q).size≤n):Sz (n+1) q:=by
 have:=aEJ q
 exact ⟨by omega,by omega⟩
theorem a43 {n:Int} (h:iK n [m]=false) (M:s0 m) {i k:Nat} (hi:i<m.length) (hk:k<wide m):Sz 13 (ent m i k):=by
 obtain ⟨_,h2⟩:=a30 h m (by simp)
 have h3:=(h2 (m.getD i []) (gC hi)).2
 obtain ⟨e1,_⟩:=M.ent i k hi hk
 have hr:=(M.row i hi).1
 have h4:=h3 ((m.getD i []).getD k b0) (gC (by omega))
 rw [e1] at h4
 exact a42 h4
theorem aQU (M:s0 m) {k:Nat} (hk:k<wide m):TF (gE m k) m.length (fun i=>ent m i k):=⟨by unfold gE; rw [List.length_map],fun i hi=>by
 have e:=(M.ent i k hi hk).1
 unfold gE
 rw [List.getD_eq_getElem?_getD,List.getElem?_map,List.getElem?_eq_getElem hi]
 rw [List.getD_eq_getElem?_getD (l:=m),List.getElem?_eq_getElem hi] at e
 exact e⟩
theorem rgM (a c T:Rat):a * (c / T)=a * c / T:=by rw [Rat.div_def,Rat.div_def,Rat.mul_assoc]
theorem aQV {g:Nat→Rat} {c:Nat→Nat} {N T:Nat}:bY (fun i=>g i * eF (c i) T) N=bY (fun i=>g i * (((c i:Nat):Int):Rat)) N / (((T:Nat):Int):Rat):=by
 rw [← aQK]
 congr 1
 funext i
 exact rgM _ _ _
theorem a44 (hat:∀ t,t<l.length→fA m.length (wide m) (l.getD t p0)=true) (k:Nat):bY (fun i=>ent m i k * eF (dR l l.length i) l.length) m.length=d6 (ent m) l l.length k / (((l.length:Nat):Int):Rat):=by
 rw [aQV (g:=fun i=>ent m i k) (c:=dR l l.length),aE0 (c:=dR l) (h:=fun t=>(l.getD t p0).1.toNat) (fun i=>ent m i k) (fun _=>rfl) l.length fun t ht=>?_]
 · rfl
 · obtain ⟨a1,a2,a3,a4⟩:=inG (hat t ht)
   exact ⟨by omega,aEY (by omega)⟩
theorem a45 (hat:∀ t,t<l.length→fA m.length (wide m) (l.getD t p0)=true) (i:Nat):bY (fun k=>ent m i k * eF (dJ l l.length k) l.length) (wide m)=dQ (ent m) l l.length i / (((l.length:Nat):Int):Rat):=by
 rw [aQV (g:=fun k=>ent m i k) (c:=dJ l l.length),aE0 (c:=dJ l) (h:=fun t=>(l.getD t p0).2.toNat) (fun k=>ent m i k) (fun _=>rfl) l.length fun t ht=>?_]
 · rfl
 · obtain ⟨a1,a2,a3,a4⟩:=inG (hat t ht)
   exact ⟨by omega,aEZ (by omega)⟩
theorem a46 (ht:TxM m) (hl:TxP l.length):Con Tryz.prog 4 [.imm (eL eS) m, .imm eP l] gS:=by
 refine aU (gn:=fnT Tryz.f4) (by kernel_rfl) pI (inl:=[]) (LT:=iA) (NT:=iB) rfl fun n0=>?_
 rw [a4M]
 refine ⟨⟨ht.1,fun r hr=>(ht.2 r hr).1⟩,fun c=>?_⟩
 by_cases hw:c > 6000
 · exact aC hw (z9 _)
 refine aG hw ⟨⟨ht,hl⟩,⟨ht,hl⟩,⟨ht,hl⟩,?_⟩
 have bad:∀ (e:Int) (H:List aA),e≠0→cY m l=e→bif decide (cY m l=e) then bif (bif true then decide (d8 m l=e) else false) then bif (bif true then decide (IntKind.i64.wrap (((d7 m l).length:Int)+((dT m l).length:Int))=0) else false) then bif (bif true then (gQ m l).toList == (ByteArray.mk #[]).toList else false) then aO gS (AV.bool (bif true then (gR m l).toList == (ByteArray.mk #[]).toList else false)) H else aO gS (AV.bool false) H else aO gS (AV.bool false) H else aO gS (AV.bool false) H else aO gS (AV.bool false) H:=fun e H he hA=>by
  have hB:d8 m l=e:=by unfold d8; rw [if_pos (by rw [hA]; exact he),hA]
  have h1:=aE3 (m:=m) (l:=l) (by rw [hA]; exact he)
  have h2:=aQT (m:=m) (l:=l) (by rw [hB]; exact he)
  rw [h1.1,h1.2,h2.1,h2.2]
  simp only [cond_true]
  exact aC hA (aC hB (aC (by decide) (aQ (beq_self_eq_true _) (aQG _ (beq_self_eq_true _)))))
 by_cases h1:cP m l=0
 case neg =>
  exact aG h1 (aR (aG h1 (bad _ _ h1 (if_pos h1))))
 refine aC h1 ?_
 by_cases h2:(l.length:Int)=0
 · refine aQ (by rw [cond_true]; exact decide_eq_true h2) (bad 8 _ (by decide) ?_)
   unfold cY; rw [if_neg (fun h=>h h1),if_pos (by omega)]
 refine aX (by rw [cond_true]; exact fun hc=>h2 (of_decide_eq_true hc)) (aR (aC h1 ⟨⟨by simp,fun r hr=>by rw [List.mem_singleton.1 hr]; exact ht⟩,?_⟩))
 by_cases hv:iK 5 [m]=true
 · exact aQ hv (z9 _)
 refine aX hv ?_
 by_cases h3:(l.length:Int) > 30
 · exact aQ (by rw [cond_false]; exact decide_eq_true h3) (z9 _)
 refine aX (by rw [cond_false]; exact fun hc=>h3 (of_decide_eq_true hc)) ?_
 have hv' : iK 5 [m]=false:=by cases hq:iK 5 [m] with | true=>exact absurd hq hv | false=>rfl
 have hE:cY m l=0:=by unfold cY; rw [if_neg (fun h=>h h1),if_neg (by omega)]
 obtain ⟨hG,hl200,hat⟩:=zV h1
 obtain ⟨M,m0,m12,w0,w12⟩:=pH hG
 have s13:∀ i k,i<m.length→k<wide m→Sz 13 (ent m i k):=fun i k hi hk=>a43 hv' M hi hk
 have hT0:0<l.length:=by omega
 have szc:∀ k,k<wide m→Sz 500 (d6 (ent m) l l.length k):=fun k hk=>(sZ (s:=13) (n:=l.length) (fun t hh=>by have:=inG (hat t hh); exact s13 _ _ (by omega) hk) l.length (Nat.le_refl _)).mono (by omega)
 have szr:∀ i,i<m.length→Sz 500 (dQ (ent m) l l.length i):=fun i hi=>(sZ (s:=13) (n:=l.length) (fun t hh=>by have:=inG (hat t hh); exact s13 _ _ hi (by omega)) l.length (Nat.le_refl _)).mono (by omega)
 have e1:cX (fR m l)=0:=aOW ((l4 (aE1 w0 szc (Nat.le_refl _)) (szI hl200) (kS hT0)).mono (by decide))
 have e2:cX (gP m l)=0:=aOW ((l4 (aAD m0 szr (Nat.le_refl _)) (szI hl200) (kS hT0)).mono (by decide))
 have hB:d8 m l=0:=by unfold d8; rw [if_neg (fun h=>h hE),if_neg (fun h=>h e1),e2]
 have hVA:d7 m l=dB m.length (fun i=>eF (dR l l.length i) l.length):=if_pos hE
 have hVB:dT m l=dB (wide m) (fun k=>eF (dJ l l.length k) l.length):=if_pos hE
 have hL:gQ m l=ratText (fR m l):=if_pos hB
 have hH:gR m l=ratText (gP m l):=if_pos hB
 have hTp:(0:Rat)<(((l.length:Nat):Int):Rat):=Rat.intCast_pos.2 (by omega)
 have hLow:fR m l=dF (fun k=>d6 (ent m) l l.length k / (((l.length:Nat):Int):Rat)) (wide m):=(aQL hTp _).symm
 have hHigh:gP m l=dC (fun i=>dQ (ent m) l l.length i / (((l.length:Nat):Int):Rat)) m.length:=(aQM hTp _).symm
 have dr:=a44 hat
 have dc:=a45 hat
 have szu:∀ k,k<wide m→Sz 600 (d6 (ent m) l l.length k / (((l.length:Nat):Int):Rat)):=fun k hk=>(l4 (szc k hk) (szI hl200) (kS hT0)).mono (by decide)
 have szv:∀ i,i<m.length→Sz 600 (dQ (ent m) l l.length i / (((l.length:Nat):Int):Rat)):=fun i hi=>(l4 (szr i hi) (szI hl200) (kS hT0)).mono (by decide)
 refine aR (aC hE (aE4 (decide_eq_true hB) (aE4 ?_ (aC (by omega) (aE4 ?_ ?_)))))
 · rw [hVA,s6]; exact decide_eq_true rfl
 · rw [hVB,s6]; exact decide_eq_true rfl
 have tA:TF (d7 m l) m.length (fun i=>eF (dR l l.length i) l.length):=by rw [hVA]; exact aPZ _ _
 have tB:TF (dT m l) (wide m) (fun k=>eF (dJ l l.length k) l.length):=by rw [hVB]; exact aPZ _ _
 have sA:SzF 50 m.length (fun i=>eF (dR l l.length i) l.length):=fun i _=>aE2 (Nat.le_trans (jT _ _) hl200) hl200 hT0
 have sB:SzF 50 (wide m) (fun k=>eF (dJ l l.length k) l.length):=fun i _=>aE2 (Nat.le_trans (jT _ _) hl200) hl200 hT0
 have sS:∀ n,n≤12→SzS n 50:=fun n hn=>by unfold SzS; omega
 have cin:∀ k:Nat,k<wide m→zX m (k:Int):=fun k hk=>⟨by omega,by unfold TxN; omega,fun r hr=>by
  obtain ⟨i,hi,rfl⟩:=List.getElem_of_mem hr
  have e:=(M.row i hi).1
  rw [List.getD_eq_getElem?_getD,List.getElem?_eq_getElem hi] at e
  have e' : (m[i]).length=wide m:=e
  exact ⟨by rw [Int.toNat_natCast]; omega,by unfold TxN; omega⟩⟩
 rw [hL,hH]
 -- the greatest row
 have loop45:=cO (f:=4) (gn:=fnT Tryz.f4) (n0:=n0) (r:=45) (by kernel_rfl) pI (inl:=[]) (LT:=iA) (NT:=iB) (K:=aO gS) (fun k:Nat=>tE m l (dT m l) (ratText (fR m l)) (ratText (gP m l)) (ratText (fR m l)) (ratText (dC (fun i=>dQ (ent m) l l.length i / (((l.length:Nat):Int):Rat)) k)) (m.length:Int) (k:Int)) (fun k=>m.length - k) (fun k=>k≤m.length) (fun k hk0 ih=>by
  rw [a4R]
  have hms:=aAD m0 szv hk0
  by_cases hk:k<m.length
  · have ih' := ih (k+1) (by omega) (by omega)
    rw [dC] at ih'
    refine aC (by omega) (cZ hk ?_)
    rw [Int.toNat_natCast,wrS hk (by omega)]
    refine ⟨_,_,50,_,_,aPV M hk,tB,Nat.le_refl _,fun j hj=>(s13 k j hk hj).mono (by decide),sB,sS _ w12,?_⟩
    rw [dc k]
    refine ⟨_,_,rfl,rfl,(szv k hk).mono (by decide),hms.mono (by decide),?_⟩
    by_cases hs:0<sgn (dQ (ent m) l l.length k / (((l.length:Nat):Int):Rat) - dC (fun i=>dQ (ent m) l l.length i / (((l.length:Nat):Int):Rat)) k)
    · rw [if_pos hs] at ih'
      exact aC hs ih'
    · rw [if_neg hs] at ih'
      exact aG hs ih'
  · have hkk:k=m.length:=by omega
    subst hkk
    rw [← hHigh]
    exact aG (by omega) (aQ (beq_self_eq_true _) (aQG _ (beq_self_eq_true _)))) 0 (Nat.zero_le _)
 -- the least column
 have loop38:=cO (f:=4) (gn:=fnT Tryz.f4) (n0:=n0) (r:=38) (by kernel_rfl) pI (inl:=[]) (LT:=iA) (NT:=iB) (K:=aO gS) (fun k:Nat=>tD m l (d7 m l) (dT m l) (ratText (fR m l)) (ratText (gP m l)) (ratText (dF (fun i=>d6 (ent m) l l.length i / (((l.length:Nat):Int):Rat)) k)) (ratText (dC (fun i=>dQ (ent m) l l.length i / (((l.length:Nat):Int):Rat)) 0)) ((wide m:Nat):Int) (k:Int)) (fun k=>wide m - k) (fun k=>k≤wide m) (fun k hk0 ih=>by
  rw [a4Q]
  have hms:=aE1 w0 szu hk0
  by_cases hk:k<wide m
  · have ih' := ih (k+1) (by omega) (by omega)
    rw [dF] at ih'
    refine aC (by omega) ⟨cin k hk,?_⟩
    rw [Int.toNat_natCast,wrS hk (by omega)]
    refine ⟨_,_,50,_,_,aQU M hk,tA,Nat.le_refl _,fun j hj=>(s13 j k hj hk).mono (by decide),sA,sS _ m12,?_⟩
    rw [dr k]
    refine ⟨_,_,rfl,rfl,(szu k hk).mono (by decide),hms.mono (by decide),?_⟩
    by_cases hs:sgn (d6 (ent m) l l.length k / (((l.length:Nat):Int):Rat) - dF (fun i=>d6 (ent m) l l.length i / (((l.length:Nat):Int):Rat)) k)<0
    · rw [if_pos hs] at ih'
      exact aC hs ih'
    · rw [if_neg hs] at ih'
      exact aG hs ih'
  · have hkk:k=wide m:=by omega
    subst hkk
    rw [← hLow]
    exact aG (by omega) loop45) 0 (Nat.zero_le _)
 -- the columns' parts
 have loop31:=cO (f:=4) (gn:=fnT Tryz.f4) (n0:=n0) (r:=31) (by kernel_rfl) pI (inl:=[]) (LT:=iA) (NT:=iB) (K:=aO gS) (fun k:Nat=>z8 m l (d7 m l) (dT m l) (ratText (fR m l)) (ratText (gP m l)) ((cQ (dJ l l.length) (wide m)).length:Int) (k:Int) (cQ (dJ l l.length) (wide m))) (fun k=>wide m - k) (fun k=>k≤wide m) (fun k hk0 ih=>by
  rw [a4P]
  by_cases hk:k<wide m
  · have ih' := ih (k+1) (by omega) (by omega)
    refine aC (by rw [gF]; omega) (cZ (by rw [gF]; exact hk) (cZ (by rw [tB.len]; exact hk) ?_))
    rw [Int.toNat_natCast,tF hk,wrS hk (by omega),Int.toNat_natCast]
    have cc:=jT (fun t=>decide ((l.getD t p0).2=(k:Int))) l.length
    have cc' : dJ l l.length k≤l.length:=cc
    refine ⟨⟨by omega,by omega,hT0,hl200⟩,aR (aQ ?_ ih')⟩
    rw [tB.at_ k hk]; exact beq_self_eq_true _
  · refine aG (by rw [gF]; omega) (aC (by omega) ⟨cin 0 w0,_,_,50,_,_,aQU M w0,tA,Nat.le_refl _,fun j hj=>(s13 j 0 hj w0).mono (by decide),sA,sS _ m12,_,_,50,_,_,aPV M m0,tB,Nat.le_refl _,fun j hj=>(s13 0 j m0 hj).mono (by decide),sB,sS _ w12,aC (by omega) ?_⟩)
    rw [dr 0,dc 0]
    exact loop38) 0 (Nat.zero_le _)
 -- the rows' parts
 have loop25:=cO (f:=4) (gn:=fnT Tryz.f4) (n0:=n0) (r:=25) (by kernel_rfl) pI (inl:=[]) (LT:=iA) (NT:=iB) (K:=aO gS) (fun k:Nat=>z7 m l (d7 m l) (dT m l) (ratText (fR m l)) (ratText (gP m l)) ((cQ (dR l l.length) m.length).length:Int) (k:Int) (cQ (dJ l l.length) (wide m)) (cQ (dR l l.length) m.length)) (fun k=>m.length - k) (fun k=>k≤m.length) (fun k hk0 ih=>by
  rw [a4O]
  by_cases hk:k<m.length
  · have ih' := ih (k+1) (by omega) (by omega)
    refine aC (by rw [gF]; omega) (cZ (by rw [gF]; exact hk) (cZ (by rw [tA.len]; exact hk) ?_))
    rw [Int.toNat_natCast,tF hk,wrS hk (by omega),Int.toNat_natCast]
    have cc' : dR l l.length k≤l.length:=jT _ l.length
    refine ⟨⟨by omega,by omega,hT0,hl200⟩,aR (aQ ?_ ih')⟩
    rw [tA.at_ k hk]; exact beq_self_eq_true _
  · exact aG (by rw [gF]; omega) loop31) 0 (Nat.zero_le _)
 have loop19:=cO (f:=4) (gn:=fnT Tryz.f4) (n0:=n0) (r:=19) (by kernel_rfl) pI (inl:=[]) (LT:=iA) (NT:=iB) (K:=aO gS) (fun x:Nat=>mB m l (d7 m l) (dT m l) (ratText (fR m l)) (ratText (gP m l)) (l.length:Int) (x:Int) (cQ (dR l x) m.length) (cQ (dJ l x) (wide m))) (fun x=>l.length - x) (fun x=>x≤l.length) (fun x hx0 ih=>by
  rw [a4N]
  have cr:∀ i,dR l x i≤200:=fun i=>Nat.le_trans (jT _ x) (by omega)
  have cc:∀ i,dJ l x i≤200:=fun i=>Nat.le_trans (jT _ x) (by omega)
  by_cases hx:x<l.length
  · obtain ⟨a1,a2,a3,a4⟩:=inG (hat x hx)
    obtain ⟨I,hI⟩:∃ k:Nat,(l.getD x p0).1=(k:Int):=⟨(l.getD x p0).1.toNat,by omega⟩
    obtain ⟨J,hJ⟩:∃ k:Nat,(l.getD x p0).2=(k:Int):=⟨(l.getD x p0).2.toNat,by omega⟩
    have hIm:I<m.length:=by omega
    have hJw:J<wide m:=by omega
    have ih' := ih (x+1) (by omega) (by omega)
    rw [← aAF hIm cr (aEY hI),← aAF hJw cc (aEZ hJ)] at ih'
    refine aC (by omega) (cZ hx ?_)
    rw [Int.toNat_natCast,show ((0,0):Int × Int)=p0 from rfl,show [(l.getD x p0).1,(l.getD x p0).2].getD 0 0=(l.getD x p0).1 from rfl,show [(l.getD x p0).1,(l.getD x p0).2].getD 1 0=(l.getD x p0).2 from rfl,hI,hJ,wrS hx (by omega)]
    have b1:I<(cQ (dR l x) m.length).length:=by rw [gF]; exact hIm
    have b2:J<(cQ (dJ l x) (wide m)).length:=by rw [gF]; exact hJw
    exact cZ b1 (cZ b1 (cZ b2 (cZ b2 ih')))
  · have hxx:x=l.length:=by omega
    subst hxx
    exact aG (by omega) loop25) 0 (Nat.zero_le _)
 have z1:cQ (dR l 0) m.length=List.replicate m.length 0:=cntL_zero.symm
 have z2:cQ (dJ l 0) (wide m)=List.replicate (wide m) 0:=cntL_zero.symm
 rw [z1,z2] at loop19
 have mk1:=pG (n:=(m.getD 0 []).length) (b:=8) (show wide m≤_ by omega) (by decide)
 have mk2:=pG (n:=m.length) (b:=8) (by omega) (by decide)
 refine aC (by omega) ⟨aQ mk1 (aQ mk2 ?_),aQ mk2 (aQ mk1 ?_)⟩
 · rw [Int.toNat_natCast,Int.toNat_natCast]; exact loop19
 · rw [Int.toNat_natCast,Int.toNat_natCast]; exact loop19
end
end
end Go.Proofs.YtehakimmioclkaaGreatDoor.Lib
end
