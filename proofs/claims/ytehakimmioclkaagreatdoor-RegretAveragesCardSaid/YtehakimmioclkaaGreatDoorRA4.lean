/- Texts of this session, put together. -/
import Derived.Test.YtehakimmioclkaaGreatDoorRA3
import Derived.Lib.Strings
import Derived.IntWalk
section
set_option linter.unusedSimpArgs false
set_option linter.unusedVariables false
namespace Go.Proofs.YtehakimmioclkaaGreatDoor.Pure
open Go.RowKit Go.Proofs.YtehakimmioclkaaGreatDoor.ND Go.Proofs.YtehakimmioclkaaGreatDoorW.PrintWords Go.Proofs.YtehakimmioclkaaGreatDoorW.PrintLast Go.Proofs.YtehakimmioclkaaGreatDoor.Aid Go.Proofs.YtehakimmioclkaaGreatDoor.NatVal
section
abbrev BB : Int:=1000000000
theorem aK1 (l:List Int) (n:Nat) (h:l.length=n+1):l=l.take n ++ [rd l (n:Int)]:=by
 rw [g7 l n (by omega),List.take_append_getElem (by omega),List.take_of_length_le (by omega)]
theorem aYC (n:Nat):∀ l:List Int,l.length=n→n≤1000000000000000→ok BB l →
 ∃ r,Ev (fun k=>nat_N_trim.l0 k l) r∧val BB r=val BB l∧ok BB r∧d0 r∧r.length≤l.length:=by
 induction n with
 | zero =>
   intro l hl _ ho
   obtain rfl:l=[]:=List.eq_nil_of_length_eq_zero hl
   refine ⟨[],?_,rfl,eC _,oE,by simp⟩
   refine Ev.step (fun k=>nat_N_trim.l0.eq_2 _ k) ?_
   exact Ev.no (by simp) (Ev.now _)
 | succ n ih =>
   intro l hl hn ho
   have e:wrap64 ((l.length:Int) - 1)=((n:Nat):Int):=by rw [w64] <;> omega
   have hd:=aK1 l n hl
   by_cases hz:rd l (n:Int)=0
   · have ho' : ok BB (l.take n):=fun x hx=>ho x (List.mem_of_mem_take hx)
     obtain ⟨r,h1,h2,h3,h4,h5⟩:=ih (l.take n) (by simp; omega) (by omega) ho'
     refine ⟨r,?_,?_,h3,h4,by simp at h5; omega⟩
     · refine Ev.step (fun k=>nat_N_trim.l0.eq_2 _ k) ?_
       rw [e]
       refine Ev.yes (by omega) (Ev.yes (by omega) (Ev.yes (by omega) (Ev.yes hz (Ev.yes (by omega) ?_))))
       rw [Int.toNat_natCast]
       exact h1
     · rw [h2]
       conv=>rhs; rw [hd]
       rw [eE,hz]; simp
   · refine ⟨l,?_,rfl,ho,?_,Nat.le_refl _⟩
     · refine Ev.step (fun k=>nat_N_trim.l0.eq_2 _ k) ?_
       rw [e]
       exact Ev.yes (by omega) (Ev.yes (by omega) (Ev.yes (by omega) (Ev.no hz (Ev.now _))))
     · intro h
       have:l.getLast h=rd l (n:Int):=by
        rw [List.getLast_eq_getElem,g7 l n (by omega)]
        congr 1
        omega
       rw [this]; exact hz
theorem lQ (l:List Int) (hn:l.length≤1000000000000000) (ho:ok BB l) :
 ∃ r,Ev (fun k=>nat_N_trim.f k l) r∧val BB r=val BB l∧ok BB r∧d0 r∧r.length≤l.length:=aYC l.length l rfl hn ho
def aJ (l:List Int):List Int:=(l.map fun c=>c - 48).reverse
def asc (l:List Int):Prop:=∀ c∈l,48≤c∧c≤57
theorem b7 (l:List Int):(aJ l).length=l.length:=by simp [aJ]
theorem bU {l:List Int} (h:asc l):ok 10 (aJ l):=by
 intro x hx
 simp only [aJ,List.mem_reverse,List.mem_map] at hx
 obtain ⟨c,hc,rfl⟩:=hx
 have:=h c hc
 omega
theorem rU (l:List Int) (c:Int):aJ (l ++ [c])=(c - 48) :: aJ l:=by simp [aJ]
theorem aK2 (l r:List Int):aJ (l ++ r)=aJ r ++ aJ l:=by simp [aJ]
theorem rV (s:ByteArray) (a b:Nat):bytesOf (s.extract a b)=((bytesOf s).drop a).take (b - a):=by
 have h:=Go.Lib.extract_toList s a b
 rw [ByteArray.toList_eq] at h
 unfold bytesOf
 rw [h,List.map_take,List.map_drop]
theorem rW (l:List Int) (j:Nat) (h:j<l.length):l.take (j+1)=l.take j ++ [rd l (j:Int)]:=by
 rw [g7 l j h,List.take_append_getElem h]
theorem aYD (s:ByteArray) (x3:List Int) (x4:Int) (ch:List Int) (hc:asc ch) (h9:ch.length≤9) (h3:x3.length<35184372088832) {r:List Int}
 (next:Ev (fun k=>nat_Read.l0 k s (x3 ++ [val 10 (aJ ch)]) (wrap64 (x4 - 9))) r) (d:Nat) :
 ∀ j,j+d=ch.length→Ev (fun k=>nat_Read.l1 k s x3 x4 (val 10 (aJ (ch.take j))) ch (ch.length:Int) (j:Int)) r:=by
 induction d with
 | zero =>
   intro j hj
   refine Ev.step (fun k=>nat_Read.l1.eq_2 _ _ _ _ _ _ _ k) ?_
   refine Ev.no (by omega) (Ev.yes h3 ?_)
   rw [show ch.take j=ch from List.take_of_length_le (by omega)]
   exact next
 | succ d ih =>
   intro j hj
   have hlt:j<ch.length:=by omega
   refine Ev.step (fun k=>nat_Read.l1.eq_2 _ _ _ _ _ _ _ k) ?_
   refine Ev.yes (by omega) (Ev.yes (by omega) (Ev.yes (by omega) ?_))
   have hd:=hc _ (xJ ch j hlt)
   have ha:asc (ch.take j):=fun c hc' => hc c (List.mem_of_mem_take hc')
   have h0:=cW (by omega) (bU ha)
   have h1:=dN (b:=10) (by omega) (bU ha)
   rw [b7,List.length_take,Nat.min_eq_left (by omega)] at h1
   have h2:(10:Int) ^ j≤10 ^ 8:=e6 (by omega) (by omega)
   have h2' : (10:Int) ^ 8=100000000:=by decide
   have e:((val 10 (aJ (ch.take j)) * 10+(rd ch (j:Int) - 48) % 256) % 4294967296)=val 10 (aJ (ch.take (j+1))):=by
    rw [rW ch j hlt,rU]
    simp only [val]
    omega
   rw [e,dZ (by omega)]
   exact ih (j+1) (by omega)
theorem aYE (m:Nat):BB ^ m=(10:Int) ^ (9 * m):=by
 rw [Int.pow_mul]; rfl
def bJ (r:List Int) (v:Int):Prop:=val BB r=v∧ok BB r∧d0 r
theorem aK3 (s:ByteArray) (x3:List Int) (x4:Int) (h4:x4≤0) (hn:x3.length≤100000000000) (ho:ok BB x3) :
 ∃ r,Ev (fun k=>nat_Read.l0 k s x3 x4) r∧bJ r (val BB x3)∧r.length≤x3.length:=by
 obtain ⟨r,h1,h2,h3,h5,h6⟩:=lQ x3 (by omega) ho
 refine ⟨r,?_,⟨h2,h3,h5⟩,h6⟩
 refine Ev.step (fun k=>nat_Read.l0.eq_2 _ _ _ k) ?_
 exact Ev.no (by omega) (Ev.bind1 h1 (Ev.now _))
theorem mx_eq (a b:Int):mx a b=max a b:=by unfold mx; omega
theorem aYF (s:ByteArray) (ha:asc (bytesOf s)) (hs:s.size≤10000000000) (d:Nat) :
 ∀ (e m:Nat) (x3:List Int),e≤d→e+9 * m=s.size→x3.length=m→ok BB x3→val BB x3=val 10 (aJ ((bytesOf s).drop e)) →
   ∃ r,Ev (fun k=>nat_Read.l0 k s x3 (e:Int)) r∧bJ r (val 10 (aJ (bytesOf s)))∧r.length≤s.size:=by
 induction d with
 | zero =>
   intro e m x3 he hm hx ho hv
   obtain rfl:e=0:=by omega
   obtain ⟨r,h1,h2,h3⟩:=aK3 s x3 0 (by omega) (by omega) ho
   rw [hv,List.drop_zero] at h2
   exact ⟨r,h1,h2,by omega⟩
 | succ d ih =>
   intro e m x3 he hm hx ho hv
   by_cases h0:e=0
   · exact ih e m x3 (by omega) hm hx ho hv
   · have hl:=bB s
     obtain ⟨a,hae⟩:∃ a:Nat,a=e - 9:=⟨_,rfl⟩
     have hw:wrap64 ((e:Int) - 9)=(e:Int) - 9:=by rw [w64] <;> omega
     have hmx:mx 0 (wrap64 ((e:Int) - 9))=(a:Int):=by rw [hw,mx_eq]; omega
     obtain ⟨ch,hch⟩:∃ ch,ch=bytesOf (s.extract a e):=⟨_,rfl⟩
     have hch' : ch=((bytesOf s).drop a).take (e - a):=by rw [hch,rV]
     have hcl:ch.length=e - a:=by rw [hch', List.length_take,List.length_drop]; omega
     have hca:asc ch:=by
        intro c hc
        rw [hch'] at hc
        exact ha c (List.mem_of_mem_drop (List.mem_of_mem_take hc))
     have hsplit:ch ++ (bytesOf s).drop e=(bytesOf s).drop a:=by
        rw [hch']
        conv=>rhs; rw [← List.take_append_drop (e - a) ((bytesOf s).drop a)]
        rw [List.drop_drop,show a+(e - a)=e by omega]
     have h00:=cW (by omega) (bU hca)
     have h01:=dN (b:=10) (by omega) (bU hca)
     rw [b7,hcl] at h01
     have h02:(10:Int) ^ (e - a)≤10 ^ 9:=e6 (by omega) (by omega)
     have h03:(10:Int) ^ 9=1000000000:=by decide
     have ho' : ok BB (x3 ++ [val 10 (aJ ch)]):=by
        rw [jR]
        refine ⟨ho,?_⟩
        rw [fJ]
        exact ⟨⟨h00,by show _<(1000000000:Int); omega⟩,eC _⟩
     have hv' : val BB (x3 ++ [val 10 (aJ ch)])=val 10 (aJ ((bytesOf s).drop a)):=by
        rw [eE,hv,hx,aYE,← hsplit,aK2,i4,b7,List.length_drop,hl,show s.size - e=9 * m by omega]
     have hstep:∀ {r},Ev (fun k=>nat_Read.l0 k s (x3 ++ [val 10 (aJ ch)]) (wrap64 ((e:Int) - 9))) r→Ev (fun k=>nat_Read.l0 k s x3 (e:Int)) r:=by
        intro r hr
        refine Ev.step (fun k=>nat_Read.l0.eq_2 _ _ _ k) ?_
        rw [hmx]
        refine Ev.yes (by omega) (Ev.yes (by omega) (Ev.yes (by omega) (Ev.yes (by omega) ?_)))
        rw [Int.toNat_natCast,Int.toNat_natCast,]
        have hsz:(s.extract a e).size≤9223372036854775807:=by
         have:=bB (s.extract a e)
         rw [← hch,hcl] at this
         omega
        refine Ev.opt_bind (aKY _ hsz) ?_
        rw [← hch]
        have:=aYD s x3 (e:Int) ch hca (by omega) (by omega) hr ch.length 0 (by omega)
        rw [List.take_zero] at this
        exact this
     by_cases h9:e≤9
     · obtain ⟨r,h1,h2,h3⟩:=aK3 s (x3 ++ [val 10 (aJ ch)]) (wrap64 ((e:Int) - 9)) (by rw [hw]; omega) (by simp; omega) ho'
       refine ⟨r,hstep h1,?_,by simp at h3; omega⟩
       rw [hv', show a=0 by omega,List.drop_zero] at h2
       exact h2
     · obtain ⟨r,h1,h2,h3⟩:=ih a (m+1) (x3 ++ [val 10 (aJ ch)]) (by omega) (by omega) (by simp; omega) ho' hv'
       refine ⟨r,hstep ?_,h2,h3⟩
       rw [hw,show (e:Int) - 9=(a:Int) by omega]
       exact h1
theorem aYG (s:ByteArray) (ha:asc (bytesOf s)) (hs:s.size≤10000000000) :
 ∃ r,Ev (fun k=>nat_Read.f k s) r∧bJ r (val 10 (aJ (bytesOf s)))∧r.length≤s.size:=by
 refine aYF s ha hs s.size s.size 0 [] (by omega) (by omega) rfl (eC _) ?_
 rw [List.drop_of_length_le (by rw [bB]; omega)]
 rfl
end
section
theorem oF {b:Int} {l:List Int} (h:ok b l) (j:Nat):ok b (l.take j):=fun x hx=>h x (List.mem_of_mem_take hx)
theorem aDJ {b:Int} (l:List Int) (j:Nat) (h:j<l.length):val b l=val b (l.take j)+b ^ j * (rd l (j:Int)+b * val b (l.drop (j+1))):=by
 conv=>lhs; rw [← List.take_append_drop j l]
 rw [i4,eO l j h,List.length_take,Nat.min_eq_left (by omega)]
 simp only [val]
theorem i5 {b:Int} (l:List Int) (j:Nat) (h:j<l.length):val b (l.take (j+1))=val b (l.take j)+b ^ j * rd l (j:Int):=by
 rw [rW l j h,eE,List.length_take,Nat.min_eq_left (by omega)]
theorem aYH {b:Int} (hb:1<b) {l:List Int} (ho:ok b l) (h:∀ h:l≠[],b ^ (l.length - 1)≤val b l):d0 l:=by
 intro hl hz
 have e:=List.dropLast_concat_getLast hl
 have h1:val b l=val b l.dropLast+b ^ l.dropLast.length * l.getLast hl:=by rw [← eE,e]
 rw [hz] at h1
 have ho' : ok b l.dropLast:=fun x hx=>ho x ((List.dropLast_sublist l).subset hx)
 have h2:=dN (by omega) ho'
 have h3:=h hl
 rw [List.length_dropLast] at h2
 rw [Int.mul_zero] at h1
 omega
def cmpI (a b:Int):Int:=if a<b then -1 else if a > b then 1 else 0
theorem aK4 {l r:List Int} (j:Nat) (hj:j<l.length) (hl:l.length=r.length) (h1:ok BB l) (h2:ok BB r) (hd:l.drop (j+1)=r.drop (j+1)) (hlt:rd l (j:Int)<rd r (j:Int)):val BB l<val BB r:=by
 rw [aDJ l j hj,aDJ r j (by omega),hd]
 have a1:=dN (b:=BB) (by decide) (oF h1 j)
 have a2:=cW (b:=BB) (by decide) (oF h2 j)
 rw [List.length_take,Nat.min_eq_left (by omega)] at a1
 have hp:0<BB ^ j:=Int.pow_pos (by decide)
 have hm:BB ^ j * ((rd l (j:Int)+BB * val BB (r.drop (j+1)))+1)≤BB ^ j * (rd r (j:Int)+BB * val BB (r.drop (j+1))):=Int.mul_le_mul_of_nonneg_left (by omega) (by omega)
 rw [Int.mul_add (BB ^ j) _ 1,Int.mul_one] at hm
 omega
theorem aYI (l r:List Int) (hl:l.length=r.length) (hn:l.length≤100000000000) (h1:ok BB l) (h2:ok BB r) (n:Nat):n≤l.length→l.drop n=r.drop n →
 Ev (fun k=>nat_N_Cmp.l0 k l r ((n:Int) - 1)) (cmpI (val BB l) (val BB r)):=by
 induction n with
 | zero =>
   intro _ hd
   rw [List.drop_zero,List.drop_zero] at hd
   subst hd
   refine Ev.step (fun k=>nat_N_Cmp.l0.eq_2 _ _ _ k) ?_
   exact Ev.no (by omega) (Ev.now' (by simp [cmpI]))
 | succ n ih =>
   intro hn' hd
   rw [show ((n+1:Nat):Int) - 1=(n:Int) by omega]
   refine Ev.step (fun k=>nat_N_Cmp.l0.eq_2 _ _ _ k) ?_
   refine Ev.yes (by omega) (Ev.yes (by omega) (Ev.yes (by omega) (Ev.yes (by omega) ?_)))
   refine Ev.ite (fun h=>?_) (fun h=>Ev.ite (fun h' => ?_) (fun h' => ?_))
   · have:=aK4 n (by omega) hl h1 h2 hd h
     exact Ev.now' (by rw [cmpI,if_pos this])
   · have:=aK4 n (by omega) hl.symm h2 h1 hd.symm h'
     exact Ev.now' (by rw [cmpI,if_neg (by omega),if_pos (by omega)])
   · rw [w64 (by omega) (by omega)]
     refine ih (by omega) ?_
     rw [eO l n (by omega),eO r n (by omega),hd,show rd l (n:Int)=rd r (n:Int) by omega]
theorem aK5 {l r:List Int} (h1:ok BB l) (h2:ok BB r) (hr:d0 r) (h:l.length<r.length):val BB l<val BB r:=by
 have a1:=dN (b:=BB) (by decide) h1
 have hr0:r≠[]:=fun z=>by rw [z] at h; simp at h
 have a2:=hR (b:=BB) (by decide) h2 hr hr0
 have a3:BB ^ l.length≤BB ^ (r.length - 1):=e6 (by decide) (by omega)
 omega
theorem aK6 {l r:List Int} (hn:l.length≤100000000000) (h1:ok BB l) (h2:ok BB r) (t1:d0 l) (t2:d0 r) :
 Ev (fun k=>nat_N_Cmp.f k l r) (cmpI (val BB l) (val BB r)):=by
 unfold nat_N_Cmp.f
 refine Ev.ite (fun h=>?_) (fun h=>Ev.ite (fun h' => Ev.now' ?_) (fun h' => Ev.now' ?_))
 · rw [w64 (by omega) (by omega)]
   exact aYI l r (by omega) hn h1 h2 l.length (Nat.le_refl _) (by rw [List.drop_length,List.drop_of_length_le (by omega)])
 · rw [cmpI,if_pos (aK5 h1 h2 t2 (by omega))]
 · have:=aK5 h2 h1 t1 (by omega)
   rw [cmpI,if_neg (by omega),if_pos (by omega)]
theorem aYJ (m:Int) (h0:0≤m) (h1:m≤10000000000000):gp_make0_63.f m=some []:=by
 unfold gp_make0_63.f
 rw [if_pos ⟨h0,by omega⟩]
theorem xM {b:Int} (l:List Int) (j:Nat) (h:l.length≤j):val b (l.take (j+1))=val b (l.take j):=by
 rw [List.take_of_length_le (by omega),List.take_of_length_le h]
theorem aYK (a b:List Int) (hlen:b.length≤a.length) (hn:a.length≤100000000000) (h1:ok BB a) (h2:ok BB b) (t1:d0 a) (d:Nat) :
 ∀ (j:Nat) (out:List Int) (c:Int),j+d=a.length→out.length=j→ok BB out→0≤c→c≤1→val BB out+BB ^ j * c=val BB (a.take j)+val BB (b.take j) →
   ∃ r,Ev (fun k=>nat_N_Add.l0 k b out c a (a.length:Int) (j:Int)) r∧bJ r (val BB a+val BB b)∧r.length≤a.length+1:=by
 induction d with
 | zero =>
   intro j out c hj ho hok hc0 hc1 hv
   rw [show a.take j=a from List.take_of_length_le (by omega),show b.take j=b from List.take_of_length_le (by omega)] at hv
   by_cases hc:c > 0
   · refine ⟨out ++ [c],?_,⟨by rw [eE,ho]; exact hv,?_,?_⟩,by simp; omega⟩
     · refine Ev.step (fun k=>nat_N_Add.l0.eq_2 _ _ _ _ _ _ k) ?_
       exact Ev.no (by omega) (Ev.yes hc (Ev.yes (by omega) (Ev.now _)))
     · rw [jR,fJ]
       exact ⟨hok,⟨hc0,by show c<(1000000000:Int); omega⟩,eC _⟩
     · intro h
       rw [List.getLast_append_right (by simp)]
       simp; omega
   · have hz:c=0:=by omega
     rw [hz,Int.mul_zero,Int.add_zero] at hv
     refine ⟨out,?_,⟨hv,hok,?_⟩,by omega⟩
     · refine Ev.step (fun k=>nat_N_Add.l0.eq_2 _ _ _ _ _ _ k) ?_
       exact Ev.no (by omega) (Ev.no hc (Ev.now _))
     · refine aYH (by decide) hok (fun hne=>?_)
       have ha0:a≠[]:=fun z=>hne (List.eq_nil_of_length_eq_zero (by rw [z] at hj; simp at hj; omega))
       have g1:=hR (b:=BB) (by decide) h1 t1 ha0
       have g2:=cW (b:=BB) (by decide) h2
       rw [ho,show j=a.length by omega]
       omega
 | succ d ih =>
   intro j out c hj ho hok hc0 hc1 hv
   have hx:=cT h1 j (by omega)
   have hB:BB=1000000000:=rfl
   rw [hB] at hx
   have go:∀ s:Int,0≤s→s<2000000000→s+BB ^ j * 0=s→val BB out+BB ^ j * s=val BB (a.take (j+1))+val BB (b.take (j+1)) →
        ∃ r,Ev (fun k=>nat_N_Add.l0 k b (out ++ [s % 1000000000]) (s / 1000000000) a (a.length:Int) (wrap64 ((j:Int)+1))) r∧bJ r (val BB a+val BB b)∧r.length≤a.length+1:=by
    intro s hs0 hs1 _ hs
    rw [dZ (by omega)]
    refine ih (j+1) _ _ (by omega) (by simp; omega) ?_ (by omega) (by omega) ?_
    · rw [jR,fJ]
      exact ⟨hok,⟨by omega,by show _<(1000000000:Int); omega⟩,eC _⟩
    · rw [eE,ho,← hs,Int.add_assoc,Int.pow_succ,Int.mul_assoc,← Int.mul_add]
      congr 2
      show s % 1000000000+1000000000 * (s / 1000000000)=s
      omega
   by_cases hb:j<b.length
   · have hy:=cT h2 j hb
     rw [hB] at hy
     have e:(rd a (j:Int)+c+rd b (j:Int)) % 4294967296=rd a (j:Int)+c+rd b (j:Int):=by omega
     obtain ⟨r,q1,q2,q3⟩:=go (rd a (j:Int)+c+rd b (j:Int)) (by omega) (by omega) (by simp) (by
        rw [i5 a j (by omega),i5 b j hb,Int.mul_add,Int.mul_add]; omega)
     refine ⟨r,?_,q2,q3⟩
     refine Ev.step (fun k=>nat_N_Add.l0.eq_2 _ _ _ _ _ _ k) ?_
     rw [e]
     exact Ev.yes (by omega) (Ev.yes (by omega) (Ev.yes (by omega) (Ev.yes (by omega) (Ev.yes (by omega) q1))))
   · have e:(rd a (j:Int)+c) % 4294967296=rd a (j:Int)+c:=by omega
     obtain ⟨r,q1,q2,q3⟩:=go (rd a (j:Int)+c) (by omega) (by omega) (by simp) (by
        rw [i5 a j (by omega),xM b j (by omega),Int.mul_add]; omega)
     refine ⟨r,?_,q2,q3⟩
     refine Ev.step (fun k=>nat_N_Add.l0.eq_2 _ _ _ _ _ _ k) ?_
     rw [e]
     exact Ev.yes (by omega) (Ev.yes (by omega) (Ev.yes (by omega) (Ev.no (by omega) (Ev.yes (by omega) q1))))
theorem aK7 (a b:List Int) (hlen:b.length≤a.length) (hn:a.length≤100000000000) (h1:ok BB a) (h2:ok BB b) (t1:d0 a) :
 ∃ r,Ev (fun k=>nat_N_Add.j0 k a b) r∧bJ r (val BB a+val BB b)∧r.length≤a.length+1:=by
 obtain ⟨r,q1,q2,q3⟩:=aYK a b hlen hn h1 h2 t1 a.length 0 [] 0 (by omega) rfl (eC _) (by omega) (by omega) (by simp [val])
 refine ⟨r,?_,q2,q3⟩
 refine Ev.step (fun k=>nat_N_Add.j0.eq_2 _ _ k) ?_
 rw [dZ (by omega)]
 exact Ev.opt_bind (aYJ _ (by omega) (by omega)) q1
theorem aYL {a b:List Int} (hn:a.length≤100000000000) (hm:b.length≤100000000000) (h1:ok BB a) (h2:ok BB b) (t1:d0 a) (t2:d0 b) :
 ∃ r,Ev (fun k=>nat_N_Add.f k a b) r∧bJ r (val BB a+val BB b)∧r.length≤a.length+b.length+1:=by
 unfold nat_N_Add.f
 by_cases h:(a.length:Int)<(b.length:Int)
 · obtain ⟨r,q1,q2,q3⟩:=aK7 b a (by omega) hm h2 h1 t2
   refine ⟨r,Ev.yes h q1,?_,by omega⟩
   rw [Int.add_comm]; exact q2
 · obtain ⟨r,q1,q2,q3⟩:=aK7 a b (by omega) hn h1 h2 t1
   exact ⟨r,Ev.no h q1,q2,by omega⟩
end
section
theorem aK8 (l:List Int) (j:Nat) (v:Int) (h:j<l.length):(l.set j v).take (j+1)=l.take j ++ [v]:=by
 rw [rW _ j (by simpa using h),g7 _ j (by simpa using h),List.getElem_set_self,List.take_set_of_le (Nat.le_refl _)]
theorem aYM (a b:List Int) (hlen:b.length≤a.length) (hn:a.length≤100000000000) (h1:ok BB a) (h2:ok BB b) (hge:val BB b≤val BB a) (d:Nat) :
 ∀ (j:Nat) (out:List Int) (c:Int),j+d=a.length→out.length=a.length→ok BB (out.take j)→0≤c→c≤1→val BB (out.take j) - BB ^ j * c=val BB (a.take j) - val BB (b.take j) →
   ∃ r,Ev (fun k=>nat_N_Sub.l0 k a b out c (a.length:Int) (j:Int)) r∧bJ r (val BB a - val BB b)∧r.length≤a.length:=by
 induction d with
 | zero =>
   intro j out c hj ho hok hc0 hc1 hv
   rw [show a.take j=a from List.take_of_length_le (by omega),show b.take j=b from List.take_of_length_le (by omega),show out.take j=out from List.take_of_length_le (by omega)] at hv
   rw [show out.take j=out from List.take_of_length_le (by omega)] at hok
   have hlt:=dN (b:=BB) (by decide) hok
   rw [ho,show a.length=j by omega] at hlt
   have hc:c=0:=by
    by_cases h:c=0
    · exact h
    · rw [show c=1 by omega,Int.mul_one] at hv
      omega
   rw [hc,Int.mul_zero,Int.sub_zero] at hv
   obtain ⟨r,q1,q2,q3,q4,q5⟩:=lQ out (by omega) hok
   refine ⟨r,?_,⟨by rw [q2,hv],q3,q4⟩,by omega⟩
   refine Ev.step (fun k=>nat_N_Sub.l0.eq_2 _ _ _ _ _ _ k) ?_
   exact Ev.no (by omega) (Ev.bind1 q1 (Ev.now _))
 | succ d ih =>
   intro j out c hj ho hok hc0 hc1 hv
   have hx:=cT h1 j (by omega)
   have hB:BB=1000000000:=rfl
   rw [hB] at hx
   have ew:∀ z:Int, -5000000000≤z→z≤5000000000→wrap64 z=z:=fun z _ _=>w64 (by omega) (by omega)
   have go:∀ (v c' : Int),0≤v→v<1000000000→0≤c' → c' ≤ 1→val BB (out.take j)+BB ^ j * (v - 1000000000 * c')=val BB (a.take (j+1)) - val BB (b.take (j+1)) →
        ∃ r,Ev (fun k=>nat_N_Sub.l0 k a b (out.set j v) c' (a.length:Int) (wrap64 ((j:Int)+1))) r∧bJ r (val BB a - val BB b)∧r.length≤a.length:=by
    intro v c' hv0 hv1 hc'0 hc'1 hs
    rw [dZ (by omega)]
    refine ih (j+1) _ _ (by omega) (by simp; omega) ?_ hc'0 hc'1 ?_
    · rw [aK8 _ _ _ (by omega),jR,fJ]
      exact ⟨hok,⟨hv0,by show _<(1000000000:Int); omega⟩,eC _⟩
    · rw [aK8 _ _ _ (by omega),eE,List.length_take,Nat.min_eq_left (by omega),← hs,Int.pow_succ,Int.mul_assoc,Int.add_sub_assoc,← Int.mul_sub]
   by_cases hb:j<b.length
   · have hy:=cT h2 j hb
     rw [hB] at hy
     have e1:wrap64 (wrap64 (wrap64 (rd a (j:Int)) - c) - wrap64 (rd b (j:Int)))=rd a (j:Int) - c - rd b (j:Int):=by
        rw [ew (rd a (j:Int)) (by omega) (by omega),ew (rd b (j:Int)) (by omega) (by omega),ew (rd a (j:Int) - c) (by omega) (by omega),ew _ (by omega) (by omega)]
     have e3:wrap64 (rd a (j:Int) - c - rd b (j:Int)+1000000000)=rd a (j:Int) - c - rd b (j:Int)+1000000000:=ew _ (by omega) (by omega)
     by_cases hneg:rd a (j:Int) - c - rd b (j:Int)<0
     · obtain ⟨r,q1,q2,q3⟩:=go ((rd a (j:Int) - c - rd b (j:Int)+1000000000) % 4294967296) 1 (by omega) (by omega) (by omega) (by omega) (by
        rw [show (rd a (j:Int) - c - rd b (j:Int)+1000000000) % 4294967296 - 1000000000 * 1=rd a (j:Int) - c - rd b (j:Int) by omega,i5 a j (by omega),i5 b j hb,Int.mul_sub,Int.mul_sub]; omega)
       refine ⟨r,?_,q2,q3⟩
       refine Ev.step (fun k=>nat_N_Sub.l0.eq_2 _ _ _ _ _ _ k) ?_
       rw [e1,e3]
       refine Ev.yes (by omega) (Ev.yes (by omega) (Ev.yes (by omega) (Ev.yes (by omega) (Ev.yes hneg (Ev.yes (by omega) ?_)))))
       rw [Int.toNat_natCast]
       exact q1
     · obtain ⟨r,q1,q2,q3⟩:=go ((rd a (j:Int) - c - rd b (j:Int)) % 4294967296) 0 (by omega) (by omega) (by omega) (by omega) (by
        rw [show (rd a (j:Int) - c - rd b (j:Int)) % 4294967296 - 1000000000 * 0=rd a (j:Int) - c - rd b (j:Int) by omega,i5 a j (by omega),i5 b j hb,Int.mul_sub,Int.mul_sub]; omega)
       refine ⟨r,?_,q2,q3⟩
       refine Ev.step (fun k=>nat_N_Sub.l0.eq_2 _ _ _ _ _ _ k) ?_
       rw [e1]
       refine Ev.yes (by omega) (Ev.yes (by omega) (Ev.yes (by omega) (Ev.yes (by omega) (Ev.no hneg (Ev.yes (by omega) ?_)))))
       rw [Int.toNat_natCast]
       exact q1
   · have e1:wrap64 (wrap64 (rd a (j:Int)) - c)=rd a (j:Int) - c:=by
        rw [ew (rd a (j:Int)) (by omega) (by omega),ew _ (by omega) (by omega)]
     have e3:wrap64 (rd a (j:Int) - c+1000000000)=rd a (j:Int) - c+1000000000:=ew _ (by omega) (by omega)
     by_cases hneg:rd a (j:Int) - c<0
     · obtain ⟨r,q1,q2,q3⟩:=go ((rd a (j:Int) - c+1000000000) % 4294967296) 1 (by omega) (by omega) (by omega) (by omega) (by
        rw [show (rd a (j:Int) - c+1000000000) % 4294967296 - 1000000000 * 1=rd a (j:Int) - c by omega,i5 a j (by omega),xM b j (by omega),Int.mul_sub]; omega)
       refine ⟨r,?_,q2,q3⟩
       refine Ev.step (fun k=>nat_N_Sub.l0.eq_2 _ _ _ _ _ _ k) ?_
       rw [e1,e3]
       refine Ev.yes (by omega) (Ev.yes (by omega) (Ev.yes (by omega) (Ev.no (by omega) (Ev.yes hneg (Ev.yes (by omega) ?_)))))
       rw [Int.toNat_natCast]
       exact q1
     · obtain ⟨r,q1,q2,q3⟩:=go ((rd a (j:Int) - c) % 4294967296) 0 (by omega) (by omega) (by omega) (by omega) (by
        rw [show (rd a (j:Int) - c) % 4294967296 - 1000000000 * 0=rd a (j:Int) - c by omega,i5 a j (by omega),xM b j (by omega),Int.mul_sub]; omega)
       refine ⟨r,?_,q2,q3⟩
       refine Ev.step (fun k=>nat_N_Sub.l0.eq_2 _ _ _ _ _ _ k) ?_
       rw [e1]
       refine Ev.yes (by omega) (Ev.yes (by omega) (Ev.yes (by omega) (Ev.no (by omega) (Ev.no hneg (Ev.yes (by omega) ?_)))))
       rw [Int.toNat_natCast]
       exact q1
theorem aYN {a b:List Int} (hn:a.length≤100000000000) (h1:ok BB a) (h2:ok BB b) (t2:d0 b) (hge:val BB b≤val BB a) :
 ∃ r,Ev (fun k=>nat_N_Sub.f k a b) r∧bJ r (val BB a - val BB b)∧r.length≤a.length:=by
 have hlen:=xL (b:=BB) (by decide) h2 t2 h1 hge
 obtain ⟨r,q1,q2,q3⟩:=aYM a b hlen hn h1 h2 hge a.length 0 (List.replicate a.length 0) 0 (by omega) (by simp) (eC _) (by omega) (by omega) (by simp [val])
 refine ⟨r,?_,q2,q3⟩
 unfold nat_N_Sub.f
 exact Ev.yes (by omega) (Ev.yes (by omega) (by rw [Int.toNat_natCast]; exact q1))
end
section
theorem i6 (c:Int) (l:List Int):aJ (c :: l)=aJ l ++ [c - 48]:=by simp [aJ]
def aW (s:ByteArray) (v:Int):Prop:=asc (bytesOf s)∧val 10 (aJ (bytesOf s))=v∧0<s.size∧(1<s.size→rd (bytesOf s) 0≠48)
theorem lR {l:List Int} (h:rd l 0≠48):d0 (aJ l):=by
 cases l with
 | nil=>exact oE
 | cons c r =>
   intro hne
   have:(aJ (c :: r)).getLast hne=c - 48:=by simp [i6]
   rw [this]
   simp [rd] at h
   omega
theorem aK9 {s t:ByteArray} (h:bytesOf s=bytesOf t):s.toList=t.toList:=by
 rw [ByteArray.toList_eq,ByteArray.toList_eq]
 unfold bytesOf at h
 exact (List.map_inj_right (fun a b e=>by
  have:a.toNat=b.toNat:=by omega
  exact UInt8.toNat_inj.1 this)).1 h
theorem aLA {l r:List Int} (h:aJ l=aJ r):l=r:=by
 unfold aJ at h
 have h1:=List.reverse_inj.1 h
 exact (List.map_inj_right (fun a b e=>by omega)).1 h1
theorem aLB {s:ByteArray} {v:Int} (h:aW s v) (h1:1<s.size):10≤v:=by
 obtain ⟨ha,hv,h0,hl⟩:=h
 have hne:aJ (bytesOf s)≠[]:=fun z=>by
  have:=congrArg List.length z
  rw [b7,bB,List.length_nil] at this
  omega
 have:=hR (b:=10) (by decide) (bU ha) (lR (hl h1)) hne
 rw [b7,bB,hv] at this
 have h2:(10:Int) ^ 1≤10 ^ (s.size - 1):=e6 (by decide) (by omega)
 rw [Int.pow_one] at h2
 omega
theorem aLC {s:ByteArray} {v:Int} (h:aW s v) (h1:¬ 1<s.size):v<10:=by
 obtain ⟨ha,hv,h0,hl⟩:=h
 have:=dN (b:=10) (by decide) (bU ha)
 rw [b7,bB,hv,show s.size=1 by omega,Int.pow_one] at this
 exact this
theorem aDK {s t:ByteArray} {v:Int} (h:aW s v) (h' : aW t v):s.toList=t.toList:=by
 refine aK9 (aLA ?_)
 by_cases h1:1<s.size
 · have h2:1<t.size:=by
    by_cases h2:1<t.size
    · exact h2
    · have:=aLB h h1; have:=aLC h' h2; omega
   exact aK0 (b:=10) (by decide) (bU h.1) (lR (h.2.2.2 h1)) (bU h'.1) (lR (h'.2.2.2 h2)) (by rw [h.2.1,h'.2.1])
 · have h2:¬ 1<t.size:=fun h2=>by
    have:=aLB h' h2; have:=aLC h h1; omega
   have a1:=h.2.2.1
   have a2:=h'.2.2.1
   exact xK (b:=10) (by decide) (bU h.1) (bU h'.1) (by rw [b7,b7,bB,bB]; omega) (by rw [h.2.1,h'.2.1])
theorem aDL {l:List Int} (h:asc l):bytesOf (strOfNums l)=l:=by
 unfold bytesOf
 rw [Go.strOfNums_data,List.map_map]
 conv=>rhs; rw [← List.map_id l]
 refine List.map_congr_left (fun c hc=>?_)
 have:=h c hc
 show ((UInt8.ofNat c.toNat).toNat:Int)=c
 rw [UInt8.toNat_ofNat']
 omega
theorem aYO (n:Nat):∀ s:ByteArray,s.size=n→n≤10000000000000→asc (bytesOf s)→0<val 10 (aJ (bytesOf s)) →
 ∃ t,Ev (fun k=>strings_trimLeftByte.l0 k s 48) t∧aW t (val 10 (aJ (bytesOf s)))∧t.size≤s.size:=by
 induction n with
 | zero =>
   intro s hs _ ha hv
   have:bytesOf s=[]:=List.eq_nil_of_length_eq_zero (by rw [bB,hs])
   rw [this] at hv
   simp [aJ,val] at hv
 | succ n ih =>
   intro s hs hn ha hv
   have hl:=bB s
   have hd:=eO (bytesOf s) 0 (by omega)
   rw [List.drop_zero] at hd
   have hb:bt s 0=rd (bytesOf s) 0:=(lN s 0).symm
   by_cases h48:rd (bytesOf s) 0=48
   · have he:bytesOf (s.extract 1 s.size)=(bytesOf s).drop 1:=by
        rw [rV,List.take_of_length_le (by rw [List.length_drop,hl]; exact Nat.le_refl _)]
     have hsz:(s.extract 1 s.size).size=n:=by
        have:=bB (s.extract 1 s.size)
        rw [he,List.length_drop,hl] at this
        omega
     have hval:val 10 (aJ (bytesOf s))=val 10 (aJ (bytesOf (s.extract 1 s.size))):=by
        conv=>lhs; rw [hd]
        rw [he,show ((0:Nat):Int)=0 from rfl,h48,i6,eE]
        simp
     obtain ⟨t,q1,q2,q3⟩:=ih (s.extract 1 s.size) hsz (by omega) (by rw [he]; exact fun c hc=>ha c (List.mem_of_mem_drop hc)) (by rw [← hval]; exact hv)
     refine ⟨t,?_,by rw [hval]; exact q2,by omega⟩
     refine Ev.step (fun k=>strings_trimLeftByte.l0.eq_2 _ _ k) ?_
     exact Ev.yes (by omega) (Ev.yes (by omega) (Ev.yes (by rw [hb]; exact h48) (Ev.yes (by omega) q1)))
   · refine ⟨s,?_,⟨ha,rfl,by omega,fun _=>h48⟩,Nat.le_refl _⟩
     refine Ev.step (fun k=>strings_trimLeftByte.l0.eq_2 _ _ k) ?_
     exact Ev.yes (by omega) (Ev.yes (by omega) (Ev.no (by rw [hb]; exact h48) (Ev.now _)))
theorem aYP (s:ByteArray) (hn:s.size≤10000000000000) (ha:asc (bytesOf s)) (hv:0<val 10 (aJ (bytesOf s))) :
 ∃ t,Ev (fun k=>strings_TrimLeft.f k s (⟨#[48]⟩:ByteArray)) t∧aW t (val 10 (aJ (bytesOf s)))∧t.size≤s.size:=by
 obtain ⟨t,q1,q2,q3⟩:=aYO s.size s rfl hn ha hv
 refine ⟨t,?_,q2,q3⟩
 have hne:¬ s.toList=([]:List UInt8):=fun z=>by
  have h0:=(rT s).1 z
  have:bytesOf s=[]:=List.eq_nil_of_length_eq_zero (by rw [bB,h0])
  rw [this] at hv
  simp [aJ,val] at hv
 unfold strings_TrimLeft.f
 refine Ev.no hne ?_
 rw [show ((⟨#[48]⟩:ByteArray).toList == ([]:List UInt8))=false by decide +kernel]
 refine Ev.step (fun k=>strings_TrimLeft.j0.eq_2 _ _ _ k) ?_
 refine Ev.no (by simp) (Ev.yes (by decide +kernel) (Ev.yes (by decide +kernel) ?_))
 rw [show decide (bt (⟨#[48]⟩:ByteArray) 0<128)=true by decide +kernel]
 refine Ev.step (fun k=>strings_TrimLeft.j1.eq_2 _ _ _ k) ?_
 refine Ev.yes rfl (Ev.yes (by decide +kernel) ?_)
 rw [show bt (⟨#[48]⟩:ByteArray) 0=48 by decide +kernel]
 exact Ev.bind1 q1 (Ev.now _)
theorem rX (l:List Int) (j:Nat) (v:Int) (h:j<l.length):(l.set j v).drop j=v :: l.drop (j+1):=by
 rw [eO _ j (by simpa using h),g7 _ j (by simpa using h),List.getElem_set_self,List.drop_set_of_lt (by omega)]
theorem fO {c:Int} {l:List Int} (h:48≤c∧c≤57) (h' : asc l):asc (c :: l):=by
 intro x hx
 rcases List.mem_cons.1 hx with rfl | hx
 · exact h
 · exact h' x hx
theorem xN {l r:List Int} (h:asc l) (h' : asc r):asc (l ++ r):=by
 intro x hx
 rcases List.mem_append.1 hx with hx | hx
 · exact h x hx
 · exact h' x hx
theorem aYQ (x0 x3:List Int) (x4:Int) (h3:x3.length≤1000000000000) (w:Int) (hw1:w<1000000000) {r:ByteArray}
 (next:∀ p:List Int,p.length=9→asc p→val 10 (aJ p)=w→Ev (fun k=>nat_N_Text.l0 k x0 (x3 ++ p) (wrap64 (x4 - 1))) r) (j:Nat) :
 ∀ (p:List Int) (x:Int),j≤9→p.length=9→0≤x→x<1000000000→asc (p.drop j)→val 10 (aJ (p.drop j))+10 ^ (9 - j) * x=w →
   Ev (fun k=>nat_N_Text.l1 k x0 x3 x4 x p ((j:Int) - 1)) r:=by
 induction j with
 | zero =>
   intro p x hj hp hx0 hx1 ha hv
   rw [List.drop_zero] at ha hv
   have h0:=cW (b:=10) (by decide) (bU ha)
   have hp9:(10:Int) ^ (9 - 0)=1000000000:=by decide
   rw [hp9] at hv
   refine Ev.step (fun k=>nat_N_Text.l1.eq_2 _ _ _ _ _ _ k) ?_
   exact Ev.no (by omega) (Ev.yes (by omega) (next p hp ha (by omega)))
 | succ j ih =>
   intro p x hj hp hx0 hx1 ha hv
   rw [show ((j+1:Nat):Int) - 1=(j:Int) by omega]
   refine Ev.step (fun k=>nat_N_Text.l1.eq_2 _ _ _ _ _ _ k) ?_
   refine Ev.yes (by omega) (Ev.yes (by omega) (Ev.yes (by omega) ?_))
   have e1:Int.tdiv x 10 % 4294967296=x / 10:=by rw [Int.tdiv_eq_ediv_of_nonneg hx0]; omega
   have e2:(48+Int.tmod x 10) % 256=48+x % 10:=by rw [Int.tmod_eq_emod_of_nonneg hx0]; omega
   rw [e1,e2,Int.toNat_natCast,w64 (by omega) (by omega)]
   refine ih _ _ (by omega) (by simpa using hp) (by omega) (by omega) ?_ ?_
   · rw [rX _ _ _ (by omega)]
     exact fO (by omega) ha
   · rw [rX _ _ _ (by omega),i6,eE,b7,List.length_drop,hp,← hv,Int.add_assoc,show 9 - (j+1)=8 - j by omega,show 9 - j=(8 - j)+1 by omega,Int.pow_succ,Int.mul_assoc,← Int.mul_add]
     congr 2
     omega
theorem aYR (l:List Int) (hl:l.length≤10000000000) (ho:ok BB l) (hv:0<val BB l) (n:Nat) :
 ∀ x3:List Int,n≤l.length→asc x3→x3.length=9 * (l.length - n)→val 10 (aJ x3)=val BB (l.drop n) →
   ∃ t,Ev (fun k=>nat_N_Text.l0 k l x3 ((n:Int) - 1)) t∧aW t (val BB l)∧t.size≤9 * l.length:=by
 induction n with
 | zero =>
   intro x3 hn ha hx hv3
   rw [List.drop_zero] at hv3
   have hb:=aDL ha
   have hsz:(strOfNums x3).size=x3.length:=by rw [← bB,hb]
   obtain ⟨t,q1,q2,q3⟩:=aYP (strOfNums x3) (by omega) (by rw [hb]; exact ha) (by rw [hb,hv3]; exact hv)
   rw [hb,hv3] at q2
   refine ⟨t,?_,q2,by omega⟩
   refine Ev.step (fun k=>nat_N_Text.l0.eq_2 _ _ _ k) ?_
   exact Ev.no (by omega) (Ev.bind1 q1 (Ev.now _))
 | succ n ih =>
   intro x3 hn ha hx hv3
   have hr:=cT ho n (by omega)
   have hr1:rd l (n:Int)<1000000000:=hr.2
   -- the part of this limb: first its digits exist (the loop tells them), so the rest is stated for lJ part
   have hpart:∃ p:List Int,p.length=9∧asc p∧val 10 (aJ p)=rd l (n:Int):=by
    have go:∀ (m:Nat) (v:Int),0≤v→v<10 ^ m→∃ p:List Int,p.length=m∧asc p∧val 10 (aJ p)=v:=by
        intro m
        induction m with
        | zero=>intro v h0 h1; exact ⟨[],rfl,fun c hc=>by simp at hc,by simp [aJ,val]; simp at h1; omega⟩
        | succ m im =>
          intro v h0 h1
          rw [Int.pow_succ] at h1
          obtain ⟨p,p1,p2,p3⟩:=im (v / 10) (by omega) (by omega)
          refine ⟨p ++ [48+v % 10],by simp; omega,xN p2 (fO (by omega) (fun c hc=>by simp at hc)),?_⟩
          rw [rU]
          simp only [val]
          omega
    exact go 9 _ hr.1 (by rw [show (10:Int) ^ 9=1000000000 by decide]; exact hr1)
   obtain ⟨p,p1,p2,p3⟩:=hpart
   obtain ⟨t,q1,q2,q3⟩:=ih (x3 ++ p) (by omega) (xN ha p2) (by simp; omega) (by
    rw [aK2,i4,b7,p1,p3,hv3,eO l n (by omega),show (10:Int) ^ 9=BB by decide]
    rfl)
   refine ⟨t,?_,q2,q3⟩
   rw [show ((n+1:Nat):Int) - 1=(n:Int) by omega]
   refine Ev.step (fun k=>nat_N_Text.l0.eq_2 _ _ _ k) ?_
   refine Ev.yes (by omega) (Ev.yes (by omega) (Ev.yes (by omega) (Ev.yes (by omega) ?_)))
   refine aYQ l x3 (n:Int) (by omega) (rd l (n:Int)) hr1 ?_ 9 (List.replicate 9 0) (rd l (n:Int)) (by omega) (by simp) hr.1 hr1 ?_ ?_
   · intro p' p1' p2' p3'
     have:p' = p:=aLA (xK (b:=10) (by decide) (bU p2') (bU p2) (by rw [b7,b7]; omega) (by rw [p3,p3']))
     rw [this,w64 (by omega) (by omega)]
     exact q1
   · intro c hc
     simp at hc
   · simp [aJ,val]
theorem aYS (m:Int) (h0:0≤m) (h1:m≤10000000000000):gp_make0_61.f m=some []:=by
 unfold gp_make0_61.f
 rw [if_pos ⟨h0,by omega⟩]
theorem aLD {l:List Int} {v:Int} (h:bJ l v) (hl:l.length≤10000000000):∃ t,Ev (fun k=>nat_N_Text.f k l) t∧aW t v∧t.size≤9 * l.length+1:=by
 obtain ⟨hv,ho,ht⟩:=h
 unfold nat_N_Text.f
 by_cases h0:(l.length:Int)=0
 · have hnil:l=[]:=List.eq_nil_of_length_eq_zero (by omega)
   refine ⟨⟨#[48]⟩,Ev.yes h0 (Ev.now _),?_,by show 1≤_; omega⟩
   subst hnil
   rw [← hv]
   exact ⟨fun c hc=>by
    have:bytesOf (⟨#[48]⟩:ByteArray)=[48]:=by decide +kernel
    rw [this] at hc; simp at hc; omega,by decide +kernel,by decide +kernel,fun h=>absurd h (by decide +kernel)⟩
 · have hne:l≠[]:=fun z=>h0 (by rw [z]; rfl)
   have hge:=hR (b:=BB) (by decide) ho ht hne
   have hp:0<BB ^ (l.length - 1):=Int.pow_pos (by decide)
   obtain ⟨t,q1,q2,q3⟩:=aYR l hl ho (by omega) l.length [] (Nat.le_refl _) (fun c hc=>by simp at hc) (by simp) (by rw [List.drop_length]; simp [aJ,val])
   rw [hv] at q2
   refine ⟨t,Ev.no h0 ?_,q2,by omega⟩
   rw [w64 (by omega) (by omega),w64 (by omega) (by omega)]
   exact Ev.opt_bind (aYS _ (by omega) (by omega)) q1
end
section
theorem aYT (l:List Int) (k:Nat) (h:k<l.length):rd (aJ l) (k:Int)=rd l ((l.length - 1 - k:Nat):Int) - 48:=by
 rw [g7 _ k (by rw [b7]; exact h),g7 _ _ (by omega)]
 unfold aJ
 rw [List.getElem_reverse,List.getElem_map]
 simp
theorem gN (l:List Int) (k:Nat) (h:l.length≤k):rd l (k:Int)=0:=by
 unfold rd
 rw [Int.toNat_natCast,List.getD_eq_getElem?_getD,List.getElem?_eq_none h]
 rfl
theorem kG (s:ByteArray) (ha:asc (bytesOf s)) (hs:s.size≤100000000000) (k:Nat) (hk:k≤100000000000000):gamehallref2_digit.f s (k:Int)=some (rd (aJ (bytesOf s)) (k:Int)):=by
 have hl:=bB s
 unfold gamehallref2_digit.f
 by_cases h:(k:Int)<(s.size:Int)
 · rw [if_pos h,w64 (i:=(s.size:Int) - 1) (by omega) (by omega),w64 (by omega) (by omega),if_pos (by omega),if_pos (by omega),aYT _ _ (by omega),← lN,
    show (s.size:Int) - 1 - (k:Int)=(((bytesOf s).length - 1 - k:Nat):Int) by omega]
   have:=ha _ (xJ (bytesOf s) ((bytesOf s).length - 1 - k) (by omega))
   congr 1
   omega
 · rw [if_neg h,gN _ _ (by rw [b7,hl]; omega)]
theorem aYU (n:Nat):∀ s:ByteArray,s.size=n+1→n≤10000000000000→asc (bytesOf s) →
 ∃ t,Ev (fun k=>gamehallref2_strip.l0 k s) t∧aW t (val 10 (aJ (bytesOf s)))∧t.size≤s.size:=by
 induction n with
 | zero =>
   intro s hs _ ha
   refine ⟨s,?_,⟨ha,rfl,by omega,fun h=>by omega⟩,Nat.le_refl _⟩
   refine Ev.step (fun k=>gamehallref2_strip.l0.eq_2 _ k) ?_
   exact Ev.no (by omega) (Ev.now _)
 | succ n ih =>
   intro s hs hn ha
   have hl:=bB s
   have hd:=eO (bytesOf s) 0 (by omega)
   rw [List.drop_zero] at hd
   have hb:bt s 0=rd (bytesOf s) 0:=(lN s 0).symm
   by_cases h48:rd (bytesOf s) 0=48
   · have he:bytesOf (s.extract 1 s.size)=(bytesOf s).drop 1:=by
        rw [rV,List.take_of_length_le (by rw [List.length_drop,hl]; exact Nat.le_refl _)]
     have hsz:(s.extract 1 s.size).size=n+1:=by
        have:=bB (s.extract 1 s.size)
        rw [he,List.length_drop,hl] at this
        omega
     have hval:val 10 (aJ (bytesOf s))=val 10 (aJ (bytesOf (s.extract 1 s.size))):=by
        conv=>lhs; rw [hd]
        rw [he,show ((0:Nat):Int)=0 from rfl,h48,i6,eE]
        simp
     obtain ⟨t,q1,q2,q3⟩:=ih (s.extract 1 s.size) hsz (by omega) (by rw [he]; exact fun c hc=>ha c (List.mem_of_mem_drop hc))
     refine ⟨t,?_,by rw [hval]; exact q2,by omega⟩
     refine Ev.step (fun k=>gamehallref2_strip.l0.eq_2 _ k) ?_
     exact Ev.yes (by omega) (Ev.yes (by omega) (Ev.yes (by rw [hb]; exact h48) (Ev.yes (by omega) q1)))
   · refine ⟨s,?_,⟨ha,rfl,by omega,fun _=>h48⟩,Nat.le_refl _⟩
     refine Ev.step (fun k=>gamehallref2_strip.l0.eq_2 _ k) ?_
     exact Ev.yes (by omega) (Ev.yes (by omega) (Ev.no (by rw [hb]; exact h48) (Ev.now _)))
theorem aDM (s:ByteArray) (h0:0<s.size) (hn:s.size≤10000000000000) (ha:asc (bytesOf s)) :
 ∃ t,Ev (fun k=>gamehallref2_strip.f k s) t∧aW t (val 10 (aJ (bytesOf s)))∧t.size≤s.size:=aYU (s.size - 1) s (by omega) (by omega) ha
theorem kH (a b:ByteArray):bytesOf (a ++ b)=bytesOf a ++ bytesOf b:=by
 unfold bytesOf
 rw [show (a ++ b).data=a.data ++ b.data from ByteArray.data_append,Array.toList_append,List.map_append]
theorem aYV (l:List Int) (hl:l.length≤100000000000) (ho:ok 10 l) (d:Nat) :
 ∀ (j:Nat) (x:List Int),j+d=l.length→x.length=l.length→asc (x.drop (l.length - j))→aJ (x.drop (l.length - j))=l.take j →
   ∃ t,Ev (fun k=>gamehallref2_text.l0 k l x l (l.length:Int) (j:Int)) t∧aW t (val 10 l)∧t.size≤l.length+1:=by
 induction d with
 | zero =>
   intro j x hj hx ha hd
   rw [show l.length - j=0 by omega,List.drop_zero] at ha hd
   rw [show l.take j=l from List.take_of_length_le (by omega)] at hd
   have hb:=aDL ha
   have hz:bytesOf (⟨#[48]⟩:ByteArray)=[48]:=by decide +kernel
   have hbb:bytesOf ((⟨#[48]⟩:ByteArray) ++ strOfNums x)=48 :: x:=by rw [kH,hz,hb]; rfl
   have hsz:((⟨#[48]⟩:ByteArray) ++ strOfNums x).size=l.length+1:=by rw [← bB,hbb,List.length_cons,hx]
   have hsz' : (strOfNums x).size=l.length:=by rw [← bB,hb,hx]
   obtain ⟨t,q1,q2,q3⟩:=aDM ((⟨#[48]⟩:ByteArray) ++ strOfNums x) (by omega) (by omega) (by rw [hbb]; exact fO (by omega) ha)
   have hv:val 10 (aJ (bytesOf ((⟨#[48]⟩:ByteArray) ++ strOfNums x)))=val 10 l:=by
    rw [hbb,i6,hd,eE]; simp
   rw [hv] at q2
   refine ⟨t,?_,q2,by omega⟩
   refine Ev.step (fun k=>gamehallref2_text.l0.eq_2 _ _ _ _ _ k) ?_
   exact Ev.no (by omega) (Ev.yes (by omega) (Ev.bind1 q1 (Ev.now _)))
 | succ d ih =>
   intro j x hj hx ha hd
   have hr:=cT ho j (by omega)
   obtain ⟨i,hi⟩:∃ i:Nat,i=l.length - 1 - j:=⟨_,rfl⟩
   have e1:wrap64 (wrap64 ((l.length:Int) - 1) - (j:Int))=(i:Int):=by rw [w64 (i:=(l.length:Int) - 1) (by omega) (by omega),w64 (by omega) (by omega)]; omega
   have e2:wrap64 (48+rd l (j:Int)) % 256=48+rd l (j:Int):=by rw [w64 (by omega) (by omega)]; omega
   have hdrop:(x.set i (48+rd l (j:Int))).drop (l.length - (j+1))=(48+rd l (j:Int)) :: x.drop (l.length - j):=by
    rw [show l.length - (j+1)=i by omega,rX _ _ _ (by omega),show i+1=l.length - j by omega]
   obtain ⟨t,q1,q2,q3⟩:=ih (j+1) (x.set i (48+rd l (j:Int))) (by omega) (by simpa using hx)
    (by rw [hdrop]; exact fO (by omega) ha) (by
        rw [hdrop,i6,hd,rW l j (by omega)]
        congr 2
        omega)
   refine ⟨t,?_,q2,q3⟩
   refine Ev.step (fun k=>gamehallref2_text.l0.eq_2 _ _ _ _ _ k) ?_
   rw [e1,e2,dZ (by omega),Int.toNat_natCast]
   exact Ev.yes (by omega) (Ev.yes (by omega) (Ev.yes (by omega) (Ev.yes (by omega) (Ev.yes (by omega) q1))))
theorem aDN (l:List Int) (hl:l.length≤100000000000) (ho:ok 10 l):∃ t,Ev (fun k=>gamehallref2_text.f k l) t∧aW t (val 10 l)∧t.size≤l.length+1:=by
 obtain ⟨t,q1,q2,q3⟩:=aYV l hl ho l.length 0 (List.replicate l.length 0) (by omega) (by simp) (by
  rw [Nat.sub_zero,List.drop_of_length_le (by simp)]; exact fun c hc=>by simp at hc) (by
  rw [Nat.sub_zero,List.drop_of_length_le (by simp)]; rfl)
 refine ⟨t,?_,q2,q3⟩
 unfold gamehallref2_text.f
 exact Ev.yes (by omega) (Ev.yes (by omega) (by rw [Int.toNat_natCast]; exact q1))
theorem xO {b:Int} (l:List Int) (j:Nat):val b (l.take (j+1))=val b (l.take j)+b ^ j * rd l (j:Int):=by
 by_cases h:j<l.length
 · exact i5 l j h
 · rw [xM l j (by omega),gN l j (by omega)]; simp
theorem lS {b:Int} {l:List Int} (hb:0<b) (h:ok b l) (j:Nat):0≤rd l (j:Int)∧rd l (j:Int)<b:=by
 by_cases hj:j<l.length
 · exact cT h j hj
 · rw [gN l j (by omega)]; omega
theorem aYW (a b:ByteArray) (ha:asc (bytesOf a)) (hb:asc (bytesOf b)) (hsa:a.size≤10000000000) (hsb:b.size≤10000000000) (d:Nat) :
 ∀ (j:Nat) (out:List Int) (c:Int),j+d=max a.size b.size+1→out.length=j→ok 10 out→0≤c→c≤1→(d=0→c=0) →
   val 10 out+10 ^ j * c=val 10 ((aJ (bytesOf a)).take j)+val 10 ((aJ (bytesOf b)).take j) →
   ∃ t,Ev (fun k=>gamehallref2_NatAdd.l0 k a b out c (j:Int)) t∧aW t (val 10 (aJ (bytesOf a))+val 10 (aJ (bytesOf b)))∧t.size≤10000000010:=by
 have la:(aJ (bytesOf a)).length=a.size:=by rw [b7,bB]
 have lb:(aJ (bytesOf b)).length=b.size:=by rw [b7,bB]
 have fin:∀ (j:Nat) (out:List Int),a.size≤j→b.size≤j→j≤10000000001→out.length=j→ok 10 out→val 10 out+10 ^ j * 0=val 10 ((aJ (bytesOf a)).take j)+val 10 ((aJ (bytesOf b)).take j) →
  ∃ t,Ev (fun k=>gamehallref2_NatAdd.l0 k a b out 0 (j:Int)) t∧aW t (val 10 (aJ (bytesOf a))+val 10 (aJ (bytesOf b)))∧t.size≤10000000010:=by
  intro j out h1 h2 h3 ho hok hv
  rw [List.take_of_length_le (by omega),List.take_of_length_le (by omega),Int.mul_zero,Int.add_zero] at hv
  obtain ⟨t,q1,q2,q3⟩:=aDN out (by omega) hok
  rw [hv] at q2
  refine ⟨t,?_,q2,by omega⟩
  refine Ev.step (fun k=>gamehallref2_NatAdd.l0.eq_2 _ _ _ _ _ k) ?_
  refine Ev.no (by omega) (Ev.no (by omega) ?_)
  refine Ev.step (fun k=>gamehallref2_NatAdd.j1.eq_2 _ _ _ _ _ _ k) ?_
  exact Ev.no (by simp) (Ev.bind1 q1 (Ev.now _))
 induction d with
 | zero =>
   intro j out c hj ho hok hc0 hc1 hz hv
   obtain rfl:=hz rfl
   exact fin j out (by omega) (by omega) (by omega) ho hok hv
 | succ d ih =>
   intro j out c hj ho hok hc0 hc1 hz hv
   have hx:=lS (b:=10) (by decide) (bU ha) j
   have hy:=lS (b:=10) (by decide) (bU hb) j
   obtain ⟨x,hxe⟩:∃ x,x=rd (aJ (bytesOf a)) (j:Int):=⟨_,rfl⟩
   obtain ⟨y,hye⟩:∃ y,y=rd (aJ (bytesOf b)) (j:Int):=⟨_,rfl⟩
   rw [← hxe] at hx
   rw [← hye] at hy
   have onward:∃ t,Ev (fun k=>gamehallref2_NatAdd.j1 k a b out c (j:Int) true) t∧aW t (val 10 (aJ (bytesOf a))+val 10 (aJ (bytesOf b)))∧t.size≤10000000010:=by
    have e1:Int.tmod (wrap64 (wrap64 (x+y)+c)) 10=(x+y+c) % 10:=by
        rw [w64 (i:=x+y) (by omega) (by omega),w64 (by omega) (by omega),Int.tmod_eq_emod_of_nonneg (by omega)]
    have e2:wrap64 (Int.tdiv (wrap64 (wrap64 (x+y)+c)) 10)=(x+y+c) / 10:=by
        rw [w64 (i:=x+y) (by omega) (by omega),w64 (i:=x+y+c) (by omega) (by omega),Int.tdiv_eq_ediv_of_nonneg (by omega),w64 (by omega) (by omega)]
    obtain ⟨t,q1,q2,q3⟩:=ih (j+1) (out ++ [(x+y+c) % 10]) ((x+y+c) / 10) (by omega) (by simp; omega) (by
     rw [jR,fJ]; exact ⟨hok,⟨by omega,by omega⟩,eC _⟩) (by omega) (by omega) (by
     intro hd0
     have:x=0:=by rw [hxe,gN _ _ (by omega)]
     have:y=0:=by rw [hye,gN _ _ (by omega)]
     omega) (by
     rw [eE,ho,xO, xO, ← hxe,← hye,Int.pow_succ,Int.mul_assoc,Int.add_assoc,← Int.mul_add,show (x+y+c) % 10+10 * ((x+y+c) / 10)=x+y+c by omega,Int.mul_add,Int.mul_add]
     omega)
    refine ⟨t,?_,q2,q3⟩
    refine Ev.step (fun k=>gamehallref2_NatAdd.j1.eq_2 _ _ _ _ _ _ k) ?_
    refine Ev.yes rfl (Ev.opt_bind (kG a ha (by omega) j (by omega)) (Ev.opt_bind (kG b hb (by omega) j (by omega)) (Ev.yes (by omega) ?_)))
    rw [← hxe,← hye,e1,e2,dZ (by omega)]
    exact q1
   by_cases h1:(j:Int)<(a.size:Int)
   · obtain ⟨t,q1,q2⟩:=onward
     refine ⟨t,?_,q2⟩
     refine Ev.step (fun k=>gamehallref2_NatAdd.l0.eq_2 _ _ _ _ _ k) ?_
     exact Ev.yes h1 q1
   · by_cases h2:(j:Int)<(b.size:Int)
     · obtain ⟨t,q1,q2⟩:=onward
       refine ⟨t,?_,q2⟩
       refine Ev.step (fun k=>gamehallref2_NatAdd.l0.eq_2 _ _ _ _ _ k) ?_
       exact Ev.no h1 (Ev.yes h2 q1)
     · by_cases hc:c > 0
       · obtain ⟨t,q1,q2⟩:=onward
         refine ⟨t,?_,q2⟩
         refine Ev.step (fun k=>gamehallref2_NatAdd.l0.eq_2 _ _ _ _ _ k) ?_
         refine Ev.no h1 (Ev.no h2 ?_)
         rw [show decide (c > 0)=true by simpa using hc]
         exact q1
       · obtain rfl:c=0:=by omega
         exact fin j out (by omega) (by omega) (by omega) ho hok hv
theorem aYX {a b:ByteArray} {u v:Int} (ha:aW a u) (hb:aW b v) (hsa:a.size≤10000000000) (hsb:b.size≤10000000000) :
 ∃ t,Ev (fun k=>gamehallref2_NatAdd.f k a b) t∧aW t (u+v)∧t.size≤10000000010:=by
 obtain ⟨t,q1,q2,q3⟩:=aYW a b ha.1 hb.1 hsa hsb (max a.size b.size+1) 0 [] 0 (by omega) rfl (eC _) (by omega) (by omega) (fun _=>rfl) (by simp [val])
 rw [ha.2.1,hb.2.1] at q2
 exact ⟨t,q1,q2,q3⟩
theorem aYY (a b:ByteArray) (ha:asc (bytesOf a)) (hb:asc (bytesOf b)) (hsa:a.size≤10000000000) (hle:b.size≤a.size) (hge:val 10 (aJ (bytesOf b))≤val 10 (aJ (bytesOf a))) (d:Nat) :
 ∀ (j:Nat) (out:List Int) (c:Int),j+d=a.size→out.length=j→ok 10 out→0≤c→c≤1 →
   val 10 out - 10 ^ j * c=val 10 ((aJ (bytesOf a)).take j) - val 10 ((aJ (bytesOf b)).take j) →
   ∃ t,Ev (fun k=>gamehallref2_NatSub.l0 k a b out c (a.size:Int) (j:Int)) t∧aW t (val 10 (aJ (bytesOf a)) - val 10 (aJ (bytesOf b)))∧t.size≤10000000010:=by
 have la:(aJ (bytesOf a)).length=a.size:=by rw [b7,bB]
 have lb:(aJ (bytesOf b)).length=b.size:=by rw [b7,bB]
 induction d with
 | zero =>
   intro j out c hj ho hok hc0 hc1 hv
   rw [List.take_of_length_le (by omega),List.take_of_length_le (by omega)] at hv
   have hlt:=dN (b:=10) (by decide) hok
   rw [ho] at hlt
   have hc:c=0:=by
    by_cases h:c=0
    · exact h
    · rw [show c=1 by omega,Int.mul_one] at hv
      omega
   rw [hc,Int.mul_zero,Int.sub_zero] at hv
   obtain ⟨t,q1,q2,q3⟩:=aDN out (by omega) hok
   rw [hv] at q2
   refine ⟨t,?_,q2,by omega⟩
   refine Ev.step (fun k=>gamehallref2_NatSub.l0.eq_2 _ _ _ _ _ _ k) ?_
   exact Ev.no (by omega) (Ev.bind1 q1 (Ev.now _))
 | succ d ih =>
   intro j out c hj ho hok hc0 hc1 hv
   have hx:=lS (b:=10) (by decide) (bU ha) j
   have hy:=lS (b:=10) (by decide) (bU hb) j
   obtain ⟨x,hxe⟩:∃ x,x=rd (aJ (bytesOf a)) (j:Int):=⟨_,rfl⟩
   obtain ⟨y,hye⟩:∃ y,y=rd (aJ (bytesOf b)) (j:Int):=⟨_,rfl⟩
   rw [← hxe] at hx
   rw [← hye] at hy
   have e1:wrap64 (wrap64 (x - y) - c)=x - y - c:=by rw [w64 (i:=x - y) (by omega) (by omega),w64 (by omega) (by omega)]
   have e2:wrap64 (x - y - c+10)=x - y - c+10:=w64 (by omega) (by omega)
   have go:∀ v c' : Int,0≤v→v<10→0≤c' → c' ≤ 1→v - 10 * c' = x - y - c →
        ∃ t,Ev (fun k=>gamehallref2_NatSub.l0 k a b (out ++ [v]) c' (a.size:Int) (wrap64 ((j:Int)+1))) t∧aW t (val 10 (aJ (bytesOf a)) - val 10 (aJ (bytesOf b)))∧t.size≤10000000010:=by
    intro v c' hv0 hv1 hc'0 hc'1 hvc
    rw [dZ (by omega)]
    refine ih (j+1) _ _ (by omega) (by simp; omega) (by rw [jR,fJ]; exact ⟨hok,⟨hv0,hv1⟩,eC _⟩) hc'0 hc'1 ?_
    have h1:(10:Int) ^ j * (v - 10 * c')=10 ^ j * (x - y - c):=by rw [hvc]
    rw [eE,ho,xO, xO, ← hxe,← hye,Int.pow_succ,Int.mul_assoc]
    rw [Int.mul_sub,Int.mul_sub,Int.mul_sub] at h1
    omega
   by_cases hneg:x - y - c<0
   · obtain ⟨t,q1,q2,q3⟩:=go (x - y - c+10) 1 (by omega) (by omega) (by omega) (by omega) (by omega)
     refine ⟨t,?_,q2,q3⟩
     refine Ev.step (fun k=>gamehallref2_NatSub.l0.eq_2 _ _ _ _ _ _ k) ?_
     refine Ev.yes (by omega) (Ev.opt_bind (kG a ha (by omega) j (by omega)) (Ev.opt_bind (kG b hb (by omega) j (by omega)) ?_))
     rw [← hxe,← hye,e1,e2]
     exact Ev.yes hneg (Ev.yes (by omega) q1)
   · obtain ⟨t,q1,q2,q3⟩:=go (x - y - c) 0 (by omega) (by omega) (by omega) (by omega) (by omega)
     refine ⟨t,?_,q2,q3⟩
     refine Ev.step (fun k=>gamehallref2_NatSub.l0.eq_2 _ _ _ _ _ _ k) ?_
     refine Ev.yes (by omega) (Ev.opt_bind (kG a ha (by omega) j (by omega)) (Ev.opt_bind (kG b hb (by omega) j (by omega)) ?_))
     rw [← hxe,← hye,e1]
     exact Ev.no hneg (Ev.yes (by omega) q1)
theorem rY {a b:ByteArray} {u v:Int} (ha:aW a u) (hb:aW b v) (h:a.size<b.size):u<v:=by
 obtain ⟨h1,h2,h3,h4⟩:=ha
 have g1:=dN (b:=10) (by decide) (bU h1)
 rw [b7,bB,h2] at g1
 have hbs:1<b.size:=by omega
 have hne:aJ (bytesOf b)≠[]:=fun z=>by
  have:=congrArg List.length z
  rw [b7,bB,List.length_nil] at this
  omega
 have g2:=hR (b:=10) (by decide) (bU hb.1) (lR (hb.2.2.2 hbs)) hne
 rw [b7,bB,hb.2.1] at g2
 have g3:(10:Int) ^ a.size≤10 ^ (b.size - 1):=e6 (by decide) (by omega)
 omega
theorem aLE {a b:ByteArray} {u v:Int} (ha:aW a u) (hb:aW b v) (hsa:a.size≤10000000000) (hge:v≤u) :
 ∃ t,Ev (fun k=>gamehallref2_NatSub.f k a b) t∧aW t (u - v)∧t.size≤10000000010:=by
 have hle:b.size≤a.size:=by
  by_cases h:b.size≤a.size
  · exact h
  · have:=rY ha hb (by omega); omega
 obtain ⟨t,q1,q2,q3⟩:=aYY a b ha.1 hb.1 hsa hle (by rw [ha.2.1,hb.2.1]; exact hge) a.size 0 [] 0 (by omega) rfl (eC _) (by omega) (by omega) (by simp [val])
 rw [ha.2.1,hb.2.1] at q2
 exact ⟨t,q1,q2,q3⟩
def d5 (l:List UInt8):List Int:=l.map fun b=>(b.toNat:Int)
theorem rZ (s:ByteArray):bytesOf s=d5 s.toList:=by rw [ByteArray.toList_eq]; rfl
theorem aLF : ∀ x y:List UInt8,x.length=y.length→asc (d5 x)→asc (d5 y)→Op.bytesLess x y=decide (val 10 (aJ (d5 x))<val 10 (aJ (d5 y)))
 | [],[],_,_,_=>by simp [Op.bytesLess]
 | [],_ :: _,h,_,_=>by simp at h
 | _ :: _,[],h,_,_=>by simp at h
 | c :: x,e :: y,h,hx,hy=>by
   have hx' : asc (d5 x):=fun z hz=>hx z (List.mem_cons_of_mem _ hz)
   have hy' : asc (d5 y):=fun z hz=>hy z (List.mem_cons_of_mem _ hz)
   have hl:x.length=y.length:=by simpa using h
   have ih:=aLF x y hl hx' hy'
   have a1:=dN (b:=10) (by decide) (bU hx')
   have a2:=dN (b:=10) (by decide) (bU hy')
   have b1:=cW (b:=10) (by decide) (bU hx')
   have b2:=cW (b:=10) (by decide) (bU hy')
   have lx:(aJ (d5 x)).length=y.length:=by rw [b7,d5,List.length_map,hl]
   have ly:(aJ (d5 y)).length=y.length:=by rw [b7,d5,List.length_map]
   rw [lx] at a1
   rw [ly] at a2
   have ex:val 10 (aJ (d5 (c :: x)))=val 10 (aJ (d5 x))+10 ^ y.length * ((c.toNat:Int) - 48):=by
     show val 10 (aJ ((c.toNat:Int) :: d5 x))=_
     rw [i6,eE,lx]
   have ey:val 10 (aJ (d5 (e :: y)))=val 10 (aJ (d5 y))+10 ^ y.length * ((e.toNat:Int) - 48):=by
     show val 10 (aJ ((e.toNat:Int) :: d5 y))=_
     rw [i6,eE,ly]
   rw [ex,ey,Op.bytesLess,ih]
   have hp:(0:Int)<10 ^ y.length:=Int.pow_pos (by decide)
   by_cases h1:c.toNat<e.toNat
   · have hm:(10:Int) ^ y.length * (((c.toNat:Int) - 48)+1)≤10 ^ y.length * ((e.toNat:Int) - 48):=Int.mul_le_mul_of_nonneg_left (by omega) (by omega)
     rw [Int.mul_add,Int.mul_one] at hm
     have hlt:c<e:=UInt8.lt_iff_toNat_lt.2 h1
     simp [hlt]; omega
   · by_cases h2:c.toNat=e.toNat
     · have:c=e:=UInt8.toNat_inj.1 h2
       subst this
       simp
     · have hm:(10:Int) ^ y.length * (((e.toNat:Int) - 48)+1)≤10 ^ y.length * ((c.toNat:Int) - 48):=Int.mul_le_mul_of_nonneg_left (by omega) (by omega)
       rw [Int.mul_add,Int.mul_one] at hm
       have hlt:¬ c<e:=fun z=>h1 (UInt8.lt_iff_toNat_lt.1 z)
       have hne:¬ c=e:=fun z=>h2 (by rw [z])
       have hr:¬ (val 10 (aJ (d5 x))+10 ^ y.length * ((c.toNat:Int) - 48)<val 10 (aJ (d5 y))+10 ^ y.length * ((e.toNat:Int) - 48)):=by omega
       have hbe:(c == e)=false:=by simpa using hne
       rw [hbe]
       simp only [Bool.false_and,Bool.or_false]
       exact (decide_eq_decide.2 ⟨fun z=>absurd z hlt,fun z=>absurd z hr⟩)
theorem xP {a b:ByteArray} {u v:Int} (ha:aW a u) (hb:aW b v):gamehallref2_NatCmp.f a b=some (cmpI u v):=by
 unfold gamehallref2_NatCmp.f
 by_cases h1:(a.size:Int)<(b.size:Int)
 · rw [if_pos h1,cmpI,if_pos (rY ha hb (by omega))]
 · rw [if_neg h1]
   by_cases h2:(a.size:Int) > (b.size:Int)
   · have:=rY hb ha (by omega)
     rw [if_pos h2,cmpI,if_neg (by omega),if_pos (by omega)]
   · rw [if_neg h2]
     have hlen:a.toList.length=b.toList.length:=by rw [ByteArray.toList_eq,ByteArray.toList_eq,nW,nW]; omega
     have ea:val 10 (aJ (d5 a.toList))=u:=by rw [← rZ]; exact ha.2.1
     have eb:val 10 (aJ (d5 b.toList))=v:=by rw [← rZ]; exact hb.2.1
     have hl:=aLF a.toList b.toList hlen (by rw [← rZ]; exact ha.1) (by rw [← rZ]; exact hb.1)
     rw [ea,eb] at hl
     rw [hl]
     by_cases h3:u<v
     · rw [if_pos (by simpa using h3),cmpI,if_pos h3]
     · rw [if_neg (by simpa using h3),cmpI,if_neg h3]
       by_cases h4:u=v
       · subst h4
         have:=aDK ha hb
         rw [if_pos (by simp [this]),if_neg (by omega)]
       · have hne:¬ a.toList=b.toList:=fun z=>h4 (by rw [← ea,← eb,z])
         rw [if_neg (by simp [h3,hne]),if_pos (by omega)]
end
end Go.Proofs.YtehakimmioclkaaGreatDoor.Pure
end
section
namespace Go.Proofs.YtehakimmioclkaaGreatDoor.NatAlg
section
theorem mul1 (O P m q o x y c B D:Int) (key:m+B * q=x * y+o+c):O+P * (m - o)+P * B * (q+x * D)=O+P * (c+x * (y+B * D)):=by
 have:m=x * y+o+c - B * q:=by omega
 subst this
 grind
theorem mul2 (O P B x D W:Int):O+P * (x * W)+P * B * (D * W)=O+P * ((x+B * D) * W):=by grind
theorem short1 (x D d y a rest:Int) (hm:d * x+y=rest * 1000000000+a):(x+1000000000 * D) * d+y=a+1000000000 * (D * d+rest):=by
 have:y=rest * 1000000000+a - d * x:=by omega
 subst this
 grind
theorem minus1 (O P uu z s s' c q vv y D t:Int) (hD:t=c+q * vv) (ht:1000000000 * y+z=t) :
 O+P * (uu - z - s+1000000000 * s' - uu) - P * 1000000000 * (s' + y+q * D)=O - P * (s+c+q * (vv+1000000000 * D)):=by
 have:z=c+q * vv - 1000000000 * y:=by omega
 subst this
 grind
theorem plus1 (O P uu z y c vv D t:Int) (hD:t=uu+c+vv) (ht:1000000000 * y+z=t):O+P * (z - uu)+P * 1000000000 * (y+D)=O+P * (c+(vv+1000000000 * D)):=by
 have:z=uu+c+vv - 1000000000 * y:=by omega
 subst this
 grind
theorem est1 (x P V2 vl K:Int):x * (P * V2+vl) * K=K * P * (x * V2)+x * vl * K:=by grind
theorem est2 (x P V2 vl K:Int):(x - 1) * (P * V2+vl) * K=x * (P * V2+vl) * K - ((V2 * P) * K+vl * K):=by grind
theorem a1 (q d1 d2 B:Int):(q - 1) * (d1 * B+d2)=(q * d1 - d1) * B+(q - 1) * d2:=by grind
theorem a2 (q d r:Int):(q - 1) * d+(r+d)=q * d+r:=by grind
theorem a3 (q d1 d2 B:Int):q * (d1 * B+d2)=(q * d1) * B+q * d2:=by grind
theorem a4 (T Q u1 u2 u3 B:Int):T+Q * (u3+B * (u2+B * u1))=Q * ((u1 * B+u2) * B+u3)+T:=by grind
theorem a5 (T Q d1 d2 B:Int):T+Q * (d2+B * d1)=Q * (d1 * B+d2)+T:=by grind
theorem a6 (v K B:Int):v * (K * B)=B * v * K:=by grind
theorem a7 (K P d B:Int):(B * K) * (P * ((d+1) * B))=K * P * ((d+1) * B * B):=by grind
theorem a8 (v K B:Int):(B * K) * v=B * v * K:=by grind
theorem a9 (y d1 d2 B:Int):(y+1) * (d1 * B+d2)=(d1 * y+d1) * B+(y+1) * d2:=by grind
theorem b1 (K y v:Int):K * (y * v)=y * (v * K):=by grind
theorem b2 (K y v:Int):(y+1) * v * K=K * (y * v)+v * K:=by grind
theorem b3 (y D Z X Y B:Int):(y+B * D) * Z * X+(Y - Z * (y * X))=D * (Z * B) * X+Y:=by grind
theorem b4 (K x v:Int):(x - 1) * v * K=K * (x * v) - K * v:=by grind
theorem b5 (K x v:Int):(x - 1+1) * v * K=K * (x * v):=by grind
theorem b6 (K x v:Int):K * ((x - 1) * v)=K * (x * v) - K * v:=by grind
theorem norm1 (O P o c m d:Int) (h:10 * c+m=d):O+P * 10 * (o+c - o)+P * (m - d)=O:=by
 have:m=d - 10 * c:=by omega
 subst this
 grind
theorem row1 (O P o x y D B:Int):O+P * (o+x * y - o)+P * B * (x * D)=O+P * (x * (y+B * D)):=by grind
theorem row2 (P x D W B:Int):P * ((x+B * D) * W)=P * (x * W)+P * (B * D * W):=by grind
theorem div1 (v p q m uq um c P:Int) {u:Int} (h1:v * q+m=p) (h2:v * uq+um=u) (h3:P=10 * p+c) (h4:u=c+10 * m):(10 * q+uq) * v+um=P:=by
 subst h3 h1
 have:um=c+10 * m - v * uq:=by omega
 subst this
 grind
theorem of1 (O P B q m:Int):O+P * m+P * B * q=O+P * (B * q+m):=by grind
end
end Go.Proofs.YtehakimmioclkaaGreatDoor.NatAlg
end
section
set_option linter.unusedSimpArgs false
set_option linter.unusedVariables false
namespace Go.Proofs.YtehakimmioclkaaGreatDoor.Pure
open Go.RowKit Go.Proofs.YtehakimmioclkaaGreatDoor.ND Go.Proofs.YtehakimmioclkaaGreatDoorW.PrintWords Go.Proofs.YtehakimmioclkaaGreatDoorW.PrintLast Go.Proofs.YtehakimmioclkaaGreatDoor.Aid Go.Proofs.YtehakimmioclkaaGreatDoor.NatVal
section
theorem u64 {i:Int} (h0:0≤i) (h1:i<18446744073709551616):IntKind.u64.wrap i=i:=IntWalk.u64_in i ⟨h0,by omega⟩
theorem kI {b:Int}:∀ (l:List Int) (j:Nat) (v:Int),j<l.length→val b (l.set j v)=val b l+b ^ j * (v - rd l (j:Int))
 | [],j,v,h=>by simp at h
 | x :: l,0,v,h=>by simp [val,rd]; omega
 | x :: l,j+1,v,h=>by
   have ih:=kI (b:=b) l j v (by simpa using h)
   have e:rd (x :: l) ((j+1:Nat):Int)=rd l (j:Int):=by simp [rd]
   rw [List.set_cons_succ,e]
   simp only [val]
   rw [ih,Int.mul_add,Int.pow_succ,Int.mul_comm (b ^ j) b,Int.mul_assoc]
   omega
theorem oG {b:Int} {l:List Int} (h:ok b l) (j:Nat) {v:Int} (h0:0≤v) (h1:v<b):ok b (l.set j v):=by
 intro x hx
 rcases List.mem_or_eq_of_mem_set hx with hx | rfl
 · exact h x hx
 · exact ⟨h0,h1⟩
theorem oH (l:List Int) (j:Nat) (v:Int) (h:j<l.length):rd (l.set j v) (j:Int)=v:=by
 rw [g7 _ j (by simpa using h),List.getElem_set_self]
theorem fK (l:List Int) (j p:Nat) (v:Int) (h:j≠p):rd (l.set j v) (p:Int)=rd l (p:Int):=by
 simp only [rd,Int.toNat_natCast,List.getD_eq_getElem?_getD]
 rw [List.getElem?_set_ne h]
theorem aYZ (n p:Nat):rd (List.replicate n (0:Int)) (p:Int)=0:=by
 simp only [rd,Int.toNat_natCast,List.getD_eq_getElem?_getD,List.getElem?_replicate]
 split <;> rfl
theorem aLG {x y:Int} (hx0:0≤x) (hx1:x≤999999999) (hy0:0≤y) (hy1:y≤999999999):0≤x * y∧x * y≤999999998000000001:=by
 refine ⟨Int.mul_nonneg hx0 hy0,?_⟩
 have:=Int.mul_le_mul hx1 hy1 hy0 (by omega)
 omega
theorem aDO {x y o c:Int} (hx0:0≤x) (hx1:x<1000000000) (hy0:0≤y) (hy1:y<1000000000) (ho0:0≤o) (ho1:o<1000000000) (hc0:0≤c) (hc1:c<1000000000) :
 Int.tmod (IntKind.u64.wrap ((IntKind.u64.wrap ((IntKind.u64.wrap ((IntKind.u64.wrap x) * (IntKind.u64.wrap y)))+(IntKind.u64.wrap o)))+c)) 1000000000 % 4294967296=(x * y+o+c) % 1000000000 ∧
 IntKind.u64.wrap (Int.tdiv (IntKind.u64.wrap ((IntKind.u64.wrap ((IntKind.u64.wrap ((IntKind.u64.wrap x) * (IntKind.u64.wrap y)))+(IntKind.u64.wrap o)))+c)) 1000000000)=(x * y+o+c) / 1000000000∧(x * y+o+c) / 1000000000<1000000000:=by
 obtain ⟨m0,m1⟩:=aLG hx0 (show x≤999999999 by omega) hy0 (show y≤999999999 by omega)
 rw [u64 (i:=x) (by omega) (by omega),u64 (i:=y) (by omega) (by omega),u64 (i:=x * y) (by omega) (by omega),u64 (i:=o) (by omega) (by omega),u64 (i:=x * y+o) (by omega) (by omega),u64 (i:=x * y+o+c) (by omega) (by omega),
  Int.tmod_eq_emod_of_nonneg (by omega),Int.tdiv_eq_ediv_of_nonneg (by omega),u64 (by omega) (by omega)]
 omega
theorem oI (i j:Nat) (h:i+j≤1000000000000):wrap64 ((i:Int)+(j:Int))=((i+j:Nat):Int):=by rw [w64] <;> omega
theorem aY0 (a b:List Int) (i:Nat) (x:Int) (N:Nat) (V:Int) (R:List Int→Prop) (hx0:0≤x) (hx1:x<1000000000) (hb:ok BB b) (hi:i+b.length<N) (hN:N≤1000000000000)
 (next:∀ out' : List Int,out'.length=N→ok BB out' → (∀ p:Nat,i+b.length<p→rd out' (p:Int)=0)→val BB out' = V→∃ r,Ev (fun k=>nat_N_Mul.l0 k b out' a (a.length:Int) (wrap64 ((i:Int)+1))) r∧R r) (d:Nat) :
 ∀ (j:Nat) (out:List Int) (c:Int),j+d=b.length→out.length=N→ok BB out→(∀ p:Nat,i+b.length≤p→rd out (p:Int)=0)→0≤c→c<1000000000 →
   val BB out+BB ^ (i+j) * (c+x * val BB (b.drop j))=V →
   ∃ r,Ev (fun k=>nat_N_Mul.l1 k b out (i:Int) x c a (a.length:Int) (i:Int) b (b.length:Int) (j:Int)) r∧R r:=by
 induction d with
 | zero =>
   intro j out c hj ho hok hz hc0 hc1 hv
   rw [show b.drop j=[] from List.drop_of_length_le (by omega)] at hv
   simp only [val,Int.mul_zero,Int.add_zero] at hv
   have hj' : j=b.length:=by omega
   subst hj'
   obtain ⟨r,q1,q2⟩:=next (out.set (i+b.length) c) (by simpa using ho) (oG hok _ hc0 hc1) (fun p hp=>by rw [fK _ _ _ _ (by omega)]; exact hz p (by omega)) (by
    rw [kI _ _ _ (by omega),hz _ (Nat.le_refl _),Int.sub_zero]; exact hv)
   refine ⟨r,?_,q2⟩
   refine Ev.step (fun k=>nat_N_Mul.l1.eq_2 _ _ _ _ _ _ _ _ _ _ _ k) ?_
   have e:wrap64 ((i:Int)+(b.length:Int))=((i+b.length:Nat):Int):=by rw [w64] <;> omega
   rw [e]
   refine Ev.no (by omega) (Ev.yes (by omega) (Ev.yes (by omega) ?_))
   rw [Int.toNat_natCast,show c % 4294967296=c by omega]
   exact q1
 | succ d ih =>
   intro j out c hj ho hok hz hc0 hc1 hv
   have g1:i+j≤1000000000000:=by omega
   have g2:j<1000000000000000:=by omega
   have b1:(j:Int)<(b.length:Int):=by omega
   have b2:(0:Int)≤(j:Int):=by omega
   have b3:(0:Int)≤((i+j:Nat):Int):=by omega
   have b4:((i+j:Nat):Int)<(out.length:Int):=by omega
   have hy:=cT hb j (by omega)
   have hB:BB=1000000000:=rfl
   have hr:=cT hok (i+j) (by omega)
   rw [hB] at hy hr
   have s3:=(aDO hx0 hx1 hy.1 hy.2 hr.1 hr.2 hc0 hc1).2.2
   obtain ⟨m0,m1⟩:=aLG hx0 (show x≤999999999 by omega) hy.1 (show rd b (j:Int)≤999999999 by omega)
   obtain ⟨r,q1,q2⟩:=ih (j+1) (out.set (i+j) ((x * rd b (j:Int)+rd out ((i+j:Nat):Int)+c) % 1000000000)) ((x * rd b (j:Int)+rd out ((i+j:Nat):Int)+c) / 1000000000) (by omega) (by simpa using ho)
    (oG hok _ (by omega) (by show _<(1000000000:Int); omega)) (fun p hp=>by rw [fK _ _ _ _ (by omega)]; exact hz p hp) (by omega) s3 (by
        rw [kI _ _ _ (by omega),← hv,eO b j (by omega),← Nat.add_assoc,Int.pow_succ]
        simp only [val]
        have key:(x * rd b (j:Int)+rd out ((i+j:Nat):Int)+c) % 1000000000+BB * ((x * rd b (j:Int)+rd out ((i+j:Nat):Int)+c) / 1000000000)=x * rd b (j:Int)+rd out ((i+j:Nat):Int)+c:=by
         rw [hB]; omega
        exact NatAlg.mul1 _ _ _ _ _ _ _ _ _ _ key)
   refine ⟨r,?_,q2⟩
   refine Ev.step (fun k=>nat_N_Mul.l1.eq_2 _ _ _ _ _ _ _ _ _ _ _ k) ?_
   rw [oI i j g1,(aDO hx0 hx1 hy.1 hy.2 hr.1 hr.2 hc0 hc1).1,(aDO hx0 hx1 hy.1 hy.2 hr.1 hr.2 hc0 hc1).2.1,dZ g2]
   refine Ev.yes b1 (Ev.yes b2 (Ev.yes b1 (Ev.yes b3 (Ev.yes b4 ?_))))
   rw [Int.toNat_natCast]
   exact q1
theorem aY1 (a b:List Int) (ha:ok BB a) (hb:ok BB b) (hn:a.length+b.length≤100000000000) (d:Nat) :
 ∀ (i:Nat) (out:List Int),i+d=a.length→out.length=a.length+b.length→ok BB out→(∀ p:Nat,i+b.length≤p→rd out (p:Int)=0) →
   val BB out+BB ^ i * (val BB (a.drop i) * val BB b)=val BB a * val BB b →
   ∃ r,Ev (fun k=>nat_N_Mul.l0 k b out a (a.length:Int) (i:Int)) r∧bJ r (val BB a * val BB b)∧r.length≤a.length+b.length:=by
 induction d with
 | zero =>
   intro i out hi ho hok hz hv
   rw [show a.drop i=[] from List.drop_of_length_le (by omega)] at hv
   simp only [val,Int.zero_mul,Int.mul_zero,Int.add_zero] at hv
   obtain ⟨r,q1,q2,q3,q4,q5⟩:=lQ out (by omega) hok
   refine ⟨r,?_,⟨by rw [q2,hv],q3,q4⟩,by omega⟩
   refine Ev.step (fun k=>nat_N_Mul.l0.eq_2 _ _ _ _ _ k) ?_
   exact Ev.no (by omega) (Ev.bind1 q1 (Ev.now _))
 | succ d ih =>
   intro i out hi ho hok hz hv
   have hx:=cT ha i (by omega)
   have hB:BB=1000000000:=rfl
   rw [hB] at hx
   obtain ⟨r,q1,q2,q3⟩:=aY0 a b i (rd a (i:Int)) (a.length+b.length) (val BB out+BB ^ i * (rd a (i:Int) * val BB b)) (fun r=>bJ r (val BB a * val BB b)∧r.length≤a.length+b.length) hx.1 hx.2 hb (by omega) (by omega)
    (fun out' h1 h2 h3 h4=>by
        rw [dZ (by omega)]
        exact ih (i+1) out' (by omega) h1 h2 (fun p hp=>h3 p (by omega)) (by
         rw [h4,← hv,eO a i (by omega),Int.pow_succ]
         simp only [val]
         exact NatAlg.mul2 _ _ _ _ _ _)) b.length 0 out 0 (by omega) ho hok hz (by omega) (by omega) (by rw [List.drop_zero,Nat.add_zero,Int.zero_add])
   refine ⟨r,?_,q2,q3⟩
   refine Ev.step (fun k=>nat_N_Mul.l0.eq_2 _ _ _ _ _ k) ?_
   exact Ev.yes (by omega) (Ev.yes (by omega) (Ev.yes (by omega) q1))
theorem aDP {a b:List Int} {u v:Int} (ha:bJ a u) (hb:bJ b v) (hn:a.length+b.length≤100000000000) :
 ∃ r,Ev (fun k=>nat_N_Mul.f k a b) r∧bJ r (u * v)∧r.length≤a.length+b.length:=by
 obtain ⟨hu,oa,ta⟩:=ha
 obtain ⟨hw,ob,tb⟩:=hb
 subst hu hw
 obtain ⟨r,q1,q2,q3⟩:=aY1 a b oa ob hn a.length 0 (List.replicate (a.length+b.length) 0) (by omega) (by simp) (fun x hx=>by
  rw [List.eq_of_mem_replicate hx]; decide) (fun p _=>aYZ _ p) (by
  have:=aKZ (b:=BB) [] (a.length+b.length)
  rw [List.nil_append] at this
  rw [this]; simp [val])
 refine ⟨r,?_,q2,q3⟩
 unfold nat_N_Mul.f
 have e:wrap64 ((a.length:Int)+(b.length:Int))=((a.length+b.length:Nat):Int):=by rw [w64] <;> omega
 rw [e,Int.toNat_natCast]
 exact Ev.yes (by omega) (Ev.yes (by omega) q1)
end
section
theorem aY2 {c:Int} (h0:0≤c) (h1:c<1000000000):∃ r,Ev (fun k=>nat_N_trim.f k [c]) r∧bJ r c∧r.length≤1:=by
 obtain ⟨r,q1,q2,q3,q4,q5⟩:=lQ [c] (by simp) (fJ.2 ⟨⟨h0,h1⟩,eC _⟩)
 exact ⟨r,q1,⟨by rw [q2]; simp [val],q3,q4⟩,by simpa using q5⟩
theorem r8 {a d q r:Int} (hd:0<d) (h:q * d+r=a) (h0:0≤r) (h1:r<d):a / d=q∧a % d=r:=by
 have hq:a / d=q:=by
  rw [← h,Int.add_comm,Int.add_mul_ediv_right _ _ (by omega),Int.ediv_eq_zero_of_lt h0 h1]; omega
 refine ⟨hq,?_⟩
 have:=Int.mul_ediv_add_emod a d
 rw [hq,Int.mul_comm] at this
 omega
theorem aY3 (a:List Int) (d:Int) (hd0:0<d) (hd1:d<1000000000) (ha:ok BB a) (hn:a.length≤100000000000) (n:Nat) :
 ∀ (out:List Int) (rest:Int),n≤a.length→out.length=a.length→ok BB out→0≤rest→rest<d→val BB (out.drop n) * d+rest=val BB (a.drop n) →
   ∃ q r,Ev (fun k=>nat_N_short.l0 k a d out rest ((n:Int) - 1)) (q,r)∧bJ q (val BB a / d)∧bJ r (val BB a % d)∧q.length≤a.length∧r.length≤1:=by
 induction n with
 | zero =>
   intro out rest _ ho hok h0 h1 hv
   simp only [List.drop_zero] at hv
   obtain ⟨e1,e2⟩:=r8 hd0 hv h0 h1
   obtain ⟨q,q1,q2,q3,q4,q5⟩:=lQ out (by omega) hok
   obtain ⟨r,r1,r2,r3⟩:=aY2 h0 (show rest<1000000000 by omega)
   refine ⟨q,r,?_,⟨by rw [q2,e1],q3,q4⟩,by rw [e2]; exact r2,by omega,r3⟩
   refine Ev.step (fun k=>nat_N_short.l0.eq_2 _ _ _ _ _ k) ?_
   rw [show rest % 4294967296=rest by omega]
   exact Ev.no (by omega) (Ev.bind1 q1 (Ev.bind1 r1 (Ev.now _)))
 | succ n ih =>
   intro out rest hn' ho hok h0 h1 hv
   have hx:=cT ha n (by omega)
   have hB:BB=1000000000:=rfl
   rw [hB] at hx
   have hq1:(rest * 1000000000+rd a (n:Int)) / d<1000000000:=Int.ediv_lt_of_lt_mul hd0 (by omega)
   have hq0:0≤(rest * 1000000000+rd a (n:Int)) / d:=Int.ediv_nonneg (by omega) (by omega)
   have hr0:=Int.emod_nonneg (rest * 1000000000+rd a (n:Int)) (show d≠0 by omega)
   have hr1:=Int.emod_lt_of_pos (rest * 1000000000+rd a (n:Int)) hd0
   have hm:=Int.mul_ediv_add_emod (rest * 1000000000+rd a (n:Int)) d
   obtain ⟨q,r,q1,q2⟩:=ih (out.set n ((rest * 1000000000+rd a (n:Int)) / d)) ((rest * 1000000000+rd a (n:Int)) % d) (by omega) (by simpa using ho) (oG hok _ hq0 hq1) hr0 hr1 (by
    rw [rX _ _ _ (by omega),eO a n (by omega)]
    simp only [val]
    rw [← hv]
    exact NatAlg.short1 _ _ _ _ _ _ hm)
   refine ⟨q,r,?_,q2⟩
   refine Ev.step (fun k=>nat_N_short.l0.eq_2 _ _ _ _ _ k) ?_
   rw [show (((n+1:Nat):Int) - 1)=(n:Int) by omega,u64 (i:=d) (by omega) (by omega),u64 (i:=rest * 1000000000) (by omega) (by omega),u64 (i:=rd a (n:Int)) (by omega) (by omega),u64 (i:=rest * 1000000000+rd a (n:Int)) (by omega) (by omega),
    Int.tmod_eq_emod_of_nonneg (by omega),Int.tdiv_eq_ediv_of_nonneg (by omega),u64 (i:=(rest * 1000000000+rd a (n:Int)) / d) (by omega) (by omega),
    show (rest * 1000000000+rd a (n:Int)) / d % 4294967296=(rest * 1000000000+rd a (n:Int)) / d by omega,w64 (i:=(n:Int) - 1) (by omega) (by omega)]
   refine Ev.yes (by omega) (Ev.yes (by omega) (Ev.yes (by omega) (Ev.no (by omega) (Ev.yes (by omega) ?_))))
   rw [Int.toNat_natCast]
   exact q1
theorem aLH {a:List Int} {u:Int} (ha:bJ a u) (d:Int) (hd0:0<d) (hd1:d<1000000000) (hn:a.length≤100000000000) :
 ∃ q r,Ev (fun k=>nat_N_short.f k a d) (q,r)∧bJ q (u / d)∧bJ r (u % d)∧q.length≤a.length∧r.length≤1:=by
 obtain ⟨hu,oa,ta⟩:=ha
 subst hu
 obtain ⟨q,r,q1,q2⟩:=aY3 a d hd0 hd1 oa hn a.length (List.replicate a.length 0) 0 (Nat.le_refl _) (by simp) (fun x hx=>by
  rw [List.eq_of_mem_replicate hx]; decide) (by omega) hd0 (by simp [val,List.drop_of_length_le])
 refine ⟨q,r,?_,q2⟩
 unfold nat_N_short.f
 rw [Int.toNat_natCast,w64 (by omega) (by omega)]
 exact Ev.yes (by omega) (Ev.yes (by omega) q1)
theorem aY4 (l:List Int) (m p:Nat):rd (l.drop m) (p:Int)=rd l ((m+p:Nat):Int):=by
 simp only [rd,Int.toNat_natCast,List.getD_eq_getElem?_getD,List.getElem?_drop]
theorem aLI {l:List Int} (ho:ok BB l) (m:Nat) (h:∀ p:Nat,m≤p→rd l (p:Int)=0):val BB l<BB ^ m:=by
 have h1:=i4 (b:=BB) (l.take m) (l.drop m)
 rw [List.take_append_drop] at h1
 have h2:∀ (r:List Int),(∀ p:Nat,rd r (p:Int)=0)→val BB r=0:=by
  intro r
  induction r with
  | nil=>intro _; rfl
  | cons x r ih =>
    intro hr
    have hx:=hr 0
    have hr' : val BB r=0:=ih (fun p=>by have:=hr (p+1); simpa [rd] using this)
    simp only [val]
    rw [hr']
    simp [rd] at hx
    rw [hx]; simp
 have h3:val BB (l.drop m)=0:=h2 _ (fun p=>by
  rw [aY4]
  exact h (m+p) (by omega))
 rw [h1,h3,Int.mul_zero,Int.add_zero]
 have h4:=dN (b:=BB) (by decide) (oF ho m)
 have h5:BB ^ (l.take m).length≤BB ^ m:=e6 (by decide) (by simp; omega)
 omega
theorem aY5 {l:List Int} (ho:ok BB l) (m:Nat) (h:val BB l<BB ^ m) (p:Nat) (hp:m≤p):rd l (p:Int)=0:=by
 by_cases hl:p<l.length
 · have h1:=aDJ (b:=BB) l p hl
   have h2:=cW (b:=BB) (by decide) (oF ho p)
   have h3:=cT ho p hl
   have h4:0≤val BB (l.drop (p+1)):=cW (by decide) (fun x hx=>ho x (List.mem_of_mem_drop hx))
   have h5:BB ^ m≤BB ^ p:=e6 (by decide) hp
   by_cases h0:rd l (p:Int)=0
   · exact h0
   · have h6:BB ^ p * 1≤BB ^ p * (rd l (p:Int)+BB * val BB (l.drop (p+1))):=Int.mul_le_mul_of_nonneg_left (by
        have:0≤BB * val BB (l.drop (p+1)):=Int.mul_nonneg (by decide) h4
        omega) (Int.le_of_lt (Int.pow_pos (by decide)))
     omega
 · exact gN l p (by omega)
theorem aLJ {u t s:Int} (hu0:0≤u) (hu1:u<1000000000) (ht0:0≤t) (ht1:t<1000000000) (hs0:0≤s) (hs1:s≤1) :
 wrap64 (wrap64 (wrap64 u - wrap64 t) - s)=u - t - s∧wrap64 (u - t - s+1000000000)=u - t - s+1000000000:=by
 rw [w64 (i:=u) (by omega) (by omega),w64 (i:=t) (by omega) (by omega),w64 (i:=u - t) (by omega) (by omega),w64 (i:=u - t - s) (by omega) (by omega),w64 (by omega) (by omega)]
 exact ⟨rfl,rfl⟩
theorem aY6 (v:List Int) (kk:Nat) (q:Int) (N:Nat) (W:Int) (hv:ok BB v) (hq0:0≤q) (hq1:q≤1000000000) (hN:kk+v.length<N) (hN2:N≤100000000000) (d:Nat) :
 ∀ (i:Nat) (u:List Int) (s c:Int),i+d=v.length+1→u.length=N→ok BB u→(∀ p:Nat,kk+v.length<p→rd u (p:Int)=0)→0≤s→s≤1→0≤c→c<1000000000→(d=0→c=0) →
   val BB u - BB ^ (kk+i) * (s+c+q * val BB (v.drop i))=W →
   ∃ (t:Bool) (u' : List Int),Ev (fun k=>nat_N_minus.l0 k u v (kk:Int) q s c (i:Int)) (t,u')∧u'.length=N∧ok BB u' ∧ (∀ p:Nat,kk+v.length<p→rd u' (p:Int)=0) ∧
     val BB u' = W+(if t=true then BB ^ (kk+v.length+1) else 0):=by
 have hB:BB=1000000000:=rfl
 induction d with
 | zero =>
   intro i u s c hi hu ho hz hs0 hs1 hc0 hc1 hc hw
   rw [hc rfl,show v.drop i=[] from List.drop_of_length_le (by omega)] at hw
   simp only [val,Int.mul_zero,Int.add_zero] at hw
   refine ⟨decide (s > 0),u,?_,hu,ho,hz,?_⟩
   · refine Ev.step (fun k=>nat_N_minus.l0.eq_2 _ _ _ _ _ _ _ k) ?_
     exact Ev.no (by omega) (Ev.now _)
   · rw [show kk+v.length+1=kk+i by omega]
     by_cases h:s > 0
     · rw [if_pos (by simpa using h)]
       rw [show s=1 by omega,Int.mul_one] at hw
       omega
     · rw [if_neg (by simpa using h)]
       rw [show s=0 by omega,Int.mul_zero] at hw
       omega
 | succ d ih =>
   intro i u s c hi hu ho hz hs0 hs1 hc0 hc1 hc hw
   have hx:=cT ho (kk+i) (by omega)
   rw [hB] at hx
   have g1:kk+i≤1000000000000:=by omega
   -- the digit to be subtracted
   have go : ∀ t:Int,0≤t→t<1000000000000000000→(t=c+q * rd v (i:Int))→(d=0→t<1000000000)→(i<v.length→t=c+q * rd v (i:Int))→(¬ i<v.length→t=c) →
        ∃ (t:Bool) (u' : List Int),Ev (fun k=>nat_N_minus.l0 k u v (kk:Int) q s c (i:Int)) (t,u')∧u'.length=N∧ok BB u' ∧ (∀ p:Nat,kk+v.length<p→rd u' (p:Int)=0) ∧
          val BB u' = W+(if t=true then BB ^ (kk+v.length+1) else 0):=by
    intro t ht0 ht1 hD hd0 hin hout
    have hm:=Int.mul_ediv_add_emod t 1000000000
    have hm0:=Int.emod_nonneg t (show (1000000000:Int)≠0 by decide)
    have hm1:=Int.emod_lt_of_pos t (show (0:Int)<1000000000 by decide)
    have hc' : t / 1000000000<1000000000:=by omega
    have hc0' : 0≤t / 1000000000:=by omega
    have eD:val BB (v.drop i)=rd v (i:Int)+BB * val BB (v.drop (i+1)):=by
        by_cases hlt:i<v.length
        · rw [eO v i hlt]; rfl
        · rw [List.drop_of_length_le (by omega),List.drop_of_length_le (by omega),gN v i (by omega)]; rfl
    -- the next round
    have nx:∀ (x s' : Int),0≤x→x<1000000000→0≤s' → s' ≤ 1→x=rd u ((kk+i:Nat):Int) - t % 1000000000 - s+1000000000 * s' →
     ∃ (t' : Bool) (u' : List Int),Ev (fun k=>nat_N_minus.l0 k (u.set (kk+i) x) v (kk:Int) q s' (t / 1000000000) (wrap64 ((i:Int)+1))) (t', u')∧u'.length=N∧ok BB u' ∧ (∀ p:Nat,kk+v.length<p→rd u' (p:Int)=0) ∧
       val BB u' = W+(if t' = true then BB ^ (kk+v.length+1) else 0):=by
        intro x s' hx0 hx1 hs0' hs1' ex
        rw [dZ (by omega)]
        refine ih (i+1) _ s' (t / 1000000000) (by omega) (by simpa using hu) (oG ho _ hx0 hx1) (fun p hp=>by rw [fK _ _ _ _ (by omega)]; exact hz p hp) hs0' hs1' hc0' hc' (fun h=>by have:=hd0 h; omega) ?_
        rw [kI _ _ _ (by omega),← hw,eD,← Nat.add_assoc,Int.pow_succ]
        rw [ex]
        exact NatAlg.minus1 _ _ _ _ _ _ _ _ _ _ _ t (hD) hm
    have fin:∃ (t' : Bool) (u' : List Int),(Ev (fun k=>if (wrap64 (wrap64 (wrap64 (rd u ((kk+i:Nat):Int)) - wrap64 (t % 1000000000)) - s))<0 then
           (nat_N_minus.l0 k (u.set (kk+i) ((wrap64 (wrap64 (wrap64 (wrap64 (rd u ((kk+i:Nat):Int)) - wrap64 (t % 1000000000)) - s)+1000000000)) % 4294967296)) v (kk:Int) q 1 (t / 1000000000) (wrap64 ((i:Int)+1)))
           else (nat_N_minus.l0 k (u.set (kk+i) ((wrap64 (wrap64 (wrap64 (rd u ((kk+i:Nat):Int)) - wrap64 (t % 1000000000)) - s)) % 4294967296)) v (kk:Int) q 0 (t / 1000000000) (wrap64 ((i:Int)+1)))) (t', u'))∧u'.length=N∧ok BB u' ∧ (∀ p:Nat,kk+v.length<p→rd u' (p:Int)=0) ∧
           val BB u' = W+(if t' = true then BB ^ (kk+v.length+1) else 0):=by
        rw [(aLJ hx.1 hx.2 hm0 hm1 hs0 hs1).1,(aLJ hx.1 hx.2 hm0 hm1 hs0 hs1).2]
        by_cases hneg:rd u ((kk+i:Nat):Int) - t % 1000000000 - s<0
        · obtain ⟨t', u', q1,q2⟩:=nx ((rd u ((kk+i:Nat):Int) - t % 1000000000 - s+1000000000) % 4294967296) 1 (by omega) (by omega) (by omega) (by omega) (by omega)
          exact ⟨t', u', Ev.yes hneg q1,q2⟩
        · obtain ⟨t', u', q1,q2⟩:=nx ((rd u ((kk+i:Nat):Int) - t % 1000000000 - s) % 4294967296) 0 (by omega) (by omega) (by omega) (by omega) (by omega)
          exact ⟨t', u', Ev.no hneg q1,q2⟩
    obtain ⟨t', u', q1,q2⟩:=fin
    refine ⟨t', u', ?_,q2⟩
    refine Ev.step (fun k=>nat_N_minus.l0.eq_2 _ _ _ _ _ _ _ k) ?_
    rw [oI kk i g1]
    refine Ev.yes (by omega) ?_
    by_cases hlt:i<v.length
    · have hy:=cT hv i hlt
      rw [hB] at hy
      have et:=hin hlt
      have hqv0:0≤q * rd v (i:Int):=Int.mul_nonneg hq0 hy.1
      refine Ev.yes (by omega) (Ev.yes (by omega) (Ev.yes (by omega) (Ev.yes (by omega) ?_)))
      rw [u64 (i:=rd v (i:Int)) (by omega) (by omega),u64 (i:=q * rd v (i:Int)) (by omega) (by omega),← et,u64 (i:=t) (by omega) (by omega),Int.tmod_eq_emod_of_nonneg (by omega),Int.tdiv_eq_ediv_of_nonneg (by omega),u64 (i:=t / 1000000000) (by omega) (by omega),Int.toNat_natCast]
      exact q1
    · have et:=hout hlt
      rw [et] at q1
      refine Ev.no (by omega) (Ev.yes (by omega) (Ev.yes (by omega) ?_))
      rw [Int.tmod_eq_emod_of_nonneg (by omega),Int.tdiv_eq_ediv_of_nonneg (by omega),u64 (i:=c / 1000000000) (by omega) (by omega),Int.toNat_natCast]
      exact q1
   by_cases hlt:i<v.length
   · have hy:=cT hv i hlt
     rw [hB] at hy
     have hqv0:0≤q * rd v (i:Int):=Int.mul_nonneg hq0 hy.1
     have hqv1:q * rd v (i:Int)≤1000000000 * 999999999:=Int.mul_le_mul hq1 (by omega) hy.1 (by omega)
     exact go (c+q * rd v (i:Int)) (by omega) (by omega) rfl (fun h=>by omega) (fun _=>rfl) (fun h=>absurd hlt h)
   · refine go c hc0 (by omega) ?_ (fun _=>hc1) (fun h=>absurd h hlt) (fun _=>rfl)
     rw [gN v i (by omega)]; simp
theorem aY7 {u v:List Int} (kk:Nat) (q:Int) (hu:ok BB u) (hv:ok BB v) (hq0:0≤q) (hq1:q≤1000000000) (hN:kk+v.length<u.length) (hN2:u.length≤100000000000) (hz:∀ p:Nat,kk+v.length<p→rd u (p:Int)=0) :
 ∃ (t:Bool) (u' : List Int),Ev (fun k=>nat_N_minus.f k u v (kk:Int) q) (t,u')∧u'.length=u.length∧ok BB u' ∧ (∀ p:Nat,kk+v.length<p→rd u' (p:Int)=0) ∧
   val BB u' = val BB u - BB ^ kk * (q * val BB v)+(if t=true then BB ^ (kk+v.length+1) else 0):=by
 unfold nat_N_minus.f
 exact aY6 v kk q u.length (val BB u - BB ^ kk * (q * val BB v)) hv hq0 hq1 hN hN2 (v.length+1) 0 u 0 0 (by omega) rfl hu hz (by omega) (by omega) (by omega) (by omega) (fun h=>by omega) (by
  rw [List.drop_zero,Nat.add_zero]; simp)
theorem aY8 (v:List Int) (kk:Nat) (N:Nat) (W:Int) (hv:ok BB v) (hN:kk+v.length<N) (hN2:N≤100000000000) (d:Nat) :
 ∀ (i:Nat) (u:List Int) (c:Int),i+d=v.length+1→u.length=N→ok BB u→(∀ p:Nat,kk+v.length<p→rd u (p:Int)=0)→0≤c→c≤1 →
   val BB u+BB ^ (kk+i) * (c+val BB (v.drop i))=W →
   ∃ (u' : List Int) (c' : Int),Ev (fun k=>nat_N_plus.l0 k u v (kk:Int) c (i:Int)) u' ∧ u'.length=N∧ok BB u' ∧ (∀ p:Nat,kk+v.length<p→rd u' (p:Int)=0)∧0≤c' ∧ c' ≤ 1 ∧
     val BB u' + BB ^ (kk+v.length+1) * c' = W:=by
 have hB:BB=1000000000:=rfl
 induction d with
 | zero =>
   intro i u c hi hu ho hz hc0 hc1 hw
   rw [show v.drop i=[] from List.drop_of_length_le (by omega)] at hw
   simp only [val,Int.add_zero] at hw
   refine ⟨u,c,?_,hu,ho,hz,hc0,hc1,?_⟩
   · refine Ev.step (fun k=>nat_N_plus.l0.eq_2 _ _ _ _ _ k) ?_
     exact Ev.no (by omega) (Ev.now _)
   · rw [show kk+v.length+1=kk+i by omega]; exact hw
 | succ d ih =>
   intro i u c hi hu ho hz hc0 hc1 hw
   have hx:=cT ho (kk+i) (by omega)
   rw [hB] at hx
   have g1:kk+i≤1000000000000:=by omega
   have eD:val BB (v.drop i)=rd v (i:Int)+BB * val BB (v.drop (i+1)):=by
    by_cases hlt:i<v.length
    · rw [eO v i hlt]; rfl
    · rw [List.drop_of_length_le (by omega),List.drop_of_length_le (by omega),gN v i (by omega)]; rfl
   have nx:∀ t:Int,0≤t→t<2000000000→t=rd u ((kk+i:Nat):Int)+c+rd v (i:Int) →
        ∃ (u' : List Int) (c' : Int),Ev (fun k=>nat_N_plus.l0 k (u.set (kk+i) (t % 4294967296 % 1000000000)) v (kk:Int) (t % 4294967296 / 1000000000) (wrap64 ((i:Int)+1))) u' ∧ u'.length=N∧ok BB u' ∧ (∀ p:Nat,kk+v.length<p→rd u' (p:Int)=0)∧0≤c' ∧ c' ≤ 1 ∧
          val BB u' + BB ^ (kk+v.length+1) * c' = W:=by
    intro t ht0 ht1 et
    rw [dZ (by omega),show t % 4294967296=t by omega]
    have hm:=Int.mul_ediv_add_emod t 1000000000
    refine ih (i+1) _ _ (by omega) (by simpa using hu) (oG ho _ (by omega) (by show _<(1000000000:Int); omega)) (fun p hp=>by rw [fK _ _ _ _ (by omega)]; exact hz p hp) (by omega) (by omega) ?_
    rw [kI _ _ _ (by omega),← hw,eD,← Nat.add_assoc,Int.pow_succ,hB]
    exact NatAlg.plus1 _ _ _ _ _ _ _ _ t et hm
   by_cases hlt:i<v.length
   · have hy:=cT hv i hlt
     rw [hB] at hy
     obtain ⟨u', c', q1,q2⟩:=nx (rd u ((kk+i:Nat):Int)+c+rd v (i:Int)) (by omega) (by omega) rfl
     refine ⟨u', c', ?_,q2⟩
     refine Ev.step (fun k=>nat_N_plus.l0.eq_2 _ _ _ _ _ k) ?_
     rw [oI kk i g1]
     refine Ev.yes (by omega) (Ev.yes (by omega) (Ev.yes (by omega) (Ev.yes (by omega) (Ev.yes (by omega) ?_))))
     rw [Int.toNat_natCast]
     exact q1
   · obtain ⟨u', c', q1,q2⟩:=nx (rd u ((kk+i:Nat):Int)+c) (by omega) (by omega) (by rw [gN v i (by omega)]; omega)
     refine ⟨u', c', ?_,q2⟩
     refine Ev.step (fun k=>nat_N_plus.l0.eq_2 _ _ _ _ _ k) ?_
     rw [oI kk i g1]
     refine Ev.yes (by omega) (Ev.yes (by omega) (Ev.yes (by omega) (Ev.no (by omega) ?_)))
     rw [Int.toNat_natCast]
     exact q1
theorem aY9 {u v:List Int} (kk:Nat) (hu:ok BB u) (hv:ok BB v) (hN:kk+v.length<u.length) (hN2:u.length≤100000000000) (hz:∀ p:Nat,kk+v.length<p→rd u (p:Int)=0) :
 ∃ (u' : List Int) (c' : Int),Ev (fun k=>nat_N_plus.f k u v (kk:Int)) u' ∧ u'.length=u.length∧ok BB u' ∧ (∀ p:Nat,kk+v.length<p→rd u' (p:Int)=0)∧0≤c' ∧ c' ≤ 1 ∧
   val BB u' + BB ^ (kk+v.length+1) * c' = val BB u+BB ^ kk * val BB v:=by
 unfold nat_N_plus.f
 exact aY8 v kk u.length (val BB u+BB ^ kk * val BB v) hv hN hN2 (v.length+1) 0 u 0 (by omega) rfl hu hz (by omega) (by omega) (by
  rw [List.drop_zero,Nat.add_zero]; simp)
end
section
theorem aZA {b:Int} {l:List Int} (h:∀ p:Nat,p<l.length→0≤rd l (p:Int)∧rd l (p:Int)<b):ok b l:=by
 intro x hx
 obtain ⟨p,hp,rfl⟩:=List.mem_iff_getElem.1 hx
 have:=h p hp
 rw [g7 l p hp] at this
 exact this
theorem aLK {b:Int} (hb:0≤b):∀ {l:List Int},(∀ p:Nat,0≤rd l (p:Int))→0≤val b l
 | [],_=>by simp [val]
 | x :: r,h=>by
   have h0:=h 0
   have h1:0≤val b r:=aLK hb (fun p=>by have:=h (p+1); simpa [rd] using this)
   have h2:0≤b * val b r:=Int.mul_nonneg hb h1
   simp [rd] at h0
   simp only [val]; omega
theorem aZB {l:List Int} (n:Nat) (hl:l.length=n+1) (h:∀ p:Nat,0≤rd l (p:Int)):10 ^ n * rd l (n:Int)≤val 10 l:=by
 have e:=aK1 l n hl
 have h1:val 10 l=val 10 (l.take n)+10 ^ n * rd l (n:Int):=by
  conv=>lhs; rw [e]
  rw [eE,List.length_take,Nat.min_eq_left (by omega)]
 have h2:0≤val 10 (l.take n):=aLK (by decide) (fun p=>by
  by_cases hp:p<n
  · have:rd (l.take n) (p:Int)=rd l (p:Int):=by
        simp only [rd,Int.toNat_natCast,List.getD_eq_getElem?_getD,List.getElem?_take,if_pos hp]
    rw [this]; exact h p
  · rw [gN _ p (by simp; omega)]; omega)
 omega
theorem aLL (N:Nat) (h:1≤N) (hN:N≤100000000000):wrap64 ((N:Int) - 1)=((N - 1:Nat):Int):=by rw [w64] <;> omega
theorem aZC (a b:ByteArray) (i N:Nat) (V:Int) (R:ByteArray→Prop) (hN:N≤20000000000) (hN1:1≤N) (hV:V<10 ^ (N - 1))
 (next:∀ out' : List Int,out'.length=N→ok 10 out' → val 10 out' = V→∃ t,Ev (fun k=>gamehallref2_NatMul.l0 k a b out' (a.size:Int) (wrap64 ((i:Int)+1))) t∧R t) (d:Nat) :
 ∀ (p:Nat) (out:List Int),p+d=N - 1→out.length=N→(∀ q:Nat,0≤rd out (q:Int))→(∀ q:Nat,q<p→rd out (q:Int)≤9)→rd out (p:Int)≤100→(∀ q:Nat,p<q→rd out (q:Int)≤90)→val 10 out=V →
   ∃ t,Ev (fun k=>gamehallref2_NatMul.l2 k a b out (a.size:Int) (i:Int) ((N - 1:Nat):Int) (p:Int)) t∧R t:=by
 induction d with
 | zero =>
   intro p out hp ho h0 h9 h100 h90 hv
   obtain ⟨t,t1,t2⟩:=next out ho (aZA (fun q hq=>by
    refine ⟨h0 q,?_⟩
    by_cases hqp:q<p
    · have:=h9 q hqp; omega
    · have hq' : q=N - 1:=by omega
      subst hq'
      have:=aZB (l:=out) (N - 1) (by omega) h0
      rw [hv] at this
      by_cases h:rd out ((N - 1:Nat):Int)<10
      · exact h
      · have h1:(10:Int) ^ (N - 1) * 1≤10 ^ (N - 1) * rd out ((N - 1:Nat):Int):=Int.mul_le_mul_of_nonneg_left (by omega) (Int.le_of_lt (Int.pow_pos (by decide)))
        omega)) hv
   refine ⟨t,?_,t2⟩
   refine Ev.step (fun k=>gamehallref2_NatMul.l2.eq_2 _ _ _ _ _ _ _ k) ?_
   exact Ev.no (by omega) t1
 | succ d ih =>
   intro p out hp ho h0 h9 h100 h90 hv
   have hd0:=h0 p
   have hd1:=h0 (p+1)
   have hd2:=h90 (p+1) (by omega)
   have g2:p<1000000000000000:=by omega
   have b1:(p:Int)<((N - 1:Nat):Int):=by omega
   have b2:(0:Int)≤(p:Int):=by omega
   have b3:(p:Int)<(out.length:Int):=by omega
   by_cases hbig:rd out (p:Int) > 9
   · have hm:10 * (rd out (p:Int) / 10)+rd out (p:Int) % 10=rd out (p:Int):=by omega
     obtain ⟨t,t1,t2⟩:=ih (p+1) ((out.set (p+1) (rd out ((p+1:Nat):Int)+rd out (p:Int) / 10)).set p (rd out (p:Int) % 10)) (by omega) (by simpa using ho) (fun q=>by
      by_cases hq:p=q
      · subst hq; rw [oH _ _ _ (by simp; omega)]; omega
      · rw [fK _ _ _ _ hq]
        by_cases hq1:p+1=q
        · subst hq1; rw [oH _ _ _ (by omega)]; omega
        · rw [fK _ _ _ _ hq1]; exact h0 q) (fun q hq=>by
      by_cases hq' : p=q
      · subst hq'; rw [oH _ _ _ (by simp; omega)]; omega
      · rw [fK _ _ _ _ hq', fK _ _ _ _ (by omega)]; exact h9 q (by omega)) (by
      rw [fK _ _ _ _ (by omega),oH _ _ _ (by omega)]; omega) (fun q hq=>by
      rw [fK _ _ _ _ (by omega),fK _ _ _ _ (by omega)]; exact h90 q (by omega)) (by
      rw [kI _ _ _ (by simp; omega),kI _ _ _ (by omega),fK _ _ _ _ (by omega),← hv,Int.pow_succ]
      exact NatAlg.norm1 _ _ _ _ _ _ hm)
     refine ⟨t,?_,t2⟩
     refine Ev.step (fun k=>gamehallref2_NatMul.l2.eq_2 _ _ _ _ _ _ _ k) ?_
     have b4:(0:Int)≤((p+1:Nat):Int):=by omega
     have b5:((p+1:Nat):Int)<(out.length:Int):=by omega
     rw [dZ g2,Int.tdiv_eq_ediv_of_nonneg hd0,w64 (i:=rd out (p:Int) / 10) (by omega) (by omega),w64 (i:=rd out ((p+1:Nat):Int)+rd out (p:Int) / 10) (by omega) (by omega)]
     refine Ev.yes b1 (Ev.yes b2 (Ev.yes b3 (Ev.yes hbig (Ev.yes b4 (Ev.yes b5 (Ev.some_bind ?_))))))
     rw [Int.toNat_natCast,Int.toNat_natCast,fK _ _ _ _ (by omega),Int.tmod_eq_emod_of_nonneg hd0]
     exact t1
   · obtain ⟨t,t1,t2⟩:=ih (p+1) out (by omega) ho h0 (fun q hq=>by
      by_cases hq' : q=p
      · subst hq'; omega
      · exact h9 q (by omega)) (by omega) (fun q hq=>h90 q (by omega)) hv
     refine ⟨t,?_,t2⟩
     refine Ev.step (fun k=>gamehallref2_NatMul.l2.eq_2 _ _ _ _ _ _ _ k) ?_
     rw [dZ g2]
     exact Ev.yes b1 (Ev.yes b2 (Ev.yes b3 (Ev.no hbig t1)))
theorem aZD (a b:ByteArray) (hb:asc (bytesOf b)) (i N:Nat) (x V:Int) (R:ByteArray→Prop) (hN:N≤20000000000) (hi:i+b.size<N) (hx0:0≤x) (hx1:x≤9) (hV:V<10 ^ (N - 1))
 (next:∀ out' : List Int,out'.length=N→ok 10 out' → val 10 out' = V→∃ t,Ev (fun k=>gamehallref2_NatMul.l0 k a b out' (a.size:Int) (wrap64 ((i:Int)+1))) t∧R t) (d:Nat) :
 ∀ (j:Nat) (out:List Int),j+d=b.size→out.length=N→(∀ q:Nat,0≤rd out (q:Int))→(∀ q:Nat,rd out (q:Int)≤90)→(∀ q:Nat,i+j≤q→rd out (q:Int)≤9)→val 10 out+10 ^ (i+j) * (x * val 10 ((aJ (bytesOf b)).drop j))=V →
   ∃ t,Ev (fun k=>gamehallref2_NatMul.l1 k a b out (i:Int) x (a.size:Int) (i:Int) (b.size:Int) (j:Int)) t∧R t:=by
 have lb:(aJ (bytesOf b)).length=b.size:=by rw [b7,bB]
 induction d with
 | zero =>
   intro j out hj ho h0 h90 h9 hv
   rw [List.drop_of_length_le (by omega)] at hv
   simp only [val,Int.mul_zero,Int.add_zero] at hv
   obtain ⟨t,t1,t2⟩:=aZC a b i N V R hN (by omega) hV next (N - 1) 0 out (by omega) ho h0 (fun q hq=>by omega) (by have:=h90 0; simp only [Int.natCast_zero] at this ⊢; omega) (fun q _=>h90 q) hv
   refine ⟨t,?_,t2⟩
   refine Ev.step (fun k=>gamehallref2_NatMul.l1.eq_2 _ _ _ _ _ _ _ _ _ k) ?_
   rw [ho,aLL N (by omega) (by omega),Int.toNat_natCast,List.length_take,ho,Nat.min_eq_left (by omega)]
   exact Ev.no (by omega) (Ev.yes (by omega) (Ev.yes (by omega) t1))
 | succ d ih =>
   intro j out hj ho h0 h90 h9 hv
   have hy:=cT (bU hb) j (by omega)
   have hr0:=h0 (i+j)
   have hr9:=h9 (i+j) (by omega)
   have hxy0:0≤x * rd (aJ (bytesOf b)) (j:Int):=Int.mul_nonneg hx0 hy.1
   have hxy1:x * rd (aJ (bytesOf b)) (j:Int)≤9 * 9:=Int.mul_le_mul hx1 (by omega) hy.1 (by omega)
   have g1:i+j≤1000000000000:=by omega
   have g2:j<1000000000000000:=by omega
   have b1:(j:Int)<(b.size:Int):=by omega
   have b3:(0:Int)≤((i+j:Nat):Int):=by omega
   have b4:((i+j:Nat):Int)<(out.length:Int):=by omega
   obtain ⟨t,t1,t2⟩:=ih (j+1) (out.set (i+j) (rd out ((i+j:Nat):Int)+x * rd (aJ (bytesOf b)) (j:Int))) (by omega) (by simpa using ho) (fun q=>by
        by_cases hq:i+j=q
        · subst hq; rw [oH _ _ _ (by omega)]; omega
        · rw [fK _ _ _ _ hq]; exact h0 q) (fun q=>by
        by_cases hq:i+j=q
        · subst hq; rw [oH _ _ _ (by omega)]; omega
        · rw [fK _ _ _ _ hq]; exact h90 q) (fun q hq=>by
        rw [fK _ _ _ _ (by omega)]; exact h9 q (by omega)) (by
        rw [kI _ _ _ (by omega),← hv,eO (aJ (bytesOf b)) j (by omega),← Nat.add_assoc,Int.pow_succ]
        simp only [val]
        exact NatAlg.row1 _ _ _ _ _ _ _)
   refine ⟨t,?_,t2⟩
   refine Ev.step (fun k=>gamehallref2_NatMul.l1.eq_2 _ _ _ _ _ _ _ _ _ k) ?_
   rw [oI i j g1,dZ g2]
   refine Ev.yes b1 (Ev.yes b3 (Ev.yes b4 (Ev.opt_bind (kG b hb (by omega) j (by omega)) ?_)))
   rw [w64 (i:=x * rd (aJ (bytesOf b)) (j:Int)) (by omega) (by omega),w64 (i:=rd out ((i+j:Nat):Int)+x * rd (aJ (bytesOf b)) (j:Int)) (by omega) (by omega),Int.toNat_natCast]
   exact t1
theorem aZE (a b:ByteArray) (ha:asc (bytesOf a)) (hb:asc (bytesOf b)) (hs:a.size+b.size≤10000000000) (hV:val 10 (aJ (bytesOf a)) * val 10 (aJ (bytesOf b))<10 ^ (a.size+b.size)) (d:Nat) :
 ∀ (i:Nat) (out:List Int),i+d=a.size→out.length=a.size+b.size+1→ok 10 out→val 10 out+10 ^ i * (val 10 ((aJ (bytesOf a)).drop i) * val 10 (aJ (bytesOf b)))=val 10 (aJ (bytesOf a)) * val 10 (aJ (bytesOf b)) →
   ∃ t,Ev (fun k=>gamehallref2_NatMul.l0 k a b out (a.size:Int) (i:Int)) t∧aW t (val 10 (aJ (bytesOf a)) * val 10 (aJ (bytesOf b)))∧t.size≤10000000010:=by
 have la:(aJ (bytesOf a)).length=a.size:=by rw [b7,bB]
 induction d with
 | zero =>
   intro i out hi ho hok hv
   rw [List.drop_of_length_le (by omega)] at hv
   simp only [val,Int.zero_mul,Int.mul_zero,Int.add_zero] at hv
   obtain ⟨t,t1,t2,t3⟩:=aDN out (by omega) hok
   rw [hv] at t2
   refine ⟨t,?_,t2,by omega⟩
   refine Ev.step (fun k=>gamehallref2_NatMul.l0.eq_2 _ _ _ _ _ k) ?_
   exact Ev.no (by omega) (Ev.bind1 t1 (Ev.now _))
 | succ d ih =>
   intro i out hi ho hok hv
   have hx:=cT (bU ha) i (by omega)
   have hB:0≤val 10 (aJ (bytesOf b)):=cW (by decide) (bU hb)
   have hA:0≤val 10 ((aJ (bytesOf a)).drop (i+1)):=cW (by decide) (fun x hx=>bU ha x (List.mem_of_mem_drop hx))
   have hle:val 10 out+10 ^ i * (rd (aJ (bytesOf a)) (i:Int) * val 10 (aJ (bytesOf b)))≤val 10 (aJ (bytesOf a)) * val 10 (aJ (bytesOf b)):=by
    rw [← hv,eO (aJ (bytesOf a)) i (by omega)]
    simp only [val]
    rw [NatAlg.row2]
    have:0≤10 ^ i * (10 * val 10 ((aJ (bytesOf a)).drop (i+1)) * val 10 (aJ (bytesOf b))):=Int.mul_nonneg (Int.le_of_lt (Int.pow_pos (by decide))) (Int.mul_nonneg (Int.mul_nonneg (by decide) hA) hB)
    omega
   have g2:i<1000000000000000:=by omega
   have b1:(i:Int)<(a.size:Int):=by omega
   obtain ⟨t,t1,t2⟩:=aZD a b hb i (a.size+b.size+1) (rd (aJ (bytesOf a)) (i:Int)) (val 10 out+10 ^ i * (rd (aJ (bytesOf a)) (i:Int) * val 10 (aJ (bytesOf b)))) (fun t=>aW t (val 10 (aJ (bytesOf a)) * val 10 (aJ (bytesOf b)))∧t.size≤10000000010) (by omega) (by omega) hx.1 (by omega) (by
        rw [Nat.add_sub_cancel]; omega) (fun out' h1 h2 h3=>by
        rw [dZ g2]
        exact ih (i+1) out' (by omega) h1 h2 (by
         rw [h3,← hv,eO (aJ (bytesOf a)) i (by omega),Int.pow_succ]
         simp only [val]
         exact NatAlg.mul2 _ _ _ _ _ _)) b.size 0 out (by omega) ho (fun q=>(lS (by decide) hok q).1) (fun q=>by have:=(lS (by decide) hok q).2; omega) (fun q _=>by have:=(lS (by decide) hok q).2; omega) (by rw [List.drop_zero,Nat.add_zero])
   refine ⟨t,?_,t2⟩
   refine Ev.step (fun k=>gamehallref2_NatMul.l0.eq_2 _ _ _ _ _ k) ?_
   exact Ev.yes b1 (Ev.opt_bind (kG a ha (by omega) i (by omega)) t1)
theorem aZF {a b:ByteArray} {u v:Int} (ha:aW a u) (hb:aW b v) (hs:a.size+b.size≤10000000000) :
 ∃ t,Ev (fun k=>gamehallref2_NatMul.f k a b) t∧aW t (u * v)∧t.size≤10000000010:=by
 have h1:=dN (b:=10) (by decide) (bU ha.1)
 have h2:=dN (b:=10) (by decide) (bU hb.1)
 have n1:=cW (b:=10) (by decide) (bU ha.1)
 have n2:=cW (b:=10) (by decide) (bU hb.1)
 rw [b7,bB] at h1 h2
 have hV:val 10 (aJ (bytesOf a)) * val 10 (aJ (bytesOf b))<10 ^ (a.size+b.size):=by
  rw [Int.pow_add]
  have p1:(0:Int)<10 ^ a.size:=Int.pow_pos (by decide)
  have p2:(0:Int)<10 ^ b.size:=Int.pow_pos (by decide)
  have h3:val 10 (aJ (bytesOf a)) * val 10 (aJ (bytesOf b))≤val 10 (aJ (bytesOf a)) * 10 ^ b.size:=Int.mul_le_mul_of_nonneg_left (Int.le_of_lt h2) n1
  have h4:=Int.mul_lt_mul_of_pos_right h1 p2
  omega
 obtain ⟨t,t1,t2,t3⟩:=aZE a b ha.1 hb.1 hs hV a.size 0 (List.replicate (a.size+b.size+1) 0) (by omega) (by simp) (fun x hx=>by rw [List.eq_of_mem_replicate hx]; decide) (by
  have:=aKZ (b:=10) [] (a.size+b.size+1)
  rw [List.nil_append] at this
  rw [this,List.drop_zero]; simp [val])
 rw [ha.2.1,hb.2.1] at t2
 refine ⟨t,?_,t2,t3⟩
 unfold gamehallref2_NatMul.f
 have e:wrap64 (wrap64 ((a.size:Int)+(b.size:Int))+1)=((a.size+b.size+1:Nat):Int):=by
  rw [oI a.size b.size (by omega),dZ (by omega)]
 rw [e,Int.toNat_natCast]
 exact Ev.yes (by omega) (Ev.yes (by omega) t1)
theorem aZG {t:ByteArray} {w:Int} (h:aW t w) (n:Nat) (hn:1≤n) (hw:w<10 ^ n):t.size≤n:=by
 by_cases hle:t.size≤n
 · exact hle
 · have hne:aJ (bytesOf t)≠[]:=fun z=>by
    have:=congrArg List.length z
    rw [b7,bB,List.length_nil] at this
    omega
   have h1:=hR (b:=10) (by decide) (bU h.1) (lR (h.2.2.2 (by omega))) hne
   rw [b7,bB,h.2.1] at h1
   have h2:(10:Int) ^ n≤10 ^ (t.size - 1):=e6 (by decide) (by omega)
   omega
theorem aZH {t:ByteArray} {w:Int} (h:aW t w) (n:Nat) (hn:t.size≤n):w<10 ^ n:=by
 have h1:=dN (b:=10) (by decide) (bU h.1)
 rw [b7,bB,h.2.1] at h1
 have h2:(10:Int) ^ t.size≤10 ^ n:=e6 (by decide) hn
 omega
end
section
theorem xQ (l:List Int) (i:Nat):val BB (l.drop i)=rd l (i:Int)+BB * val BB (l.drop (i+1)):=by
 by_cases hlt:i<l.length
 · rw [eO l i hlt]; rfl
 · rw [List.drop_of_length_le (by omega),List.drop_of_length_le (by omega),gN l i (by omega)]; rfl
theorem aDQ (l:List Int) (j:Nat) (h:j≤l.length):val BB l=val BB (l.take j)+BB ^ j * val BB (l.drop j):=by
 have h1:=i4 (b:=BB) (l.take j) (l.drop j)
 rw [List.take_append_drop,List.length_take,Nat.min_eq_left h] at h1
 exact h1
theorem r9 {l:List Int} (ho:ok BB l) (j:Nat):0≤val BB (l.take j)∧val BB (l.take j)<BB ^ j:=by
 refine ⟨cW (by decide) (oF ho j),?_⟩
 have h4:=dN (b:=BB) (by decide) (oF ho j)
 have h5:BB ^ (l.take j).length≤BB ^ j:=e6 (by decide) (by simp; omega)
 omega
theorem aLM {U Vv K P T V2 low vl x:Int} (hK:0<K) (hP:0<P) (hU:U=K * P * T+low) (hl1:low<K * P) (hV:Vv=P * V2+vl) (hv0:0≤vl) (hx:0≤x) (h:T<x * V2):U<x * Vv * K:=by
 have h1:K * P * (T+1)≤K * P * (x * V2):=Int.mul_le_mul_of_nonneg_left (by omega) (Int.le_of_lt (Int.mul_pos hK hP))
 have h2:0≤x * vl * K:=Int.mul_nonneg (Int.mul_nonneg hx hv0) (Int.le_of_lt hK)
 have h3:x * Vv * K=K * P * (x * V2)+x * vl * K:=by rw [hV]; exact NatAlg.est1 _ _ _ _ _
 have h4:K * P * (T+1)=K * P * T+K * P:=by rw [Int.mul_add,Int.mul_one]
 omega
theorem aLN {U Vv K P T V2 low vl x B:Int} (hK:0<K) (hP:0<P) (hU:U=K * P * T+low) (hl0:0≤low) (hV:Vv=P * V2+vl) (hv0:0≤vl) (hv1:vl<P) (hx:0≤x) (hxB:x≤B) (hB:B≤V2) (h:x * V2≤T):(x - 1) * Vv * K≤U:=by
 have h1:K * P * (x * V2)≤K * P * T:=Int.mul_le_mul_of_nonneg_left h (Int.le_of_lt (Int.mul_pos hK hP))
 have h2:x * vl≤V2 * P:=Int.mul_le_mul (by omega) (by omega) hv0 (by omega)
 have h3:x * Vv * K=K * P * (x * V2)+(x * vl) * K:=by rw [hV]; exact NatAlg.est1 _ _ _ _ _
 have h4:(x * vl) * K≤(V2 * P) * K:=Int.mul_le_mul_of_nonneg_right h2 (Int.le_of_lt hK)
 have h5:0≤vl * K:=Int.mul_nonneg hv0 (Int.le_of_lt hK)
 have h6:(x - 1) * Vv * K=x * Vv * K - ((V2 * P) * K+vl * K):=by rw [hV]; exact NatAlg.est2 _ _ _ _ _
 omega
def Good (U Vv K x:Int):Prop:=0≤x∧x≤1000000000∧U<(x+1) * Vv * K∧(x - 1) * Vv * K≤U
theorem w3 (k n2 L:Nat) (h:L=n2+2) (hb:k+n2≤100000000000):wrap64 ((k:Int)+(L:Int))=((k+n2+2:Nat):Int)∧wrap64 (((k+n2+2:Nat):Int) - 1)=((k+n2+1:Nat):Int)∧wrap64 ((L:Int) - 1)=((n2+1:Nat):Int):=by
 refine ⟨?_,?_,?_⟩ <;> (rw [w64] <;> omega)
theorem w3b (k n2 L:Nat) (h:L=n2+2) (hb:k+n2≤100000000000):wrap64 ((L:Int) - 2)=(n2:Int)∧wrap64 (wrap64 ((k:Int)+(L:Int)) - 2)=((k+n2:Nat):Int):=by
 refine ⟨?_,?_⟩
 · rw [w64] <;> omega
 · rw [(w3 k n2 L h hb).1,w64] <;> omega
section
variable (by_:Int) (u v out:List Int) (kk n2:Nat) (K P low vl:Int)
theorem aZI (hu:ok BB u) (hv:ok BB v) (hn:v.length=n2+2) (hL:kk+n2+2<u.length) (hL2:u.length≤100000000000) (hK:0<K) (hP:0<P)
 (hU:val BB u=K * P * ((rd u ((kk+n2+2:Nat):Int) * BB+rd u ((kk+n2+1:Nat):Int)) * BB+rd u ((kk+n2:Nat):Int))+low) (hl0:0≤low) (hl1:low<K * P)
 (hV:val BB v=P * (rd v ((n2+1:Nat):Int) * BB+rd v (n2:Int))+vl) (hv0:0≤vl) (hv1:vl<P) (hn1:1≤rd v ((n2+1:Nat):Int))
 (hlt:val BB u<1000000000 * val BB v * K) (m:Nat) :
 ∀ qh rh:Int,qh * rd v ((n2+1:Nat):Int)+rh=rd u ((kk+n2+2:Nat):Int) * BB+rd u ((kk+n2+1:Nat):Int)→val BB u<(qh+1) * val BB v * K→0≤qh→qh≤1000000001→0≤rh→rh<1000000000→(1000000000 - rh).toNat≤m →
   ∃ x,Good (val BB u) (val BB v) K x∧∀ res,Ev (fun k=>nat_N_Div.j4 k by_ u v (v.length:Int) out (kk:Int) x) res→Ev (fun k=>nat_N_Div.l2 k by_ u v (v.length:Int) out (kk:Int) qh rh) res:=by
 have hB:BB=1000000000:=rfl
 have hd1:=cT hv (n2+1) (by omega)
 have hd2:=cT hv n2 (by omega)
 have hu3:=cT hu (kk+n2) (by omega)
 have hu2:=cT hu (kk+n2+1) (by omega)
 rw [hB] at hd1 hd2 hu3 hu2
 have g9:kk+n2≤100000000000:=by omega
 induction m with
 | zero=>intro qh rh h1 h2 h3 h4 h5 h6 h7; omega
 | succ m ih =>
   intro qh rh h1 h2 h3 h4 h5 h6 h7
   have hqv0:0≤qh * rd v (n2:Int):=Int.mul_nonneg h3 hd2.1
   have hqv1:qh * rd v (n2:Int)≤1000000001 * 999999999:=Int.mul_le_mul h4 (by omega) hd2.1 (by omega)
   -- a true test: one less
   have less:val BB u<qh * val BB v * K→1≤qh→∃ x,Good (val BB u) (val BB v) K x∧∀ res,Ev (fun k=>nat_N_Div.j4 k by_ u v (v.length:Int) out (kk:Int) x) res→Ev (fun k=>nat_N_Div.j3 k by_ u v (v.length:Int) out (kk:Int) qh rh true) res:=by
    intro hlt' hq1
    by_cases hr:rh+rd v ((n2+1:Nat):Int) ≥ 1000000000
    · refine ⟨qh - 1,⟨by omega,by omega,by rw [Int.sub_add_cancel]; exact hlt', ?_⟩,?_⟩
      · refine aLN (B:=1000000000) hK hP hU hl0 hV hv0 hv1 (by omega) (by omega) ?_ ?_
        · rw [hB]; omega
        · have h8:(qh - 1) * rd v (n2:Int)≤1000000000 * 999999999:=Int.mul_le_mul (by omega) (by omega) hd2.1 (by omega)
          have h9:(qh - 1) * (rd v ((n2+1:Nat):Int) * BB+rd v (n2:Int))=(qh * rd v ((n2+1:Nat):Int) - rd v ((n2+1:Nat):Int)) * BB+(qh - 1) * rd v (n2:Int):=NatAlg.a1 _ _ _ _
          rw [h9,hB] 
          rw [hB] at h1
          omega
      · intro res hres
        refine Ev.step (fun k=>nat_N_Div.j3.eq_2 _ _ _ _ _ _ _ _ _ k) ?_
        rw [(w3 kk n2 v.length hn g9).2.2,u64 (i:=rd v ((n2+1:Nat):Int)) (by omega) (by omega),u64 (i:=rh+rd v ((n2+1:Nat):Int)) (by omega) (by omega),u64 (i:=qh - 1) (by omega) (by omega)]
        exact Ev.yes rfl (Ev.yes (by omega) (Ev.yes (by omega) (Ev.yes hr hres)))
    · obtain ⟨x,gx,hx⟩:=ih (qh - 1) (rh+rd v ((n2+1:Nat):Int)) (by rw [← h1]; exact NatAlg.a2 _ _ _) (by rw [Int.sub_add_cancel]; exact hlt') (by omega) (by omega) (by omega) (by omega) (by omega)
      refine ⟨x,gx,fun res hres=>?_⟩
      refine Ev.step (fun k=>nat_N_Div.j3.eq_2 _ _ _ _ _ _ _ _ _ k) ?_
      rw [(w3 kk n2 v.length hn g9).2.2,u64 (i:=rd v ((n2+1:Nat):Int)) (by omega) (by omega),u64 (i:=rh+rd v ((n2+1:Nat):Int)) (by omega) (by omega),u64 (i:=qh - 1) (by omega) (by omega)]
      exact Ev.yes rfl (Ev.yes (by omega) (Ev.yes (by omega) (Ev.no hr (hx res hres))))
   by_cases hq:qh ≥ 1000000000
   · have hVK:0≤val BB v * K:=Int.mul_nonneg (cW (by decide) hv) (Int.le_of_lt hK)
     obtain ⟨x,gx,hx⟩:=less (by
        have:=Int.mul_le_mul_of_nonneg_right hq hVK
        rw [← Int.mul_assoc,← Int.mul_assoc] at this
        omega) (by omega)
     refine ⟨x,gx,fun res hres=>?_⟩
     refine Ev.step (fun k=>nat_N_Div.l2.eq_2 _ _ _ _ _ _ _ _ k) ?_
     exact Ev.yes hq (hx res hres)
   · have tests:∀ res,Ev (fun k=>nat_N_Div.j3 k by_ u v (v.length:Int) out (kk:Int) qh rh (decide (qh * rd v (n2:Int) > rh * 1000000000+rd u ((kk+n2:Nat):Int)))) res→Ev (fun k=>nat_N_Div.l2 k by_ u v (v.length:Int) out (kk:Int) qh rh) res:=by
        intro res hres
        refine Ev.step (fun k=>nat_N_Div.l2.eq_2 _ _ _ _ _ _ _ _ k) ?_
        rw [(w3b kk n2 v.length hn g9).1,(w3b kk n2 v.length hn g9).2,u64 (i:=rd v (n2:Int)) (by omega) (by omega),u64 (i:=qh * rd v (n2:Int)) (by omega) (by omega),u64 (i:=rh * 1000000000) (by omega) (by omega),u64 (i:=rd u ((kk+n2:Nat):Int)) (by omega) (by omega),u64 (i:=rh * 1000000000+rd u ((kk+n2:Nat):Int)) (by omega) (by omega)]
        exact Ev.no hq (Ev.yes (by omega) (Ev.yes (by omega) (Ev.yes (by omega) (Ev.yes (by omega) hres))))
     have hT:qh * (rd v ((n2+1:Nat):Int) * BB+rd v (n2:Int))=(qh * rd v ((n2+1:Nat):Int)) * BB+qh * rd v (n2:Int):=NatAlg.a3 _ _ _ _
     by_cases ht:qh * rd v (n2:Int) > rh * 1000000000+rd u ((kk+n2:Nat):Int)
     · have hq1:1≤qh:=by
        by_cases h:1≤qh
        · exact h
        · rw [show qh=0 by omega,Int.zero_mul] at ht
          omega
       obtain ⟨x,gx,hx⟩:=less (aLM hK hP hU hl1 hV hv0 h3 (by
        rw [hT]
        rw [hB] at h1 ⊢
        omega)) hq1
       refine ⟨x,gx,fun res hres=>tests res ?_⟩
       rw [decide_eq_true ht]
       exact hx res hres
     · refine ⟨qh,⟨h3,by omega,h2,?_⟩,fun res hres=>tests res ?_⟩
       · refine aLN (B:=1000000000) hK hP hU hl0 hV hv0 hv1 h3 (by omega) ?_ ?_
         · rw [hB]; omega
         · rw [hT]
           rw [hB] at h1 ⊢
           omega
       · rw [decide_eq_false ht]
         refine Ev.step (fun k=>nat_N_Div.j3.eq_2 _ _ _ _ _ _ _ _ _ k) ?_
         exact Ev.no (by simp) hres
end
theorem aLO (l:List Int) (j:Nat) (h:j≤l.length):val BB l=val BB (l.take j)+BB ^ j * (rd l (j:Int)+BB * (rd l ((j+1:Nat):Int)+BB * (rd l ((j+2:Nat):Int)+BB * val BB (l.drop (j+3))))):=by
 rw [aDQ l j h,xQ l j,xQ l (j+1),xQ l (j+2)]
theorem aZJ (d:Int) (v:List Int) (n2:Nat) (A:Int) (L:Nat) (hd0:0<d) (hd1:d<1000000000) (hv:ok BB v) (hn:v.length=n2+2) (htop:500000000≤rd v ((n2+1:Nat):Int)) (hL2:L≤100000000000) (m:Nat) :
 ∀ (u out:List Int),u.length=L→m+n2+2≤L→out.length=L - (n2+2)→ok BB u→ok BB out→val BB u<val BB v * BB ^ m→val BB (out.drop m) * BB ^ m * val BB v+val BB u=A →
   ∃ q r,Ev (fun k=>nat_N_Div.l1 k d u v (v.length:Int) out ((m:Int) - 1)) (q,r)∧bJ q (A / val BB v)∧bJ r (A % val BB v / d)∧q.length≤L∧r.length≤L:=by
 have hB:BB=1000000000:=rfl
 have hV0:0≤val BB v:=cW (by decide) hv
 have hVs:=aLO v n2 (by omega)
 rw [show v.drop (n2+3)=[] from List.drop_of_length_le (by omega),gN v (n2+2) (by omega)] at hVs
 simp only [val,Int.mul_zero,Int.add_zero] at hVs
 obtain ⟨vl0,vl1⟩:=r9 hv n2
 induction m with
 | zero =>
   intro u out hu _ ho hou hoo hlt hA
   simp only [List.drop_zero,Int.pow_zero,Int.mul_one] at hlt hA
   have hVpos:0<val BB v:=by have:=cW (b:=BB) (by decide) hou; omega
   obtain ⟨a1,a2⟩:=r8 hVpos hA (cW (by decide) hou) hlt
   obtain ⟨t,t1,t2,t3,t4,t5⟩:=lQ u (by omega) hou
   obtain ⟨q,q1,q2,q3,q4,q5⟩:=lQ out (by omega) hoo
   obtain ⟨s,r,s1,s2,s3,s4,s5⟩:=aLH (u:=val BB u) ⟨t2,t3,t4⟩ d hd0 hd1 (by omega)
   refine ⟨q,s,?_,⟨by rw [q2,a1],q3,q4⟩,by rw [a2]; exact s2,by omega,by omega⟩
   refine Ev.step (fun k=>nat_N_Div.l1.eq_2 _ _ _ _ _ _ k) ?_
   exact Ev.no (by omega) (Ev.bind1 t1 (Ev.bind1 s1 (Ev.bind1 q1 (Ev.now _))))
 | succ k ih =>
   intro u out hu hm ho hou hoo hlt hA
   -- the digits
   have hUs:=aLO u (k+n2) (by omega)
   have hhigh:val BB u<BB ^ (k+n2+3):=by
    have h1:=dN (b:=BB) (by decide) hv
    have h2:val BB v * BB ^ (k+1)≤BB ^ v.length * BB ^ (k+1):=Int.mul_le_mul_of_nonneg_right (Int.le_of_lt h1) (Int.le_of_lt (Int.pow_pos (by decide)))
    rw [← Int.pow_add,hn,show n2+2+(k+1)=k+n2+3 by omega] at h2
    omega
   have hz:∀ p:Nat,k+v.length<p→rd u (p:Int)=0:=fun p hp=>aY5 hou _ hhigh p (by omega)
   have hz3:val BB (u.drop (k+n2+3))=0:=by
    have h1:=aDQ u (k+n2+3) (by omega)
    have h2:=r9 hou (k+n2+3)
    have h3:0≤val BB (u.drop (k+n2+3)):=cW (by decide) (fun x hx=>hou x (List.mem_of_mem_drop hx))
    by_cases h:val BB (u.drop (k+n2+3))=0
    · exact h
    · have h4:BB ^ (k+n2+3) * 1≤BB ^ (k+n2+3) * val BB (u.drop (k+n2+3)):=Int.mul_le_mul_of_nonneg_left (by omega) (Int.le_of_lt (Int.pow_pos (by decide)))
      omega
   rw [hz3,Int.mul_zero,Int.add_zero] at hUs
   obtain ⟨ul0,ul1⟩:=r9 hou (k+n2)
   have hK:0<BB ^ k:=Int.pow_pos (by decide)
   have hP:0<BB ^ n2:=Int.pow_pos (by decide)
   have hU:val BB u=BB ^ k * BB ^ n2 * ((rd u ((k+n2+2:Nat):Int) * BB+rd u ((k+n2+1:Nat):Int)) * BB+rd u ((k+n2:Nat):Int))+val BB (u.take (k+n2)):=by
    rw [hUs,Int.pow_add]
    exact NatAlg.a4 _ _ _ _ _ _
   rw [Int.pow_add] at ul1
   have hV:val BB v=BB ^ n2 * (rd v ((n2+1:Nat):Int) * BB+rd v (n2:Int))+val BB (v.take n2):=by
    rw [hVs]
    exact NatAlg.a5 _ _ _ _ _
   have hlt' : val BB u<1000000000 * val BB v * BB ^ k:=by
    rw [Int.pow_succ] at hlt
    have:val BB v * (BB ^ k * BB)=1000000000 * val BB v * BB ^ k:=NatAlg.a6 _ _ _
    omega
   have hd1' := cT hv (n2+1) (by omega)
   have hu1:=cT hou (k+n2+2) (by omega)
   have hu2:=cT hou (k+n2+1) (by omega)
   have hu3:=cT hou (k+n2) (by omega)
   rw [hB] at hd1' hu1 hu2 hu3
   -- the first estimate
   have hvp:(0:Int)<rd v ((n2+1:Nat):Int):=by omega
   have g0:0≤(rd u ((k+n2+2:Nat):Int) * 1000000000+rd u ((k+n2+1:Nat):Int)) / rd v ((n2+1:Nat):Int):=Int.ediv_nonneg (by omega) (by omega)
   have gm:=Int.mul_ediv_add_emod (rd u ((k+n2+2:Nat):Int) * 1000000000+rd u ((k+n2+1:Nat):Int)) (rd v ((n2+1:Nat):Int))
   have gr0:=Int.emod_nonneg (rd u ((k+n2+2:Nat):Int) * 1000000000+rd u ((k+n2+1:Nat):Int)) (show rd v ((n2+1:Nat):Int)≠0 by omega)
   have gr1:=Int.emod_lt_of_pos (rd u ((k+n2+2:Nat):Int) * 1000000000+rd u ((k+n2+1:Nat):Int)) hvp
   have hnb:rd u ((k+n2+2:Nat):Int)≤rd v ((n2+1:Nat):Int):=by
    by_cases h:rd u ((k+n2+2:Nat):Int)≤rd v ((n2+1:Nat):Int)
    · exact h
    · -- then u would not be less than B * v * K
      exfalso
      have hP1:BB ^ n2 * (rd v ((n2+1:Nat):Int) * BB+rd v (n2:Int))+val BB (v.take n2)<BB ^ n2 * ((rd v ((n2+1:Nat):Int)+1) * BB):=by
       have hd2:=cT hv n2 (by omega)
       have:BB ^ n2 * (rd v ((n2+1:Nat):Int) * BB+rd v (n2:Int)+1)≤BB ^ n2 * ((rd v ((n2+1:Nat):Int)+1) * BB):=Int.mul_le_mul_of_nonneg_left (by rw [hB] at hd2 ⊢; omega) (Int.le_of_lt hP)
       rw [Int.mul_add (BB ^ n2) (rd v ((n2+1:Nat):Int) * BB+rd v (n2:Int)) 1] at this
       omega
      rw [← hV] at hP1
      have h2:BB ^ k * BB ^ n2 * ((rd v ((n2+1:Nat):Int)+1) * BB * BB)≤BB ^ k * BB ^ n2 * ((rd u ((k+n2+2:Nat):Int) * BB+rd u ((k+n2+1:Nat):Int)) * BB+rd u ((k+n2:Nat):Int)) :=
       Int.mul_le_mul_of_nonneg_left (by rw [hB]; omega) (Int.le_of_lt (Int.mul_pos hK hP))
      have h3:(BB * BB ^ k) * val BB v≤(BB * BB ^ k) * (BB ^ n2 * ((rd v ((n2+1:Nat):Int)+1) * BB)):=Int.mul_le_mul_of_nonneg_left (Int.le_of_lt hP1) (Int.le_of_lt (Int.mul_pos (by decide) hK))
      have h4:(BB * BB ^ k) * (BB ^ n2 * ((rd v ((n2+1:Nat):Int)+1) * BB))=BB ^ k * BB ^ n2 * ((rd v ((n2+1:Nat):Int)+1) * BB * BB):=NatAlg.a7 _ _ _ _
      have h5:(BB * BB ^ k) * val BB v=1000000000 * val BB v * BB ^ k:=NatAlg.a8 _ _ _
      omega
   have g1:(rd u ((k+n2+2:Nat):Int) * 1000000000+rd u ((k+n2+1:Nat):Int)) / rd v ((n2+1:Nat):Int)≤1000000001:=by
    have:(rd u ((k+n2+2:Nat):Int) * 1000000000+rd u ((k+n2+1:Nat):Int)) / rd v ((n2+1:Nat):Int)<1000000002:=Int.ediv_lt_of_lt_mul hvp (by omega)
    omega
   obtain ⟨x,⟨x0,x1,x2,x3⟩,hx⟩:=aZI d u v out k n2 (BB ^ k) (BB ^ n2) (val BB (u.take (k+n2))) (val BB (v.take n2)) hou hv hn (by omega) (by omega) hK hP hU ul0 ul1 hV vl0 vl1 (by omega) hlt' 1000000000
    ((rd u ((k+n2+2:Nat):Int) * 1000000000+rd u ((k+n2+1:Nat):Int)) / rd v ((n2+1:Nat):Int)) ((rd u ((k+n2+2:Nat):Int) * 1000000000+rd u ((k+n2+1:Nat):Int)) % rd v ((n2+1:Nat):Int))
    (by rw [Int.mul_comm] at gm; exact gm)
    (aLM hK hP hU ul1 hV vl0 (by omega) (by
        have hd2:=cT hv n2 (by omega)
        rw [hB] at hd2 ⊢
        generalize (rd u ((k+n2+2:Nat):Int) * 1000000000+rd u ((k+n2+1:Nat):Int)) / rd v ((n2+1:Nat):Int)=y at *
        have e:(y+1) * (rd v ((n2+1:Nat):Int) * 1000000000+rd v (n2:Int))=(rd v ((n2+1:Nat):Int) * y+rd v ((n2+1:Nat):Int)) * 1000000000+(y+1) * rd v (n2:Int):=NatAlg.a9 _ _ _ _
        have e0:0≤(y+1) * rd v (n2:Int):=Int.mul_nonneg (by omega) hd2.1
        omega)) g0 g1 gr0 (by omega) (by omega)
   -- lF the estimate
   have next:∀ (y:Int) (u' : List Int),0≤y→u'.length=L→ok BB u' → val BB u' = val BB u - BB ^ k * (y * val BB v)→val BB u<(y+1) * val BB v * BB ^ k →
        ∃ q r,Ev (fun kq=>nat_N_Div.l1 kq d u' v (v.length:Int) (out.set k y) (wrap64 ((k:Int) - 1))) (q,r)∧bJ q (A / val BB v)∧bJ r (A % val BB v / d)∧q.length≤L∧r.length≤L∧y<1000000000:=by
    intro y u' hy0 hlu' hou' hval hy2
    have hnn:=cW (b:=BB) (by decide) hou'
    have hyB:y<1000000000:=by
        by_cases h:y<1000000000
        · exact h
        · have h1:1000000000 * (val BB v * BB ^ k)≤y * (val BB v * BB ^ k):=Int.mul_le_mul_of_nonneg_right (by omega) (Int.mul_nonneg hV0 (Int.le_of_lt hK))
          have h2:BB ^ k * (y * val BB v)=y * (val BB v * BB ^ k):=NatAlg.b1 _ _ _
          have h3:1000000000 * val BB v * BB ^ k=1000000000 * (val BB v * BB ^ k):=by rw [Int.mul_assoc]
          omega
    rw [w64 (i:=(k:Int) - 1) (by omega) (by omega)]
    obtain ⟨q,r,q1,q2,q3,q4,q5⟩:=ih u' (out.set k y) hlu' (by omega) (by simpa using ho) hou' (oG hoo _ hy0 hyB) (by
        have e:(y+1) * val BB v * BB ^ k=BB ^ k * (y * val BB v)+val BB v * BB ^ k:=NatAlg.b2 _ _ _
        omega) (by
        rw [rX _ _ _ (by omega),hval,← hA,Int.pow_succ]
        simp only [val]
        exact NatAlg.b3 _ _ _ _ _ _)
    exact ⟨q,r,q1,q2,q3,q4,q5,hyB⟩
   have j4:∃ q r,Ev (fun kq=>nat_N_Div.j4 kq d u v (v.length:Int) out (k:Int) x) (q,r)∧bJ q (A / val BB v)∧bJ r (A % val BB v / d)∧q.length≤L∧r.length≤L:=by
    obtain ⟨t,u', m1,m2,m3,m4,m5⟩:=aY7 (u:=u) (v:=v) k x hou hv x0 x1 (by omega) (by omega) hz
    have hb' : val BB u' < BB ^ (k+v.length+1):=aLI m3 _ (fun p hp=>m4 p (by omega))
    have hn0:=cW (b:=BB) (by decide) m3
    cases t with
    | false =>
      simp only [Bool.false_eq_true,if_false,Int.add_zero] at m5
      obtain ⟨q,r,q1,q2,q3,q4,q5,q6⟩:=next x u' x0 (by omega) m3 m5 x2
      refine ⟨q,r,?_,q2,q3,q4,q5⟩
      refine Ev.step (fun kq=>nat_N_Div.j4.eq_2 _ _ _ _ _ _ _ kq) ?_
      refine Ev.bind1 m1 (Ev.no (by simp) (Ev.yes (by omega) (Ev.yes (by omega) ?_)))
      rw [Int.toNat_natCast,show x % 4294967296=x by omega]
      exact q1
    | true =>
      simp only [if_true] at m5
      obtain ⟨u2,c,p1,p2,p3,p4,p5,p6,p7⟩:=aY9 (u:=u') (v:=v) k m3 hv (by omega) (by omega) m4
      have hb2:val BB u2<BB ^ (k+v.length+1):=aLI p3 _ (fun p hp=>p4 p (by omega))
      have hn2:=cW (b:=BB) (by decide) p3
      have e:(x - 1) * val BB v * BB ^ k=BB ^ k * (x * val BB v) - BB ^ k * val BB v:=NatAlg.b4 _ _ _
      have e' : (x - 1+1) * val BB v * BB ^ k=BB ^ k * (x * val BB v):=NatAlg.b5 _ _ _
      have e3:BB ^ k * ((x - 1) * val BB v)=BB ^ k * (x * val BB v) - BB ^ k * val BB v:=NatAlg.b6 _ _ _
      have hc:c=1:=by
       by_cases h:c=1
       · exact h
       · rw [show c=0 by omega,Int.mul_zero] at p7
         omega
      rw [hc,Int.mul_one] at p7
      have hx1:1≤x:=by
       by_cases h:1≤x
       · exact h
       · rw [show x=0 by omega,Int.zero_mul,Int.mul_zero] at m5
         have:=cW (b:=BB) (by decide) hou
         omega
      obtain ⟨q,r,q1,q2,q3,q4,q5,q6⟩:=next (x - 1) u2 (by omega) (by omega) p3 (by omega) (by omega)
      refine ⟨q,r,?_,q2,q3,q4,q5⟩
      refine Ev.step (fun kq=>nat_N_Div.j4.eq_2 _ _ _ _ _ _ _ kq) ?_
      refine Ev.bind1 m1 (Ev.yes rfl (Ev.bind1 p1 (Ev.yes (by omega) (Ev.yes (by omega) ?_))))
      rw [Int.toNat_natCast,u64 (i:=x - 1) (by omega) (by omega),show (x - 1) % 4294967296=x - 1 by omega]
      exact q1
   obtain ⟨q,r,q1,q2⟩:=j4
   refine ⟨q,r,?_,q2⟩
   refine Ev.step (fun kq=>nat_N_Div.l1.eq_2 _ _ _ _ _ _ kq) ?_
   have g9:k+n2≤100000000000:=by omega
   rw [show (((k+1:Nat):Int) - 1)=(k:Int) by omega,(w3 k n2 v.length hn g9).1,(w3 k n2 v.length hn g9).2.1,(w3 k n2 v.length hn g9).2.2,u64 (i:=rd v ((n2+1:Nat):Int)) (by omega) (by omega),u64 (i:=rd u ((k+n2+2:Nat):Int)) (by omega) (by omega),u64 (i:=rd u ((k+n2+1:Nat):Int)) (by omega) (by omega),
    u64 (i:=rd u ((k+n2+2:Nat):Int) * 1000000000) (by omega) (by omega),u64 (i:=rd u ((k+n2+2:Nat):Int) * 1000000000+rd u ((k+n2+1:Nat):Int)) (by omega) (by omega),Int.tmod_eq_emod_of_nonneg (by omega),Int.tdiv_eq_ediv_of_nonneg (by omega),
    u64 (i:=(rd u ((k+n2+2:Nat):Int) * 1000000000+rd u ((k+n2+1:Nat):Int)) / rd v ((n2+1:Nat):Int)) (by omega) (by omega)]
   exact Ev.yes (by omega) (Ev.yes (by omega) (Ev.yes (by omega) (Ev.yes (by omega) (Ev.yes (by omega) (Ev.yes (by omega) (Ev.yes (by omega) (Ev.no (by omega) (hx _ q1))))))))
end
section
theorem aZK {l:List Int} {v:Int} (h:bJ l v):0≤v:=by
 have:=cW (b:=BB) (by decide) h.2.1
 rw [h.1] at this; exact this
theorem aDR {l:List Int} {v:Int} (h:bJ l v):0<l.length↔0<v:=by
 constructor
 · intro hl
   have hne:l≠[]:=fun z=>by rw [z] at hl; simp at hl
   have h1:=hR (b:=BB) (by decide) h.2.1 h.2.2 hne
   have h2:0<BB ^ (l.length - 1):=Int.pow_pos (by decide)
   rw [h.1] at h1
   omega
 · intro hv
   by_cases hl:0<l.length
   · exact hl
   · have:l=[]:=List.eq_nil_of_length_eq_zero (by omega)
     have h1:=h.1
     rw [this] at h1
     simp only [val] at h1
     omega
theorem aDS {l r:List Int} {u v:Int} (h:bJ l u) (h' : bJ r v) (hle:u≤v):l.length≤r.length :=
 xL (b:=BB) (by decide) h.2.1 h.2.2 h'.2.1 (by rw [h.1,h'.1]; exact hle)
theorem aLP {top d:Int} (h0:1≤top) (h1:top<1000000000) (hd:d=1000000000 / (top+1)):1≤d∧d≤500000000∧(top+1) * d≤1000000000∧500000000≤top * d:=by
 have hm:=Int.mul_ediv_add_emod 1000000000 (top+1)
 have hr0:=Int.emod_nonneg 1000000000 (show top+1≠0 by omega)
 have hr1:=Int.emod_lt_of_pos 1000000000 (show 0<top+1 by omega)
 have hd1:1≤d:=by
  have:1≤1000000000 / (top+1):=(Int.le_ediv_iff_mul_le (by omega)).2 (by omega)
  omega
 rw [← hd] at hm
 generalize (1000000000:Int) % (top+1)=r at *
 clear hd
 have e:(top+1) * d=top * d+d:=by rw [Int.add_mul,Int.one_mul]
 have h2:0≤(top - 1) * (d - 1):=Int.mul_nonneg (by omega) (by omega)
 have e2:(top - 1) * (d - 1)=top * d - top - d+1:=by
  rw [Int.sub_mul,Int.mul_sub,Int.one_mul,Int.mul_one]; omega
 have h3:1 * d≤top * d:=Int.mul_le_mul_of_nonneg_right h0 (by omega)
 rw [e2] at h2
 rw [e] at hm ⊢
 rw [Int.one_mul] at h3
 omega
theorem aLQ {l:List Int} (n:Nat) (hl:l.length=n+1):val BB l=val BB (l.take n)+BB ^ n * rd l (n:Int):=by
 have h:=aDQ l n (by omega)
 rw [xQ,List.drop_of_length_le (by omega)] at h
 simpa [val] using h
theorem aZL {t:List Int} (ho:ok BB t):ok BB (t ++ [0]):=jR.2 ⟨ho,fJ.2 ⟨by decide,eC _⟩⟩
theorem rep_ok (n:Nat):ok BB (List.replicate n (0:Int)):=fun x hx=>by rw [List.eq_of_mem_replicate hx]; decide
theorem wsub (L n m:Nat) (h:L=n+m) (hL:L≤100000000000):wrap64 ((L:Int) - (n:Int))=(m:Int)∧wrap64 ((m:Int) - 1)=(m:Int) - 1:=by
 refine ⟨?_,?_⟩ <;> (rw [w64] <;> omega)
theorem aLR {a b:List Int} {u v:Int} (ha:bJ a u) (hb:bJ b v) (hv:0<v) (hn:a.length+b.length≤40000000000) :
 ∃ q r,Ev (fun k=>nat_N_Div.f k a b) (q,r)∧bJ q (u / v)∧bJ r (u % v)∧q.length≤a.length+2∧r.length≤a.length+2:=by
 have hu:=aZK ha
 have hbl:=(aDR hb).2 hv
 have hc:=aK6 (l:=a) (r:=b) (by omega) ha.2.1 hb.2.1 ha.2.2 hb.2.2
 rw [ha.1,hb.1] at hc
 by_cases hlt:u<v
 · refine ⟨[],a,?_,⟨by rw [Int.ediv_eq_zero_of_lt hu hlt]; rfl,eC _,oE⟩,by rw [Int.emod_eq_of_lt hu hlt]; exact ha,by simp,by omega⟩
   unfold nat_N_Div.f
   exact Ev.bind1 hc (Ev.yes (by unfold cmpI; rw [if_pos hlt]; decide) (Ev.now _))
 · have hnc:¬ cmpI u v<0:=by unfold cmpI; rw [if_neg hlt]; split <;> omega
   by_cases h1:b.length=1
   · obtain ⟨x,hx⟩:∃ x,b=[x]:=List.length_eq_one_iff.1 h1
     subst hx
     have hx1:=hb.1
     simp only [val,Int.mul_zero,Int.add_zero] at hx1
     subst hx1
     have hxr:=fJ.1 hb.2.1
     obtain ⟨q,r,q1,q2,q3,q4,q5⟩:=aLH ha x hv hxr.1.2 (by omega)
     refine ⟨q,r,?_,q2,q3,by omega,by omega⟩
     unfold nat_N_Div.f
     refine Ev.bind1 hc (Ev.no hnc (Ev.yes (by simp) (Ev.yes (by simp) ?_)))
     rw [show rd [x] 0=x from rfl]
     exact Ev.bind1 q1 (Ev.now _)
   · obtain ⟨n2,hn2⟩:∃ n2,b.length=n2+2:=⟨b.length - 2,by omega⟩
     have hB:BB=1000000000:=rfl
     have htr:=cT hb.2.1 (n2+1) (by omega)
     rw [hB] at htr
     have hbne:b≠[]:=fun z=>by rw [z] at hn2; simp at hn2
     have htop:rd b ((n2+1:Nat):Int)≠0:=by
        have:=hb.2.2 hbne
        rw [List.getLast_eq_getElem] at this
        rw [g7 b (n2+1) (by omega)]
        intro h
        apply this
        rw [← h]
        congr 1
        omega
     have hvs:=aLQ (l:=b) (n2+1) (by omega)
     have htk:=r9 hb.2.1 (n2+1)
     rw [hb.1] at hvs
     -- the aLP
     obtain ⟨d,hd⟩:∃ d,d=1000000000 / (rd b ((n2+1:Nat):Int)+1):=⟨_,rfl⟩
     obtain ⟨d1,d2,d3,d4⟩:=aLP (by omega) htr.2 hd
     have ed:IntKind.u64.wrap (Int.tdiv (1000000000:Int) (IntKind.u64.wrap ((IntKind.u64.wrap (rd b (wrap64 ((b.length:Int) - 1))))+1))) % 4294967296=d∧¬ (IntKind.u64.wrap ((IntKind.u64.wrap (rd b (wrap64 ((b.length:Int) - 1))))+1))=0∧0≤(wrap64 ((b.length:Int) - 1))∧(wrap64 ((b.length:Int) - 1))<(b.length:Int):=by
        rw [(w3 0 n2 b.length hn2 (by omega)).2.2,u64 (i:=rd b ((n2+1:Nat):Int)) (by omega) (by omega),u64 (i:=rd b ((n2+1:Nat):Int)+1) (by omega) (by omega),Int.tdiv_eq_ediv_of_nonneg (by omega),← hd,u64 (by omega) (by omega)]
        refine ⟨by omega,by omega,by omega,by omega⟩
     have hdl:bJ [d] d:=⟨by simp [val],fJ.2 ⟨⟨by omega,by show _<(1000000000:Int); omega⟩,eC _⟩,fun _=>by show d≠0; omega⟩
     obtain ⟨t,t1,t2,t3⟩:=aDP ha hdl (by simp; omega)
     obtain ⟨w,w1,w2,w3'⟩:=aDP hb hdl (by simp; omega)
     simp only [List.length_singleton] at t3 w3'
     have hPP:0<BB ^ (n2+1):=Int.pow_pos (by decide)
     have hPs:BB ^ (n2+2)=BB ^ (n2+1) * 1000000000:=Int.pow_succ _ _
     have hvle:v * 1≤v * d:=Int.mul_le_mul_of_nonneg_left d1 (by omega)
     have hule:u * 1≤u * d:=Int.mul_le_mul_of_nonneg_left d1 hu
     rw [Int.mul_one] at hvle hule
     -- the length of the divisor stays
     have hup:v * d<BB ^ (n2+2):=by
        have h2:(v+1) * d≤(BB ^ (n2+1) * (rd b ((n2+1:Nat):Int)+1)) * d:=Int.mul_le_mul_of_nonneg_right (by rw [Int.mul_add,Int.mul_one]; omega) (by omega)
        have h3:BB ^ (n2+1) * ((rd b ((n2+1:Nat):Int)+1) * d)≤BB ^ (n2+1) * 1000000000:=Int.mul_le_mul_of_nonneg_left d3 (Int.le_of_lt hPP)
        rw [Int.mul_assoc] at h2
        have h4:(v+1) * d=v * d+d:=by rw [Int.add_mul,Int.one_mul]
        omega
     have hvge:BB ^ (n2+1)≤v:=by
        have h2:BB ^ (n2+1) * 1≤BB ^ (n2+1) * rd b ((n2+1:Nat):Int):=Int.mul_le_mul_of_nonneg_left (by omega) (Int.le_of_lt hPP)
        omega
     have hwl:w.length=n2+2:=by
        have h2:w.length≤n2+2:=by
         by_cases h:w.length≤n2+2
         · exact h
         · have hwne:w≠[]:=fun z=>by rw [z] at h; simp at h
           have h3:=hR (b:=BB) (by decide) w2.2.1 w2.2.2 hwne
           have h4:BB ^ (n2+2)≤BB ^ (w.length - 1):=e6 (by decide) (by omega)
           rw [w2.1] at h3
           omega
        have h5:n2+2≤w.length:=by
         by_cases h:n2+2≤w.length
         · exact h
         · have h3:=dN (b:=BB) (by decide) w2.2.1
           have h4:BB ^ w.length≤BB ^ (n2+1):=e6 (by decide) (by omega)
           rw [w2.1] at h3
           omega
        omega
     have hwtop:500000000≤rd w ((n2+1:Nat):Int):=by
        have h2:=aLQ (l:=w) (n2+1) (by omega)
        have h3:=r9 w2.2.1 (n2+1)
        rw [w2.1] at h2
        by_cases h:500000000≤rd w ((n2+1:Nat):Int)
        · exact h
        · have h4:BB ^ (n2+1) * (rd w ((n2+1:Nat):Int)+1)≤BB ^ (n2+1) * (rd b ((n2+1:Nat):Int) * d):=Int.mul_le_mul_of_nonneg_left (by omega) (Int.le_of_lt hPP)
          have h5:(BB ^ (n2+1) * rd b ((n2+1:Nat):Int)) * d≤v * d:=Int.mul_le_mul_of_nonneg_right (by omega) (by omega)
          rw [Int.mul_assoc] at h5
          rw [Int.mul_add,Int.mul_one] at h4
          omega
     have htl:a.length≤t.length:=aDS ha t2 hule
     have hal:=aDS hb ha (by omega)
     -- the division
     obtain ⟨m,hm⟩:∃ m,t.length+1=n2+2+m:=⟨t.length+1 - (n2+2),by omega⟩
     have hult:u<v * BB ^ m:=by
        have h2:=dN (b:=BB) (by decide) ha.2.1
        rw [ha.1] at h2
        have h3:BB ^ a.length≤BB ^ (n2+1+m):=e6 (by decide) (by omega)
        rw [Int.pow_add] at h3
        have h4:BB ^ (n2+1) * BB ^ m≤v * BB ^ m:=Int.mul_le_mul_of_nonneg_right hvge (Int.le_of_lt (Int.pow_pos (by decide)))
        omega
     obtain ⟨q,r,q1,q2,q3,q4,q5⟩:=aZJ d w n2 (u * d) (t.length+1) (by omega) (by omega) w2.2.1 hwl hwtop (by omega) m (t ++ [0]) (List.replicate m 0) (by simp) (by omega) (by rw [List.length_replicate]; omega) (aZL t2.2.1) (rep_ok m) (by
      rw [eE,Int.mul_zero,Int.add_zero,t2.1,w2.1,Int.mul_comm v d,Int.mul_assoc,Int.mul_comm u d]
      exact Int.mul_lt_mul_of_pos_left hult (by omega)) (by
      rw [List.drop_of_length_le (by simp),eE,Int.mul_zero,Int.add_zero,t2.1]; simp [val])
     rw [w2.1] at q2 q3
     rw [Int.mul_ediv_mul_of_pos_left _ _ (by omega)] at q2
     rw [Int.mul_comm u d,Int.mul_comm v d,Int.mul_emod_mul_of_pos _ _ (by omega),Int.mul_ediv_cancel_left _ (by omega)] at q3
     refine ⟨q,r,?_,q2,q3,by omega,by omega⟩
     obtain ⟨s1,s2⟩:=wsub (t.length+1) (n2+2) m hm (by omega)
     have l0:Ev (fun k=>nat_N_Div.l0 k a d (t ++ [0]) w) (q,r):=by
        refine Ev.step (fun k=>nat_N_Div.l0.eq_2 _ _ _ _ k) ?_
        have e1:((t ++ [0]).length:Int)=((t.length+1:Nat):Int):=by simp
        rw [hwl] at q1 ⊢
        rw [e1,s1,Int.toNat_natCast,s2]
        exact Ev.no (by omega) (Ev.yes (by omega) (Ev.yes (by omega) q1))
     unfold nat_N_Div.f
     rw [ed.1]
     refine Ev.bind1 hc (Ev.no hnc (Ev.no (by omega) (Ev.yes ed.2.2.1 (Ev.yes ed.2.2.2 (Ev.no ed.2.1 (Ev.bind1 t1 (Ev.yes (by omega) (Ev.bind1 w1 l0))))))))
theorem aZM (n:Nat):∀ (a b:List Int) (m:Nat),bJ a (m:Int)→bJ b (n:Int)→a.length≤10000000000→b.length≤10000000000 →
 ∃ r,Ev (fun k=>nat_N_Gcd.l0 k a b) r∧bJ r ((Nat.gcd m n:Nat):Int):=by
 induction n using Nat.strongRecOn with
 | _ n ih =>
   intro a b m ha hb hal hbl
   have hp:=aDR hb
   by_cases h0:n=0
   · subst h0
     refine ⟨a,?_,by rw [Nat.gcd_zero_right]; exact ha⟩
     refine Ev.step (fun k=>nat_N_Gcd.l0.eq_2 _ _ k) ?_
     exact Ev.no (by omega) (Ev.now _)
   · obtain ⟨q,r,q1,q2,q3,q4,q5⟩:=aLR ha hb (by omega) (by omega)
     rw [← Int.natCast_emod] at q3
     have hlt:=Nat.mod_lt m (show 0<n by omega)
     have hrl:=aDS q3 hb (by omega)
     obtain ⟨g,g1,g2⟩:=ih (m % n) hlt b r n hb q3 hbl (by omega)
     refine ⟨g,?_,by rw [Nat.gcd_comm,Nat.gcd_rec,Nat.gcd_comm]; exact g2⟩
     refine Ev.step (fun k=>nat_N_Gcd.l0.eq_2 _ _ k) ?_
     exact Ev.yes (by omega) (Ev.bind1 q1 g1)
theorem aZN {a b:List Int} {m n:Nat} (ha:bJ a (m:Int)) (hb:bJ b (n:Int)) (hal:a.length≤10000000000) (hbl:b.length≤10000000000) :
 ∃ r,Ev (fun k=>nat_N_Gcd.f k a b) r∧bJ r ((Nat.gcd m n:Nat):Int):=by
 unfold nat_N_Gcd.f
 exact aZM n a b m ha hb hal hbl
end
section
theorem aDT (x:Int) (h0:48≤x) (h1:x≤57):bytesOf (Utf8.encode x)=[x]:=by
 have:x=48∨x=49∨x=50∨x=51∨x=52∨x=53∨x=54∨x=55∨x=56∨x=57:=by omega
 rcases this with rfl | rfl | rfl | rfl | rfl | rfl | rfl | rfl | rfl | rfl <;> rfl
theorem aZO {s:ByteArray} {v:Int} (h:aW s v):s.toList=([48]:List UInt8)↔v=0:=by
 constructor
 · intro he
   have hb:bytesOf s=[48]:=by rw [rZ,he]; rfl
   rw [← h.2.1,hb]; rfl
 · intro hv
   subst hv
   have h0:aW (⟨#[48]⟩:ByteArray) 0:=⟨fO (l:=[]) (by decide) (fun c hc=>by simp at hc),rfl,by decide,fun z=>by revert z; decide⟩
   rw [aDK h h0,ByteArray.toList_eq]
def pre (a:ByteArray) (i:Nat):Int:=val 10 (aJ ((bytesOf a).take i))
theorem aZP (a:ByteArray) (i:Nat) (h:i<a.size):pre a (i+1)=10 * pre a i+(rd (bytesOf a) (i:Int) - 48):=by
 unfold pre
 rw [rW _ _ (by rw [bB]; exact h),rU]
 simp only [val]; omega
theorem take_all (a:ByteArray):(bytesOf a).take a.size=bytesOf a:=List.take_of_length_le (by rw [bB]; exact Nat.le_refl _)
theorem aDU {l:List Int} (h:asc l) (i:Nat):asc (l.take i):=fun c hc=>h c (List.mem_of_mem_take hc)
theorem aLS (a:ByteArray) (i:Nat) (h:i<a.size):bytesOf (a.extract i (i+1))=[rd (bytesOf a) (i:Int)]:=by
 rw [rV,eO _ i (by rw [bB]; exact h),show i+1 - i=1 by omega]; rfl
theorem aZQ {r b:ByteArray} {w v:Int} (hr:aW r w) (hb:aW b v) (h:w<10 * v):r.size≤b.size+1:=by
 by_cases hle:r.size≤b.size+1
 · exact hle
 · have hne:aJ (bytesOf r)≠[]:=fun z=>by
    have:=congrArg List.length z
    rw [b7,bB,List.length_nil] at this
    omega
   have h1:=hR (b:=10) (by decide) (bU hr.1) (lR (hr.2.2.2 (by omega))) hne
   rw [b7,bB,hr.2.1] at h1
   have h2:(10:Int) ^ (b.size+1)≤10 ^ (r.size - 1):=e6 (by decide) (by omega)
   have h3:=dN (b:=10) (by decide) (bU hb.1)
   rw [b7,bB,hb.2.1] at h3
   rw [Int.pow_succ] at h2
   omega
theorem aZR (a b:ByteArray) (i:Nat) (v:Int) (hb:aW b v) (hv:0<v) (hbs:b.size≤9000000000) (q0:ByteArray) (R:ByteArray × ByteArray→Prop) (u:Int) (hu10:u<10 * v)
 (hq:q0.size≤100000000000)
 (next:∀ (r' : ByteArray) (x:Int),48≤x→x≤57→x=48+u / v→aW r' (u % v)→∃ z,Ev (fun k=>gamehallref2_NatDiv.l0 k a b (q0 ++ Utf8.encode x) r' (wrap64 ((i:Int)+1))) z∧R z) (d:Nat) :
 ∀ (r:ByteArray) (w x:Int),aW r w→w≤(d:Int) * v+(v - 1)→0≤w→48≤x→u=(x - 48) * v+w →
   ∃ z,Ev (fun k=>gamehallref2_NatDiv.l1 k a b q0 r (i:Int) x) z∧R z:=by
 have hx57:∀ (x w:Int),0≤w→u=(x - 48) * v+w→x≤57:=by
  intro x w hw0 he
  by_cases h:x≤57
  · exact h
  · have:=Int.mul_le_mul_of_nonneg_right (show (10:Int)≤x - 48 by omega) (show 0≤v by omega)
    omega
 induction d with
 | zero =>
   intro r w x hr hw hw0 hx he
   have hwv:w<v:=by omega
   obtain ⟨e1,e2⟩:=r8 hv he.symm hw0 hwv
   obtain ⟨z,z1,z2⟩:=next r x hx (hx57 x w hw0 he) (by omega) (by rw [e2]; exact hr)
   refine ⟨z,?_,z2⟩
   refine Ev.step (fun k=>gamehallref2_NatDiv.l1.eq_2 _ _ _ _ _ _ k) ?_
   have hsz:q0.size+(Utf8.encode x).size≤9223372036854775807:=by
    have:=congrArg List.length (aDT x hx (hx57 x w hw0 he))
    rw [bB,List.length_singleton] at this
    omega
   exact Ev.opt_bind (xP hr hb) (Ev.no (by unfold cmpI; rw [if_pos hwv]; decide) (Ev.yes hsz z1))
 | succ d ih =>
   intro r w x hr hw hw0 hx he
   by_cases hwv:w<v
   · obtain ⟨e1,e2⟩:=r8 hv he.symm hw0 hwv
     obtain ⟨z,z1,z2⟩:=next r x hx (hx57 x w hw0 he) (by omega) (by rw [e2]; exact hr)
     refine ⟨z,?_,z2⟩
     refine Ev.step (fun k=>gamehallref2_NatDiv.l1.eq_2 _ _ _ _ _ _ k) ?_
     have hsz:q0.size+(Utf8.encode x).size≤9223372036854775807:=by
        have:=congrArg List.length (aDT x hx (hx57 x w hw0 he))
        rw [bB,List.length_singleton] at this
        omega
     exact Ev.opt_bind (xP hr hb) (Ev.no (by unfold cmpI; rw [if_pos hwv]; decide) (Ev.yes hsz z1))
   · have hxv:0≤(x - 48) * v:=Int.mul_nonneg (by omega) (by omega)
     have hrs:=aZQ hr hb (by omega)
     obtain ⟨s,s1,s2,s3⟩:=aLE hr hb (by omega) (by omega)
     have he' : u=(x+1 - 48) * v+(w - v):=by
        rw [he,show x+1 - 48=(x - 48)+1 by omega,Int.add_mul,Int.one_mul]; omega
     have h57:=hx57 (x+1) (w - v) (by omega) he'
     obtain ⟨z,z1,z2⟩:=ih s (w - v) (x+1) s2 (by
        have:((d+1:Nat):Int) * v=(d:Int) * v+v:=by rw [Int.natCast_succ,Int.add_mul,Int.one_mul]
        omega) (by omega) (by omega) he'
     refine ⟨z,?_,z2⟩
     refine Ev.step (fun k=>gamehallref2_NatDiv.l1.eq_2 _ _ _ _ _ _ k) ?_
     rw [show (x+1) % 256=x+1 by omega]
     refine Ev.opt_bind (xP hr hb) (Ev.yes (by unfold cmpI; rw [if_neg hwv]; split <;> omega) (Ev.bind1 s1 z1))
theorem aLT (s:ByteArray) (hs:asc (bytesOf s)) (hn:s.size≤100000000000):∃ t,Ev (fun k=>gamehallref2_strip.f k ((⟨#[48]⟩:ByteArray) ++ s)) t∧aW t (val 10 (aJ (bytesOf s)))∧t.size≤s.size+1:=by
 have hb:bytesOf ((⟨#[48]⟩:ByteArray) ++ s)=48 :: bytesOf s:=by rw [kH]; rfl
 have hz:((⟨#[48]⟩:ByteArray) ++ s).size=s.size+1:=by
  rw [← bB,hb,List.length_cons,bB]
 obtain ⟨t,t1,t2,t3⟩:=aDM ((⟨#[48]⟩:ByteArray) ++ s) (by omega) (by omega) (by rw [hb]; exact fO (by decide) hs)
 refine ⟨t,t1,?_,by omega⟩
 rw [hb,i6] at t2
 rw [i4] at t2
 simpa [val] using t2
theorem aZS (a b:ByteArray) (ha:asc (bytesOf a)) (has:a.size≤9000000000) (v:Int) (hb:aW b v) (hv:0<v) (hbs:b.size≤9000000000) (d:Nat) :
 ∀ (i:Nat) (q r:ByteArray),i+d=a.size→asc (bytesOf q)→q.size≤i→aW r (pre a i % v)→val 10 (aJ (bytesOf q))=pre a i / v → 
   ∃ z:ByteArray × ByteArray,Ev (fun k=>gamehallref2_NatDiv.l0 k a b q r (i:Int)) z∧aW z.1 (val 10 (aJ (bytesOf a)) / v)∧aW z.2 (val 10 (aJ (bytesOf a)) % v):=by
 induction d with
 | zero =>
   intro i q r hi hq hqs hr hqv
   obtain ⟨t,t1,t2,t3⟩:=aLT q hq (by omega)
   have he:pre a i=val 10 (aJ (bytesOf a)):=by unfold pre; rw [show i=a.size by omega,take_all]
   rw [he] at hr hqv
   refine ⟨(t,r),?_,by rw [← hqv]; exact t2,hr⟩
   refine Ev.step (fun k=>gamehallref2_NatDiv.l0.eq_2 _ _ _ _ _ k) ?_
   exact Ev.no (by omega) (Ev.yes (by omega) (Ev.bind1 t1 (Ev.now _)))
 | succ d ih =>
   intro i q r hi hq hqs hr hqv
   have hlt:i<a.size:=by omega
   have hc:48≤rd (bytesOf a) (i:Int)∧rd (bytesOf a) (i:Int)≤57:=ha _ (xJ _ i (by rw [bB]; exact hlt))
   have hm0:=Int.emod_nonneg (pre a i) (show v≠0 by omega)
   have hm1:=Int.emod_lt_of_pos (pre a i) hv
   have hrs:r.size≤b.size:=by
    by_cases h:r.size≤b.size
    · exact h
    · have:=rY hb hr (by omega)
      omega
   -- the remainder with one digit more
   have hcat:bytesOf (r ++ a.extract i (i+1))=bytesOf r ++ [rd (bytesOf a) (i:Int)]:=by rw [kH,aLS a i hlt]
   have hcs:(r ++ a.extract i (i+1)).size=r.size+1:=by rw [← bB,hcat]; simp [bB]
   have hes:(a.extract i (i+1)).size=1:=by rw [← bB,aLS a i hlt]; rfl
   obtain ⟨s,s1,s2,s3⟩:=aDM (r ++ a.extract i (i+1)) (by omega) (by omega) (by
    rw [hcat]; exact xN hr.1 (fO hc (fun c hc=>by simp at hc)))
   rw [hcat,rU] at s2
   simp only [val] at s2
   rw [hr.2.1] at s2
   obtain ⟨u,hu⟩:∃ u,u=rd (bytesOf a) (i:Int) - 48+10 * (pre a i % v):=⟨_,rfl⟩
   rw [← hu] at s2
   have hu10:u<10 * v:=by omega
   have hu0:0≤u:=by omega
   -- the digit
   have hde:=Int.mul_ediv_add_emod (pre a i) v
   have hps:=aZP a i hlt
   have hue:=Int.mul_ediv_add_emod u v
   have hum0:=Int.emod_nonneg u (show v≠0 by omega)
   have hum1:=Int.emod_lt_of_pos u hv
   obtain ⟨f1,f2⟩:=r8 (a:=pre a (i+1)) (d:=v) (q:=10 * (pre a i / v)+u / v) (r:=u % v) hv (NatAlg.div1 _ _ _ _ _ _ _ _ hde hue hps hu) hum0 hum1
   obtain ⟨z,z1,z2⟩:=aZR a b i v hb hv hbs q (fun z=>aW z.1 (val 10 (aJ (bytesOf a)) / v)∧aW z.2 (val 10 (aJ (bytesOf a)) % v)) u hu10 (by omega) (fun r' x hx0 hx1 hx hr' => by
    rw [dZ (by omega)]
    have hen:=aDT x hx0 hx1
    have hbq:bytesOf (q ++ Utf8.encode x)=bytesOf q ++ [x]:=by rw [kH,hen]
    have hqz:(q ++ Utf8.encode x).size=q.size+1:=by rw [← bB,hbq]; simp [bB]
    exact ih (i+1) (q ++ Utf8.encode x) r' (by omega) (by rw [hbq]; exact xN hq (fO ⟨hx0,hx1⟩ (fun c hc=>by simp at hc))) (by omega) (by rw [f2]; exact hr') (by
        rw [hbq,rU,f1]
        simp only [val]
        rw [hqv,hx]; omega)) 9 s u 48 s2 (by omega) hu0 (by omega) (by omega)
   refine ⟨z,?_,z2⟩
   refine Ev.step (fun k=>gamehallref2_NatDiv.l0.eq_2 _ _ _ _ _ k) ?_
   rw [dZ (by omega),Int.toNat_natCast,Int.toNat_natCast]
   exact Ev.yes (by omega) (Ev.yes (by omega) (Ev.yes (by omega) (Ev.yes (by omega) (Ev.yes (by omega) (Ev.bind1 s1 z1)))))
theorem mxn (n m:Nat) (h:1≤m) (hm:m≤100000000000):mx 0 (mn (n:Int) (wrap64 ((m:Int) - 1)))=((min n (m - 1):Nat):Int):=by
 rw [aLL m h hm]
 unfold mx mn
 omega
theorem aLU {a b:ByteArray} {u v:Int} (ha:aW a u) (hb:aW b v) (hv:0<v) (has:a.size≤9000000000) (hbs:b.size≤9000000000) :
 ∃ z:ByteArray × ByteArray,Ev (fun k=>gamehallref2_NatDiv.f k a b) z∧aW z.1 (u / v)∧aW z.2 (u % v):=by
 obtain ⟨n,hn⟩:∃ n,n=min a.size (b.size - 1):=⟨_,rfl⟩
 have hpr:bytesOf (a.extract 0 n)=(bytesOf a).take n:=by rw [rV]; simp
 have hpz:(a.extract 0 n).size=n:=by rw [← bB,hpr,List.length_take,bB]; omega
 obtain ⟨r,r1,r2,r3⟩:=aLT (a.extract 0 n) (by rw [hpr]; exact aDU ha.1 n) (by omega)
 rw [hpr] at r2
 have hlt:pre a n<v:=by
  have h1:=dN (b:=10) (by decide) (bU (aDU ha.1 n))
  rw [b7,List.length_take,bB,Nat.min_eq_left (by omega)] at h1
  have h2:(10:Int) ^ n≤10 ^ (b.size - 1):=e6 (by decide) (by omega)
  by_cases h:1<b.size
  · have hne:aJ (bytesOf b)≠[]:=fun z=>by
        have:=congrArg List.length z
        rw [b7,bB,List.length_nil] at this
        omega
    have h3:=hR (b:=10) (by decide) (bU hb.1) (lR (hb.2.2.2 h)) hne
    rw [b7,bB,hb.2.1] at h3
    unfold pre
    omega
  · have:n=0:=by omega
    subst this
    unfold pre
    simpa [aJ,val] using hv
 have hpre0:0≤pre a n:=cW (by decide) (bU (aDU ha.1 n))
 obtain ⟨z,z1,z2,z3⟩:=aZS a b ha.1 has v hb hv hbs (a.size - n) n ⟨#[]⟩ r (by omega) (fun c hc=>by simp [bytesOf] at hc) (by show 0≤n; omega) (by rw [Int.emod_eq_of_lt hpre0 hlt]; exact r2) (by rw [Int.ediv_eq_zero_of_lt hpre0 hlt]; rfl)
 rw [ha.2.1] at z2 z3
 refine ⟨z,?_,z2,z3⟩
 have h0:=hb.2.2.1
 unfold gamehallref2_NatDiv.f
 rw [mxn a.size b.size h0 (by omega),← hn,Int.toNat_natCast]
 exact Ev.yes (by omega) (Ev.yes (by omega) (Ev.yes (by omega) (Ev.bind1 r1 z1)))
theorem aZT (n:Nat):∀ (a b:ByteArray) (m:Nat),aW a (m:Int)→aW b (n:Int)→a.size≤9000000000→b.size≤9000000000 →
 ∃ t,Ev (fun k=>gamehallref2_NatGcd.l0 k a b) t∧aW t ((Nat.gcd m n:Nat):Int):=by
 induction n using Nat.strongRecOn with
 | _ n ih =>
   intro a b m ha hb has hbs
   have hz:=aZO hb
   by_cases h0:n=0
   · subst h0
     refine ⟨a,?_,by rw [Nat.gcd_zero_right]; exact ha⟩
     refine Ev.step (fun k=>gamehallref2_NatGcd.l0.eq_2 _ _ k) ?_
     exact Ev.yes (hz.2 rfl) (Ev.now _)
   · obtain ⟨z,z1,z2,z3⟩:=aLU ha hb (by omega) has hbs
     rw [← Int.natCast_emod] at z3
     have hlt:=Nat.mod_lt m (show 0<n by omega)
     have hrl:z.2.size≤b.size:=by
       by_cases h:z.2.size≤b.size
       · exact h
       · have:=rY hb z3 (by omega)
         omega
     obtain ⟨g,g1,g2⟩:=ih (m % n) hlt b z.2 n hb z3 hbs (by omega)
     refine ⟨g,?_,by rw [Nat.gcd_comm,Nat.gcd_rec,Nat.gcd_comm]; exact g2⟩
     refine Ev.step (fun k=>gamehallref2_NatGcd.l0.eq_2 _ _ k) ?_
     exact Ev.no (fun h=>by have:=hz.1 h; omega) (Ev.bind1 z1 g1)
theorem aZU {a b:ByteArray} {m n:Nat} (ha:aW a (m:Int)) (hb:aW b (n:Int)) (has:a.size≤9000000000) (hbs:b.size≤9000000000) :
 ∃ t,Ev (fun k=>gamehallref2_NatGcd.f k a b) t∧aW t ((Nat.gcd m n:Nat):Int):=by
 unfold gamehallref2_NatGcd.f
 exact aZT n a b m ha hb has hbs
end
section
theorem aZV {l:List Int} {x:Int} (h:x≠0):d0 (l ++ [x]):=fun hne=>by
 have:(l ++ [x]).getLast hne=x:=by simp
 rw [this]; exact h
theorem of_l0 (N:Int) (m:Nat):∀ (n:Nat) (out:List Int),n≤m→n≤9223372036854775807→out.length+n≤9300000000000000000→out.length≤1000 - (if n=0 then 0 else 1)→(out.length≤100∨n=0)→ok BB out→(n=0→d0 out)→val BB out+BB ^ out.length * (n:Int)=N →
 n<1000000000 ^ (100 - out.length) →
 ∃ r,Ev (fun k=>nat_Of.l0 k (n:Int) out) r∧bJ r N:=by
 induction m with
 | zero =>
   intro n out hn _ _ _ _ ho hl hv _
   obtain rfl:n=0:=by omega
   refine ⟨out,?_,⟨by simpa using hv,ho,hl rfl⟩⟩
   refine Ev.step (fun k=>nat_Of.l0.eq_2 _ _ k) ?_
   exact Ev.no (by omega) (Ev.now _)
 | succ m ih =>
   intro n out hn hn2 h3 h4 h5 ho hl hv hb
   by_cases h0:n=0
   · subst h0
     refine ⟨out,?_,⟨by simpa using hv,ho,hl rfl⟩⟩
     refine Ev.step (fun k=>nat_Of.l0.eq_2 _ _ k) ?_
     exact Ev.no (by omega) (Ev.now _)
   · have hlen:out.length<100:=by
        by_cases h:out.length<100
        · exact h
        · rw [show 100 - out.length=0 by omega,Nat.pow_zero] at hb
          omega
     obtain ⟨r,r1,r2⟩:=ih (n / 1000000000) (out ++ [((n % 1000000000:Nat):Int)]) (by omega) (by omega) (by simp; omega) (by simp; split <;> omega) (by simp; omega) (jR.2 ⟨ho,fJ.2 ⟨⟨by omega,by show _<(1000000000:Int); omega⟩,eC _⟩⟩) (fun hz=>aZV (by omega)) (by
        rw [eE,List.length_append,List.length_singleton,Int.pow_succ,← hv]
        have:(n:Int)=1000000000 * ((n / 1000000000:Nat):Int)+((n % 1000000000:Nat):Int):=by omega
        rw [this]
        exact NatAlg.of1 _ _ _ _ _) (by
        rw [List.length_append,List.length_singleton]
        have e:100 - out.length=(100 - (out.length+1))+1:=by omega
        rw [e,Nat.pow_succ] at hb
        exact Nat.div_lt_of_lt_mul (by rw [Nat.mul_comm]; exact hb))
     refine ⟨r,?_,r2⟩
     refine Ev.step (fun k=>nat_Of.l0.eq_2 _ _ k) ?_
     rw [Int.tmod_eq_emod_of_nonneg (by omega),Int.tdiv_eq_ediv_of_nonneg (by omega),w64 (i:=(n:Int) / 1000000000) (by omega) (by omega),show (n:Int) % 1000000000 % 4294967296=((n % 1000000000:Nat):Int) by omega,show (n:Int) / 1000000000=((n / 1000000000:Nat):Int) by omega]
     exact Ev.yes (by omega) (Ev.yes (by omega) r1)
theorem of_ev (n:Nat) (h:n≤9223372036854775807):∃ r,Ev (fun k=>nat_Of.f k (n:Int)) r∧bJ r (n:Int):=by
 unfold nat_Of.f
 exact of_l0 n n n [] (Nat.le_refl _) h (by simp; omega) (by simp only [List.length_nil]; split <;> omega) (.inl (by simp)) (eC _) (fun _=>oE) (by simp [val]) (by
  have:(9223372036854775807:Nat)<1000000000 ^ 100:=by decide +kernel
  simp only [List.length_nil,Nat.sub_zero]
  omega)
theorem aZW {l:List Int} {v:Int} (h:bJ l v) (n:Nat) (hv:v<BB ^ n):l.length≤n:=by
 by_cases hle:l.length≤n
 · exact hle
 · have hne:l≠[]:=fun z=>by rw [z] at hle; simp at hle
   have h1:=hR (b:=BB) (by decide) h.2.1 h.2.2 hne
   have h2:BB ^ n≤BB ^ (l.length - 1):=e6 (by decide) (by omega)
   rw [h.1] at h1
   omega
theorem aZX (d:Nat) (h:d<10):bytesOf ((⟨#[48,49,50,51,52,53,54,55,56,57]⟩:ByteArray).extract d (d+1))=[48+(d:Int)]:=by
 have:d=0∨d=1∨d=2∨d=3∨d=4∨d=5∨d=6∨d=7∨d=8∨d=9:=by omega
 rcases this with rfl | rfl | rfl | rfl | rfl | rfl | rfl | rfl | rfl | rfl <;> rfl
theorem aLV (N:Int) (m:Nat):∀ (n:Nat) (x:ByteArray),n≤m→n≤9223372036854775807→x.size≤30→n<10 ^ (30 - x.size)→asc (bytesOf x)→(n=0→1<x.size→rd (bytesOf x) 0≠48)→(n=0→0<x.size)→val 10 (aJ (bytesOf x))+10 ^ x.size * (n:Int)=N →
 ∃ t,Ev (fun k=>gamehallref2_RatInt.l0 k (n:Int) x) t∧aW t N∧t.size≤30:=by
 induction m with
 | zero =>
   intro n x hn _ hx hb ha hl hp hv
   obtain rfl:n=0:=by omega
   refine ⟨x,?_,⟨ha,by simpa using hv,hp rfl,hl rfl⟩,hx⟩
   refine Ev.step (fun k=>gamehallref2_RatInt.l0.eq_2 _ _ k) ?_
   have hne:¬ x.toList=([]:List UInt8):=fun z=>by have:=(rT x).1 z; have:=hp rfl; omega
   exact Ev.no (by omega) (Ev.no hne (Ev.now _))
 | succ m ih =>
   intro n x hn hn2 hx hb ha hl hp hv
   by_cases h0:n=0
   · subst h0
     refine ⟨x,?_,⟨ha,by simpa using hv,hp rfl,hl rfl⟩,hx⟩
     refine Ev.step (fun k=>gamehallref2_RatInt.l0.eq_2 _ _ k) ?_
     have hne:¬ x.toList=([]:List UInt8):=fun z=>by have:=(rT x).1 z; have:=hp rfl; omega
     exact Ev.no (by omega) (Ev.no hne (Ev.now _))
   · have hlen:x.size<30:=by
        by_cases h:x.size<30
        · exact h
        · rw [show 30 - x.size=0 by omega,Nat.pow_zero] at hb
          omega
     have hbt:=aZX (n % 10) (by omega)
     have hcat:bytesOf ((⟨#[48,49,50,51,52,53,54,55,56,57]⟩:ByteArray).extract (n % 10) (n % 10+1) ++ x)=(48+((n % 10:Nat):Int)) :: bytesOf x:=by rw [kH,hbt]; rfl
     have hcs:((⟨#[48,49,50,51,52,53,54,55,56,57]⟩:ByteArray).extract (n % 10) (n % 10+1) ++ x).size=x.size+1:=by rw [← bB,hcat,List.length_cons,bB]
     have hes:((⟨#[48,49,50,51,52,53,54,55,56,57]⟩:ByteArray).extract (n % 10) (n % 10+1)).size=1:=by rw [← bB,hbt]; rfl
     obtain ⟨t,t1,t2⟩:=ih (n / 10) ((⟨#[48,49,50,51,52,53,54,55,56,57]⟩:ByteArray).extract (n % 10) (n % 10+1) ++ x) (by omega) (by omega) (by omega) (by
        rw [hcs]
        have e:30 - x.size=(30 - (x.size+1))+1:=by omega
        rw [e,Nat.pow_succ] at hb
        exact Nat.div_lt_of_lt_mul (by rw [Nat.mul_comm]; exact hb)) (by rw [hcat]; exact fO (by omega) ha) (fun hz _=>by
        rw [hcat]
        show 48+((n % 10:Nat):Int)≠48
        omega) (fun _=>by omega) (by
        rw [hcat,i6,i4,b7,bB,hcs,Int.pow_succ,← hv]
        simp only [val]
        have:(n:Int)=10 * ((n / 10:Nat):Int)+((n % 10:Nat):Int):=by omega
        rw [this,show (48+((n % 10:Nat):Int) - 48+10 * 0)=((n % 10:Nat):Int) by omega]
        exact NatAlg.of1 _ _ _ _ _)
     refine ⟨t,?_,t2⟩
     refine Ev.step (fun k=>gamehallref2_RatInt.l0.eq_2 _ _ k) ?_
     rw [Int.tmod_eq_emod_of_nonneg (by omega),Int.tdiv_eq_ediv_of_nonneg (by omega),w64 (i:=(n:Int) / 10) (by omega) (by omega),show (n:Int) % 10=((n % 10:Nat):Int) by omega,dZ (by omega),show (n:Int) / 10=((n / 10:Nat):Int) by omega,Int.toNat_natCast,Int.toNat_natCast]
     exact Ev.yes (by omega) (Ev.yes (by omega) (Ev.yes (by omega) (Ev.yes (by omega) (Ev.yes (by omega) t1))))
theorem aLW (n:Nat) (h:n≤9223372036854775807):∃ t,Ev (fun k=>gamehallref2_RatInt.f k (n:Int)) t∧aW t (n:Int)∧t.size≤30:=by
 have hp30:(9223372036854775807:Nat)<10 ^ 30:=by decide +kernel
 have hp29:(0:Nat)<10 ^ 29:=by decide +kernel
 by_cases h0:n=0
 · subst h0
   obtain ⟨t,t1,t2⟩:=aLV 0 0 0 (⟨#[48]⟩:ByteArray) (by omega) (by omega) (by decide) hp29 (fO (l:=[]) (by decide) (fun c hc=>by simp at hc)) (fun _ z=>by revert z; decide) (fun _=>by decide) (by rfl)
   refine ⟨t,?_,t2⟩
   refine Ev.step (fun k=>gamehallref2_RatInt.f.eq_2 _ k) ?_
   refine Ev.yes (by omega) ?_
   refine Ev.step (fun k=>gamehallref2_RatInt.l0.eq_2 _ _ k) ?_
   have e1:wrap64 ((Int.tmod 0 10)+1)=1:=w64 (by decide) (by decide)
   have e2:wrap64 (Int.tdiv 0 10)=0:=w64 (by decide) (by decide)
   have hn:(⟨#[]⟩:ByteArray).toList=([]:List UInt8):=by rw [ByteArray.toList_eq]
   rw [show ((0:Nat):Int)=0 from rfl,e1,e2]
   exact Ev.no (by omega) (Ev.yes hn (Ev.yes (by decide) (Ev.yes (by decide) (Ev.yes (by decide) (Ev.yes (by decide) t1)))))
 · obtain ⟨t,t1,t2⟩:=aLV (n:Int) n n ⟨#[]⟩ (Nat.le_refl _) h (by show 0≤30; omega) (by show n<10 ^ 30; omega) (fun c hc=>by simp [bytesOf] at hc) (fun hz=>absurd hz h0) (fun hz=>absurd hz h0) (by
    show val 10 []+10 ^ 0 * (n:Int)=n
    simp [val])
   refine ⟨t,?_,t2⟩
   refine Ev.step (fun k=>gamehallref2_RatInt.f.eq_2 _ k) ?_
   exact Ev.yes (by omega) t1
end
end Go.Proofs.YtehakimmioclkaaGreatDoor.Pure
end
section
set_option linter.unusedSimpArgs false
set_option linter.unusedVariables false
namespace Go.Proofs.YtehakimmioclkaaGreatDoor.Sem
open Go Go.RowKit Go.Proofs.YtehakimmioclkaaGreatDoor.ND Go.Proofs.YtehakimmioclkaaGreatDoorW.PrintWords Go.Proofs.YtehakimmioclkaaGreatDoor.Aid Go.Proofs.YtehakimmioclkaaGreatDoor.NatVal Go.Proofs.YtehakimmioclkaaGreatDoor.Pure
section
theorem aLX (b:Nat) (hb:1<b):∀ n:Nat,∃ l,val (b:Int) l=(n:Int)∧ok (b:Int) l∧d0 l:=by
 intro n
 induction n using Nat.strongRecOn with
 | _ n ih =>
   by_cases h0:n=0
   · subst h0; exact ⟨[],rfl,eC _,oE⟩
   · have hlt:n / b<n:=Nat.div_lt_self (by omega) hb
     obtain ⟨l,h1,h2,h3⟩:=ih (n / b) hlt
     have hm:=Nat.mod_lt n (show 0<b by omega)
     have hd:=Nat.div_add_mod n b
     refine ⟨((n % b:Nat):Int) :: l,?_,fJ.2 ⟨⟨by omega,by omega⟩,h2⟩,fun hne=>?_⟩
     · simp only [val]
       rw [h1]
       have:((b * (n / b)+n % b:Nat):Int)=n:=by rw [hd]
       rw [Int.natCast_add,Int.natCast_mul] at this
       omega
     · by_cases hl:l=[]
       · subst hl
         simp only [val] at h1
         have hz:n / b=0:=by omega
         rw [hz,Nat.mul_zero,Nat.zero_add] at hd
         show ((n % b:Nat):Int)≠0
         omega
       · rw [List.getLast_cons hl]
         exact h3 hl
theorem aLY (n:Nat):∃ l,bJ l (n:Int):=by
 obtain ⟨l,h⟩:=aLX 1000000000 (by decide) n
 exact ⟨l,h⟩
noncomputable def limbsOf (n:Nat):List Int:=Classical.choose (aLY n)
theorem e7 (n:Nat):bJ (limbsOf n) (n:Int):=Classical.choose_spec (aLY n)
theorem xR {l:List Int} {n:Nat} (h:bJ l (n:Int)):l=limbsOf n:=by
 have h' := e7 n
 exact aK0 (b:=BB) (by decide) h.2.1 h.2.2 h'.2.1 h'.2.2 (by rw [h.1,h'.1])
theorem oJ {l:List Int} {v:Int} {n:Nat} (h:bJ l v) (hv:v=(n:Int)):l=limbsOf n:=xR (hv ▸ h)
theorem limbsOf_zero : limbsOf 0=[]:=(xR (l:=[]) ⟨rfl,eC _,oE⟩).symm
theorem xS {n:Nat}:(limbsOf n).length=0↔n=0:=by
 have:=aDR (e7 n)
 omega
theorem aLZ (n:Nat):∃ s,aW s (n:Int):=by
 by_cases h0:n=0
 · subst h0
   exact ⟨⟨#[48]⟩,fO (l:=[]) (by decide) (fun c hc=>by simp at hc),rfl,by decide,fun z=>by revert z; decide⟩
 · obtain ⟨l,h1,h2,h3⟩:=aLX 10 (by decide) n
   have hne:l≠[]:=fun z=>by subst z; simp only [val] at h1; omega
   have ha:asc ((l.map fun d=>d+48).reverse):=fun c hc=>by
    rw [List.mem_reverse,List.mem_map] at hc
    obtain ⟨d,hd,rfl⟩:=hc
    have:=h2 d hd
    omega
   have hb:=aDL ha
   have hdg:aJ ((l.map fun d=>d+48).reverse)=l:=by
    unfold aJ
    rw [List.map_reverse,List.reverse_reverse,List.map_map]
    conv=>rhs; rw [← List.map_id l]
    exact List.map_congr_left fun d _=>by show d+48 - 48=d; omega
   have hsz:(strOfNums ((l.map fun d=>d+48).reverse)).size=l.length:=by rw [← bB,hb]; simp
   have hpos:0<l.length:=List.length_pos_iff.2 hne
   refine ⟨strOfNums ((l.map fun d=>d+48).reverse),by rw [hb]; exact ha,by rw [hb,hdg]; exact h1,by omega,fun _=>?_⟩
   rw [hb]
   have hl:=h3 hne
   have:rd ((l.map fun d=>d+48).reverse) 0=l.getLast hne+48:=by
    have hr:(l.map fun d=>d+48).reverse=(l.getLast hne+48) :: ((l.dropLast).map fun d=>d+48).reverse:=by
        conv=>lhs; rw [← List.dropLast_concat_getLast hne]
        simp
    rw [hr]; rfl
   rw [this]
   omega
noncomputable def natText (n:Nat):ByteArray:=Classical.choose (aLZ n)
theorem dS (n:Nat):aW (natText n) (n:Int):=Classical.choose_spec (aLZ n)
theorem aL0 {s t:ByteArray} (h:s.toList=t.toList):s=t:=by
 rw [ByteArray.toList_eq,ByteArray.toList_eq] at h
 cases s; cases t
 exact congrArg ByteArray.mk (Array.toList_inj.1 h)
theorem aZY {s t:ByteArray} (h:bytesOf s=bytesOf t):s=t:=aL0 (aK9 h)
theorem iH {s:ByteArray} {n:Nat} (h:aW s (n:Int)):s=natText n:=aL0 (aDK h (dS n))
theorem sC {s:ByteArray} {v:Int} {n:Nat} (h:aW s v) (hv:v=(n:Int)):s=natText n:=iH (hv ▸ h)
theorem sD {u v:Nat} (h:natText u=natText v):u=v:=by
 have h1:=(dS u).2.1
 have h2:=(dS v).2.1
 rw [h] at h1
 omega
theorem natText_zero : natText 0=⟨#[48]⟩:=by
 have h:aW (⟨#[48]⟩:ByteArray) ((0:Nat):Int):=⟨fO (c:=48) (l:=[]) (by decide) (fun c hc=>by simp at hc),rfl,by decide,fun z=>by revert z; decide⟩
 exact (iH h).symm
theorem natText_one : natText 1=⟨#[49]⟩:=by
 have h:aW (⟨#[49]⟩:ByteArray) ((1:Nat):Int):=⟨fO (c:=49) (l:=[]) (by decide) (fun c hc=>by simp at hc),rfl,by decide,fun z=>by revert z; decide⟩
 exact (iH h).symm
theorem aZZ : natText 2=⟨#[50]⟩:=by
 have h:aW (⟨#[50]⟩:ByteArray) ((2:Nat):Int):=⟨fO (c:=50) (l:=[]) (by decide) (fun c hc=>by simp at hc),rfl,by decide,fun z=>by revert z; decide⟩
 exact (iH h).symm
theorem aL1 (n:Nat):asc (bytesOf (natText n)):=(dS n).1
noncomputable def dg (n:Nat):Nat:=(natText n).size
theorem sE (n:Nat):1≤dg n:=(dS n).2.2.1
theorem oK (n:Nat) {k:Nat} (h:dg n≤k):n<10 ^ k:=by
 have:=aZH (dS n) k h
 have e:((10 ^ k:Nat):Int)=10 ^ k:=by simp
 omega
theorem sF {n k:Nat} (h0:1≤k) (h:n<10 ^ k):dg n≤k:=aZG (dS n) k h0 (by
 have e:((10 ^ k:Nat):Int)=10 ^ k:=by simp
 omega)
theorem fP {u v:Nat} (h:u≤v):dg u≤dg v:=sF (sE v) (Nat.lt_of_le_of_lt h (oK v (Nat.le_refl _)))
theorem kJ (u v:Nat):dg (u * v)≤dg u+dg v:=by
 refine sF (by have:=sE u; omega) ?_
 rw [Nat.pow_add]
 exact Nat.mul_lt_mul'' (oK u (Nat.le_refl _)) (oK v (Nat.le_refl _))
theorem xT {u v k:Nat} (hu:dg u≤k) (hv:dg v≤k):dg (u+v)≤k+1:=by
 refine sF (by omega) ?_
 have h1:=oK u hu
 have h2:=oK v hv
 rw [Nat.pow_succ]
 omega
theorem hZ (n:Nat):(limbsOf n).length≤dg n:=by
 refine aZW (e7 n) (dg n) ?_
 have h:=oK n (Nat.le_refl _)
 have h1:(10:Nat) ^ dg n≤1000000000 ^ dg n:=Nat.pow_le_pow_left (by decide) _
 have e:((1000000000 ^ dg n:Nat):Int)=BB ^ dg n:=by simp [BB]
 omega
theorem aDV : ∀ (l:List Int) (e:Int),dH l e=e∧asc l∨dH l e=5∧¬ asc l
 | [],e => .inl ⟨rfl,fun c hc=>by simp at hc⟩
 | c :: r,e=>by
   simp only [dH]
   split
   · exact .inr ⟨rfl,fun h=>by have:=h c (by simp); omega⟩
   · split
     · exact .inr ⟨rfl,fun h=>by have:=h c (by simp); omega⟩
     · rcases aDV r e with ⟨h1,h2⟩ | ⟨h1,h2⟩
       · exact .inl ⟨h1,fO (by omega) h2⟩
       · exact .inr ⟨h1,fun h=>h2 fun x hx=>h x (by simp [hx])⟩
theorem aL2 (s:ByteArray):(∃ n,s=natText n∧natErr s=if dg n > 2000 then 2 else 0)∨(natErr s=5∧∀ n,s≠natText n):=by
 by_cases hc:∃ n,s=natText n
 · obtain ⟨n,rfl⟩:=hc
   left
   refine ⟨n,rfl,?_⟩
   obtain ⟨h1,h2,h3,h4⟩:=dS n
   unfold natErr
   rw [if_neg (by omega)]
   have hz:¬ (1<(natText n).size∧bt (natText n) 0=48):=fun ⟨a,b⟩=>h4 a (by rw [lN]; exact b)
   rw [if_neg hz]
   rcases aDV (bytesOf (natText n)) (g8 (natText n)) with ⟨e,_⟩ | ⟨_,e⟩
   · rw [e]
     unfold g8
     show (if ((dg n:Nat):Int) > 2000 then (2:Int) else 0)=_
     by_cases hd:dg n > 2000
     · rw [if_pos hd,if_pos (by omega)]
     · rw [if_neg hd,if_neg (by omega)]
   · exact absurd h1 e
 · right
   refine ⟨?_,fun n hn=>hc ⟨n,hn⟩⟩
   unfold natErr
   by_cases h0:s.size=0
   · rw [if_pos h0]
   · rw [if_neg h0]
     rcases aDV (bytesOf s) (if 1<s.size∧bt s 0=48 then 5 else g8 s) with ⟨e,ha⟩ | ⟨e,_⟩
     · by_cases hz:1<s.size∧bt s 0=48
       · rw [e,if_pos hz]
       · exfalso
         refine hc ⟨(val 10 (aJ (bytesOf s))).toNat,iH ⟨ha,?_,by omega,fun h1 h2=>hz ⟨h1,by rw [← lN]; exact h2⟩⟩⟩
         have:=cW (b:=10) (by decide) (bU ha)
         omega
     · exact e
theorem aZ0 (n:Nat):natErr (natText n)=if dg n > 2000 then 2 else 0:=by
 rcases aL2 (natText n) with ⟨m,hm,h⟩ | ⟨_,h⟩
 · rw [h,sD hm]
 · exact absurd rfl (h n)
end
end Go.Proofs.YtehakimmioclkaaGreatDoor.Sem
end
section
set_option linter.unusedSimpArgs false
set_option linter.unusedVariables false
namespace Go.Proofs.YtehakimmioclkaaGreatDoor.Lib
open Go Go.Proofs.YtehakimmioclkaaGreatDoor.Mach Go.Proofs.YtehakimmioclkaaGreatDoor.ND Go.Proofs.YtehakimmioclkaaGreatDoorW.PrintWords Go.RowKit Go.Proofs.YtehakimmioclkaaGreatDoor.Sem Go.Proofs.YtehakimmioclkaaGreatDoor.NatVal Go.Proofs.YtehakimmioclkaaGreatDoor.Pure
section
theorem e8 {β:Type} {f:Nat→Option β} {mk:β→AV} {r:β} {Q:Res} (h:Ev f r) (hq:Q (mk r) []):dG f mk Q:=by
 obtain ⟨k,hk⟩:=h.rounds
 exact ⟨k,r,hk,hq⟩
def Bd (n:Nat):Prop:=dg n≤4000000000
def gA (n:Int):Prop:=0≤n∧n≤9223372036854775807
def xU (s:ByteArray) (Q:Res):Prop:=s.size≤1000000000000000∧Q (.int .i64 (natErr s)) []
def aL3 (s:ByteArray) (Q:Res):Prop:=∃ n:Nat,s=natText n∧Bd n∧Q (.imm eW (limbsOf n)) []
def aDW (l:List Int) (Q:Res):Prop:=∃ n:Nat,l=limbsOf n∧dg n≤9000000000∧Q (.str (natText n)) []
def cmpS (l m:List Int) (Q:Res):Prop:=∃ u v:Nat,l=limbsOf u∧m=limbsOf v∧dg u≤9000000000∧Q (.int .i64 (cmpI u v)) []
def addS (l m:List Int) (Q:Res):Prop:=∃ u v:Nat,l=limbsOf u∧m=limbsOf v∧dg u≤9000000000∧dg v≤9000000000∧Q (.imm eW (limbsOf (u+v))) []
def subS (l m:List Int) (Q:Res):Prop:=∃ u v:Nat,l=limbsOf u∧m=limbsOf v∧dg u≤9000000000∧v≤u∧Q (.imm eW (limbsOf (u - v))) []
def mulS (l m:List Int) (Q:Res):Prop:=∃ u v:Nat,l=limbsOf u∧m=limbsOf v∧dg u≤9000000000∧dg v≤9000000000∧Q (.imm eW (limbsOf (u * v))) []
def divS (l m:List Int) (Q:Res):Prop:=∃ u v:Nat,l=limbsOf u∧m=limbsOf v∧dg u≤9000000000∧dg v≤9000000000∧0<v∧Q (.tup [.imm eW (limbsOf (u / v)), .imm eW (limbsOf (u % v))]) []
def gcdS (l m:List Int) (Q:Res):Prop:=∃ u v:Nat,l=limbsOf u∧m=limbsOf v∧dg u≤9000000000∧dg v≤9000000000∧Q (.imm eW (limbsOf (Nat.gcd u v))) []
def ofS (n:Int) (Q:Res):Prop:=gA n∧Q (.imm eW (limbsOf n.toNat)) []
def aDX (l:List Int) (Q:Res):Prop:=∃ n:Nat,l=limbsOf n∧dg n≤9000000000∧Q (.int .i64 (dg n:Int)) []
def aDY (s t:ByteArray) (Q:Res):Prop:=∃ u v:Nat,s=natText u∧t=natText v∧dg u≤10000000000∧dg v≤10000000000∧Q (.str (natText (u+v))) []
def aDZ (s t:ByteArray) (Q:Res):Prop:=∃ u v:Nat,s=natText u∧t=natText v∧dg u≤10000000000∧v≤u∧Q (.str (natText (u - v))) []
def aD0 (s t:ByteArray) (Q:Res):Prop:=∃ u v:Nat,s=natText u∧t=natText v∧dg u≤5000000000∧dg v≤5000000000∧Q (.str (natText (u * v))) []
def aD1 (s t:ByteArray) (Q:Res):Prop:=∃ u v:Nat,s=natText u∧t=natText v∧dg u≤9000000000∧dg v≤9000000000∧0<v∧Q (.tup [.str (natText (u / v)), .str (natText (u % v))]) []
def aD2 (s t:ByteArray) (Q:Res):Prop:=∃ u v:Nat,s=natText u∧t=natText v∧dg u≤9000000000∧dg v≤9000000000∧Q (.str (natText (Nat.gcd u v))) []
def aD3 (s t:ByteArray) (Q:Res):Prop:=∃ u v:Nat,s=natText u∧t=natText v∧Q (.int .i64 (cmpI u v)) []
def aL4 (n:Int) (Q:Res):Prop:=gA n∧Q (.str (natText n.toNat)) []
theorem aZ1 {s:ByteArray} {Q:Res} (h:xU s Q):Con Tryz.prog 100 [.str s] Q:=aWV (e8 (aX9 s h.1) h.2)
theorem aZ2 {s:ByteArray} {Q:Res} (h:xU s Q):Con Tryz.prog 103 [.str s] Q:=aX7 (e8 (aYB s h.1) h.2)
theorem aZ3 {s:ByteArray} {Q:Res} (h:aL3 s Q):Con Tryz.prog 91 [.str s] Q:=by
 obtain ⟨n,rfl,hb,hq⟩:=h
 have hb' : (natText n).size≤10000000000:=Nat.le_trans hb (by decide)
 obtain ⟨r,h1,h2,_⟩:=aYG (natText n) (aL1 n) hb'
 rw [oJ h2 (dS n).2.1] at h1
 exact aWA (e8 h1 hq)
theorem aL5 {l:List Int} {Q:Res} (h:aDW l Q):Con Tryz.prog 75 [.imm eW l] Q:=by
 obtain ⟨n,rfl,hb,hq⟩:=h
 obtain ⟨t,h1,h2,_⟩:=aLD (e7 n) (by have:=hZ n; omega)
 rw [iH h2] at h1
 exact aKF (e8 h1 hq)
theorem aL6 {l m:List Int} {Q:Res} (h:cmpS l m Q):Con Tryz.prog 65 [.imm eW l, .imm eW m] Q:=by
 obtain ⟨u,v,rfl,rfl,hb,hq⟩:=h
 have hu:=e7 u
 have hv:=e7 v
 have h1:=aK6 (l:=limbsOf u) (r:=limbsOf v) (by have:=hZ u; omega) hu.2.1 hv.2.1 hu.2.2 hv.2.2
 rw [hu.1,hv.1] at h1
 exact aKG (e8 h1 hq)
theorem aL7 {l m:List Int} {Q:Res} (h:addS l m Q):Con Tryz.prog 64 [.imm eW l, .imm eW m] Q:=by
 obtain ⟨u,v,rfl,rfl,hb,hb', hq⟩:=h
 have hu:=e7 u
 have hv:=e7 v
 obtain ⟨r,h1,h2,_⟩:=aYL (a:=limbsOf u) (b:=limbsOf v) (by have:=hZ u; omega) (by have:=hZ v; omega) hu.2.1 hv.2.1 hu.2.2 hv.2.2
 rw [hu.1,hv.1] at h2
 rw [oJ h2 (by omega:(u:Int)+v=((u+v:Nat):Int))] at h1
 exact aWH (e8 h1 hq)
theorem aL8 {l m:List Int} {Q:Res} (h:subS l m Q):Con Tryz.prog 66 [.imm eW l, .imm eW m] Q:=by
 obtain ⟨u,v,rfl,rfl,hb,hle,hq⟩:=h
 have hu:=e7 u
 have hv:=e7 v
 obtain ⟨r,h1,h2,_⟩:=aYN (a:=limbsOf u) (b:=limbsOf v) (by have:=hZ u; omega) hu.2.1 hv.2.1 hv.2.2 (by rw [hu.1,hv.1]; omega)
 rw [hu.1,hv.1] at h2
 rw [oJ h2 (by omega:(u:Int) - v=((u - v:Nat):Int))] at h1
 exact aWJ (e8 h1 hq)
theorem aL9 {l m:List Int} {Q:Res} (h:mulS l m Q):Con Tryz.prog 61 [.imm eW l, .imm eW m] Q:=by
 obtain ⟨u,v,rfl,rfl,hb,hb', hq⟩:=h
 obtain ⟨r,h1,h2,_⟩:=aDP (e7 u) (e7 v) (by have:=hZ u; have:=hZ v; omega)
 rw [oJ h2 (Int.natCast_mul u v).symm] at h1
 exact aWL (e8 h1 hq)
theorem aMA {l m:List Int} {Q:Res} (h:divS l m Q):Con Tryz.prog 83 [.imm eW l, .imm eW m] Q:=by
 obtain ⟨u,v,rfl,rfl,hb,hb', h0,hq⟩:=h
 obtain ⟨q,r,h1,h2,h3,_⟩:=aLR (e7 u) (e7 v) (by omega) (by have:=hZ u; have:=hZ v; omega)
 rw [oJ h2 (Int.natCast_ediv u v).symm,oJ h3 (Int.natCast_emod u v).symm] at h1
 exact aKJ (e8 h1 hq)
theorem aMB {l m:List Int} {Q:Res} (h:gcdS l m Q):Con Tryz.prog 82 [.imm eW l, .imm eW m] Q:=by
 obtain ⟨u,v,rfl,rfl,hb,hb', hq⟩:=h
 obtain ⟨r,h1,h2⟩:=aZN (e7 u) (e7 v) (by have:=hZ u; omega) (by have:=hZ v; omega)
 rw [xR h2] at h1
 exact aWY (e8 h1 hq)
theorem aMC {n:Int} {Q:Res} (h:ofS n Q):Con Tryz.prog 74 [.int .i64 n] Q:=by
 obtain ⟨⟨h0,h9⟩,hq⟩:=h
 obtain ⟨r,h1,h2⟩:=of_ev n.toNat (by omega)
 rw [xR h2,Int.toNat_of_nonneg h0] at h1
 exact aWT (e8 h1 hq)
theorem aMD {l:List Int} {Q:Res} (h:aDX l Q):Con Tryz.prog 87 [.imm eW l] Q:=by
 obtain ⟨n,rfl,hb,hq⟩:=h
 obtain ⟨t,h1,h2,_⟩:=aLD (e7 n) (by have:=hZ n; omega)
 rw [iH h2] at h1
 obtain ⟨k,hk⟩:=h1.rounds
 refine aWZ ⟨k,((natText n).size:Int),?_,hq⟩
 show (nat_N_Text.f k (limbsOf n)).bind _=_
 rw [hk]; rfl
theorem aME {s t:ByteArray} {Q:Res} (h:aDY s t Q):Con Tryz.prog 40 [.str s, .str t] Q:=by
 obtain ⟨u,v,rfl,rfl,hb,hb', hq⟩:=h
 obtain ⟨r,h1,h2,_⟩:=aYX (dS u) (dS v) hb hb'
 rw [sC h2 (by omega:(u:Int)+v=((u+v:Nat):Int))] at h1
 exact aXX (e8 h1 hq)
theorem aMF {s t:ByteArray} {Q:Res} (h:aDZ s t Q):Con Tryz.prog 42 [.str s, .str t] Q:=by
 obtain ⟨u,v,rfl,rfl,hb,hle,hq⟩:=h
 obtain ⟨r,h1,h2,_⟩:=aLE (dS u) (dS v) hb (by omega)
 rw [sC h2 (by omega:(u:Int) - v=((u - v:Nat):Int))] at h1
 exact aKT (e8 h1 hq)
theorem aMG {s t:ByteArray} {Q:Res} (h:aD0 s t Q):Con Tryz.prog 38 [.str s, .str t] Q:=by
 obtain ⟨u,v,rfl,rfl,hb,hb', hq⟩:=h
 obtain ⟨r,h1,h2,_⟩:=aZF (dS u) (dS v) (by show dg u+dg v≤_; omega)
 rw [sC h2 (Int.natCast_mul u v).symm] at h1
 exact aX0 (e8 h1 hq)
theorem aMH {s t:ByteArray} {Q:Res} (h:aD1 s t Q):Con Tryz.prog 72 [.str s, .str t] Q:=by
 obtain ⟨u,v,rfl,rfl,hb,hb', h0,hq⟩:=h
 obtain ⟨z,h1,h2,h3⟩:=aLU (dS u) (dS v) (by omega) hb hb'
 obtain ⟨z1,z2⟩:=z
 simp only at h2 h3
 rw [sC h2 (Int.natCast_ediv u v).symm,sC h3 (Int.natCast_emod u v).symm] at h1
 exact aKU (e8 h1 hq)
theorem aMI {s t:ByteArray} {Q:Res} (h:aD2 s t Q):Con Tryz.prog 71 [.str s, .str t] Q:=by
 obtain ⟨u,v,rfl,rfl,hb,hb', hq⟩:=h
 obtain ⟨r,h1,h2⟩:=aZU (dS u) (dS v) hb hb'
 rw [iH h2] at h1
 exact aX3 (e8 h1 hq)
theorem aMJ {s t:ByteArray} {Q:Res} (h:aD3 s t Q):Con Tryz.prog 41 [.str s, .str t] Q:=by
 obtain ⟨u,v,rfl,rfl,hq⟩:=h
 exact aKS ⟨_,xP (dS u) (dS v),hq⟩
theorem aMK {n:Int} {Q:Res} (h:aL4 n Q):Con Tryz.prog 19 [.int .i64 n] Q:=by
 obtain ⟨⟨h0,h9⟩,hq⟩:=h
 obtain ⟨r,h1,h2,_⟩:=aLW n.toNat (by omega)
 rw [iH h2,Int.toNat_of_nonneg h0] at h1
 exact aKW ⟨h0,e8 h1 hq⟩
end
end Go.Proofs.YtehakimmioclkaaGreatDoor.Lib
end
section
set_option linter.unusedSimpArgs false
set_option linter.unusedVariables false
namespace Go.Proofs.YtehakimmioclkaaGreatDoor.Lib
open Go Go.Proofs.YtehakimmioclkaaGreatDoor.Mach
section
def bE (s:ByteArray):Bool:=bif decide (1≤s.size) then (s.extract 0 1).toList == (ByteArray.mk #[45]).toList else false
def aL (s:ByteArray):ByteArray:=bif bE s then s.extract 1 s.size else s
def preS (s t:ByteArray) (Q:Res):Prop:=t=⟨#[45]⟩∧s.size≤1000000000000000000∧Q (.tup [.str (aL s), .bool (bE s)]) []
def bF (s:ByteArray):Bool:=decide (0≤firstIdx s 47)
def bG (s:ByteArray):ByteArray:=bif bF s then s.extract 0 (firstIdx s 47).toNat else s
def bL (s:ByteArray):ByteArray:=bif bF s then s.extract ((firstIdx s 47).toNat+1) s.size else ⟨#[]⟩
def cutS (s t:ByteArray) (Q:Res):Prop:=t=⟨#[47]⟩∧s.size≤1000000000000000000∧Q (.tup [.str (bG s), .str (bL s), .bool (bF s)]) []
end
end Go.Proofs.YtehakimmioclkaaGreatDoor.Lib
end
section
set_option linter.unusedSimpArgs false
set_option linter.unusedVariables false
namespace Go.Proofs.YtehakimmioclkaaGreatDoor.Mach
open Go Go.Proofs.YtehakimmioclkaaGreatDoor Go.Proofs.YtehakimmioclkaaGreatDoor.Lib
section
set_option maxRecDepth 1000000
def aML : List (Nat × List Nat):=[]
def aMM : List (Nat × ETy):=[]
theorem aZ4 (s t:ByteArray) (n0:Nat) (K:AV→List aA→Prop) :
 aH tab (aM tab bP [101,107] 400) (aK aML aMM (aB Tryz.prog n0 89 K)) (aI tab (fnT Tryz.f89).res K) 400 [.code (fnT Tryz.f89).body] ⟨aP (fnT Tryz.f89).n [AV.str s,AV.str t],[]⟩ =
 (bif decide ((↑s.size:Int) ≥ (↑t.size:Int)) then bif decide (0≤(↑t.size:Int)) && decide ((↑t.size:Int)≤(↑s.size:Int)) then bif !bif true then (s.extract 0 (↑t.size:Int).toNat).toList == t.toList else false then K (AV.tup [AV.str s,AV.bool false]) [] else bif decide (0≤(↑t.size:Int)) && decide ((↑t.size:Int)≤(↑s.size:Int)) && decide ((↑s.size:Int)≤(↑s.size:Int)) then K (AV.tup [AV.str (s.extract (↑t.size:Int).toNat (↑s.size:Int).toNat),AV.bool true]) [] else False else False else K (AV.tup [AV.str s,AV.bool false]) []):=by kernel_rfl
def aMN : List (Nat × List Nat):=[]
def aMO : List (Nat × ETy):=[]
theorem aZ5 (s t:ByteArray) (n0:Nat) (K:AV→List aA→Prop) :
 aH tab (aM tab bP [102,108,111] 400) (aK aMN aMO (aB Tryz.prog n0 90 K)) (aI tab (fnT Tryz.f90).res K) 400 [.code (fnT Tryz.f90).body] ⟨aP (fnT Tryz.f90).n [AV.str s,AV.str t],[]⟩ =
 (bif decide ((↑t.size:Int)=0) then bif decide (0≤IntKind.i64.wrap (0+(↑t.size:Int))) && decide (IntKind.i64.wrap (0+(↑t.size:Int))≤(↑s.size:Int)) && decide ((↑s.size:Int)≤(↑s.size:Int)) then K (AV.tup [AV.str (s.extract 0 0),AV.str (s.extract (IntKind.i64.wrap (0+(↑t.size:Int))).toNat (↑s.size:Int).toNat),AV.bool true]) [] else False else bif bif false then true else t.toList == s.toList then bif decide (0≤IntKind.i64.wrap (0+(↑t.size:Int))) && decide (IntKind.i64.wrap (0+(↑t.size:Int))≤(↑s.size:Int)) && decide ((↑s.size:Int)≤(↑s.size:Int)) then K (AV.tup [AV.str (s.extract 0 0),AV.str (s.extract (IntKind.i64.wrap (0+(↑t.size:Int))).toNat (↑s.size:Int).toNat),AV.bool true]) [] else False else bif decide ((↑t.size:Int)=1) then bif decide (0<(↑t.size:Int)) then bif decide (firstIdx s (↑(t.data.toList.getD 0 0).toNat:Int).toNat.toUInt8 ≥ 0) then bif decide (0≤firstIdx s (↑(t.data.toList.getD 0 0).toNat:Int).toNat.toUInt8) && decide (firstIdx s (↑(t.data.toList.getD 0 0).toNat:Int).toNat.toUInt8≤(↑s.size:Int)) then bif decide (0≤IntKind.i64.wrap (firstIdx s (↑(t.data.toList.getD 0 0).toNat:Int).toNat.toUInt8+(↑t.size:Int))) && decide (IntKind.i64.wrap (firstIdx s (↑(t.data.toList.getD 0 0).toNat:Int).toNat.toUInt8+(↑t.size:Int))≤(↑s.size:Int)) && decide ((↑s.size:Int)≤(↑s.size:Int)) then K (AV.tup [AV.str (s.extract 0 (firstIdx s (↑(t.data.toList.getD 0 0).toNat:Int).toNat.toUInt8).toNat),AV.str (s.extract (IntKind.i64.wrap (firstIdx s (↑(t.data.toList.getD 0 0).toNat:Int).toNat.toUInt8+(↑t.size:Int))).toNat (↑s.size:Int).toNat),AV.bool true]) [] else False else False else K (AV.tup [AV.str s,AV.str (ByteArray.mk #[]),AV.bool false]) [] else False else bif decide ((↑t.size:Int) ≥ (↑s.size:Int)) then K (AV.tup [AV.str s,AV.str (ByteArray.mk #[]),AV.bool false]) [] else False):=by kernel_rfl
end
end Go.Proofs.YtehakimmioclkaaGreatDoor.Mach
end
section
set_option linter.unusedSimpArgs false
set_option linter.unusedVariables false
namespace Go.Proofs.YtehakimmioclkaaGreatDoor.Lib
open Go Go.Proofs.YtehakimmioclkaaGreatDoor.Mach
section
theorem aMP {s t:ByteArray} (h:s.toList=t.toList):s=t:=by
 rw [ByteArray.toList_eq,ByteArray.toList_eq] at h
 cases s; cases t; simp_all
theorem aMQ {s:ByteArray} {c:UInt8} {i:Nat} (hi:i<s.size) (h:s[i]! = c) (hb:∀ j,j<i→s[j]! ≠ c):firstIdx s c=i:=by
 unfold firstIdx
 rw [List.find?_range_eq_some.2 ⟨by simpa using h,by simpa using hi,fun j hj=>by simpa using hb j hj⟩]
theorem sG (s:ByteArray) (c:UInt8) : -1≤firstIdx s c∧firstIdx s c<s.size:=by
 unfold firstIdx
 split
 · rename_i i h
   have:=(List.find?_range_eq_some.1 h).2.1
   simp at this
   omega
 · omega
theorem xV (s:ByteArray) (i:Nat) (h:i<s.size):s[i]! = s.data.toList.getD i default:=by
 rw [getElem!_pos s i h,List.getD_eq_getElem?_getD,List.getElem?_eq_getElem (by rw [Array.length_toList]; exact h)]
 rfl
theorem aZ6 {a b:ByteArray} {c:UInt8} (h:∀ x∈a.data.toList,x≠c):firstIdx (a ++ (⟨#[c]⟩ ++ b)) c=a.size:=by
 have hl:a.data.toList.length=a.size:=by rw [Array.length_toList]; rfl
 have hd:(a ++ (⟨#[c]⟩ ++ b)).data.toList=a.data.toList ++ c :: b.data.toList:=by simp [ByteArray.data_append]
 refine aMQ ?_ ?_ fun j hj=>?_
 · simp only [ByteArray.size_append,show (ByteArray.mk #[c]).size=1 from rfl]; omega
 · rw [xV _ _ (by simp only [ByteArray.size_append,show (ByteArray.mk #[c]).size=1 from rfl]; omega),hd,List.getD_eq_getElem?_getD,List.getElem?_append_right (by omega)]
   simp [hl]
 · rw [xV _ _ (by simp only [ByteArray.size_append]; omega),hd,List.getD_eq_getElem?_getD,List.getElem?_append_left (by omega),List.getElem?_eq_getElem (by omega)]
   exact h _ (List.getElem_mem ..)
theorem aZ7 {s:ByteArray} {c:UInt8} (h:∀ x∈s.data.toList,x≠c):firstIdx s c = -1:=by
 unfold firstIdx
 rw [List.find?_eq_none.2 fun i hi=>by
  have hs:i<s.size:=by simpa using hi
  have hl:s.data.toList.length=s.size:=by rw [Array.length_toList]; rfl
  rw [xV _ _ hs,List.getD_eq_getElem?_getD,List.getElem?_eq_getElem (by omega)]
  intro hc
  exact h _ (List.getElem_mem (l:=s.data.toList) (n:=i) (by omega)) (by simpa using hc)]
theorem aMR (a b:ByteArray):(a ++ b).extract 0 a.size=a:=by
 apply ByteArray.ext
 simp [ByteArray.data_extract]
theorem aMS (a b:ByteArray):(a ++ b).extract a.size (a ++ b).size=b:=by
 apply ByteArray.ext
 have e:a.size=a.data.size:=rfl
 have e2:b.size=b.data.size:=rfl
 rw [ByteArray.data_extract,ByteArray.size_append,ByteArray.data_append,Array.extract_append,e,e2,Array.extract_eq_empty_of_le (by omega),Array.empty_append,Nat.sub_self,Nat.add_sub_cancel_left,Array.extract_size]
theorem aZ8 {s t:ByteArray} {Q:Res} (h:preS s t Q):Con Tryz.prog 89 [.str s, .str t] Q:=by
 obtain ⟨rfl,hs,hq⟩:=h
 refine aU (gn:=fnT Tryz.f89) (by kernel_rfl) bR (inl:=[101,107]) (LT:=aML) (NT:=aMM) rfl fun n0=>?_
 rw [aZ4]
 have hk:∀ r:ByteArray,∀ b:Bool,Q (.tup [.str r, .bool b]) []→aO Q (.tup [.str r, .bool b]) []:=fun r b h=>bI h rfl rfl
 have z:(ByteArray.mk #[45]).size=1:=rfl
 rw [z]
 by_cases h1:1≤s.size
 · have d1:decide ((s.size:Int) ≥ ((1:Nat):Int))=true:=decide_eq_true (by omega)
   have d2:decide (0≤((1:Nat):Int))=true:=decide_eq_true (by omega)
   have d3:decide (((1:Nat):Int)≤(s.size:Int))=true:=decide_eq_true (by omega)
   have d4:decide ((s.size:Int)≤(s.size:Int))=true:=decide_eq_true (by omega)
   have hb:bE s=((s.extract 0 1).toList == (ByteArray.mk #[45]).toList):=by unfold bE; rw [decide_eq_true h1]; rfl
   simp only [d1,d2,d3,d4,Bool.and_true,cond_true,Bool.not_true,cond_false,Int.toNat_natCast]
   cases hp:((s.extract 0 1).toList == (ByteArray.mk #[45]).toList) with
   | true =>
     simp only [cond_true,Bool.not_true,cond_false]
     rw [hp] at hb
     unfold aL at hq
     rw [hb] at hq
     exact hk _ _ hq
   | false =>
     simp only [cond_false,Bool.not_false,cond_true]
     rw [hp] at hb
     unfold aL at hq
     rw [hb] at hq
     exact hk _ _ hq
 · have d1:decide ((s.size:Int) ≥ ((1:Nat):Int))=false:=decide_eq_false (by omega)
   rw [d1]
   have hb:bE s=false:=by unfold bE; rw [decide_eq_false h1]; rfl
   unfold aL at hq
   rw [hb] at hq
   exact hk _ _ hq
theorem aZ9 {s t:ByteArray} {Q:Res} (h:cutS s t Q):Con Tryz.prog 90 [.str s, .str t] Q:=by
 obtain ⟨rfl,hs,hq⟩:=h
 refine aU (gn:=fnT Tryz.f90) (by kernel_rfl) bR (inl:=[102,108,111]) (LT:=aMN) (NT:=aMO) rfl fun n0=>?_
 rw [aZ5]
 have hk:∀ r u:ByteArray,∀ b:Bool,Q (.tup [.str r, .str u, .bool b]) []→aO Q (.tup [.str r, .str u, .bool b]) []:=fun r u b h=>bI h rfl rfl
 have z:(ByteArray.mk #[47]).size=1:=rfl
 have z47:(((ByteArray.mk #[47]).data.toList.getD 0 0).toNat:Int).toNat.toUInt8=47:=by decide
 rw [z47,z]
 have hi:=sG s 47
 by_cases he:s=⟨#[47]⟩
 · subst he
   have e1:firstIdx ⟨#[47]⟩ 47=0:=aMQ (i:=0) (by decide) (by decide) (fun j h=>by omega)
   have e2:bF ⟨#[47]⟩=true:=by unfold bF; rw [e1]; rfl
   unfold bG bL at hq
   rw [e2,e1] at hq
   have w1:IntKind.i64.wrap (0+((1:Nat):Int))=1:=by decide
   rw [w1]
   refine aG (by omega) ?_
   refine aQ (by simp) ?_
   refine aQ (by rw [z]; rfl) ?_
   exact hk _ _ _ hq
 · have hne:((ByteArray.mk #[47]).toList == s.toList)=false:=beq_eq_false_iff_ne.2 fun h=>he (aMP h.symm)
   rw [hne]
   refine aG (by omega) ?_
   refine aX (by simp) ?_
   refine aC (by omega) (aC (by omega) ?_)
   unfold bG bL bF at hq
   by_cases h0:0≤firstIdx s 47
   · rw [decide_eq_true h0] at hq
     have w1:IntKind.i64.wrap (firstIdx s 47+((1:Nat):Int))=((((firstIdx s 47).toNat+1:Nat)):Int):=by rw [wr (by omega) (by omega)]; omega
     rw [w1]
     refine aC (by omega) ?_
     refine aN (aC (by omega) (aC (by omega) ?_))
     refine aN (aN (aC (by omega) (aC (by omega) (aC (by omega) ?_))))
     simp only [Int.toNat_natCast]
     exact hk _ _ _ hq
   · rw [decide_eq_false h0] at hq
     refine aG (by omega) ?_
     exact hk _ _ _ hq
end
end Go.Proofs.YtehakimmioclkaaGreatDoor.Lib
end
section
set_option linter.unusedSimpArgs false
set_option linter.unusedVariables false
namespace Go.Proofs.YtehakimmioclkaaGreatDoor.Sem
open Go Go.RowKit Go.Proofs.YtehakimmioclkaaGreatDoorW.PrintWords Go.Proofs.YtehakimmioclkaaGreatDoor.Aid Go.Proofs.YtehakimmioclkaaGreatDoor.NatVal Go.Proofs.YtehakimmioclkaaGreatDoor.Pure
section
def sg (neg:Bool) (u:Nat):Int:=if neg=true then -(u:Int) else u
theorem oL (neg:Bool) (u:Nat):(sg neg u).natAbs=u:=by cases neg <;> simp [sg]
def mkq (neg:Bool) (u v:Nat):Rat:=mkRat (sg neg u) v
theorem aD4 {neg:Bool} {u v:Nat} (hv:0<v):(mkq neg u v).num.natAbs=u / Nat.gcd u v:=by
 unfold mkq
 rw [Rat.num_mkRat,if_neg (by omega),oL,Int.natAbs_ediv_of_dvd]
 · rw [oL,Int.natAbs_natCast,Nat.gcd_comm]
 · exact Int.ofNat_dvd_left.2 (by rw [oL]; exact Nat.gcd_dvd_right v u)
theorem aD5 {neg:Bool} {u v:Nat} (hv:0<v):(mkq neg u v).den=v / Nat.gcd u v:=by
 unfold mkq
 rw [Rat.den_mkRat,if_neg (by omega),oL,Nat.gcd_comm]
theorem a0A {neg:Bool} {u v:Nat} (hv:0<v):mkq neg u v=0↔u=0:=by
 unfold mkq
 rw [Rat.mkRat_eq_zero (by omega)]
 have:=oL neg u
 omega
theorem aD6 (neg:Bool) (v:Nat):mkq neg 0 v=0:=by
 have:sg neg 0=0:=by cases neg <;> rfl
 unfold mkq
 rw [this,Rat.zero_mkRat]
theorem aMT {neg:Bool} {u v:Nat} (hv:0<v):(mkq neg u v).num<0↔neg=true∧0<u:=by
 unfold mkq
 rw [Rat.num_mkRat,if_neg (by omega),oL]
 have hg:0<Nat.gcd v u:=Nat.gcd_pos_of_pos_left u hv
 obtain ⟨w,hw⟩:=Nat.gcd_dvd_right v u
 generalize Nat.gcd v u=g at *
 subst hw
 cases neg with
 | false =>
   simp only [sg,Bool.false_eq_true,if_false,false_and,iff_false,Int.not_lt]
   exact Int.ediv_nonneg (by omega) (by omega)
 | true =>
   simp only [sg,if_true,true_and]
   rw [Int.natCast_mul,← Int.mul_neg,Int.mul_ediv_cancel_left _ (by omega)]
   constructor
   · intro h; exact Nat.mul_pos hg (by omega)
   · intro h
     have:0<w:=Nat.pos_of_mul_pos_left h
     omega
theorem eX (q:Rat):mkq (decide (q.num<0)) q.num.natAbs q.den=q:=by
 unfold mkq
 have:sg (decide (q.num<0)) q.num.natAbs=q.num:=by
  unfold sg
  by_cases h:q.num<0
  · rw [if_pos (decide_eq_true h)]; omega
  · rw [if_neg (by simpa using h)]; omega
 rw [this,Rat.mkRat_self]
theorem xW (p q:Bool) (n d m f:Nat) (hd:0<d) (hf:0<f):mkq p n d+mkq q m f=if p=q then mkq p (n * f+m * d) (d * f) else if m * d≤n * f then mkq p (n * f - m * d) (d * f) else mkq q (m * d - n * f) (d * f):=by
 unfold mkq
 rw [Rat.mkRat_add_mkRat _ _ (by omega) (by omega)]
 have e:∀ (p:Bool) (u w:Nat),sg p u * (w:Int)=sg p (u * w):=fun p u w=>by
  cases p <;> simp [sg,Int.neg_mul]
 rw [e,e]
 by_cases hpq:p=q
 · subst hpq
   rw [if_pos rfl]
   congr 1
   cases p <;> simp [sg] <;> omega
 · rw [if_neg hpq]
   split
   · rename_i h
     congr 1
     cases p <;> cases q <;> simp [sg] at hpq ⊢ <;> rw [← Int.natCast_mul,← Int.natCast_mul] <;> omega
   · rename_i h
     congr 1
     cases p <;> cases q <;> simp [sg] at hpq ⊢ <;> rw [← Int.natCast_mul,← Int.natCast_mul] <;> omega
theorem aD7 (p q:Bool) (n d m f:Nat):mkq p n d * mkq q m f=mkq (p != q) (n * m) (d * f):=by
 unfold mkq
 rw [Rat.mkRat_mul_mkRat]
 congr 1
 cases p <;> cases q <;> simp [sg,Int.neg_mul,Int.mul_neg]
theorem a0B (p:Bool) (n d:Nat) : -mkq p n d=mkq (!p) n d:=by
 unfold mkq
 rw [Rat.neg_mkRat]
 congr 1
 cases p <;> simp [sg]
theorem aD8 (p q:Bool) (n d m f:Nat) (hd:0<d) (hm:0<m) (hf:0<f):mkq p n d / mkq q m f=mkq (p != q) (n * f) (d * m):=by
 have hy:mkq q m f≠0:=fun h=>by have:=(a0A hf).1 h; omega
 have h1:mkq (p != q) (n * f) (d * m) * mkq q m f=mkq p n d:=by
  rw [aD7,show ((p != q) != q)=p by cases p <;> cases q <;> rfl]
  unfold mkq
  have e:sg p (n * f * m)=sg p n * ((f * m:Nat):Int):=by cases p <;> simp [sg,Int.neg_mul,Int.mul_assoc]
  rw [e,show d * m * f=d * (f * m) by rw [Nat.mul_assoc,Nat.mul_comm m f]]
  exact Rat.mkRat_mul_right (Nat.mul_ne_zero (by omega) (by omega))
 rw [Rat.div_def,← h1,Rat.mul_assoc,Rat.mul_inv_cancel _ hy,Rat.mul_one]
theorem a0C (neg:Bool) (u v g:Nat) (hg:0<g) (hu:g ∣ u) (hv:g ∣ v):mkq neg (u / g) (v / g)=mkq neg u v:=by
 obtain ⟨a,rfl⟩:=hu
 obtain ⟨b,rfl⟩:=hv
 rw [Nat.mul_div_cancel_left _ hg,Nat.mul_div_cancel_left _ hg]
 unfold mkq
 have e:sg neg (g * a)=(g:Int) * sg neg a:=by cases neg <;> simp [sg,Int.mul_neg]
 rw [e,Rat.mkRat_mul_left (by omega)]
noncomputable def szN (q:Rat):Nat:=dg q.num.natAbs
noncomputable def szD (q:Rat):Nat:=dg q.den
theorem oM {neg:Bool} {u v:Nat} (hv:0<v):szN (mkq neg u v)≤dg u:=by
 unfold szN
 rw [aD4 hv]
 exact fP (Nat.div_le_self _ _)
theorem oN {neg:Bool} {u v:Nat} (hv:0<v):szD (mkq neg u v)≤dg v:=by
 unfold szD
 rw [aD5 hv]
 exact fP (Nat.div_le_self _ _)
theorem dO (q:Rat):0<q.den:=Nat.pos_of_ne_zero q.den_nz
noncomputable def rt (neg:Bool) (u v:Nat):ByteArray:=(bif neg then ⟨#[45]⟩ else ⟨#[]⟩) ++ natText u ++ (if v=1 then ⟨#[]⟩ else ⟨#[47]⟩ ++ natText v)
noncomputable def ratText (q:Rat):ByteArray:=rt (decide (q.num<0)) q.num.natAbs q.den
theorem a0D (neg:Bool) (u v:Nat):bytesOf (rt neg u v)=(bif neg then [45] else []) ++ bytesOf (natText u) ++ (if v=1 then [] else 47 :: bytesOf (natText v)):=by
 unfold rt
 rw [kH,kH]
 congr 1
 · congr 1
   cases neg <;> rfl
 · split
   · rfl
   · rw [kH]; rfl
theorem aD9 {neg:Bool} {u v:Nat} (hv:0<v) (hu:0<u):ratText (mkq neg u v)=rt neg (u / Nat.gcd u v) (v / Nat.gcd u v):=by
 unfold ratText
 rw [aD4 hv,aD5 hv]
 congr 1
 have:=aMT (neg:=neg) hv (u:=u)
 cases neg
 · simp only [Bool.false_eq_true,false_and,iff_false] at this
   exact decide_eq_false this
 · exact decide_eq_true (this.2 ⟨rfl,hu⟩)
theorem aMU (n:Nat):ratText (n:Rat)=natText n:=by
 apply aZY
 unfold ratText
 rw [a0D]
 have:¬ ((n:Int)<0):=by omega
 simp [Rat.num_natCast,Rat.den_natCast,this]
theorem xX : ratText 0=⟨#[48]⟩:=(aMU 0).trans natText_zero
def sgn (q:Rat):Int:=if q.num=0 then 0 else if q.num<0 then -1 else 1
noncomputable def i7 (s:ByteArray):Nat:=(val 10 (aJ (bytesOf s))).toNat
theorem kK (n:Nat):i7 (natText n)=n:=by
 unfold i7
 rw [(dS n).2.1,Int.toNat_natCast]
structure QV (z:Bool × List Int × List Int) (q:Rat):Prop where
 neg:z.1=decide (q.num<0)
 num:z.2.1=limbsOf q.num.natAbs
 den:z.2.2=limbsOf q.den∨(z.2.2=[]∧q.den=1)
theorem QV.zero : QV (false,[],[]) 0:=⟨rfl,limbsOf_zero.symm, .inr ⟨rfl,rfl⟩⟩
theorem QV.nil {z:Bool × List Int × List Int} {q:Rat} (h:QV z q):z.2.1.length=0↔q=0:=by
 rw [h.num,xS,Int.natAbs_eq_zero,Rat.num_eq_zero]
theorem QV.of {z:Bool × List Int × List Int} {q:Rat} (h:QV z q):mkq z.1 q.num.natAbs q.den=q:=by rw [h.neg,eX]
theorem QV.make {neg:Bool} {u v:Nat} (hu:0<u) (hv:0<v) (hg:Nat.gcd u v=1):QV (neg,limbsOf u,limbsOf v) (mkq neg u v):=by
 refine ⟨?_,by rw [aD4 hv,hg,Nat.div_one], .inl (by rw [aD5 hv,hg,Nat.div_one])⟩
 have:=aMT (neg:=neg) hv (u:=u)
 cases neg
 · simp only [Bool.false_eq_true,false_and,iff_false] at this
   exact (decide_eq_false this).symm
 · exact (decide_eq_true (this.2 ⟨rfl,hu⟩)).symm
end
end Go.Proofs.YtehakimmioclkaaGreatDoor.Sem
end
section
set_option linter.unusedSimpArgs false
set_option linter.unusedVariables false
namespace Go.Proofs.YtehakimmioclkaaGreatDoor.Lib
open Go Go.Proofs.YtehakimmioclkaaGreatDoor.Mach Go.Proofs.YtehakimmioclkaaGreatDoorW.PrintWords Go.Proofs.YtehakimmioclkaaGreatDoor.Sem Go.Proofs.YtehakimmioclkaaGreatDoor.Pure
section
abbrev QT : Type:=Bool × List Int × List Int
def getQ : AV→Option QT
 | .agg cs=>(match cs with
   | [b,n,d]=>(match asB b,q9 eW n,q9 eW d with | some b,some n,some d=>some (b,n,d) | _,_,_=>none)
   | _=>none)
 | _=>none
def qa (z:QT):AV := .agg [.bool z.1, .imm eW z.2.1, .imm eW z.2.2]
theorem aMV {e:ETy} {x:AV} {l:List e.D} (h:q9 e x=some l) {c:Ctx} {w:World} {v:Value} (hx:AVR c w x v):AVR c w (.imm e l) v:=(iZ e).ok (x:=x) (a:=l) h hx
theorem a0E {x:AV} {b:Bool} (h:asB x=some b):x = .bool b:=by
 unfold asB at h
 split at h
 · cases h; rfl
 · cases h
def vQ : cR QT:=⟨getQ,qa,fun {x a} h {c w v} hx=>by
 unfold getQ at h
 split at h
 · split at h
   · rename_i cs b n d
     split at h
     · rename_i h1 h2 h3
       cases h
       rw [a0E h1] at hx
       cases hx with
       | agg hl u q1 q2 =>
         refine .agg (by simpa using hl) u (fun j y hy=>?_) (fun j y hy=>?_)
         · match j,hy with
           | 0,hy=>exact q1 0 _ rfl
           | 1,hy=>exact q1 1 _ rfl
           | 2,hy=>exact q1 2 _ rfl
         · match j,hy with
           | 0,hy=>cases hy; exact q2 0 _ rfl
           | 1,hy=>cases hy; exact aMV h2 (q2 1 _ rfl)
           | 2,hy=>cases hy; exact aMV h3 (q2 2 _ rfl)
     · cases h
   · cases h
 · cases h⟩
def Sz (k:Nat) (q:Rat):Prop:=szN q≤k∧szD q≤k
def aMW (z:QT) (Q:Res):Prop:=∃ q,QV z q∧Q (.imm eW (limbsOf q.den)) []
def lowS (neg:Bool) (n d:List Int) (Q:Res):Prop:=∃ u v:Nat,n=limbsOf u∧d=limbsOf v∧0<v∧dg u≤9000000000∧dg v≤9000000000∧∀ z,QV z (mkq neg u v)→Q (qa z) []
def inS (s:ByteArray) (Q:Res):Prop:=∃ q,s=ratText q∧Sz 4000000000 q∧∀ z,QV z q→Q (qa z) []
def sH (z:QT) (Q:Res):Prop:=∃ q,QV z q∧Sz 9000000000 q∧Q (.str (ratText q)) []
noncomputable def cX (q:Rat):Int:=if szN q > 2000∨szD q > 2000 then 2 else 0
def fitS (z:QT) (Q:Res):Prop:=∃ q,QV z q∧Sz 9000000000 q∧Q (.int .i64 (cX q)) []
noncomputable def kL (q:Rat):ByteArray:=if cX q=0 then ratText q else ⟨#[]⟩
def aMX (z:QT) (Q:Res):Prop:=∃ q,QV z q∧Sz 9000000000 q∧Q (.tup [.str (kL q), .int .i64 (cX q)]) []
def xY (z:QT) (Q:Res):Prop:=∃ q,QV z q∧Q (.int .i64 (sgn q)) []
def negS (z:QT) (Q:Res):Prop:=∃ q,QV z q∧∀ r,QV r (-q)→Q (qa r) []
def xZ (z w:QT) (Q:Res):Prop:=∃ x y,QV z x∧QV w y∧Sz 4000000000 x∧Sz 4000000000 y∧∀ r,QV r (x+y)→Q (qa r) []
def subQ (z w:QT) (Q:Res):Prop:=∃ x y,QV z x∧QV w y∧Sz 4000000000 x∧Sz 4000000000 y∧∀ r,QV r (x - y)→Q (qa r) []
def quoQ (z w:QT) (Q:Res):Prop:=∃ x y,QV z x∧QV w y∧Sz 4000000000 x∧Sz 4000000000 y∧∀ r,QV r (x / y)→Q (qa r) []
def cmpQ (z w:QT) (Q:Res):Prop:=∃ x y,QV z x∧QV w y∧Sz 4000000000 x∧Sz 4000000000 y∧Q (.int .i64 (sgn (x - y))) []
def I64 (n:Int):Prop := -9223372036854775808≤n∧n≤9223372036854775807
noncomputable def eY (s:ByteArray):Int :=
 if natErr (bG (aL s))=5∨(bF (aL s)=true∧natErr (bL (aL s))=5)∨(bE s=true∧bG (aL s)=zeroS) then 5
 else if natErr (bG (aL s))≠0∨(bF (aL s)=true∧natErr (bL (aL s))≠0) then 2
 else if bF (aL s)=true∧(bL (aL s)=zeroS∨bL (aL s)=⟨#[49]⟩∨Nat.gcd (i7 (bG (aL s))) (i7 (bL (aL s)))≠1) then 3 else 0
noncomputable def kM (s:ByteArray):Rat:=mkq (bE s) (i7 (bG (aL s))) (if bF (aL s)=true then i7 (bL (aL s)) else 1)
noncomputable def eR : List ByteArray→Int
 | []=>0
 | s :: l=>if eY s=0 then eR l else eY s
def Tx (s:ByteArray):Prop:=s.size≤1000000000000000
def yA (s:ByteArray) (Q:Res):Prop:=Tx s∧Q (.int .i64 (eY s)) []
def TxL (l:List ByteArray):Prop:=l.length≤1000000000000000∧∀ s∈l,Tx s
def sI (l:List ByteArray) (Q:Res):Prop:=TxL l∧Q (.int .i64 (eR l)) []
def lT (n:Int):Prop := -9223372036854775808<n∧n≤9223372036854775807
def intQ (n:Int) (Q:Res):Prop:=lT n∧∀ r,QV r (n:Rat)→Q (qa r) []
def aMY (s:ByteArray) (Q:Res):Prop:=∃ q,s=ratText q∧Sz 9000000000 q∧Q (.tup [.bool (decide (q.num<0)), .str (natText q.num.natAbs), .str (natText q.den)]) []
def aMZ (neg:Bool) (n d:ByteArray) (Q:Res):Prop:=∃ u v:Nat,n=natText u∧d=natText v∧0<v∧dg u≤9000000000∧dg v≤9000000000∧Q (.str (ratText (mkq neg u v))) []
def xneg (s:ByteArray) (Q:Res):Prop:=∃ q,s=ratText q∧Sz 4000000000 q∧Q (.str (ratText (-q))) []
def yB (s t:ByteArray) (Q:Res):Prop:=∃ x y,s=ratText x∧t=ratText y∧Sz 4000000000 x∧Sz 4000000000 y∧Q (.str (ratText (x+y))) []
def xsub (s t:ByteArray) (Q:Res):Prop:=∃ x y,s=ratText x∧t=ratText y∧Sz 4000000000 x∧Sz 4000000000 y∧Q (.str (ratText (x - y))) []
def xmul (s t:ByteArray) (Q:Res):Prop:=∃ x y,s=ratText x∧t=ratText y∧Sz 4000000000 x∧Sz 4000000000 y∧Q (.str (ratText (x * y))) []
def xdiv (s t:ByteArray) (Q:Res):Prop:=∃ x y,s=ratText x∧t=ratText y∧Sz 4000000000 x∧Sz 4000000000 y∧y≠0∧Q (.str (ratText (x / y))) []
def aM0 (s:ByteArray) (Q:Res):Prop:=∃ q,s=ratText q∧Sz 9000000000 q∧Q (.int .i64 (sgn q)) []
def xcmp (s t:ByteArray) (Q:Res):Prop:=∃ x y,s=ratText x∧t=ratText y∧Sz 4000000000 x∧Sz 4000000000 y∧Q (.int .i64 (sgn (x - y))) []
def xint (n:Int) (Q:Res):Prop:=I64 n∧Q (.str (ratText (n:Rat))) []
noncomputable def oO : FuncId→List AV→Res→Prop:=cV [(74,c1 vI ofS),(82,c2 vW vW gcdS),(65,c2 vW vW cmpS),(83,c2 vW vW divS),(64,c2 vW vW addS),(66,c2 vW vW subS),(61,c2 vW vW mulS),(75,c1 vW aDW),(87,c1 vW aDX),(91,c1 vS aL3),(100,c1 vS xU),(89,c2 vS vS preS),(90,c2 vS vS cutS)]
noncomputable def lU : FuncId→List AV→Res→Prop:=cV [(74,c1 vI ofS),(82,c2 vW vW gcdS),(65,c2 vW vW cmpS),(83,c2 vW vW divS),(64,c2 vW vW addS),(66,c2 vW vW subS),(61,c2 vW vW mulS),(75,c1 vW aDW),(87,c1 vW aDX),(62,c1 vQ aMW),(63,c3 vB vW vW lowS)]
noncomputable def aEA : FuncId→List AV→Res→Prop:=cV [(32,c2 vQ vQ xZ),(77,c1 vQ negS),(56,c1 vQ xY),(48,c1 vQ sH),(76,c1 vQ fitS)]
noncomputable def aM1 : FuncId→List AV→Res→Prop:=cV [(52,c2 vQ vQ subQ),(56,c1 vQ xY)]
noncomputable def aEB : FuncId→List AV→Res→Prop:=cV [(88,c1 vS yA)]
noncomputable def oP : FuncId→List AV→Res→Prop:=cV [(103,c1 vS xU),(41,c2 vS vS aD3),(40,c2 vS vS aDY),(42,c2 vS vS aDZ),(38,c2 vS vS aD0),(72,c2 vS vS aD1),(71,c2 vS vS aD2)]
noncomputable def oQ : FuncId→List AV→Res→Prop:=cV [(41,c2 vS vS aD3),(40,c2 vS vS aDY),(42,c2 vS vS aDZ),(38,c2 vS vS aD0),(72,c2 vS vS aD1),(71,c2 vS vS aD2),(37,c1 vS aMY),(39,c3 vB vS vS aMZ)]
noncomputable def sJ : FuncId→List AV→Res→Prop:=cV [(73,c1 vS xneg),(11,c2 vS vS yB),(95,c1 vS yA),(19,c1 vI aL4)]
noncomputable def aM2 : FuncId→List AV→Res→Prop:=cV [(44,c2 vS vS xsub),(43,c1 vS aM0)]
end
end Go.Proofs.YtehakimmioclkaaGreatDoor.Lib
end
section
set_option linter.unusedSimpArgs false
set_option linter.unusedVariables false
namespace Go.Proofs.YtehakimmioclkaaGreatDoor.Mach
open Go Go.Proofs.YtehakimmioclkaaGreatDoor Go.Proofs.YtehakimmioclkaaGreatDoor.Lib
section
set_option maxRecDepth 1000000
def aM3 : List (Nat × List Nat):=[]
def aM4 : List (Nat × ETy):=[]
theorem a0F (zb:Bool) (zn zd:List Int) (n0:Nat) (K:AV→List aA→Prop) :
 aH tab (aM tab oO [] 400) (aK aM3 aM4 (aB Tryz.prog n0 62 K)) (aI tab (fnT Tryz.f62).res K) 400 [.code (fnT Tryz.f62).body] ⟨aP (fnT Tryz.f62).n [AV.agg [AV.bool zb,AV.imm eW zn,AV.imm eW zd]],[]⟩ =
 (bif decide ((↑zd.length:Int)=0) then gA 1∧K (AV.imm eW (Sem.limbsOf 1)) [aA.box [AV.bool zb,AV.imm eW zn,AV.imm eW zd]] else K (AV.imm eW zd) [aA.box [AV.bool zb,AV.imm eW zn,AV.imm eW zd]]):=by kernel_rfl
def aM5 : List (Nat × List Nat):=[]
def aM6 : List (Nat × ETy):=[]
theorem a0G (neg:Bool) (n d:List Int) (n0:Nat) (K:AV→List aA→Prop) :
 aH tab (aM tab oO [] 400) (aK aM5 aM6 (aB Tryz.prog n0 63 K)) (aI tab (fnT Tryz.f63).res K) 400 [.code (fnT Tryz.f63).body] ⟨aP (fnT Tryz.f63).n [AV.bool neg,AV.imm eW n,AV.imm eW d],[]⟩ =
 (bif decide ((↑n.length:Int)=0) then K (AV.agg [AV.bool false,AV.nils,AV.nils]) [aA.box [AV.bool false,AV.nils,AV.nils]] else ∃ u v,n=Sem.limbsOf u∧d=Sem.limbsOf v∧Sem.dg u≤9000000000∧Sem.dg v≤9000000000∧gA 1∧∃ u_1 v_1,Sem.limbsOf (u.gcd v)=Sem.limbsOf u_1∧Sem.limbsOf 1=Sem.limbsOf v_1∧Sem.dg u_1≤9000000000∧bif decide (Pure.cmpI (↑u_1:Int) (↑v_1:Int) > 0) then ∃ u_2 v_2,n=Sem.limbsOf u_2∧Sem.limbsOf (u.gcd v)=Sem.limbsOf v_2∧Sem.dg u_2≤9000000000∧Sem.dg v_2≤9000000000∧0<v_2∧∃ u_3 v_3,d=Sem.limbsOf u_3∧Sem.limbsOf (u.gcd v)=Sem.limbsOf v_3∧Sem.dg u_3≤9000000000∧Sem.dg v_3≤9000000000∧0<v_3∧K (AV.agg [AV.bool neg,AV.imm eW (Sem.limbsOf (u_2 / v_2)),AV.imm eW (Sem.limbsOf (u_3 / v_3))]) [aA.box [AV.bool neg,AV.imm eW (Sem.limbsOf (u_2 / v_2)),AV.imm eW (Sem.limbsOf (u_3 / v_3))]] else K (AV.agg [AV.bool neg,AV.imm eW n,AV.imm eW d]) [aA.box [AV.bool neg,AV.imm eW n,AV.imm eW d]]):=by kernel_rfl
def aM7 : List (Nat × List Nat):=[]
def aM8 : List (Nat × ETy):=[]
theorem qin_E (s:ByteArray) (n0:Nat) (K:AV→List aA→Prop) :
 aH tab (aM tab oO [] 400) (aK aM7 aM8 (aB Tryz.prog n0 79 K)) (aI tab (fnT Tryz.f79).res K) 400 [.code (fnT Tryz.f79).body] ⟨aP (fnT Tryz.f79).n [AV.str s],[]⟩ =
 (ByteArray.mk #[45]=ByteArray.mk #[45]∧s.size≤1000000000000000000∧ByteArray.mk #[47]=ByteArray.mk #[47]∧(aL s).size≤1000000000000000000∧∃ n,bG (aL s)=Sem.natText n∧Bd n∧gA 1∧bif bF (aL s) then ∃ n_1,bL (aL s)=Sem.natText n_1∧Bd n_1∧K (AV.agg [AV.bool (bE s),AV.imm eW (Sem.limbsOf n),AV.imm eW (Sem.limbsOf n_1)]) [aA.box [AV.bool (bE s),AV.imm eW (Sem.limbsOf n),AV.imm eW (Sem.limbsOf n_1)],aA.box [AV.bool (bE s),AV.imm eW (Sem.limbsOf n),AV.imm eW (Sem.limbsOf n_1)]] else K (AV.agg [AV.bool (bE s),AV.imm eW (Sem.limbsOf n),AV.imm eW (Sem.limbsOf 1)]) [aA.box [AV.bool (bE s),AV.imm eW (Sem.limbsOf n),AV.imm eW (Sem.limbsOf 1)],aA.box [AV.bool (bE s),AV.imm eW (Sem.limbsOf n),AV.imm eW (Sem.limbsOf 1)]]):=by kernel_rfl
def aM9 : List (Nat × List Nat):=[]
def aNA : List (Nat × ETy):=[]
theorem a0H (zb:Bool) (zn zd:List Int) (n0:Nat) (K:AV→List aA→Prop) :
 aH tab (aM tab lU [] 400) (aK aM9 aNA (aB Tryz.prog n0 48 K)) (aI tab (fnT Tryz.f48).res K) 400 [.code (fnT Tryz.f48).body] ⟨aP (fnT Tryz.f48).n [AV.agg [AV.bool zb,AV.imm eW zn,AV.imm eW zd]],[]⟩ =
 (bif decide ((↑zn.length:Int)=0) then K (AV.str (ByteArray.mk #[48])) [aA.box [AV.bool zb,AV.imm eW zn,AV.imm eW zd]] else ∃ n,zn=Sem.limbsOf n∧Sem.dg n≤9000000000∧bif zb then bif decide (1+(Sem.natText n).size≤9223372036854775807) then ∃ q,Sem.QV (zb,zn,zd) q∧∃ n_1,Sem.limbsOf q.den=Sem.limbsOf n_1∧Sem.dg n_1≤9000000000∧bif !(Sem.natText n_1).toList == (ByteArray.mk #[49]).toList then bif decide (1+(Sem.natText n_1).size≤9223372036854775807) then bif decide ((ByteArray.mk #[45] ++ Sem.natText n).size+(ByteArray.mk #[47] ++ Sem.natText n_1).size≤9223372036854775807) then K (AV.str (ByteArray.mk #[45] ++ Sem.natText n ++ (ByteArray.mk #[47] ++ Sem.natText n_1))) [aA.box [AV.bool zb,AV.imm eW zn,AV.imm eW zd]] else False else False else K (AV.str (ByteArray.mk #[45] ++ Sem.natText n)) [aA.box [AV.bool zb,AV.imm eW zn,AV.imm eW zd]] else False else ∃ q,Sem.QV (zb,zn,zd) q∧∃ n_1,Sem.limbsOf q.den=Sem.limbsOf n_1∧Sem.dg n_1≤9000000000∧bif !(Sem.natText n_1).toList == (ByteArray.mk #[49]).toList then bif decide (1+(Sem.natText n_1).size≤9223372036854775807) then bif decide ((Sem.natText n).size+(ByteArray.mk #[47] ++ Sem.natText n_1).size≤9223372036854775807) then K (AV.str (Sem.natText n ++ (ByteArray.mk #[47] ++ Sem.natText n_1))) [aA.box [AV.bool zb,AV.imm eW zn,AV.imm eW zd]] else False else False else K (AV.str (Sem.natText n)) [aA.box [AV.bool zb,AV.imm eW zn,AV.imm eW zd]]):=by kernel_rfl
def aNB : List (Nat × List Nat):=[]
def aNC : List (Nat × ETy):=[]
theorem a0I (zb:Bool) (zn zd:List Int) (n0:Nat) (K:AV→List aA→Prop) :
 aH tab (aM tab lU [] 400) (aK aNB aNC (aB Tryz.prog n0 76 K)) (aI tab (fnT Tryz.f76).res K) 400 [.code (fnT Tryz.f76).body] ⟨aP (fnT Tryz.f76).n [AV.agg [AV.bool zb,AV.imm eW zn,AV.imm eW zd]],[]⟩ =
 (∃ n,zn=Sem.limbsOf n∧Sem.dg n≤9000000000∧bif decide ((↑(Sem.dg n):Int) > 2000) then K (AV.int .i64 2) [aA.box [AV.bool zb,AV.imm eW zn,AV.imm eW zd]] else ∃ n,zd=Sem.limbsOf n∧Sem.dg n≤9000000000∧bif bif false then true else decide ((↑(Sem.dg n):Int) > 2000) then K (AV.int .i64 2) [aA.box [AV.bool zb,AV.imm eW zn,AV.imm eW zd]] else K (AV.int .i64 0) [aA.box [AV.bool zb,AV.imm eW zn,AV.imm eW zd]]):=by kernel_rfl
def aND : List (Nat × List Nat):=[]
def aNE : List (Nat × ETy):=[]
theorem a0J (zb:Bool) (zn zd:List Int) (n0:Nat) (K:AV→List aA→Prop) :
 aH tab (aM tab aEA [] 400) (aK aND aNE (aB Tryz.prog n0 50 K)) (aI tab (fnT Tryz.f50).res K) 400 [.code (fnT Tryz.f50).body] ⟨aP (fnT Tryz.f50).n [AV.agg [AV.bool zb,AV.imm eW zn,AV.imm eW zd]],[]⟩ =
 (∃ q,Sem.QV (zb,zn,zd) q∧Sz 9000000000 q∧bif !decide (cX q=0) then K (AV.tup [AV.str (ByteArray.mk #[]),AV.int .i64 (cX q)]) [aA.box [AV.bool zb,AV.imm eW zn,AV.imm eW zd]] else ∃ q,Sem.QV (zb,zn,zd) q∧Sz 9000000000 q∧K (AV.tup [AV.str (Sem.ratText q),AV.int .i64 0]) [aA.box [AV.bool zb,AV.imm eW zn,AV.imm eW zd]]):=by kernel_rfl
def aNF : List (Nat × List Nat):=[]
def aNG : List (Nat × ETy):=[]
theorem a0K (zb:Bool) (zn zd:List Int) (n0:Nat) (K:AV→List aA→Prop) :
 aH tab (aM tab lU [] 400) (aK aNF aNG (aB Tryz.prog n0 56 K)) (aI tab (fnT Tryz.f56).res K) 400 [.code (fnT Tryz.f56).body] ⟨aP (fnT Tryz.f56).n [AV.agg [AV.bool zb,AV.imm eW zn,AV.imm eW zd]],[]⟩ =
 (bif decide ((↑zn.length:Int)=0) then K (AV.int .i64 0) [aA.box [AV.bool zb,AV.imm eW zn,AV.imm eW zd]] else bif zb then K (AV.int .i64 (-1)) [aA.box [AV.bool zb,AV.imm eW zn,AV.imm eW zd]] else K (AV.int .i64 1) [aA.box [AV.bool zb,AV.imm eW zn,AV.imm eW zd]]):=by kernel_rfl
def aNH : List (Nat × List Nat):=[]
def aNI : List (Nat × ETy):=[]
theorem a0L (zb:Bool) (zn zd:List Int) (n0:Nat) (K:AV→List aA→Prop) :
 aH tab (aM tab lU [] 400) (aK aNH aNI (aB Tryz.prog n0 77 K)) (aI tab (fnT Tryz.f77).res K) 400 [.code (fnT Tryz.f77).body] ⟨aP (fnT Tryz.f77).n [AV.agg [AV.bool zb,AV.imm eW zn,AV.imm eW zd]],[]⟩ =
 (bif decide ((↑zn.length:Int)=0) then K (AV.agg [AV.bool zb,AV.imm eW zn,AV.imm eW zd]) [aA.box [AV.bool zb,AV.imm eW zn,AV.imm eW zd],aA.box [AV.bool zb,AV.imm eW zn,AV.imm eW zd]] else K (AV.agg [AV.bool !zb,AV.imm eW zn,AV.imm eW zd]) [aA.box [AV.bool zb,AV.imm eW zn,AV.imm eW zd],aA.box [AV.bool !zb,AV.imm eW zn,AV.imm eW zd]]):=by kernel_rfl
def aNJ : List (Nat × List Nat):=[]
def aNK : List (Nat × ETy):=[]
theorem a0M (zb:Bool) (zn zd:List Int) (wb:Bool) (wn wd:List Int) (n0:Nat) (K:AV→List aA→Prop) :
 aH tab (aM tab lU [] 400) (aK aNJ aNK (aB Tryz.prog n0 32 K)) (aI tab (fnT Tryz.f32).res K) 400 [.code (fnT Tryz.f32).body] ⟨aP (fnT Tryz.f32).n [AV.agg [AV.bool zb,AV.imm eW zn,AV.imm eW zd],AV.agg [AV.bool wb,AV.imm eW wn,AV.imm eW wd]],[]⟩ =
 (bif decide ((↑zn.length:Int)=0) then K (AV.agg [AV.bool wb,AV.imm eW wn,AV.imm eW wd]) [aA.box [AV.bool zb,AV.imm eW zn,AV.imm eW zd],aA.box [AV.bool wb,AV.imm eW wn,AV.imm eW wd],aA.box [AV.bool wb,AV.imm eW wn,AV.imm eW wd]]
  else bif decide ((↑wn.length:Int)=0) then K (AV.agg [AV.bool zb,AV.imm eW zn,AV.imm eW zd]) [aA.box [AV.bool zb,AV.imm eW zn,AV.imm eW zd],aA.box [AV.bool wb,AV.imm eW wn,AV.imm eW wd],aA.box [AV.bool zb,AV.imm eW zn,AV.imm eW zd]] else ∃ q,Sem.QV (wb,wn,wd) q∧∃ u v,zn=Sem.limbsOf u∧Sem.limbsOf q.den=Sem.limbsOf v∧Sem.dg u≤9000000000∧Sem.dg v≤9000000000∧∃ q,Sem.QV (zb,zn,zd) q∧∃ u_1 v_1,wn=Sem.limbsOf u_1∧Sem.limbsOf q.den=Sem.limbsOf v_1∧Sem.dg u_1≤9000000000∧Sem.dg v_1≤9000000000∧∃ q,Sem.QV (zb,zn,zd) q∧∃ q_1,Sem.QV (wb,wn,wd) q_1∧∃ u_2 v_2,Sem.limbsOf q.den=Sem.limbsOf u_2∧Sem.limbsOf q_1.den=Sem.limbsOf v_2∧Sem.dg u_2≤9000000000∧Sem.dg v_2≤9000000000∧bif zb == wb then ∃ u_3 v_3,Sem.limbsOf (u * v)=Sem.limbsOf u_3∧Sem.limbsOf (u_1 * v_1)=Sem.limbsOf v_3∧Sem.dg u_3≤9000000000∧Sem.dg v_3≤9000000000∧∃ u v,Sem.limbsOf (u_3+v_3)=Sem.limbsOf u∧Sem.limbsOf (u_2 * v_2)=Sem.limbsOf v∧0<v∧Sem.dg u≤9000000000∧Sem.dg v≤9000000000∧∀ (z:Bool × List Int × List Int),Sem.QV z (Sem.mkq zb u v)→K (AV.agg [AV.bool z.1,AV.imm eW z.2.1,AV.imm eW z.2.2]) [aA.box [AV.bool zb,AV.imm eW zn,AV.imm eW zd],aA.box [AV.bool wb,AV.imm eW wn,AV.imm eW wd],aA.box [AV.bool z.1,AV.imm eW z.2.1,AV.imm eW z.2.2]] else ∃ u_3 v_3,Sem.limbsOf (u * v)=Sem.limbsOf u_3∧Sem.limbsOf (u_1 * v_1)=Sem.limbsOf v_3∧Sem.dg u_3≤9000000000∧bif decide (Pure.cmpI (↑u_3:Int) (↑v_3:Int) ≥ 0) then ∃ u_4 v_4,Sem.limbsOf (u * v)=Sem.limbsOf u_4∧Sem.limbsOf (u_1 * v_1)=Sem.limbsOf v_4∧Sem.dg u_4≤9000000000∧v_4≤u_4∧∃ u v,Sem.limbsOf (u_4 - v_4)=Sem.limbsOf u∧Sem.limbsOf (u_2 * v_2)=Sem.limbsOf v∧0<v∧Sem.dg u≤9000000000∧Sem.dg v≤9000000000∧∀ (z:Bool × List Int × List Int),Sem.QV z (Sem.mkq zb u v)→K (AV.agg [AV.bool z.1,AV.imm eW z.2.1,AV.imm eW z.2.2]) [aA.box [AV.bool zb,AV.imm eW zn,AV.imm eW zd],aA.box [AV.bool wb,AV.imm eW wn,AV.imm eW wd],aA.box [AV.bool z.1,AV.imm eW z.2.1,AV.imm eW z.2.2]] else ∃ u_4 v_4,Sem.limbsOf (u_1 * v_1)=Sem.limbsOf u_4∧Sem.limbsOf (u * v)=Sem.limbsOf v_4∧Sem.dg u_4≤9000000000∧v_4≤u_4∧∃ u v,Sem.limbsOf (u_4 - v_4)=Sem.limbsOf u∧Sem.limbsOf (u_2 * v_2)=Sem.limbsOf v∧0<v∧Sem.dg u≤9000000000∧Sem.dg v≤9000000000∧∀ (z:Bool × List Int × List Int),Sem.QV z (Sem.mkq wb u v)→K (AV.agg [AV.bool z.1,AV.imm eW z.2.1,AV.imm eW z.2.2]) [aA.box [AV.bool zb,AV.imm eW zn,AV.imm eW zd],aA.box [AV.bool wb,AV.imm eW wn,AV.imm eW wd],aA.box [AV.bool z.1,AV.imm eW z.2.1,AV.imm eW z.2.2]]):=by kernel_rfl
def aNL : List (Nat × List Nat):=[]
def aNM : List (Nat × ETy):=[]
theorem a0N (zb:Bool) (zn zd:List Int) (wb:Bool) (wn wd:List Int) (n0:Nat) (K:AV→List aA→Prop) :
 aH tab (aM tab aEA [] 400) (aK aNL aNM (aB Tryz.prog n0 52 K)) (aI tab (fnT Tryz.f52).res K) 400 [.code (fnT Tryz.f52).body] ⟨aP (fnT Tryz.f52).n [AV.agg [AV.bool zb,AV.imm eW zn,AV.imm eW zd],AV.agg [AV.bool wb,AV.imm eW wn,AV.imm eW wd]],[]⟩ =
 (∃ q,Sem.QV (wb,wn,wd) q∧∀ (r:Bool × List Int × List Int),Sem.QV r (-q)→∃ x y,Sem.QV (zb,zn,zd) x∧Sem.QV (r.1,r.2.1,r.2.2) y∧Sz 4000000000 x∧Sz 4000000000 y∧∀ (r:Bool × List Int × List Int),Sem.QV r (x+y)→K (AV.agg [AV.bool r.1,AV.imm eW r.2.1,AV.imm eW r.2.2]) [aA.box [AV.bool zb,AV.imm eW zn,AV.imm eW zd],aA.box [AV.bool wb,AV.imm eW wn,AV.imm eW wd],aA.box [AV.bool r.1,AV.imm eW r.2.1,AV.imm eW r.2.2]]):=by kernel_rfl
def aNN : List (Nat × List Nat):=[]
def aNO : List (Nat × ETy):=[]
theorem a0O (zb:Bool) (zn zd:List Int) (wb:Bool) (wn wd:List Int) (n0:Nat) (K:AV→List aA→Prop) :
 aH tab (aM tab lU [] 400) (aK aNN aNO (aB Tryz.prog n0 47 K)) (aI tab (fnT Tryz.f47).res K) 400 [.code (fnT Tryz.f47).body] ⟨aP (fnT Tryz.f47).n [AV.agg [AV.bool zb,AV.imm eW zn,AV.imm eW zd],AV.agg [AV.bool wb,AV.imm eW wn,AV.imm eW wd]],[]⟩ =
 (bif decide ((↑zn.length:Int)=0) then K (AV.agg [AV.bool false,AV.nils,AV.nils]) [aA.box [AV.bool zb,AV.imm eW zn,AV.imm eW zd],aA.box [AV.bool wb,AV.imm eW wn,AV.imm eW wd],aA.box [AV.bool false,AV.nils,AV.nils]] else bif bif false then true else decide ((↑wn.length:Int)=0) then K (AV.agg [AV.bool false,AV.nils,AV.nils]) [aA.box [AV.bool zb,AV.imm eW zn,AV.imm eW zd],aA.box [AV.bool wb,AV.imm eW wn,AV.imm eW wd],aA.box [AV.bool false,AV.nils,AV.nils]] else ∃ q,Sem.QV (wb,wn,wd) q∧∃ u v,zn=Sem.limbsOf u∧Sem.limbsOf q.den=Sem.limbsOf v∧Sem.dg u≤9000000000∧Sem.dg v≤9000000000∧∃ q,Sem.QV (zb,zn,zd) q∧∃ u_1 v_1,Sem.limbsOf q.den=Sem.limbsOf u_1∧wn=Sem.limbsOf v_1∧Sem.dg u_1≤9000000000∧Sem.dg v_1≤9000000000∧∃ u_2 v_2,Sem.limbsOf (u * v)=Sem.limbsOf u_2∧Sem.limbsOf (u_1 * v_1)=Sem.limbsOf v_2∧0<v_2∧Sem.dg u_2≤9000000000∧Sem.dg v_2≤9000000000∧∀ (z:Bool × List Int × List Int),Sem.QV z (Sem.mkq (!zb == wb) u_2 v_2)→K (AV.agg [AV.bool z.1,AV.imm eW z.2.1,AV.imm eW z.2.2]) [aA.box [AV.bool zb,AV.imm eW zn,AV.imm eW zd],aA.box [AV.bool wb,AV.imm eW wn,AV.imm eW wd],aA.box [AV.bool z.1,AV.imm eW z.2.1,AV.imm eW z.2.2]]):=by kernel_rfl
def aNP : List (Nat × List Nat):=[]
def aNQ : List (Nat × ETy):=[]
theorem a0P (zb:Bool) (zn zd:List Int) (wb:Bool) (wn wd:List Int) (n0:Nat) (K:AV→List aA→Prop) :
 aH tab (aM tab aM1 [] 400) (aK aNP aNQ (aB Tryz.prog n0 31 K)) (aI tab (fnT Tryz.f31).res K) 400 [.code (fnT Tryz.f31).body] ⟨aP (fnT Tryz.f31).n [AV.agg [AV.bool zb,AV.imm eW zn,AV.imm eW zd],AV.agg [AV.bool wb,AV.imm eW wn,AV.imm eW wd]],[]⟩ =
 (∃ x y,Sem.QV (zb,zn,zd) x∧Sem.QV (wb,wn,wd) y∧Sz 4000000000 x∧Sz 4000000000 y∧∀ (r:Bool × List Int × List Int),Sem.QV r (x - y)→∃ q,Sem.QV (r.1,r.2.1,r.2.2) q∧K (AV.int .i64 (Sem.sgn q)) [aA.box [AV.bool zb,AV.imm eW zn,AV.imm eW zd],aA.box [AV.bool wb,AV.imm eW wn,AV.imm eW wd]]):=by kernel_rfl
def aNR : List (Nat × List Nat):=[]
def aNS : List (Nat × ETy):=[]
theorem a0Q (s:ByteArray) (n0:Nat) (K:AV→List aA→Prop) :
 aH tab (aM tab oO [] 400) (aK aNR aNS (aB Tryz.prog n0 88 K)) (aI tab (fnT Tryz.f88).res K) 400 [.code (fnT Tryz.f88).body] ⟨aP (fnT Tryz.f88).n [AV.str s],[]⟩ =
 (ByteArray.mk #[45]=ByteArray.mk #[45] ∧
 s.size≤1000000000000000000 ∧
  ByteArray.mk #[47]=ByteArray.mk #[47] ∧
   (aL s).size≤1000000000000000000 ∧
        (bG (aL s)).size≤1000000000000000 ∧
         bif bF (aL s) then (bL (aL s)).size≤1000000000000000∧bif decide (Pure.natErr (bG (aL s))=5) then K (AV.int .i64 5) [] else bif bif false then true else decide (Pure.natErr (bL (aL s))=5) then K (AV.int .i64 5) [] else bif bE s then bif bif false then true else bif true then (bG (aL s)).toList == (ByteArray.mk #[48]).toList else false then K (AV.int .i64 5) [] else bif !decide (Pure.natErr (bG (aL s))=0) then K (AV.int .i64 2) [] else bif bif false then true else !decide (Pure.natErr (bL (aL s))=0) then K (AV.int .i64 2) [] else bif bF (aL s) then bif (bL (aL s)).toList == (ByteArray.mk #[48]).toList then K (AV.int .i64 3) [] else bif bif false then true else (bL (aL s)).toList == (ByteArray.mk #[49]).toList then K (AV.int .i64 3) [] else ∃ n,bG (aL s)=Sem.natText n∧Bd n∧∃ n_1,bL (aL s)=Sem.natText n_1∧Bd n_1∧∃ u v,Sem.limbsOf n=Sem.limbsOf u∧Sem.limbsOf n_1=Sem.limbsOf v∧Sem.dg u≤9000000000∧Sem.dg v≤9000000000∧gA 1∧∃ u_1 v_1,Sem.limbsOf (u.gcd v)=Sem.limbsOf u_1∧Sem.limbsOf 1=Sem.limbsOf v_1∧Sem.dg u_1≤9000000000∧bif bif true then bif false then true else !decide (Pure.cmpI (↑u_1:Int) (↑v_1:Int)=0) else false then K (AV.int .i64 3) [] else K (AV.int .i64 0) [] else K (AV.int .i64 0) [] else bif !decide (Pure.natErr (bG (aL s))=0) then K (AV.int .i64 2) [] else bif bif false then true else !decide (Pure.natErr (bL (aL s))=0) then K (AV.int .i64 2) [] else bif bF (aL s) then bif (bL (aL s)).toList == (ByteArray.mk #[48]).toList then K (AV.int .i64 3) [] else bif bif false then true else (bL (aL s)).toList == (ByteArray.mk #[49]).toList then K (AV.int .i64 3) [] else ∃ n,bG (aL s)=Sem.natText n∧Bd n∧∃ n_1,bL (aL s)=Sem.natText n_1∧Bd n_1∧∃ u v,Sem.limbsOf n=Sem.limbsOf u∧Sem.limbsOf n_1=Sem.limbsOf v∧Sem.dg u≤9000000000∧Sem.dg v≤9000000000∧gA 1∧∃ u_1 v_1,Sem.limbsOf (u.gcd v)=Sem.limbsOf u_1∧Sem.limbsOf 1=Sem.limbsOf v_1∧Sem.dg u_1≤9000000000∧bif bif true then bif false then true else !decide (Pure.cmpI (↑u_1:Int) (↑v_1:Int)=0) else false then K (AV.int .i64 3) [] else K (AV.int .i64 0) [] else K (AV.int .i64 0) []
         else bif decide (Pure.natErr (bG (aL s))=5) then K (AV.int .i64 5) [] else bif bE s then bif bif false then true else bif true then (bG (aL s)).toList == (ByteArray.mk #[48]).toList else false then K (AV.int .i64 5) [] else bif !decide (Pure.natErr (bG (aL s))=0) then K (AV.int .i64 2) [] else bif bF (aL s) then bif (bL (aL s)).toList == (ByteArray.mk #[48]).toList then K (AV.int .i64 3) [] else bif bif false then true else (bL (aL s)).toList == (ByteArray.mk #[49]).toList then K (AV.int .i64 3) [] else ∃ n,bG (aL s)=Sem.natText n∧Bd n∧∃ n_1,bL (aL s)=Sem.natText n_1∧Bd n_1∧∃ u v,Sem.limbsOf n=Sem.limbsOf u∧Sem.limbsOf n_1=Sem.limbsOf v∧Sem.dg u≤9000000000∧Sem.dg v≤9000000000∧gA 1∧∃ u_1 v_1,Sem.limbsOf (u.gcd v)=Sem.limbsOf u_1∧Sem.limbsOf 1=Sem.limbsOf v_1∧Sem.dg u_1≤9000000000∧bif bif true then bif false then true else !decide (Pure.cmpI (↑u_1:Int) (↑v_1:Int)=0) else false then K (AV.int .i64 3) [] else K (AV.int .i64 0) [] else K (AV.int .i64 0) [] else bif !decide (Pure.natErr (bG (aL s))=0) then K (AV.int .i64 2) [] else bif bF (aL s) then bif (bL (aL s)).toList == (ByteArray.mk #[48]).toList then K (AV.int .i64 3) [] else bif bif false then true else (bL (aL s)).toList == (ByteArray.mk #[49]).toList then K (AV.int .i64 3) [] else ∃ n,bG (aL s)=Sem.natText n∧Bd n∧∃ n_1,bL (aL s)=Sem.natText n_1∧Bd n_1∧∃ u v,Sem.limbsOf n=Sem.limbsOf u∧Sem.limbsOf n_1=Sem.limbsOf v∧Sem.dg u≤9000000000∧Sem.dg v≤9000000000∧gA 1∧∃ u_1 v_1,Sem.limbsOf (u.gcd v)=Sem.limbsOf u_1∧Sem.limbsOf 1=Sem.limbsOf v_1∧Sem.dg u_1≤9000000000∧bif bif true then bif false then true else !decide (Pure.cmpI (↑u_1:Int) (↑v_1:Int)=0) else false then K (AV.int .i64 3) [] else K (AV.int .i64 0) [] else K (AV.int .i64 0) []):=by kernel_rfl
def yC : List (Nat × List Nat):=[(2,[6,7,8])]
def yD : List (Nat × ETy):=[(6,eS)]
noncomputable def yE (l:List ByteArray) (x0 x1:Int):St:=aS 18 [(6,AV.imm eS l),(7,AV.int .i64 x0),(8,AV.int .i64 x1)] []
theorem a0R (l:List ByteArray) (n0:Nat) (K:AV→List aA→Prop) :
 aH tab (aM tab aEB [] 400) (aK yC yD (aB Tryz.prog n0 78 K)) (aI tab (fnT Tryz.f78).res K) 400 [.code (fnT Tryz.f78).body] ⟨aP (fnT Tryz.f78).n [AV.imm eS l],[]⟩ =
 (aB Tryz.prog n0 78 K (aE (fnT Tryz.f78) 2) (yE l (↑l.length:Int) 0)):=by kernel_rfl
theorem a0S (l:List ByteArray) (x0 x1:Int) (n0:Nat) (K:AV→List aA→Prop) :
 aH tab (aM tab aEB [] 400) (aK yC yD (aB Tryz.prog n0 78 K)) (aI tab (fnT Tryz.f78).res K) 400 (aT (fnT Tryz.f78) 2) (yE l x0 x1) =
 (bif decide (x1<x0) then bif decide (0≤x1) && decide (x1<(↑l.length:Int)) then Tx (l.getD x1.toNat ByteArray.empty)∧bif !decide (eY (l.getD x1.toNat ByteArray.empty)=0) then K (AV.int .i64 (eY (l.getD x1.toNat ByteArray.empty))) [] else aB Tryz.prog n0 78 K (aE (fnT Tryz.f78) 2) (yE l x0 (IntKind.i64.wrap (x1+1))) else False else K (AV.int .i64 0) []):=by kernel_rfl
end
end Go.Proofs.YtehakimmioclkaaGreatDoor.Mach
end
section
set_option linter.unusedSimpArgs false
set_option linter.unusedVariables false
namespace Go.Proofs.YtehakimmioclkaaGreatDoor.Lib
open Go Go.Proofs.YtehakimmioclkaaGreatDoor.Mach Go.Proofs.YtehakimmioclkaaGreatDoorW.PrintWords Go.Proofs.YtehakimmioclkaaGreatDoor.Sem Go.Proofs.YtehakimmioclkaaGreatDoor.Pure
section
def resQ (q:Rat):Res:=fun v o=>o=[]∧((∃ z,QV z q∧v=qa z)∨(q=0∧v = .agg [.bool false, .nils, .nils]))
theorem oR {P:Program} {g:FuncId} {args:List AV} {q:Rat} {Q:Res} (h:Con P g args (resQ q)) (hQ:∀ z,QV z q→Q (qa z) []):Con P g args Q :=
 h.sealTo fun v o hv=>by
  obtain ⟨rfl,⟨z,hz,rfl⟩ | ⟨rfl,rfl⟩⟩:=hv
  · exact ⟨_,⟨_,rfl, .cons rfl (.cons rfl (.cons rfl .nil))⟩,hQ z hz⟩
  · exact ⟨_,⟨_,rfl, .cons rfl (.cons (Or.inr ⟨eW,rfl⟩) (.cons (Or.inr ⟨eW,rfl⟩) .nil))⟩,hQ (false,[],[]) QV.zero⟩
theorem gO {z:QT} {q:Rat} {H:List aA} (h:QV z q):aO (resQ q) (.agg [.bool z.1, .imm eW z.2.1, .imm eW z.2.2]) H:=bI ⟨rfl, .inl ⟨z,h,rfl⟩⟩ rfl rfl
theorem aEC {q:Rat} {H:List aA} (h:q=0):aO (resQ q) (.agg [.bool false, .nils, .nils]) H:=bI ⟨rfl, .inr ⟨h,rfl⟩⟩ rfl rfl
theorem len0 {n:Nat} (h:n=0):(n:Int)=0:=by omega
theorem aNT {n:Nat} (h:¬ n=0):¬ (n:Int)=0:=by omega
theorem sK : dg 1=1:=by
 show (natText 1).size=1
 rw [natText_one]; rfl
theorem aED : dg 0=1:=by
 show (natText 0).size=1
 rw [natText_zero]; rfl
theorem oS : gA 1:=⟨by decide,by decide⟩
theorem aNU {u v:Nat}:cmpI (u:Int) (v:Int) > 0↔v<u:=by
 unfold cmpI
 split
 · omega
 · split <;> omega
theorem yF {u v:Nat}:cmpI (u:Int) (v:Int) ≥ 0↔v≤u:=by
 unfold cmpI
 split
 · omega
 · split <;> omega
theorem aEE {u v:Nat}:cmpI (u:Int) (v:Int)=0↔v=u:=by
 unfold cmpI
 split
 · omega
 · split <;> omega
theorem sL : ∀ g xs Q,oO g xs Q→Con Tryz.prog g xs Q:=dA fun p hp=>by
 simp only [List.mem_cons,List.not_mem_nil,or_false] at hp
 rcases hp with rfl | rfl | rfl | rfl | rfl | rfl | rfl | rfl | rfl | rfl | rfl | rfl | rfl
 · exact bD fun _ _ h=>aMC h
 · exact aZ fun _ _ _ h=>aMB h
 · exact aZ fun _ _ _ h=>aL6 h
 · exact aZ fun _ _ _ h=>aMA h
 · exact aZ fun _ _ _ h=>aL7 h
 · exact aZ fun _ _ _ h=>aL8 h
 · exact aZ fun _ _ _ h=>aL9 h
 · exact bD fun _ _ h=>aL5 h
 · exact bD fun _ _ h=>aMD h
 · exact bD fun _ _ h=>aZ3 h
 · exact bD fun _ _ h=>aZ1 h
 · exact aZ fun _ _ _ h=>aZ8 h
 · exact aZ fun _ _ _ h=>aZ9 h
theorem a0T {z:QT} {Q:Res} (h:aMW z Q):Con Tryz.prog 62 [qa z] Q:=by
 obtain ⟨q,hz,hq⟩:=h
 obtain ⟨b,n,d⟩:=z
 refine aU (gn:=fnT Tryz.f62) (by kernel_rfl) sL (inl:=[]) (LT:=aM3) (NT:=aM4) rfl fun n0=>?_
 refine (a0F b n d n0 _).symm ▸ ?_
 by_cases h0:d.length=0
 · refine aC (len0 h0) ⟨oS,?_⟩
   rcases hz.den with hd | ⟨hd,hd1⟩
   · have:d=limbsOf q.den:=hd
     rw [this,xS] at h0
     exact absurd h0 q.den_nz
   · rw [hd1] at hq
     exact bI hq rfl rfl
 · refine aG (aNT h0) ?_
   rcases hz.den with hd | ⟨hd,hd1⟩
   · have:d=limbsOf q.den:=hd
     rw [this]
     exact bI hq rfl rfl
   · exact absurd (congrArg List.length hd) h0
theorem a0U {neg:Bool} {n d:List Int} {Q:Res} (h:lowS neg n d Q):Con Tryz.prog 63 [.bool neg, .imm eW n, .imm eW d] Q:=by
 obtain ⟨u,v,rfl,rfl,hv,hbu,hbv,hq⟩:=h
 refine oR ?_ hq
 refine aU (gn:=fnT Tryz.f63) (by kernel_rfl) sL (inl:=[]) (LT:=aM5) (NT:=aM6) rfl fun n0=>?_
 rw [a0G]
 by_cases h0:u=0
 · subst h0
   refine aC (len0 (xS.2 rfl)) ?_
   exact aEC (aD6 _ _)
 · refine aG (aNT fun h=>h0 (xS.1 h)) ?_
   have hg:0<Nat.gcd u v:=Nat.gcd_pos_of_pos_right u hv
   have hgb:dg (Nat.gcd u v)≤9000000000:=Nat.le_trans (fP (Nat.le_of_dvd hv (Nat.gcd_dvd_right u v))) hbv
   refine ⟨u,v,rfl,rfl,hbu,hbv,oS,Nat.gcd u v,1,rfl,rfl,hgb,?_⟩
   by_cases h1:1<Nat.gcd u v
   · refine aC (aNU.2 h1) ⟨u,Nat.gcd u v,rfl,rfl,hbu,hgb,hg,v,Nat.gcd u v,rfl,rfl,hbv,hgb,hg,?_⟩
     rw [← a0C neg u v _ hg (Nat.gcd_dvd_left u v) (Nat.gcd_dvd_right u v)]
     exact gO (z:=(neg,_,_)) (QV.make (Nat.div_pos (Nat.le_of_dvd (by omega) (Nat.gcd_dvd_left u v)) hg) (Nat.div_pos (Nat.le_of_dvd hv (Nat.gcd_dvd_right u v)) hg) (by rw [Nat.gcd_div (Nat.gcd_dvd_left u v) (Nat.gcd_dvd_right u v),Nat.div_self hg]))
   · refine aG (fun h=>h1 (aNU.1 h)) ?_
     exact gO (z:=(neg,_,_)) (QV.make (by omega) hv (by omega))
theorem oT : ∀ g xs Q,lU g xs Q→Con Tryz.prog g xs Q:=dA fun p hp=>by
 simp only [List.mem_cons,List.not_mem_nil,or_false] at hp
 rcases hp with rfl | rfl | rfl | rfl | rfl | rfl | rfl | rfl | rfl | rfl | rfl
 · exact bD fun _ _ h=>aMC h
 · exact aZ fun _ _ _ h=>aMB h
 · exact aZ fun _ _ _ h=>aL6 h
 · exact aZ fun _ _ _ h=>aMA h
 · exact aZ fun _ _ _ h=>aL7 h
 · exact aZ fun _ _ _ h=>aL8 h
 · exact aZ fun _ _ _ h=>aL9 h
 · exact bD fun _ _ h=>aL5 h
 · exact bD fun _ _ h=>aMD h
 · exact bD fun _ _ h=>a0T h
 · exact aI5 fun _ _ _ _ h=>a0U h
theorem oU {b:Bool} {n d:List Int} {q:Rat} (h:QV (b,n,d) q):n=limbsOf q.num.natAbs:=h.num
theorem gB {b:Bool} {n d:List Int} {q:Rat} (h:QV (b,n,d) q):(n.length:Int)=0↔q=0:=by
 have:(n.length=0)↔q=0:=h.nil
 rw [← this]; omega
theorem dI {k:Nat} {q:Rat} (h:Sz k q):dg q.num.natAbs≤k:=h.1
theorem dP {k:Nat} {q:Rat} (h:Sz k q):dg q.den≤k:=h.2
theorem a0V {b:Bool} {n d:List Int} {q:Rat} (h:QV (b,n,d) q) (h0:¬ q=0):sgn q=bif b then -1 else 1:=by
 have hb:b=decide (q.num<0):=h.neg
 unfold sgn
 rw [if_neg (fun h=>h0 (Rat.num_eq_zero.1 h)),hb]
 by_cases hn:q.num<0
 · rw [if_pos hn,decide_eq_true hn]; rfl
 · rw [if_neg hn,decide_eq_false hn]; rfl
theorem aEF {z:QT} {Q:Res} (h:xY z Q):Con Tryz.prog 56 [qa z] Q:=by
 obtain ⟨q,hz,hq⟩:=h
 obtain ⟨b,n,d⟩:=z
 refine aU (gn:=fnT Tryz.f56) (by kernel_rfl) oT (inl:=[]) (LT:=aNF) (NT:=aNG) rfl fun n0=>?_
 refine (a0K b n d n0 _).symm ▸ ?_
 by_cases h0:q=0
 · refine aC ((gB hz).2 h0) ?_
   rw [show sgn q=0 by rw [h0]; rfl] at hq
   exact bI hq rfl rfl
 · refine aG (fun h=>h0 ((gB hz).1 h)) ?_
   rw [a0V hz h0] at hq
   cases b
   · exact bI hq rfl rfl
   · exact bI hq rfl rfl
theorem a0W {b:Bool} {n d:List Int} {q:Rat} (h:QV (b,n,d) q) (h0:¬ q=0):QV (!b,n,d) (-q):=by
 have hb:b=decide (q.num<0):=h.neg
 refine ⟨?_,?_,?_⟩
 · show (!b)=decide ((-q).num<0)
   rw [Rat.neg_num,hb]
   have:q.num≠0:=fun h=>h0 (Rat.num_eq_zero.1 h)
   by_cases hn:q.num<0
   · rw [decide_eq_true hn,decide_eq_false (by omega)]; rfl
   · rw [decide_eq_false hn,decide_eq_true (by omega)]; rfl
 · rw [Rat.neg_num,Int.natAbs_neg]; exact h.num
 · rw [Rat.neg_den]; exact h.den
theorem a0X {z:QT} {Q:Res} (h:negS z Q):Con Tryz.prog 77 [qa z] Q:=by
 obtain ⟨q,hz,hq⟩:=h
 refine oR ?_ hq
 obtain ⟨b,n,d⟩:=z
 refine aU (gn:=fnT Tryz.f77) (by kernel_rfl) oT (inl:=[]) (LT:=aNH) (NT:=aNI) rfl fun n0=>?_
 refine (a0L b n d n0 _).symm ▸ ?_
 by_cases h0:q=0
 · refine aC ((gB hz).2 h0) ?_
   refine gO (z:=(b,n,d)) ?_
   subst h0
   exact hz
 · refine aG (fun h=>h0 ((gB hz).1 h)) ?_
   exact gO (z:=(!b,n,d)) (a0W hz h0)
theorem fQ {u v:Nat} (hu:dg u≤4000000000) (hv:dg v≤4000000000):dg (u * v)≤8000000000:=Nat.le_trans (kJ u v) (by omega)
theorem aEG {z w:QT} {Q:Res} (h:xZ z w Q):Con Tryz.prog 32 [qa z,qa w] Q:=by
 obtain ⟨x,y,hz,hw,sx,sy,hq⟩:=h
 refine oR ?_ hq
 obtain ⟨b,n,d⟩:=z
 obtain ⟨b', n', d'⟩:=w
 refine aU (gn:=fnT Tryz.f32) (by kernel_rfl) oT (inl:=[]) (LT:=aNJ) (NT:=aNK) rfl fun n0=>?_
 refine (a0M b n d b' n' d' n0 _).symm ▸ ?_
 by_cases h0:x=0
 · refine aC ((gB hz).2 h0) ?_
   refine gO (z:=(b', n', d')) ?_
   rw [h0,Rat.zero_add]; exact hw
 · refine aG (fun h=>h0 ((gB hz).1 h)) ?_
   by_cases h1:y=0
   · refine aC ((gB hw).2 h1) ?_
     refine gO (z:=(b,n,d)) ?_
     rw [h1,Rat.add_zero]; exact hz
   · refine aG (fun h=>h1 ((gB hw).1 h)) ?_
     have e1:=dI sx; have e2:=dP sx; have e3:=dI sy; have e4:=dP sy
     have m1:=fQ e1 e4
     have m2:=fQ e3 e2
     have m3:=fQ e2 e4
     have px:=dO x
     have py:=dO y
     have hsum:x+y=mkq b x.num.natAbs x.den+mkq b' y.num.natAbs y.den:=by rw [hz.of,hw.of]
     rw [xW _ _ _ _ _ _ px py] at hsum
     refine ⟨y,hw,_,_,(oU hz),rfl,by omega,by omega,x,hz,_,_,(oU hw),rfl,by omega,by omega,x,hz,y,hw,_,_,rfl,rfl,by omega,by omega,?_⟩
     by_cases hb:b=b'
     · rw [if_pos hb] at hsum
       refine aQ (by rw [hb,beq_self_eq_true]) ?_
       refine ⟨_,_,rfl,rfl,by omega,by omega,_,_,rfl,rfl,Nat.mul_pos px py,?_,by omega,fun r hr=>?_⟩
       · have:=xT m1 m2; omega
       · rw [hsum]; exact gO hr
     · rw [if_neg hb] at hsum
       refine aX (by simpa using hb) ?_
       refine ⟨_,_,rfl,rfl,by omega,?_⟩
       by_cases hc:y.num.natAbs * x.den≤x.num.natAbs * y.den
       · rw [if_pos hc] at hsum
         refine aC (yF.2 hc) ?_
         refine ⟨_,_,rfl,rfl,by omega,hc,_,_,rfl,rfl,Nat.mul_pos px py,?_,by omega,fun r hr=>?_⟩
         · have:=fP (Nat.sub_le (x.num.natAbs * y.den) (y.num.natAbs * x.den)); omega
         · rw [hsum]; exact gO hr
       · rw [if_neg hc] at hsum
         refine aG (fun h=>hc (yF.1 h)) ?_
         refine ⟨_,_,rfl,rfl,by omega,by omega,_,_,rfl,rfl,Nat.mul_pos px py,?_,by omega,fun r hr=>?_⟩
         · have:=fP (Nat.sub_le (y.num.natAbs * x.den) (x.num.natAbs * y.den)); omega
         · rw [hsum]; exact gO hr
theorem aNV {z w:QT} {Q:Res} (h:quoQ z w Q):Con Tryz.prog 47 [qa z,qa w] Q:=by
 obtain ⟨x,y,hz,hw,sx,sy,hq⟩:=h
 refine oR ?_ hq
 obtain ⟨b,n,d⟩:=z
 obtain ⟨b', n', d'⟩:=w
 refine aU (gn:=fnT Tryz.f47) (by kernel_rfl) oT (inl:=[]) (LT:=aNN) (NT:=aNO) rfl fun n0=>?_
 refine (a0O b n d b' n' d' n0 _).symm ▸ ?_
 by_cases h0:x=0
 · refine aC ((gB hz).2 h0) (aEC (by rw [h0,Rat.div_def,Rat.zero_mul]))
 · refine aG (fun h=>h0 ((gB hz).1 h)) ?_
   by_cases h1:y=0
   · refine aQ (decide_eq_true ((gB hw).2 h1)) (aEC (by rw [h1,Rat.div_def,Rat.inv_zero,Rat.mul_zero]))
   · refine aX (fun h=>h1 ((gB hw).1 (of_decide_eq_true h))) ?_
     have e1:=dI sx; have e2:=dP sx; have e3:=dI sy; have e4:=dP sy
     have m1:=fQ e1 e4
     have m3:=fQ e2 e3
     have hy:0<y.num.natAbs:=by
        have:y.num≠0:=fun h=>h1 (Rat.num_eq_zero.1 h)
        omega
     have hquo:x / y=mkq b x.num.natAbs x.den / mkq b' y.num.natAbs y.den:=by rw [hz.of,hw.of]
     rw [aD8 _ _ _ _ _ _ (dO x) hy (dO y)] at hquo
     refine ⟨y,hw,_,_,(oU hz),rfl,by omega,by omega,x,hz,_,_,rfl,(oU hw),by omega,by omega,_,_,rfl,rfl,Nat.mul_pos (dO x) hy,by omega,by omega,fun r hr=>?_⟩
     rw [hquo]; exact gO hr
end
end Go.Proofs.YtehakimmioclkaaGreatDoor.Lib
end
