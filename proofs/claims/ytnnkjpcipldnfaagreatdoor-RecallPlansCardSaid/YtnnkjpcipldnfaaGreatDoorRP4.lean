/- Texts of this session, put together. -/
import Derived.Test.YtnnkjpcipldnfaaGreatDoorRP3
import Derived.Lib.Strings
import Derived.IntWalk
section
set_option linter.unusedSimpArgs false
set_option linter.unusedVariables false
namespace Go.Proofs.YtnnkjpcipldnfaaGreatDoor.Pure
open Go.RowKit Go.Proofs.YtnnkjpcipldnfaaGreatDoor.ND Go.Proofs.YtnnkjpcipldnfaaGreatDoorW.PrintWords Go.Proofs.YtnnkjpcipldnfaaGreatDoorW.PrintLast Go.Proofs.YtnnkjpcipldnfaaGreatDoor.Aid Go.Proofs.YtnnkjpcipldnfaaGreatDoor.NatVal
section
abbrev BB : Int:=1000000000
theorem rd_last (l:List Int) (n:Nat) (h:l.length=n+1):l=l.take n ++ [rd l (n:Int)]:=by
 rw [rd_eq l n (by omega),List.take_append_getElem (by omega),List.take_of_length_le (by omega)]
theorem trim_ev (n:Nat):∀ l:List Int,l.length=n→n≤1000000000000000→ok BB l →
 ∃ r,Ev (fun k=>nat_N_trim.l0 k l) r∧val BB r=val BB l∧ok BB r∧noLead r∧r.length≤l.length:=by
 induction n with
 | zero =>
   intro l hl _ ho
   obtain rfl:l=[]:=List.eq_nil_of_length_eq_zero hl
   refine ⟨[],?_,rfl,ok_nil _,noLead_nil,by simp⟩
   refine Ev.step (fun k=>nat_N_trim.l0.eq_2 _ k) ?_
   exact Ev.no (by simp) (Ev.now _)
 | succ n ih =>
   intro l hl hn ho
   have e:wrap64 ((l.length:Int) - 1)=((n:Nat):Int):=by rw [w64] <;> omega
   have hd:=rd_last l n hl
   by_cases hz:rd l (n:Int)=0
   · have ho' : ok BB (l.take n):=fun x hx=>ho x (List.mem_of_mem_take hx)
     obtain ⟨r,h1,h2,h3,h4,h5⟩:=ih (l.take n) (by simp; omega) (by omega) ho'
     refine ⟨r,?_,?_,h3,h4,by simp at h5; omega⟩
     · refine Ev.step (fun k=>nat_N_trim.l0.eq_2 _ k) ?_
       rw [e]
       refine Ev.yes (by omega) (Ev.yes (by omega) (Ev.yes (by omega) (Ev.yes hz (Ev.yes (by omega) ?_))))
       rw [Int.toNat_natCast]
       exact h1
     · rw [h2]
       conv=>rhs; rw [hd]
       rw [val_snoc,hz]; simp
   · refine ⟨l,?_,rfl,ho,?_,Nat.le_refl _⟩
     · refine Ev.step (fun k=>nat_N_trim.l0.eq_2 _ k) ?_
       rw [e]
       exact Ev.yes (by omega) (Ev.yes (by omega) (Ev.yes (by omega) (Ev.no hz (Ev.now _))))
     · intro h
       have:l.getLast h=rd l (n:Int):=by
        rw [List.getLast_eq_getElem,rd_eq l n (by omega)]
        congr 1
        omega
       rw [this]; exact hz
theorem trimf_ev (l:List Int) (hn:l.length≤1000000000000000) (ho:ok BB l) :
 ∃ r,Ev (fun k=>nat_N_trim.f k l) r∧val BB r=val BB l∧ok BB r∧noLead r∧r.length≤l.length:=trim_ev l.length l rfl hn ho
def digs (l:List Int):List Int:=(l.map fun c=>c - 48).reverse
def asc (l:List Int):Prop:=∀ c∈l,48≤c∧c≤57
theorem digs_length (l:List Int):(digs l).length=l.length:=by simp [digs]
theorem digs_ok {l:List Int} (h:asc l):ok 10 (digs l):=by
 intro x hx
 simp only [digs,List.mem_reverse,List.mem_map] at hx
 obtain ⟨c,hc,rfl⟩:=hx
 have:=h c hc
 omega
theorem digs_snoc (l:List Int) (c:Int):digs (l ++ [c])=(c - 48) :: digs l:=by simp [digs]
theorem digs_append (l r:List Int):digs (l ++ r)=digs r ++ digs l:=by simp [digs]
theorem bytesOf_extract (s:ByteArray) (a b:Nat):bytesOf (s.extract a b)=((bytesOf s).drop a).take (b - a):=by
 have h:=Go.Lib.extract_toList s a b
 rw [ByteArray.toList_eq] at h
 unfold bytesOf
 rw [h,List.map_take,List.map_drop]
theorem take_rd (l:List Int) (j:Nat) (h:j<l.length):l.take (j+1)=l.take j ++ [rd l (j:Int)]:=by
 rw [rd_eq l j h,List.take_append_getElem h]
theorem read_l1 (s:ByteArray) (x3:List Int) (x4:Int) (ch:List Int) (hc:asc ch) (h9:ch.length≤9) (h3:x3.length<35184372088832) {r:List Int}
 (next:Ev (fun k=>nat_Read.l0 k s (x3 ++ [val 10 (digs ch)]) (wrap64 (x4 - 9))) r) (d:Nat) :
 ∀ j,j+d=ch.length→Ev (fun k=>nat_Read.l1 k s x3 x4 (val 10 (digs (ch.take j))) ch (ch.length:Int) (j:Int)) r:=by
 induction d with
 | zero =>
   intro j hj
   refine Ev.step (fun k=>nat_Read.l1.eq_2 _ _ _ _ _ _ _ k) ?_
   refine Ev.no (by omega) (Ev.yes h3 ?_)
   rw [show ch.take j=ch from List.take_of_length_le (by omega)]
   exact next
 | succ d ih =>
   intro j hj
   have hlt:j<ch.length:=by omega
   refine Ev.step (fun k=>nat_Read.l1.eq_2 _ _ _ _ _ _ _ k) ?_
   refine Ev.yes (by omega) (Ev.yes (by omega) (Ev.yes (by omega) ?_))
   have hd:=hc _ (mem_rd ch j hlt)
   have ha:asc (ch.take j):=fun c hc' => hc c (List.mem_of_mem_take hc')
   have h0:=val_nonneg (by omega) (digs_ok ha)
   have h1:=val_lt (b:=10) (by omega) (digs_ok ha)
   rw [digs_length,List.length_take,Nat.min_eq_left (by omega)] at h1
   have h2:(10:Int) ^ j≤10 ^ 8:=pow_mono (by omega) (by omega)
   have h2' : (10:Int) ^ 8=100000000:=by decide
   have e:((val 10 (digs (ch.take j)) * 10+(rd ch (j:Int) - 48) % 256) % 4294967296)=val 10 (digs (ch.take (j+1))):=by
    rw [take_rd ch j hlt,digs_snoc]
    simp only [val]
    omega
   rw [e,w64s (by omega)]
   exact ih (j+1) (by omega)
theorem pow_BB (m:Nat):BB ^ m=(10:Int) ^ (9 * m):=by
 rw [Int.pow_mul]; rfl
def Limbs (r:List Int) (v:Int):Prop:=val BB r=v∧ok BB r∧noLead r
theorem read_end (s:ByteArray) (x3:List Int) (x4:Int) (h4:x4≤0) (hn:x3.length≤100000000000) (ho:ok BB x3) :
 ∃ r,Ev (fun k=>nat_Read.l0 k s x3 x4) r∧Limbs r (val BB x3)∧r.length≤x3.length:=by
 obtain ⟨r,h1,h2,h3,h5,h6⟩:=trimf_ev x3 (by omega) ho
 refine ⟨r,?_,⟨h2,h3,h5⟩,h6⟩
 refine Ev.step (fun k=>nat_Read.l0.eq_2 _ _ _ k) ?_
 exact Ev.no (by omega) (Ev.bind1 h1 (Ev.now _))
theorem mx_eq (a b:Int):mx a b=max a b:=by unfold mx; omega
theorem read_l0 (s:ByteArray) (ha:asc (bytesOf s)) (hs:s.size≤10000000000) (d:Nat) :
 ∀ (e m:Nat) (x3:List Int),e≤d→e+9 * m=s.size→x3.length=m→ok BB x3→val BB x3=val 10 (digs ((bytesOf s).drop e)) →
   ∃ r,Ev (fun k=>nat_Read.l0 k s x3 (e:Int)) r∧Limbs r (val 10 (digs (bytesOf s)))∧r.length≤s.size:=by
 induction d with
 | zero =>
   intro e m x3 he hm hx ho hv
   obtain rfl:e=0:=by omega
   obtain ⟨r,h1,h2,h3⟩:=read_end s x3 0 (by omega) (by omega) ho
   rw [hv,List.drop_zero] at h2
   exact ⟨r,h1,h2,by omega⟩
 | succ d ih =>
   intro e m x3 he hm hx ho hv
   by_cases h0:e=0
   · exact ih e m x3 (by omega) hm hx ho hv
   · have hl:=bytesOf_length s
     obtain ⟨a,hae⟩:∃ a:Nat,a=e - 9:=⟨_,rfl⟩
     have hw:wrap64 ((e:Int) - 9)=(e:Int) - 9:=by rw [w64] <;> omega
     have hmx:mx 0 (wrap64 ((e:Int) - 9))=(a:Int):=by rw [hw,mx_eq]; omega
     obtain ⟨ch,hch⟩:∃ ch,ch=bytesOf (s.extract a e):=⟨_,rfl⟩
     have hch' : ch=((bytesOf s).drop a).take (e - a):=by rw [hch,bytesOf_extract]
     have hcl:ch.length=e - a:=by rw [hch', List.length_take,List.length_drop]; omega
     have hca:asc ch:=by
        intro c hc
        rw [hch'] at hc
        exact ha c (List.mem_of_mem_drop (List.mem_of_mem_take hc))
     have hsplit:ch ++ (bytesOf s).drop e=(bytesOf s).drop a:=by
        rw [hch']
        conv=>rhs; rw [← List.take_append_drop (e - a) ((bytesOf s).drop a)]
        rw [List.drop_drop,show a+(e - a)=e by omega]
     have h00:=val_nonneg (by omega) (digs_ok hca)
     have h01:=val_lt (b:=10) (by omega) (digs_ok hca)
     rw [digs_length,hcl] at h01
     have h02:(10:Int) ^ (e - a)≤10 ^ 9:=pow_mono (by omega) (by omega)
     have h03:(10:Int) ^ 9=1000000000:=by decide
     have ho' : ok BB (x3 ++ [val 10 (digs ch)]):=by
        rw [ok_append]
        refine ⟨ho,?_⟩
        rw [ok_cons]
        exact ⟨⟨h00,by show _<(1000000000:Int); omega⟩,ok_nil _⟩
     have hv' : val BB (x3 ++ [val 10 (digs ch)])=val 10 (digs ((bytesOf s).drop a)):=by
        rw [val_snoc,hv,hx,pow_BB,← hsplit,digs_append,val_append,digs_length,List.length_drop,hl,show s.size - e=9 * m by omega]
     have hstep:∀ {r},Ev (fun k=>nat_Read.l0 k s (x3 ++ [val 10 (digs ch)]) (wrap64 ((e:Int) - 9))) r→Ev (fun k=>nat_Read.l0 k s x3 (e:Int)) r:=by
        intro r hr
        refine Ev.step (fun k=>nat_Read.l0.eq_2 _ _ _ k) ?_
        rw [hmx]
        refine Ev.yes (by omega) (Ev.yes (by omega) (Ev.yes (by omega) (Ev.yes (by omega) ?_)))
        rw [Int.toNat_natCast,Int.toNat_natCast,]
        have hsz:(s.extract a e).size≤9223372036854775807:=by
         have:=bytesOf_length (s.extract a e)
         rw [← hch,hcl] at this
         omega
        refine Ev.opt_bind (gp_bytes_ok _ hsz) ?_
        rw [← hch]
        have:=read_l1 s x3 (e:Int) ch hca (by omega) (by omega) hr ch.length 0 (by omega)
        rw [List.take_zero] at this
        exact this
     by_cases h9:e≤9
     · obtain ⟨r,h1,h2,h3⟩:=read_end s (x3 ++ [val 10 (digs ch)]) (wrap64 ((e:Int) - 9)) (by rw [hw]; omega) (by simp; omega) ho'
       refine ⟨r,hstep h1,?_,by simp at h3; omega⟩
       rw [hv', show a=0 by omega,List.drop_zero] at h2
       exact h2
     · obtain ⟨r,h1,h2,h3⟩:=ih a (m+1) (x3 ++ [val 10 (digs ch)]) (by omega) (by omega) (by simp; omega) ho' hv'
       refine ⟨r,hstep ?_,h2,h3⟩
       rw [hw,show (e:Int) - 9=(a:Int) by omega]
       exact h1
theorem read_ev (s:ByteArray) (ha:asc (bytesOf s)) (hs:s.size≤10000000000) :
 ∃ r,Ev (fun k=>nat_Read.f k s) r∧Limbs r (val 10 (digs (bytesOf s)))∧r.length≤s.size:=by
 refine read_l0 s ha hs s.size s.size 0 [] (by omega) (by omega) rfl (ok_nil _) ?_
 rw [List.drop_of_length_le (by rw [bytesOf_length]; omega)]
 rfl
end
section
theorem ok_take {b:Int} {l:List Int} (h:ok b l) (j:Nat):ok b (l.take j):=fun x hx=>h x (List.mem_of_mem_take hx)
theorem val_at {b:Int} (l:List Int) (j:Nat) (h:j<l.length):val b l=val b (l.take j)+b ^ j * (rd l (j:Int)+b * val b (l.drop (j+1))):=by
 conv=>lhs; rw [← List.take_append_drop j l]
 rw [val_append,drop_rd l j h,List.length_take,Nat.min_eq_left (by omega)]
 simp only [val]
theorem val_take {b:Int} (l:List Int) (j:Nat) (h:j<l.length):val b (l.take (j+1))=val b (l.take j)+b ^ j * rd l (j:Int):=by
 rw [take_rd l j h,val_snoc,List.length_take,Nat.min_eq_left (by omega)]
theorem noLead_of_ge {b:Int} (hb:1<b) {l:List Int} (ho:ok b l) (h:∀ h:l≠[],b ^ (l.length - 1)≤val b l):noLead l:=by
 intro hl hz
 have e:=List.dropLast_concat_getLast hl
 have h1:val b l=val b l.dropLast+b ^ l.dropLast.length * l.getLast hl:=by rw [← val_snoc,e]
 rw [hz] at h1
 have ho' : ok b l.dropLast:=fun x hx=>ho x ((List.dropLast_sublist l).subset hx)
 have h2:=val_lt (by omega) ho'
 have h3:=h hl
 rw [List.length_dropLast] at h2
 rw [Int.mul_zero] at h1
 omega
def cmpI (a b:Int):Int:=if a<b then -1 else if a > b then 1 else 0
theorem cmp_below {l r:List Int} (j:Nat) (hj:j<l.length) (hl:l.length=r.length) (h1:ok BB l) (h2:ok BB r) (hd:l.drop (j+1)=r.drop (j+1)) (hlt:rd l (j:Int)<rd r (j:Int)):val BB l<val BB r:=by
 rw [val_at l j hj,val_at r j (by omega),hd]
 have a1:=val_lt (b:=BB) (by decide) (ok_take h1 j)
 have a2:=val_nonneg (b:=BB) (by decide) (ok_take h2 j)
 rw [List.length_take,Nat.min_eq_left (by omega)] at a1
 have hp:0<BB ^ j:=Int.pow_pos (by decide)
 have hm:BB ^ j * ((rd l (j:Int)+BB * val BB (r.drop (j+1)))+1)≤BB ^ j * (rd r (j:Int)+BB * val BB (r.drop (j+1))):=Int.mul_le_mul_of_nonneg_left (by omega) (by omega)
 rw [Int.mul_add (BB ^ j) _ 1,Int.mul_one] at hm
 omega
theorem cmp_l0 (l r:List Int) (hl:l.length=r.length) (hn:l.length≤100000000000) (h1:ok BB l) (h2:ok BB r) (n:Nat):n≤l.length→l.drop n=r.drop n →
 Ev (fun k=>nat_N_Cmp.l0 k l r ((n:Int) - 1)) (cmpI (val BB l) (val BB r)):=by
 induction n with
 | zero =>
   intro _ hd
   rw [List.drop_zero,List.drop_zero] at hd
   subst hd
   refine Ev.step (fun k=>nat_N_Cmp.l0.eq_2 _ _ _ k) ?_
   exact Ev.no (by omega) (Ev.now' (by simp [cmpI]))
 | succ n ih =>
   intro hn' hd
   rw [show ((n+1:Nat):Int) - 1=(n:Int) by omega]
   refine Ev.step (fun k=>nat_N_Cmp.l0.eq_2 _ _ _ k) ?_
   refine Ev.yes (by omega) (Ev.yes (by omega) (Ev.yes (by omega) (Ev.yes (by omega) ?_)))
   refine Ev.ite (fun h=>?_) (fun h=>Ev.ite (fun h' => ?_) (fun h' => ?_))
   · have:=cmp_below n (by omega) hl h1 h2 hd h
     exact Ev.now' (by rw [cmpI,if_pos this])
   · have:=cmp_below n (by omega) hl.symm h2 h1 hd.symm h'
     exact Ev.now' (by rw [cmpI,if_neg (by omega),if_pos (by omega)])
   · rw [w64 (by omega) (by omega)]
     refine ih (by omega) ?_
     rw [drop_rd l n (by omega),drop_rd r n (by omega),hd,show rd l (n:Int)=rd r (n:Int) by omega]
theorem lt_of_len {l r:List Int} (h1:ok BB l) (h2:ok BB r) (hr:noLead r) (h:l.length<r.length):val BB l<val BB r:=by
 have a1:=val_lt (b:=BB) (by decide) h1
 have hr0:r≠[]:=fun z=>by rw [z] at h; simp at h
 have a2:=val_ge (b:=BB) (by decide) h2 hr hr0
 have a3:BB ^ l.length≤BB ^ (r.length - 1):=pow_mono (by decide) (by omega)
 omega
theorem cmp_ev {l r:List Int} (hn:l.length≤100000000000) (h1:ok BB l) (h2:ok BB r) (t1:noLead l) (t2:noLead r) :
 Ev (fun k=>nat_N_Cmp.f k l r) (cmpI (val BB l) (val BB r)):=by
 unfold nat_N_Cmp.f
 refine Ev.ite (fun h=>?_) (fun h=>Ev.ite (fun h' => Ev.now' ?_) (fun h' => Ev.now' ?_))
 · rw [w64 (by omega) (by omega)]
   exact cmp_l0 l r (by omega) hn h1 h2 l.length (Nat.le_refl _) (by rw [List.drop_length,List.drop_of_length_le (by omega)])
 · rw [cmpI,if_pos (lt_of_len h1 h2 t2 (by omega))]
 · have:=lt_of_len h2 h1 t1 (by omega)
   rw [cmpI,if_neg (by omega),if_pos (by omega)]
theorem make63 (m:Int) (h0:0≤m) (h1:m≤10000000000000):gp_make0_63.f m=some []:=by
 unfold gp_make0_63.f
 rw [if_pos ⟨h0,by omega⟩]
theorem take_len_val {b:Int} (l:List Int) (j:Nat) (h:l.length≤j):val b (l.take (j+1))=val b (l.take j):=by
 rw [List.take_of_length_le (by omega),List.take_of_length_le h]
theorem add_l0 (a b:List Int) (hlen:b.length≤a.length) (hn:a.length≤100000000000) (h1:ok BB a) (h2:ok BB b) (t1:noLead a) (d:Nat) :
 ∀ (j:Nat) (out:List Int) (c:Int),j+d=a.length→out.length=j→ok BB out→0≤c→c≤1→val BB out+BB ^ j * c=val BB (a.take j)+val BB (b.take j) →
   ∃ r,Ev (fun k=>nat_N_Add.l0 k b out c a (a.length:Int) (j:Int)) r∧Limbs r (val BB a+val BB b)∧r.length≤a.length+1:=by
 induction d with
 | zero =>
   intro j out c hj ho hok hc0 hc1 hv
   rw [show a.take j=a from List.take_of_length_le (by omega),show b.take j=b from List.take_of_length_le (by omega)] at hv
   by_cases hc:c > 0
   · refine ⟨out ++ [c],?_,⟨by rw [val_snoc,ho]; exact hv,?_,?_⟩,by simp; omega⟩
     · refine Ev.step (fun k=>nat_N_Add.l0.eq_2 _ _ _ _ _ _ k) ?_
       exact Ev.no (by omega) (Ev.yes hc (Ev.yes (by omega) (Ev.now _)))
     · rw [ok_append,ok_cons]
       exact ⟨hok,⟨hc0,by show c<(1000000000:Int); omega⟩,ok_nil _⟩
     · intro h
       rw [List.getLast_append_right (by simp)]
       simp; omega
   · have hz:c=0:=by omega
     rw [hz,Int.mul_zero,Int.add_zero] at hv
     refine ⟨out,?_,⟨hv,hok,?_⟩,by omega⟩
     · refine Ev.step (fun k=>nat_N_Add.l0.eq_2 _ _ _ _ _ _ k) ?_
       exact Ev.no (by omega) (Ev.no hc (Ev.now _))
     · refine noLead_of_ge (by decide) hok (fun hne=>?_)
       have ha0:a≠[]:=fun z=>hne (List.eq_nil_of_length_eq_zero (by rw [z] at hj; simp at hj; omega))
       have g1:=val_ge (b:=BB) (by decide) h1 t1 ha0
       have g2:=val_nonneg (b:=BB) (by decide) h2
       rw [ho,show j=a.length by omega]
       omega
 | succ d ih =>
   intro j out c hj ho hok hc0 hc1 hv
   have hx:=ok_rd h1 j (by omega)
   have hB:BB=1000000000:=rfl
   rw [hB] at hx
   have go:∀ s:Int,0≤s→s<2000000000→s+BB ^ j * 0=s→val BB out+BB ^ j * s=val BB (a.take (j+1))+val BB (b.take (j+1)) →
        ∃ r,Ev (fun k=>nat_N_Add.l0 k b (out ++ [s % 1000000000]) (s / 1000000000) a (a.length:Int) (wrap64 ((j:Int)+1))) r∧Limbs r (val BB a+val BB b)∧r.length≤a.length+1:=by
    intro s hs0 hs1 _ hs
    rw [w64s (by omega)]
    refine ih (j+1) _ _ (by omega) (by simp; omega) ?_ (by omega) (by omega) ?_
    · rw [ok_append,ok_cons]
      exact ⟨hok,⟨by omega,by show _<(1000000000:Int); omega⟩,ok_nil _⟩
    · rw [val_snoc,ho,← hs,Int.add_assoc,Int.pow_succ,Int.mul_assoc,← Int.mul_add]
      congr 2
      show s % 1000000000+1000000000 * (s / 1000000000)=s
      omega
   by_cases hb:j<b.length
   · have hy:=ok_rd h2 j hb
     rw [hB] at hy
     have e:(rd a (j:Int)+c+rd b (j:Int)) % 4294967296=rd a (j:Int)+c+rd b (j:Int):=by omega
     obtain ⟨r,q1,q2,q3⟩:=go (rd a (j:Int)+c+rd b (j:Int)) (by omega) (by omega) (by simp) (by
        rw [val_take a j (by omega),val_take b j hb,Int.mul_add,Int.mul_add]; omega)
     refine ⟨r,?_,q2,q3⟩
     refine Ev.step (fun k=>nat_N_Add.l0.eq_2 _ _ _ _ _ _ k) ?_
     rw [e]
     exact Ev.yes (by omega) (Ev.yes (by omega) (Ev.yes (by omega) (Ev.yes (by omega) (Ev.yes (by omega) q1))))
   · have e:(rd a (j:Int)+c) % 4294967296=rd a (j:Int)+c:=by omega
     obtain ⟨r,q1,q2,q3⟩:=go (rd a (j:Int)+c) (by omega) (by omega) (by simp) (by
        rw [val_take a j (by omega),take_len_val b j (by omega),Int.mul_add]; omega)
     refine ⟨r,?_,q2,q3⟩
     refine Ev.step (fun k=>nat_N_Add.l0.eq_2 _ _ _ _ _ _ k) ?_
     rw [e]
     exact Ev.yes (by omega) (Ev.yes (by omega) (Ev.yes (by omega) (Ev.no (by omega) (Ev.yes (by omega) q1))))
theorem add_j0 (a b:List Int) (hlen:b.length≤a.length) (hn:a.length≤100000000000) (h1:ok BB a) (h2:ok BB b) (t1:noLead a) :
 ∃ r,Ev (fun k=>nat_N_Add.j0 k a b) r∧Limbs r (val BB a+val BB b)∧r.length≤a.length+1:=by
 obtain ⟨r,q1,q2,q3⟩:=add_l0 a b hlen hn h1 h2 t1 a.length 0 [] 0 (by omega) rfl (ok_nil _) (by omega) (by omega) (by simp [val])
 refine ⟨r,?_,q2,q3⟩
 refine Ev.step (fun k=>nat_N_Add.j0.eq_2 _ _ k) ?_
 rw [w64s (by omega)]
 exact Ev.opt_bind (make63 _ (by omega) (by omega)) q1
theorem add_ev {a b:List Int} (hn:a.length≤100000000000) (hm:b.length≤100000000000) (h1:ok BB a) (h2:ok BB b) (t1:noLead a) (t2:noLead b) :
 ∃ r,Ev (fun k=>nat_N_Add.f k a b) r∧Limbs r (val BB a+val BB b)∧r.length≤a.length+b.length+1:=by
 unfold nat_N_Add.f
 by_cases h:(a.length:Int)<(b.length:Int)
 · obtain ⟨r,q1,q2,q3⟩:=add_j0 b a (by omega) hm h2 h1 t2
   refine ⟨r,Ev.yes h q1,?_,by omega⟩
   rw [Int.add_comm]; exact q2
 · obtain ⟨r,q1,q2,q3⟩:=add_j0 a b (by omega) hn h1 h2 t1
   exact ⟨r,Ev.no h q1,q2,by omega⟩
end
section
theorem set_take (l:List Int) (j:Nat) (v:Int) (h:j<l.length):(l.set j v).take (j+1)=l.take j ++ [v]:=by
 rw [take_rd _ j (by simpa using h),rd_eq _ j (by simpa using h),List.getElem_set_self,List.take_set_of_le (Nat.le_refl _)]
theorem sub_l0 (a b:List Int) (hlen:b.length≤a.length) (hn:a.length≤100000000000) (h1:ok BB a) (h2:ok BB b) (hge:val BB b≤val BB a) (d:Nat) :
 ∀ (j:Nat) (out:List Int) (c:Int),j+d=a.length→out.length=a.length→ok BB (out.take j)→0≤c→c≤1→val BB (out.take j) - BB ^ j * c=val BB (a.take j) - val BB (b.take j) →
   ∃ r,Ev (fun k=>nat_N_Sub.l0 k a b out c (a.length:Int) (j:Int)) r∧Limbs r (val BB a - val BB b)∧r.length≤a.length:=by
 induction d with
 | zero =>
   intro j out c hj ho hok hc0 hc1 hv
   rw [show a.take j=a from List.take_of_length_le (by omega),show b.take j=b from List.take_of_length_le (by omega),show out.take j=out from List.take_of_length_le (by omega)] at hv
   rw [show out.take j=out from List.take_of_length_le (by omega)] at hok
   have hlt:=val_lt (b:=BB) (by decide) hok
   rw [ho,show a.length=j by omega] at hlt
   have hc:c=0:=by
    by_cases h:c=0
    · exact h
    · rw [show c=1 by omega,Int.mul_one] at hv
      omega
   rw [hc,Int.mul_zero,Int.sub_zero] at hv
   obtain ⟨r,q1,q2,q3,q4,q5⟩:=trimf_ev out (by omega) hok
   refine ⟨r,?_,⟨by rw [q2,hv],q3,q4⟩,by omega⟩
   refine Ev.step (fun k=>nat_N_Sub.l0.eq_2 _ _ _ _ _ _ k) ?_
   exact Ev.no (by omega) (Ev.bind1 q1 (Ev.now _))
 | succ d ih =>
   intro j out c hj ho hok hc0 hc1 hv
   have hx:=ok_rd h1 j (by omega)
   have hB:BB=1000000000:=rfl
   rw [hB] at hx
   have ew:∀ z:Int, -5000000000≤z→z≤5000000000→wrap64 z=z:=fun z _ _=>w64 (by omega) (by omega)
   have go:∀ (v c' : Int),0≤v→v<1000000000→0≤c' → c' ≤ 1→val BB (out.take j)+BB ^ j * (v - 1000000000 * c')=val BB (a.take (j+1)) - val BB (b.take (j+1)) →
        ∃ r,Ev (fun k=>nat_N_Sub.l0 k a b (out.set j v) c' (a.length:Int) (wrap64 ((j:Int)+1))) r∧Limbs r (val BB a - val BB b)∧r.length≤a.length:=by
    intro v c' hv0 hv1 hc'0 hc'1 hs
    rw [w64s (by omega)]
    refine ih (j+1) _ _ (by omega) (by simp; omega) ?_ hc'0 hc'1 ?_
    · rw [set_take _ _ _ (by omega),ok_append,ok_cons]
      exact ⟨hok,⟨hv0,by show _<(1000000000:Int); omega⟩,ok_nil _⟩
    · rw [set_take _ _ _ (by omega),val_snoc,List.length_take,Nat.min_eq_left (by omega),← hs,Int.pow_succ,Int.mul_assoc,Int.add_sub_assoc,← Int.mul_sub]
   by_cases hb:j<b.length
   · have hy:=ok_rd h2 j hb
     rw [hB] at hy
     have e1:wrap64 (wrap64 (wrap64 (rd a (j:Int)) - c) - wrap64 (rd b (j:Int)))=rd a (j:Int) - c - rd b (j:Int):=by
        rw [ew (rd a (j:Int)) (by omega) (by omega),ew (rd b (j:Int)) (by omega) (by omega),ew (rd a (j:Int) - c) (by omega) (by omega),ew _ (by omega) (by omega)]
     have e3:wrap64 (rd a (j:Int) - c - rd b (j:Int)+1000000000)=rd a (j:Int) - c - rd b (j:Int)+1000000000:=ew _ (by omega) (by omega)
     by_cases hneg:rd a (j:Int) - c - rd b (j:Int)<0
     · obtain ⟨r,q1,q2,q3⟩:=go ((rd a (j:Int) - c - rd b (j:Int)+1000000000) % 4294967296) 1 (by omega) (by omega) (by omega) (by omega) (by
        rw [show (rd a (j:Int) - c - rd b (j:Int)+1000000000) % 4294967296 - 1000000000 * 1=rd a (j:Int) - c - rd b (j:Int) by omega,val_take a j (by omega),val_take b j hb,Int.mul_sub,Int.mul_sub]; omega)
       refine ⟨r,?_,q2,q3⟩
       refine Ev.step (fun k=>nat_N_Sub.l0.eq_2 _ _ _ _ _ _ k) ?_
       rw [e1,e3]
       refine Ev.yes (by omega) (Ev.yes (by omega) (Ev.yes (by omega) (Ev.yes (by omega) (Ev.yes hneg (Ev.yes (by omega) ?_)))))
       rw [Int.toNat_natCast]
       exact q1
     · obtain ⟨r,q1,q2,q3⟩:=go ((rd a (j:Int) - c - rd b (j:Int)) % 4294967296) 0 (by omega) (by omega) (by omega) (by omega) (by
        rw [show (rd a (j:Int) - c - rd b (j:Int)) % 4294967296 - 1000000000 * 0=rd a (j:Int) - c - rd b (j:Int) by omega,val_take a j (by omega),val_take b j hb,Int.mul_sub,Int.mul_sub]; omega)
       refine ⟨r,?_,q2,q3⟩
       refine Ev.step (fun k=>nat_N_Sub.l0.eq_2 _ _ _ _ _ _ k) ?_
       rw [e1]
       refine Ev.yes (by omega) (Ev.yes (by omega) (Ev.yes (by omega) (Ev.yes (by omega) (Ev.no hneg (Ev.yes (by omega) ?_)))))
       rw [Int.toNat_natCast]
       exact q1
   · have e1:wrap64 (wrap64 (rd a (j:Int)) - c)=rd a (j:Int) - c:=by
        rw [ew (rd a (j:Int)) (by omega) (by omega),ew _ (by omega) (by omega)]
     have e3:wrap64 (rd a (j:Int) - c+1000000000)=rd a (j:Int) - c+1000000000:=ew _ (by omega) (by omega)
     by_cases hneg:rd a (j:Int) - c<0
     · obtain ⟨r,q1,q2,q3⟩:=go ((rd a (j:Int) - c+1000000000) % 4294967296) 1 (by omega) (by omega) (by omega) (by omega) (by
        rw [show (rd a (j:Int) - c+1000000000) % 4294967296 - 1000000000 * 1=rd a (j:Int) - c by omega,val_take a j (by omega),take_len_val b j (by omega),Int.mul_sub]; omega)
       refine ⟨r,?_,q2,q3⟩
       refine Ev.step (fun k=>nat_N_Sub.l0.eq_2 _ _ _ _ _ _ k) ?_
       rw [e1,e3]
       refine Ev.yes (by omega) (Ev.yes (by omega) (Ev.yes (by omega) (Ev.no (by omega) (Ev.yes hneg (Ev.yes (by omega) ?_)))))
       rw [Int.toNat_natCast]
       exact q1
     · obtain ⟨r,q1,q2,q3⟩:=go ((rd a (j:Int) - c) % 4294967296) 0 (by omega) (by omega) (by omega) (by omega) (by
        rw [show (rd a (j:Int) - c) % 4294967296 - 1000000000 * 0=rd a (j:Int) - c by omega,val_take a j (by omega),take_len_val b j (by omega),Int.mul_sub]; omega)
       refine ⟨r,?_,q2,q3⟩
       refine Ev.step (fun k=>nat_N_Sub.l0.eq_2 _ _ _ _ _ _ k) ?_
       rw [e1]
       refine Ev.yes (by omega) (Ev.yes (by omega) (Ev.yes (by omega) (Ev.no (by omega) (Ev.no hneg (Ev.yes (by omega) ?_)))))
       rw [Int.toNat_natCast]
       exact q1
theorem sub_ev {a b:List Int} (hn:a.length≤100000000000) (h1:ok BB a) (h2:ok BB b) (t2:noLead b) (hge:val BB b≤val BB a) :
 ∃ r,Ev (fun k=>nat_N_Sub.f k a b) r∧Limbs r (val BB a - val BB b)∧r.length≤a.length:=by
 have hlen:=len_le_of_val (b:=BB) (by decide) h2 t2 h1 hge
 obtain ⟨r,q1,q2,q3⟩:=sub_l0 a b hlen hn h1 h2 hge a.length 0 (List.replicate a.length 0) 0 (by omega) (by simp) (ok_nil _) (by omega) (by omega) (by simp [val])
 refine ⟨r,?_,q2,q3⟩
 unfold nat_N_Sub.f
 exact Ev.yes (by omega) (Ev.yes (by omega) (by rw [Int.toNat_natCast]; exact q1))
end
section
theorem digs_cons (c:Int) (l:List Int):digs (c :: l)=digs l ++ [c - 48]:=by simp [digs]
def Canon (s:ByteArray) (v:Int):Prop:=asc (bytesOf s)∧val 10 (digs (bytesOf s))=v∧0<s.size∧(1<s.size→rd (bytesOf s) 0≠48)
theorem digs_noLead {l:List Int} (h:rd l 0≠48):noLead (digs l):=by
 cases l with
 | nil=>exact noLead_nil
 | cons c r =>
   intro hne
   have:(digs (c :: r)).getLast hne=c - 48:=by simp [digs_cons]
   rw [this]
   simp [rd] at h
   omega
theorem bytes_inj {s t:ByteArray} (h:bytesOf s=bytesOf t):s.toList=t.toList:=by
 rw [ByteArray.toList_eq,ByteArray.toList_eq]
 unfold bytesOf at h
 exact (List.map_inj_right (fun a b e=>by
  have:a.toNat=b.toNat:=by omega
  exact UInt8.toNat_inj.1 this)).1 h
theorem digs_inj {l r:List Int} (h:digs l=digs r):l=r:=by
 unfold digs at h
 have h1:=List.reverse_inj.1 h
 exact (List.map_inj_right (fun a b e=>by omega)).1 h1
theorem canon_big {s:ByteArray} {v:Int} (h:Canon s v) (h1:1<s.size):10≤v:=by
 obtain ⟨ha,hv,h0,hl⟩:=h
 have hne:digs (bytesOf s)≠[]:=fun z=>by
  have:=congrArg List.length z
  rw [digs_length,bytesOf_length,List.length_nil] at this
  omega
 have:=val_ge (b:=10) (by decide) (digs_ok ha) (digs_noLead (hl h1)) hne
 rw [digs_length,bytesOf_length,hv] at this
 have h2:(10:Int) ^ 1≤10 ^ (s.size - 1):=pow_mono (by decide) (by omega)
 rw [Int.pow_one] at h2
 omega
theorem canon_small {s:ByteArray} {v:Int} (h:Canon s v) (h1:¬ 1<s.size):v<10:=by
 obtain ⟨ha,hv,h0,hl⟩:=h
 have:=val_lt (b:=10) (by decide) (digs_ok ha)
 rw [digs_length,bytesOf_length,hv,show s.size=1 by omega,Int.pow_one] at this
 exact this
theorem canon_inj {s t:ByteArray} {v:Int} (h:Canon s v) (h' : Canon t v):s.toList=t.toList:=by
 refine bytes_inj (digs_inj ?_)
 by_cases h1:1<s.size
 · have h2:1<t.size:=by
    by_cases h2:1<t.size
    · exact h2
    · have:=canon_big h h1; have:=canon_small h' h2; omega
   exact val_inj (b:=10) (by decide) (digs_ok h.1) (digs_noLead (h.2.2.2 h1)) (digs_ok h'.1) (digs_noLead (h'.2.2.2 h2)) (by rw [h.2.1,h'.2.1])
 · have h2:¬ 1<t.size:=fun h2=>by
    have:=canon_big h' h2; have:=canon_small h h1; omega
   have a1:=h.2.2.1
   have a2:=h'.2.2.1
   exact val_inj_len (b:=10) (by decide) (digs_ok h.1) (digs_ok h'.1) (by rw [digs_length,digs_length,bytesOf_length,bytesOf_length]; omega) (by rw [h.2.1,h'.2.1])
theorem bytesOf_strOfNums {l:List Int} (h:asc l):bytesOf (strOfNums l)=l:=by
 unfold bytesOf
 rw [Go.strOfNums_data,List.map_map]
 conv=>rhs; rw [← List.map_id l]
 refine List.map_congr_left (fun c hc=>?_)
 have:=h c hc
 show ((UInt8.ofNat c.toNat).toNat:Int)=c
 rw [UInt8.toNat_ofNat']
 omega
theorem trimb_ev (n:Nat):∀ s:ByteArray,s.size=n→n≤10000000000000→asc (bytesOf s)→0<val 10 (digs (bytesOf s)) →
 ∃ t,Ev (fun k=>strings_trimLeftByte.l0 k s 48) t∧Canon t (val 10 (digs (bytesOf s)))∧t.size≤s.size:=by
 induction n with
 | zero =>
   intro s hs _ ha hv
   have:bytesOf s=[]:=List.eq_nil_of_length_eq_zero (by rw [bytesOf_length,hs])
   rw [this] at hv
   simp [digs,val] at hv
 | succ n ih =>
   intro s hs hn ha hv
   have hl:=bytesOf_length s
   have hd:=drop_rd (bytesOf s) 0 (by omega)
   rw [List.drop_zero] at hd
   have hb:bt s 0=rd (bytesOf s) 0:=(rd_bytesOf s 0).symm
   by_cases h48:rd (bytesOf s) 0=48
   · have he:bytesOf (s.extract 1 s.size)=(bytesOf s).drop 1:=by
        rw [bytesOf_extract,List.take_of_length_le (by rw [List.length_drop,hl]; exact Nat.le_refl _)]
     have hsz:(s.extract 1 s.size).size=n:=by
        have:=bytesOf_length (s.extract 1 s.size)
        rw [he,List.length_drop,hl] at this
        omega
     have hval:val 10 (digs (bytesOf s))=val 10 (digs (bytesOf (s.extract 1 s.size))):=by
        conv=>lhs; rw [hd]
        rw [he,show ((0:Nat):Int)=0 from rfl,h48,digs_cons,val_snoc]
        simp
     obtain ⟨t,q1,q2,q3⟩:=ih (s.extract 1 s.size) hsz (by omega) (by rw [he]; exact fun c hc=>ha c (List.mem_of_mem_drop hc)) (by rw [← hval]; exact hv)
     refine ⟨t,?_,by rw [hval]; exact q2,by omega⟩
     refine Ev.step (fun k=>strings_trimLeftByte.l0.eq_2 _ _ k) ?_
     exact Ev.yes (by omega) (Ev.yes (by omega) (Ev.yes (by rw [hb]; exact h48) (Ev.yes (by omega) q1)))
   · refine ⟨s,?_,⟨ha,rfl,by omega,fun _=>h48⟩,Nat.le_refl _⟩
     refine Ev.step (fun k=>strings_trimLeftByte.l0.eq_2 _ _ k) ?_
     exact Ev.yes (by omega) (Ev.yes (by omega) (Ev.no (by rw [hb]; exact h48) (Ev.now _)))
theorem trimleft_ev (s:ByteArray) (hn:s.size≤10000000000000) (ha:asc (bytesOf s)) (hv:0<val 10 (digs (bytesOf s))) :
 ∃ t,Ev (fun k=>strings_TrimLeft.f k s (⟨#[48]⟩:ByteArray)) t∧Canon t (val 10 (digs (bytesOf s)))∧t.size≤s.size:=by
 obtain ⟨t,q1,q2,q3⟩:=trimb_ev s.size s rfl hn ha hv
 refine ⟨t,?_,q2,q3⟩
 have hne:¬ s.toList=([]:List UInt8):=fun z=>by
  have h0:=(list_nil s).1 z
  have:bytesOf s=[]:=List.eq_nil_of_length_eq_zero (by rw [bytesOf_length,h0])
  rw [this] at hv
  simp [digs,val] at hv
 unfold strings_TrimLeft.f
 refine Ev.no hne ?_
 rw [show ((⟨#[48]⟩:ByteArray).toList == ([]:List UInt8))=false by decide +kernel]
 refine Ev.step (fun k=>strings_TrimLeft.j0.eq_2 _ _ _ k) ?_
 refine Ev.no (by simp) (Ev.yes (by decide +kernel) (Ev.yes (by decide +kernel) ?_))
 rw [show decide (bt (⟨#[48]⟩:ByteArray) 0<128)=true by decide +kernel]
 refine Ev.step (fun k=>strings_TrimLeft.j1.eq_2 _ _ _ k) ?_
 refine Ev.yes rfl (Ev.yes (by decide +kernel) ?_)
 rw [show bt (⟨#[48]⟩:ByteArray) 0=48 by decide +kernel]
 exact Ev.bind1 q1 (Ev.now _)
theorem set_drop (l:List Int) (j:Nat) (v:Int) (h:j<l.length):(l.set j v).drop j=v :: l.drop (j+1):=by
 rw [drop_rd _ j (by simpa using h),rd_eq _ j (by simpa using h),List.getElem_set_self,List.drop_set_of_lt (by omega)]
theorem asc_cons {c:Int} {l:List Int} (h:48≤c∧c≤57) (h' : asc l):asc (c :: l):=by
 intro x hx
 rcases List.mem_cons.1 hx with rfl | hx
 · exact h
 · exact h' x hx
theorem asc_append {l r:List Int} (h:asc l) (h' : asc r):asc (l ++ r):=by
 intro x hx
 rcases List.mem_append.1 hx with hx | hx
 · exact h x hx
 · exact h' x hx
theorem text_l1 (x0 x3:List Int) (x4:Int) (h3:x3.length≤1000000000000) (w:Int) (hw1:w<1000000000) {r:ByteArray}
 (next:∀ p:List Int,p.length=9→asc p→val 10 (digs p)=w→Ev (fun k=>nat_N_Text.l0 k x0 (x3 ++ p) (wrap64 (x4 - 1))) r) (j:Nat) :
 ∀ (p:List Int) (x:Int),j≤9→p.length=9→0≤x→x<1000000000→asc (p.drop j)→val 10 (digs (p.drop j))+10 ^ (9 - j) * x=w →
   Ev (fun k=>nat_N_Text.l1 k x0 x3 x4 x p ((j:Int) - 1)) r:=by
 induction j with
 | zero =>
   intro p x hj hp hx0 hx1 ha hv
   rw [List.drop_zero] at ha hv
   have h0:=val_nonneg (b:=10) (by decide) (digs_ok ha)
   have hp9:(10:Int) ^ (9 - 0)=1000000000:=by decide
   rw [hp9] at hv
   refine Ev.step (fun k=>nat_N_Text.l1.eq_2 _ _ _ _ _ _ k) ?_
   exact Ev.no (by omega) (Ev.yes (by omega) (next p hp ha (by omega)))
 | succ j ih =>
   intro p x hj hp hx0 hx1 ha hv
   rw [show ((j+1:Nat):Int) - 1=(j:Int) by omega]
   refine Ev.step (fun k=>nat_N_Text.l1.eq_2 _ _ _ _ _ _ k) ?_
   refine Ev.yes (by omega) (Ev.yes (by omega) (Ev.yes (by omega) ?_))
   have e1:Int.tdiv x 10 % 4294967296=x / 10:=by rw [Int.tdiv_eq_ediv_of_nonneg hx0]; omega
   have e2:(48+Int.tmod x 10) % 256=48+x % 10:=by rw [Int.tmod_eq_emod_of_nonneg hx0]; omega
   rw [e1,e2,Int.toNat_natCast,w64 (by omega) (by omega)]
   refine ih _ _ (by omega) (by simpa using hp) (by omega) (by omega) ?_ ?_
   · rw [set_drop _ _ _ (by omega)]
     exact asc_cons (by omega) ha
   · rw [set_drop _ _ _ (by omega),digs_cons,val_snoc,digs_length,List.length_drop,hp,← hv,Int.add_assoc,show 9 - (j+1)=8 - j by omega,show 9 - j=(8 - j)+1 by omega,Int.pow_succ,Int.mul_assoc,← Int.mul_add]
     congr 2
     omega
theorem text_l0 (l:List Int) (hl:l.length≤10000000000) (ho:ok BB l) (hv:0<val BB l) (n:Nat) :
 ∀ x3:List Int,n≤l.length→asc x3→x3.length=9 * (l.length - n)→val 10 (digs x3)=val BB (l.drop n) →
   ∃ t,Ev (fun k=>nat_N_Text.l0 k l x3 ((n:Int) - 1)) t∧Canon t (val BB l)∧t.size≤9 * l.length:=by
 induction n with
 | zero =>
   intro x3 hn ha hx hv3
   rw [List.drop_zero] at hv3
   have hb:=bytesOf_strOfNums ha
   have hsz:(strOfNums x3).size=x3.length:=by rw [← bytesOf_length,hb]
   obtain ⟨t,q1,q2,q3⟩:=trimleft_ev (strOfNums x3) (by omega) (by rw [hb]; exact ha) (by rw [hb,hv3]; exact hv)
   rw [hb,hv3] at q2
   refine ⟨t,?_,q2,by omega⟩
   refine Ev.step (fun k=>nat_N_Text.l0.eq_2 _ _ _ k) ?_
   exact Ev.no (by omega) (Ev.bind1 q1 (Ev.now _))
 | succ n ih =>
   intro x3 hn ha hx hv3
   have hr:=ok_rd ho n (by omega)
   have hr1:rd l (n:Int)<1000000000:=hr.2
   -- the part of this limb: first its digits exist (the loop tells them), so the rest is stated for every part
   have hpart:∃ p:List Int,p.length=9∧asc p∧val 10 (digs p)=rd l (n:Int):=by
    have go:∀ (m:Nat) (v:Int),0≤v→v<10 ^ m→∃ p:List Int,p.length=m∧asc p∧val 10 (digs p)=v:=by
        intro m
        induction m with
        | zero=>intro v h0 h1; exact ⟨[],rfl,fun c hc=>by simp at hc,by simp [digs,val]; simp at h1; omega⟩
        | succ m im =>
          intro v h0 h1
          rw [Int.pow_succ] at h1
          obtain ⟨p,p1,p2,p3⟩:=im (v / 10) (by omega) (by omega)
          refine ⟨p ++ [48+v % 10],by simp; omega,asc_append p2 (asc_cons (by omega) (fun c hc=>by simp at hc)),?_⟩
          rw [digs_snoc]
          simp only [val]
          omega
    exact go 9 _ hr.1 (by rw [show (10:Int) ^ 9=1000000000 by decide]; exact hr1)
   obtain ⟨p,p1,p2,p3⟩:=hpart
   obtain ⟨t,q1,q2,q3⟩:=ih (x3 ++ p) (by omega) (asc_append ha p2) (by simp; omega) (by
    rw [digs_append,val_append,digs_length,p1,p3,hv3,drop_rd l n (by omega),show (10:Int) ^ 9=BB by decide]
    rfl)
   refine ⟨t,?_,q2,q3⟩
   rw [show ((n+1:Nat):Int) - 1=(n:Int) by omega]
   refine Ev.step (fun k=>nat_N_Text.l0.eq_2 _ _ _ k) ?_
   refine Ev.yes (by omega) (Ev.yes (by omega) (Ev.yes (by omega) (Ev.yes (by omega) ?_)))
   refine text_l1 l x3 (n:Int) (by omega) (rd l (n:Int)) hr1 ?_ 9 (List.replicate 9 0) (rd l (n:Int)) (by omega) (by simp) hr.1 hr1 ?_ ?_
   · intro p' p1' p2' p3'
     have:p' = p:=digs_inj (val_inj_len (b:=10) (by decide) (digs_ok p2') (digs_ok p2) (by rw [digs_length,digs_length]; omega) (by rw [p3,p3']))
     rw [this,w64 (by omega) (by omega)]
     exact q1
   · intro c hc
     simp at hc
   · simp [digs,val]
theorem make61 (m:Int) (h0:0≤m) (h1:m≤10000000000000):gp_make0_61.f m=some []:=by
 unfold gp_make0_61.f
 rw [if_pos ⟨h0,by omega⟩]
theorem text_ev {l:List Int} {v:Int} (h:Limbs l v) (hl:l.length≤10000000000):∃ t,Ev (fun k=>nat_N_Text.f k l) t∧Canon t v∧t.size≤9 * l.length+1:=by
 obtain ⟨hv,ho,ht⟩:=h
 unfold nat_N_Text.f
 by_cases h0:(l.length:Int)=0
 · have hnil:l=[]:=List.eq_nil_of_length_eq_zero (by omega)
   refine ⟨⟨#[48]⟩,Ev.yes h0 (Ev.now _),?_,by show 1≤_; omega⟩
   subst hnil
   rw [← hv]
   exact ⟨fun c hc=>by
    have:bytesOf (⟨#[48]⟩:ByteArray)=[48]:=by decide +kernel
    rw [this] at hc; simp at hc; omega,by decide +kernel,by decide +kernel,fun h=>absurd h (by decide +kernel)⟩
 · have hne:l≠[]:=fun z=>h0 (by rw [z]; rfl)
   have hge:=val_ge (b:=BB) (by decide) ho ht hne
   have hp:0<BB ^ (l.length - 1):=Int.pow_pos (by decide)
   obtain ⟨t,q1,q2,q3⟩:=text_l0 l hl ho (by omega) l.length [] (Nat.le_refl _) (fun c hc=>by simp at hc) (by simp) (by rw [List.drop_length]; simp [digs,val])
   rw [hv] at q2
   refine ⟨t,Ev.no h0 ?_,q2,by omega⟩
   rw [w64 (by omega) (by omega),w64 (by omega) (by omega)]
   exact Ev.opt_bind (make61 _ (by omega) (by omega)) q1
end
section
theorem rd_digs (l:List Int) (k:Nat) (h:k<l.length):rd (digs l) (k:Int)=rd l ((l.length - 1 - k:Nat):Int) - 48:=by
 rw [rd_eq _ k (by rw [digs_length]; exact h),rd_eq _ _ (by omega)]
 unfold digs
 rw [List.getElem_reverse,List.getElem_map]
 simp
theorem rd_out (l:List Int) (k:Nat) (h:l.length≤k):rd l (k:Int)=0:=by
 unfold rd
 rw [Int.toNat_natCast,List.getD_eq_getElem?_getD,List.getElem?_eq_none h]
 rfl
theorem digit_eq (s:ByteArray) (ha:asc (bytesOf s)) (hs:s.size≤100000000000) (k:Nat) (hk:k≤100000000000000):gamehallref2_digit.f s (k:Int)=some (rd (digs (bytesOf s)) (k:Int)):=by
 have hl:=bytesOf_length s
 unfold gamehallref2_digit.f
 by_cases h:(k:Int)<(s.size:Int)
 · rw [if_pos h,w64 (i:=(s.size:Int) - 1) (by omega) (by omega),w64 (by omega) (by omega),if_pos (by omega),if_pos (by omega),rd_digs _ _ (by omega),← rd_bytesOf,
    show (s.size:Int) - 1 - (k:Int)=(((bytesOf s).length - 1 - k:Nat):Int) by omega]
   have:=ha _ (mem_rd (bytesOf s) ((bytesOf s).length - 1 - k) (by omega))
   congr 1
   omega
 · rw [if_neg h,rd_out _ _ (by rw [digs_length,hl]; omega)]
theorem strip_ev (n:Nat):∀ s:ByteArray,s.size=n+1→n≤10000000000000→asc (bytesOf s) →
 ∃ t,Ev (fun k=>gamehallref2_strip.l0 k s) t∧Canon t (val 10 (digs (bytesOf s)))∧t.size≤s.size:=by
 induction n with
 | zero =>
   intro s hs _ ha
   refine ⟨s,?_,⟨ha,rfl,by omega,fun h=>by omega⟩,Nat.le_refl _⟩
   refine Ev.step (fun k=>gamehallref2_strip.l0.eq_2 _ k) ?_
   exact Ev.no (by omega) (Ev.now _)
 | succ n ih =>
   intro s hs hn ha
   have hl:=bytesOf_length s
   have hd:=drop_rd (bytesOf s) 0 (by omega)
   rw [List.drop_zero] at hd
   have hb:bt s 0=rd (bytesOf s) 0:=(rd_bytesOf s 0).symm
   by_cases h48:rd (bytesOf s) 0=48
   · have he:bytesOf (s.extract 1 s.size)=(bytesOf s).drop 1:=by
        rw [bytesOf_extract,List.take_of_length_le (by rw [List.length_drop,hl]; exact Nat.le_refl _)]
     have hsz:(s.extract 1 s.size).size=n+1:=by
        have:=bytesOf_length (s.extract 1 s.size)
        rw [he,List.length_drop,hl] at this
        omega
     have hval:val 10 (digs (bytesOf s))=val 10 (digs (bytesOf (s.extract 1 s.size))):=by
        conv=>lhs; rw [hd]
        rw [he,show ((0:Nat):Int)=0 from rfl,h48,digs_cons,val_snoc]
        simp
     obtain ⟨t,q1,q2,q3⟩:=ih (s.extract 1 s.size) hsz (by omega) (by rw [he]; exact fun c hc=>ha c (List.mem_of_mem_drop hc))
     refine ⟨t,?_,by rw [hval]; exact q2,by omega⟩
     refine Ev.step (fun k=>gamehallref2_strip.l0.eq_2 _ k) ?_
     exact Ev.yes (by omega) (Ev.yes (by omega) (Ev.yes (by rw [hb]; exact h48) (Ev.yes (by omega) q1)))
   · refine ⟨s,?_,⟨ha,rfl,by omega,fun _=>h48⟩,Nat.le_refl _⟩
     refine Ev.step (fun k=>gamehallref2_strip.l0.eq_2 _ k) ?_
     exact Ev.yes (by omega) (Ev.yes (by omega) (Ev.no (by rw [hb]; exact h48) (Ev.now _)))
theorem stripf_ev (s:ByteArray) (h0:0<s.size) (hn:s.size≤10000000000000) (ha:asc (bytesOf s)) :
 ∃ t,Ev (fun k=>gamehallref2_strip.f k s) t∧Canon t (val 10 (digs (bytesOf s)))∧t.size≤s.size:=strip_ev (s.size - 1) s (by omega) (by omega) ha
theorem bytesOf_append (a b:ByteArray):bytesOf (a ++ b)=bytesOf a ++ bytesOf b:=by
 unfold bytesOf
 rw [show (a ++ b).data=a.data ++ b.data from ByteArray.data_append,Array.toList_append,List.map_append]
theorem rtext_l0 (l:List Int) (hl:l.length≤100000000000) (ho:ok 10 l) (d:Nat) :
 ∀ (j:Nat) (x:List Int),j+d=l.length→x.length=l.length→asc (x.drop (l.length - j))→digs (x.drop (l.length - j))=l.take j →
   ∃ t,Ev (fun k=>gamehallref2_text.l0 k l x l (l.length:Int) (j:Int)) t∧Canon t (val 10 l)∧t.size≤l.length+1:=by
 induction d with
 | zero =>
   intro j x hj hx ha hd
   rw [show l.length - j=0 by omega,List.drop_zero] at ha hd
   rw [show l.take j=l from List.take_of_length_le (by omega)] at hd
   have hb:=bytesOf_strOfNums ha
   have hz:bytesOf (⟨#[48]⟩:ByteArray)=[48]:=by decide +kernel
   have hbb:bytesOf ((⟨#[48]⟩:ByteArray) ++ strOfNums x)=48 :: x:=by rw [bytesOf_append,hz,hb]; rfl
   have hsz:((⟨#[48]⟩:ByteArray) ++ strOfNums x).size=l.length+1:=by rw [← bytesOf_length,hbb,List.length_cons,hx]
   have hsz' : (strOfNums x).size=l.length:=by rw [← bytesOf_length,hb,hx]
   obtain ⟨t,q1,q2,q3⟩:=stripf_ev ((⟨#[48]⟩:ByteArray) ++ strOfNums x) (by omega) (by omega) (by rw [hbb]; exact asc_cons (by omega) ha)
   have hv:val 10 (digs (bytesOf ((⟨#[48]⟩:ByteArray) ++ strOfNums x)))=val 10 l:=by
    rw [hbb,digs_cons,hd,val_snoc]; simp
   rw [hv] at q2
   refine ⟨t,?_,q2,by omega⟩
   refine Ev.step (fun k=>gamehallref2_text.l0.eq_2 _ _ _ _ _ k) ?_
   exact Ev.no (by omega) (Ev.yes (by omega) (Ev.bind1 q1 (Ev.now _)))
 | succ d ih =>
   intro j x hj hx ha hd
   have hr:=ok_rd ho j (by omega)
   obtain ⟨i,hi⟩:∃ i:Nat,i=l.length - 1 - j:=⟨_,rfl⟩
   have e1:wrap64 (wrap64 ((l.length:Int) - 1) - (j:Int))=(i:Int):=by rw [w64 (i:=(l.length:Int) - 1) (by omega) (by omega),w64 (by omega) (by omega)]; omega
   have e2:wrap64 (48+rd l (j:Int)) % 256=48+rd l (j:Int):=by rw [w64 (by omega) (by omega)]; omega
   have hdrop:(x.set i (48+rd l (j:Int))).drop (l.length - (j+1))=(48+rd l (j:Int)) :: x.drop (l.length - j):=by
    rw [show l.length - (j+1)=i by omega,set_drop _ _ _ (by omega),show i+1=l.length - j by omega]
   obtain ⟨t,q1,q2,q3⟩:=ih (j+1) (x.set i (48+rd l (j:Int))) (by omega) (by simpa using hx)
    (by rw [hdrop]; exact asc_cons (by omega) ha) (by
        rw [hdrop,digs_cons,hd,take_rd l j (by omega)]
        congr 2
        omega)
   refine ⟨t,?_,q2,q3⟩
   refine Ev.step (fun k=>gamehallref2_text.l0.eq_2 _ _ _ _ _ k) ?_
   rw [e1,e2,w64s (by omega),Int.toNat_natCast]
   exact Ev.yes (by omega) (Ev.yes (by omega) (Ev.yes (by omega) (Ev.yes (by omega) (Ev.yes (by omega) q1))))
theorem rtext_ev (l:List Int) (hl:l.length≤100000000000) (ho:ok 10 l):∃ t,Ev (fun k=>gamehallref2_text.f k l) t∧Canon t (val 10 l)∧t.size≤l.length+1:=by
 obtain ⟨t,q1,q2,q3⟩:=rtext_l0 l hl ho l.length 0 (List.replicate l.length 0) (by omega) (by simp) (by
  rw [Nat.sub_zero,List.drop_of_length_le (by simp)]; exact fun c hc=>by simp at hc) (by
  rw [Nat.sub_zero,List.drop_of_length_le (by simp)]; rfl)
 refine ⟨t,?_,q2,q3⟩
 unfold gamehallref2_text.f
 exact Ev.yes (by omega) (Ev.yes (by omega) (by rw [Int.toNat_natCast]; exact q1))
theorem val_take' {b:Int} (l:List Int) (j:Nat):val b (l.take (j+1))=val b (l.take j)+b ^ j * rd l (j:Int):=by
 by_cases h:j<l.length
 · exact val_take l j h
 · rw [take_len_val l j (by omega),rd_out l j (by omega)]; simp
theorem ok_rd' {b:Int} {l:List Int} (hb:0<b) (h:ok b l) (j:Nat):0≤rd l (j:Int)∧rd l (j:Int)<b:=by
 by_cases hj:j<l.length
 · exact ok_rd h j hj
 · rw [rd_out l j (by omega)]; omega
theorem radd_l0 (a b:ByteArray) (ha:asc (bytesOf a)) (hb:asc (bytesOf b)) (hsa:a.size≤10000000000) (hsb:b.size≤10000000000) (d:Nat) :
 ∀ (j:Nat) (out:List Int) (c:Int),j+d=max a.size b.size+1→out.length=j→ok 10 out→0≤c→c≤1→(d=0→c=0) →
   val 10 out+10 ^ j * c=val 10 ((digs (bytesOf a)).take j)+val 10 ((digs (bytesOf b)).take j) →
   ∃ t,Ev (fun k=>gamehallref2_NatAdd.l0 k a b out c (j:Int)) t∧Canon t (val 10 (digs (bytesOf a))+val 10 (digs (bytesOf b)))∧t.size≤10000000010:=by
 have la:(digs (bytesOf a)).length=a.size:=by rw [digs_length,bytesOf_length]
 have lb:(digs (bytesOf b)).length=b.size:=by rw [digs_length,bytesOf_length]
 have fin:∀ (j:Nat) (out:List Int),a.size≤j→b.size≤j→j≤10000000001→out.length=j→ok 10 out→val 10 out+10 ^ j * 0=val 10 ((digs (bytesOf a)).take j)+val 10 ((digs (bytesOf b)).take j) →
  ∃ t,Ev (fun k=>gamehallref2_NatAdd.l0 k a b out 0 (j:Int)) t∧Canon t (val 10 (digs (bytesOf a))+val 10 (digs (bytesOf b)))∧t.size≤10000000010:=by
  intro j out h1 h2 h3 ho hok hv
  rw [List.take_of_length_le (by omega),List.take_of_length_le (by omega),Int.mul_zero,Int.add_zero] at hv
  obtain ⟨t,q1,q2,q3⟩:=rtext_ev out (by omega) hok
  rw [hv] at q2
  refine ⟨t,?_,q2,by omega⟩
  refine Ev.step (fun k=>gamehallref2_NatAdd.l0.eq_2 _ _ _ _ _ k) ?_
  refine Ev.no (by omega) (Ev.no (by omega) ?_)
  refine Ev.step (fun k=>gamehallref2_NatAdd.j1.eq_2 _ _ _ _ _ _ k) ?_
  exact Ev.no (by simp) (Ev.bind1 q1 (Ev.now _))
 induction d with
 | zero =>
   intro j out c hj ho hok hc0 hc1 hz hv
   obtain rfl:=hz rfl
   exact fin j out (by omega) (by omega) (by omega) ho hok hv
 | succ d ih =>
   intro j out c hj ho hok hc0 hc1 hz hv
   have hx:=ok_rd' (b:=10) (by decide) (digs_ok ha) j
   have hy:=ok_rd' (b:=10) (by decide) (digs_ok hb) j
   obtain ⟨x,hxe⟩:∃ x,x=rd (digs (bytesOf a)) (j:Int):=⟨_,rfl⟩
   obtain ⟨y,hye⟩:∃ y,y=rd (digs (bytesOf b)) (j:Int):=⟨_,rfl⟩
   rw [← hxe] at hx
   rw [← hye] at hy
   have onward:∃ t,Ev (fun k=>gamehallref2_NatAdd.j1 k a b out c (j:Int) true) t∧Canon t (val 10 (digs (bytesOf a))+val 10 (digs (bytesOf b)))∧t.size≤10000000010:=by
    have e1:Int.tmod (wrap64 (wrap64 (x+y)+c)) 10=(x+y+c) % 10:=by
        rw [w64 (i:=x+y) (by omega) (by omega),w64 (by omega) (by omega),Int.tmod_eq_emod_of_nonneg (by omega)]
    have e2:wrap64 (Int.tdiv (wrap64 (wrap64 (x+y)+c)) 10)=(x+y+c) / 10:=by
        rw [w64 (i:=x+y) (by omega) (by omega),w64 (i:=x+y+c) (by omega) (by omega),Int.tdiv_eq_ediv_of_nonneg (by omega),w64 (by omega) (by omega)]
    obtain ⟨t,q1,q2,q3⟩:=ih (j+1) (out ++ [(x+y+c) % 10]) ((x+y+c) / 10) (by omega) (by simp; omega) (by
     rw [ok_append,ok_cons]; exact ⟨hok,⟨by omega,by omega⟩,ok_nil _⟩) (by omega) (by omega) (by
     intro hd0
     have:x=0:=by rw [hxe,rd_out _ _ (by omega)]
     have:y=0:=by rw [hye,rd_out _ _ (by omega)]
     omega) (by
     rw [val_snoc,ho,val_take', val_take', ← hxe,← hye,Int.pow_succ,Int.mul_assoc,Int.add_assoc,← Int.mul_add,show (x+y+c) % 10+10 * ((x+y+c) / 10)=x+y+c by omega,Int.mul_add,Int.mul_add]
     omega)
    refine ⟨t,?_,q2,q3⟩
    refine Ev.step (fun k=>gamehallref2_NatAdd.j1.eq_2 _ _ _ _ _ _ k) ?_
    refine Ev.yes rfl (Ev.opt_bind (digit_eq a ha (by omega) j (by omega)) (Ev.opt_bind (digit_eq b hb (by omega) j (by omega)) (Ev.yes (by omega) ?_)))
    rw [← hxe,← hye,e1,e2,w64s (by omega)]
    exact q1
   by_cases h1:(j:Int)<(a.size:Int)
   · obtain ⟨t,q1,q2⟩:=onward
     refine ⟨t,?_,q2⟩
     refine Ev.step (fun k=>gamehallref2_NatAdd.l0.eq_2 _ _ _ _ _ k) ?_
     exact Ev.yes h1 q1
   · by_cases h2:(j:Int)<(b.size:Int)
     · obtain ⟨t,q1,q2⟩:=onward
       refine ⟨t,?_,q2⟩
       refine Ev.step (fun k=>gamehallref2_NatAdd.l0.eq_2 _ _ _ _ _ k) ?_
       exact Ev.no h1 (Ev.yes h2 q1)
     · by_cases hc:c > 0
       · obtain ⟨t,q1,q2⟩:=onward
         refine ⟨t,?_,q2⟩
         refine Ev.step (fun k=>gamehallref2_NatAdd.l0.eq_2 _ _ _ _ _ k) ?_
         refine Ev.no h1 (Ev.no h2 ?_)
         rw [show decide (c > 0)=true by simpa using hc]
         exact q1
       · obtain rfl:c=0:=by omega
         exact fin j out (by omega) (by omega) (by omega) ho hok hv
theorem radd_ev {a b:ByteArray} {u v:Int} (ha:Canon a u) (hb:Canon b v) (hsa:a.size≤10000000000) (hsb:b.size≤10000000000) :
 ∃ t,Ev (fun k=>gamehallref2_NatAdd.f k a b) t∧Canon t (u+v)∧t.size≤10000000010:=by
 obtain ⟨t,q1,q2,q3⟩:=radd_l0 a b ha.1 hb.1 hsa hsb (max a.size b.size+1) 0 [] 0 (by omega) rfl (ok_nil _) (by omega) (by omega) (fun _=>rfl) (by simp [val])
 rw [ha.2.1,hb.2.1] at q2
 exact ⟨t,q1,q2,q3⟩
theorem rsub_l0 (a b:ByteArray) (ha:asc (bytesOf a)) (hb:asc (bytesOf b)) (hsa:a.size≤10000000000) (hle:b.size≤a.size) (hge:val 10 (digs (bytesOf b))≤val 10 (digs (bytesOf a))) (d:Nat) :
 ∀ (j:Nat) (out:List Int) (c:Int),j+d=a.size→out.length=j→ok 10 out→0≤c→c≤1 →
   val 10 out - 10 ^ j * c=val 10 ((digs (bytesOf a)).take j) - val 10 ((digs (bytesOf b)).take j) →
   ∃ t,Ev (fun k=>gamehallref2_NatSub.l0 k a b out c (a.size:Int) (j:Int)) t∧Canon t (val 10 (digs (bytesOf a)) - val 10 (digs (bytesOf b)))∧t.size≤10000000010:=by
 have la:(digs (bytesOf a)).length=a.size:=by rw [digs_length,bytesOf_length]
 have lb:(digs (bytesOf b)).length=b.size:=by rw [digs_length,bytesOf_length]
 induction d with
 | zero =>
   intro j out c hj ho hok hc0 hc1 hv
   rw [List.take_of_length_le (by omega),List.take_of_length_le (by omega)] at hv
   have hlt:=val_lt (b:=10) (by decide) hok
   rw [ho] at hlt
   have hc:c=0:=by
    by_cases h:c=0
    · exact h
    · rw [show c=1 by omega,Int.mul_one] at hv
      omega
   rw [hc,Int.mul_zero,Int.sub_zero] at hv
   obtain ⟨t,q1,q2,q3⟩:=rtext_ev out (by omega) hok
   rw [hv] at q2
   refine ⟨t,?_,q2,by omega⟩
   refine Ev.step (fun k=>gamehallref2_NatSub.l0.eq_2 _ _ _ _ _ _ k) ?_
   exact Ev.no (by omega) (Ev.bind1 q1 (Ev.now _))
 | succ d ih =>
   intro j out c hj ho hok hc0 hc1 hv
   have hx:=ok_rd' (b:=10) (by decide) (digs_ok ha) j
   have hy:=ok_rd' (b:=10) (by decide) (digs_ok hb) j
   obtain ⟨x,hxe⟩:∃ x,x=rd (digs (bytesOf a)) (j:Int):=⟨_,rfl⟩
   obtain ⟨y,hye⟩:∃ y,y=rd (digs (bytesOf b)) (j:Int):=⟨_,rfl⟩
   rw [← hxe] at hx
   rw [← hye] at hy
   have e1:wrap64 (wrap64 (x - y) - c)=x - y - c:=by rw [w64 (i:=x - y) (by omega) (by omega),w64 (by omega) (by omega)]
   have e2:wrap64 (x - y - c+10)=x - y - c+10:=w64 (by omega) (by omega)
   have go:∀ v c' : Int,0≤v→v<10→0≤c' → c' ≤ 1→v - 10 * c' = x - y - c →
        ∃ t,Ev (fun k=>gamehallref2_NatSub.l0 k a b (out ++ [v]) c' (a.size:Int) (wrap64 ((j:Int)+1))) t∧Canon t (val 10 (digs (bytesOf a)) - val 10 (digs (bytesOf b)))∧t.size≤10000000010:=by
    intro v c' hv0 hv1 hc'0 hc'1 hvc
    rw [w64s (by omega)]
    refine ih (j+1) _ _ (by omega) (by simp; omega) (by rw [ok_append,ok_cons]; exact ⟨hok,⟨hv0,hv1⟩,ok_nil _⟩) hc'0 hc'1 ?_
    have h1:(10:Int) ^ j * (v - 10 * c')=10 ^ j * (x - y - c):=by rw [hvc]
    rw [val_snoc,ho,val_take', val_take', ← hxe,← hye,Int.pow_succ,Int.mul_assoc]
    rw [Int.mul_sub,Int.mul_sub,Int.mul_sub] at h1
    omega
   by_cases hneg:x - y - c<0
   · obtain ⟨t,q1,q2,q3⟩:=go (x - y - c+10) 1 (by omega) (by omega) (by omega) (by omega) (by omega)
     refine ⟨t,?_,q2,q3⟩
     refine Ev.step (fun k=>gamehallref2_NatSub.l0.eq_2 _ _ _ _ _ _ k) ?_
     refine Ev.yes (by omega) (Ev.opt_bind (digit_eq a ha (by omega) j (by omega)) (Ev.opt_bind (digit_eq b hb (by omega) j (by omega)) ?_))
     rw [← hxe,← hye,e1,e2]
     exact Ev.yes hneg (Ev.yes (by omega) q1)
   · obtain ⟨t,q1,q2,q3⟩:=go (x - y - c) 0 (by omega) (by omega) (by omega) (by omega) (by omega)
     refine ⟨t,?_,q2,q3⟩
     refine Ev.step (fun k=>gamehallref2_NatSub.l0.eq_2 _ _ _ _ _ _ k) ?_
     refine Ev.yes (by omega) (Ev.opt_bind (digit_eq a ha (by omega) j (by omega)) (Ev.opt_bind (digit_eq b hb (by omega) j (by omega)) ?_))
     rw [← hxe,← hye,e1]
     exact Ev.no hneg (Ev.yes (by omega) q1)
theorem canon_len {a b:ByteArray} {u v:Int} (ha:Canon a u) (hb:Canon b v) (h:a.size<b.size):u<v:=by
 obtain ⟨h1,h2,h3,h4⟩:=ha
 have g1:=val_lt (b:=10) (by decide) (digs_ok h1)
 rw [digs_length,bytesOf_length,h2] at g1
 have hbs:1<b.size:=by omega
 have hne:digs (bytesOf b)≠[]:=fun z=>by
  have:=congrArg List.length z
  rw [digs_length,bytesOf_length,List.length_nil] at this
  omega
 have g2:=val_ge (b:=10) (by decide) (digs_ok hb.1) (digs_noLead (hb.2.2.2 hbs)) hne
 rw [digs_length,bytesOf_length,hb.2.1] at g2
 have g3:(10:Int) ^ a.size≤10 ^ (b.size - 1):=pow_mono (by decide) (by omega)
 omega
theorem rsub_ev {a b:ByteArray} {u v:Int} (ha:Canon a u) (hb:Canon b v) (hsa:a.size≤10000000000) (hge:v≤u) :
 ∃ t,Ev (fun k=>gamehallref2_NatSub.f k a b) t∧Canon t (u - v)∧t.size≤10000000010:=by
 have hle:b.size≤a.size:=by
  by_cases h:b.size≤a.size
  · exact h
  · have:=canon_len ha hb (by omega); omega
 obtain ⟨t,q1,q2,q3⟩:=rsub_l0 a b ha.1 hb.1 hsa hle (by rw [ha.2.1,hb.2.1]; exact hge) a.size 0 [] 0 (by omega) rfl (ok_nil _) (by omega) (by omega) (by simp [val])
 rw [ha.2.1,hb.2.1] at q2
 exact ⟨t,q1,q2,q3⟩
def nums (l:List UInt8):List Int:=l.map fun b=>(b.toNat:Int)
theorem bytesOf_nums (s:ByteArray):bytesOf s=nums s.toList:=by rw [ByteArray.toList_eq]; rfl
theorem less_val : ∀ x y:List UInt8,x.length=y.length→asc (nums x)→asc (nums y)→Op.bytesLess x y=decide (val 10 (digs (nums x))<val 10 (digs (nums y)))
 | [],[],_,_,_=>by simp [Op.bytesLess]
 | [],_ :: _,h,_,_=>by simp at h
 | _ :: _,[],h,_,_=>by simp at h
 | c :: x,e :: y,h,hx,hy=>by
   have hx' : asc (nums x):=fun z hz=>hx z (List.mem_cons_of_mem _ hz)
   have hy' : asc (nums y):=fun z hz=>hy z (List.mem_cons_of_mem _ hz)
   have hl:x.length=y.length:=by simpa using h
   have ih:=less_val x y hl hx' hy'
   have a1:=val_lt (b:=10) (by decide) (digs_ok hx')
   have a2:=val_lt (b:=10) (by decide) (digs_ok hy')
   have b1:=val_nonneg (b:=10) (by decide) (digs_ok hx')
   have b2:=val_nonneg (b:=10) (by decide) (digs_ok hy')
   have lx:(digs (nums x)).length=y.length:=by rw [digs_length,nums,List.length_map,hl]
   have ly:(digs (nums y)).length=y.length:=by rw [digs_length,nums,List.length_map]
   rw [lx] at a1
   rw [ly] at a2
   have ex:val 10 (digs (nums (c :: x)))=val 10 (digs (nums x))+10 ^ y.length * ((c.toNat:Int) - 48):=by
     show val 10 (digs ((c.toNat:Int) :: nums x))=_
     rw [digs_cons,val_snoc,lx]
   have ey:val 10 (digs (nums (e :: y)))=val 10 (digs (nums y))+10 ^ y.length * ((e.toNat:Int) - 48):=by
     show val 10 (digs ((e.toNat:Int) :: nums y))=_
     rw [digs_cons,val_snoc,ly]
   rw [ex,ey,Op.bytesLess,ih]
   have hp:(0:Int)<10 ^ y.length:=Int.pow_pos (by decide)
   by_cases h1:c.toNat<e.toNat
   · have hm:(10:Int) ^ y.length * (((c.toNat:Int) - 48)+1)≤10 ^ y.length * ((e.toNat:Int) - 48):=Int.mul_le_mul_of_nonneg_left (by omega) (by omega)
     rw [Int.mul_add,Int.mul_one] at hm
     have hlt:c<e:=UInt8.lt_iff_toNat_lt.2 h1
     simp [hlt]; omega
   · by_cases h2:c.toNat=e.toNat
     · have:c=e:=UInt8.toNat_inj.1 h2
       subst this
       simp
     · have hm:(10:Int) ^ y.length * (((e.toNat:Int) - 48)+1)≤10 ^ y.length * ((c.toNat:Int) - 48):=Int.mul_le_mul_of_nonneg_left (by omega) (by omega)
       rw [Int.mul_add,Int.mul_one] at hm
       have hlt:¬ c<e:=fun z=>h1 (UInt8.lt_iff_toNat_lt.1 z)
       have hne:¬ c=e:=fun z=>h2 (by rw [z])
       have hr:¬ (val 10 (digs (nums x))+10 ^ y.length * ((c.toNat:Int) - 48)<val 10 (digs (nums y))+10 ^ y.length * ((e.toNat:Int) - 48)):=by omega
       have hbe:(c == e)=false:=by simpa using hne
       rw [hbe]
       simp only [Bool.false_and,Bool.or_false]
       exact (decide_eq_decide.2 ⟨fun z=>absurd z hlt,fun z=>absurd z hr⟩)
theorem rcmp_eq {a b:ByteArray} {u v:Int} (ha:Canon a u) (hb:Canon b v):gamehallref2_NatCmp.f a b=some (cmpI u v):=by
 unfold gamehallref2_NatCmp.f
 by_cases h1:(a.size:Int)<(b.size:Int)
 · rw [if_pos h1,cmpI,if_pos (canon_len ha hb (by omega))]
 · rw [if_neg h1]
   by_cases h2:(a.size:Int) > (b.size:Int)
   · have:=canon_len hb ha (by omega)
     rw [if_pos h2,cmpI,if_neg (by omega),if_pos (by omega)]
   · rw [if_neg h2]
     have hlen:a.toList.length=b.toList.length:=by rw [ByteArray.toList_eq,ByteArray.toList_eq,data_length,data_length]; omega
     have ea:val 10 (digs (nums a.toList))=u:=by rw [← bytesOf_nums]; exact ha.2.1
     have eb:val 10 (digs (nums b.toList))=v:=by rw [← bytesOf_nums]; exact hb.2.1
     have hl:=less_val a.toList b.toList hlen (by rw [← bytesOf_nums]; exact ha.1) (by rw [← bytesOf_nums]; exact hb.1)
     rw [ea,eb] at hl
     rw [hl]
     by_cases h3:u<v
     · rw [if_pos (by simpa using h3),cmpI,if_pos h3]
     · rw [if_neg (by simpa using h3),cmpI,if_neg h3]
       by_cases h4:u=v
       · subst h4
         have:=canon_inj ha hb
         rw [if_pos (by simp [this]),if_neg (by omega)]
       · have hne:¬ a.toList=b.toList:=fun z=>h4 (by rw [← ea,← eb,z])
         rw [if_neg (by simp [h3,hne]),if_pos (by omega)]
end
end Go.Proofs.YtnnkjpcipldnfaaGreatDoor.Pure
end
section
namespace Go.Proofs.YtnnkjpcipldnfaaGreatDoor.NatAlg
section
theorem mul1 (O P m q o x y c B D:Int) (key:m+B * q=x * y+o+c):O+P * (m - o)+P * B * (q+x * D)=O+P * (c+x * (y+B * D)):=by
 have:m=x * y+o+c - B * q:=by omega
 subst this
 grind
theorem mul2 (O P B x D W:Int):O+P * (x * W)+P * B * (D * W)=O+P * ((x+B * D) * W):=by grind
theorem short1 (x D d y a rest:Int) (hm:d * x+y=rest * 1000000000+a):(x+1000000000 * D) * d+y=a+1000000000 * (D * d+rest):=by
 have:y=rest * 1000000000+a - d * x:=by omega
 subst this
 grind
theorem minus1 (O P uu z s s' c q vv y D t:Int) (hD:t=c+q * vv) (ht:1000000000 * y+z=t) :
 O+P * (uu - z - s+1000000000 * s' - uu) - P * 1000000000 * (s' + y+q * D)=O - P * (s+c+q * (vv+1000000000 * D)):=by
 have:z=c+q * vv - 1000000000 * y:=by omega
 subst this
 grind
theorem plus1 (O P uu z y c vv D t:Int) (hD:t=uu+c+vv) (ht:1000000000 * y+z=t):O+P * (z - uu)+P * 1000000000 * (y+D)=O+P * (c+(vv+1000000000 * D)):=by
 have:z=uu+c+vv - 1000000000 * y:=by omega
 subst this
 grind
theorem est1 (x P V2 vl K:Int):x * (P * V2+vl) * K=K * P * (x * V2)+x * vl * K:=by grind
theorem est2 (x P V2 vl K:Int):(x - 1) * (P * V2+vl) * K=x * (P * V2+vl) * K - ((V2 * P) * K+vl * K):=by grind
theorem a1 (q d1 d2 B:Int):(q - 1) * (d1 * B+d2)=(q * d1 - d1) * B+(q - 1) * d2:=by grind
theorem a2 (q d r:Int):(q - 1) * d+(r+d)=q * d+r:=by grind
theorem a3 (q d1 d2 B:Int):q * (d1 * B+d2)=(q * d1) * B+q * d2:=by grind
theorem a4 (T Q u1 u2 u3 B:Int):T+Q * (u3+B * (u2+B * u1))=Q * ((u1 * B+u2) * B+u3)+T:=by grind
theorem a5 (T Q d1 d2 B:Int):T+Q * (d2+B * d1)=Q * (d1 * B+d2)+T:=by grind
theorem a6 (v K B:Int):v * (K * B)=B * v * K:=by grind
theorem a7 (K P d B:Int):(B * K) * (P * ((d+1) * B))=K * P * ((d+1) * B * B):=by grind
theorem a8 (v K B:Int):(B * K) * v=B * v * K:=by grind
theorem a9 (y d1 d2 B:Int):(y+1) * (d1 * B+d2)=(d1 * y+d1) * B+(y+1) * d2:=by grind
theorem b1 (K y v:Int):K * (y * v)=y * (v * K):=by grind
theorem b2 (K y v:Int):(y+1) * v * K=K * (y * v)+v * K:=by grind
theorem b3 (y D Z X Y B:Int):(y+B * D) * Z * X+(Y - Z * (y * X))=D * (Z * B) * X+Y:=by grind
theorem b4 (K x v:Int):(x - 1) * v * K=K * (x * v) - K * v:=by grind
theorem b5 (K x v:Int):(x - 1+1) * v * K=K * (x * v):=by grind
theorem b6 (K x v:Int):K * ((x - 1) * v)=K * (x * v) - K * v:=by grind
theorem norm1 (O P o c m d:Int) (h:10 * c+m=d):O+P * 10 * (o+c - o)+P * (m - d)=O:=by
 have:m=d - 10 * c:=by omega
 subst this
 grind
theorem row1 (O P o x y D B:Int):O+P * (o+x * y - o)+P * B * (x * D)=O+P * (x * (y+B * D)):=by grind
theorem row2 (P x D W B:Int):P * ((x+B * D) * W)=P * (x * W)+P * (B * D * W):=by grind
theorem div1 (v p q m uq um c P:Int) {u:Int} (h1:v * q+m=p) (h2:v * uq+um=u) (h3:P=10 * p+c) (h4:u=c+10 * m):(10 * q+uq) * v+um=P:=by
 subst h3 h1
 have:um=c+10 * m - v * uq:=by omega
 subst this
 grind
theorem of1 (O P B q m:Int):O+P * m+P * B * q=O+P * (B * q+m):=by grind
end
end Go.Proofs.YtnnkjpcipldnfaaGreatDoor.NatAlg
end
section
set_option linter.unusedSimpArgs false
set_option linter.unusedVariables false
namespace Go.Proofs.YtnnkjpcipldnfaaGreatDoor.Pure
open Go.RowKit Go.Proofs.YtnnkjpcipldnfaaGreatDoor.ND Go.Proofs.YtnnkjpcipldnfaaGreatDoorW.PrintWords Go.Proofs.YtnnkjpcipldnfaaGreatDoorW.PrintLast Go.Proofs.YtnnkjpcipldnfaaGreatDoor.Aid Go.Proofs.YtnnkjpcipldnfaaGreatDoor.NatVal
section
theorem u64 {i:Int} (h0:0≤i) (h1:i<18446744073709551616):IntKind.u64.wrap i=i:=IntWalk.u64_in i ⟨h0,by omega⟩
theorem val_set {b:Int}:∀ (l:List Int) (j:Nat) (v:Int),j<l.length→val b (l.set j v)=val b l+b ^ j * (v - rd l (j:Int))
 | [],j,v,h=>by simp at h
 | x :: l,0,v,h=>by simp [val,rd]; omega
 | x :: l,j+1,v,h=>by
   have ih:=val_set (b:=b) l j v (by simpa using h)
   have e:rd (x :: l) ((j+1:Nat):Int)=rd l (j:Int):=by simp [rd]
   rw [List.set_cons_succ,e]
   simp only [val]
   rw [ih,Int.mul_add,Int.pow_succ,Int.mul_comm (b ^ j) b,Int.mul_assoc]
   omega
theorem ok_set {b:Int} {l:List Int} (h:ok b l) (j:Nat) {v:Int} (h0:0≤v) (h1:v<b):ok b (l.set j v):=by
 intro x hx
 rcases List.mem_or_eq_of_mem_set hx with hx | rfl
 · exact h x hx
 · exact ⟨h0,h1⟩
theorem rd_set_self (l:List Int) (j:Nat) (v:Int) (h:j<l.length):rd (l.set j v) (j:Int)=v:=by
 rw [rd_eq _ j (by simpa using h),List.getElem_set_self]
theorem rd_set_ne (l:List Int) (j p:Nat) (v:Int) (h:j≠p):rd (l.set j v) (p:Int)=rd l (p:Int):=by
 simp only [rd,Int.toNat_natCast,List.getD_eq_getElem?_getD]
 rw [List.getElem?_set_ne h]
theorem rd_rep (n p:Nat):rd (List.replicate n (0:Int)) (p:Int)=0:=by
 simp only [rd,Int.toNat_natCast,List.getD_eq_getElem?_getD,List.getElem?_replicate]
 split <;> rfl
theorem mul_small {x y:Int} (hx0:0≤x) (hx1:x≤999999999) (hy0:0≤y) (hy1:y≤999999999):0≤x * y∧x * y≤999999998000000001:=by
 refine ⟨Int.mul_nonneg hx0 hy0,?_⟩
 have:=Int.mul_le_mul hx1 hy1 hy0 (by omega)
 omega
theorem mulstep {x y o c:Int} (hx0:0≤x) (hx1:x<1000000000) (hy0:0≤y) (hy1:y<1000000000) (ho0:0≤o) (ho1:o<1000000000) (hc0:0≤c) (hc1:c<1000000000) :
 Int.tmod (IntKind.u64.wrap ((IntKind.u64.wrap ((IntKind.u64.wrap ((IntKind.u64.wrap x) * (IntKind.u64.wrap y)))+(IntKind.u64.wrap o)))+c)) 1000000000 % 4294967296=(x * y+o+c) % 1000000000 ∧
 IntKind.u64.wrap (Int.tdiv (IntKind.u64.wrap ((IntKind.u64.wrap ((IntKind.u64.wrap ((IntKind.u64.wrap x) * (IntKind.u64.wrap y)))+(IntKind.u64.wrap o)))+c)) 1000000000)=(x * y+o+c) / 1000000000∧(x * y+o+c) / 1000000000<1000000000:=by
 obtain ⟨m0,m1⟩:=mul_small hx0 (show x≤999999999 by omega) hy0 (show y≤999999999 by omega)
 rw [u64 (i:=x) (by omega) (by omega),u64 (i:=y) (by omega) (by omega),u64 (i:=x * y) (by omega) (by omega),u64 (i:=o) (by omega) (by omega),u64 (i:=x * y+o) (by omega) (by omega),u64 (i:=x * y+o+c) (by omega) (by omega),
  Int.tmod_eq_emod_of_nonneg (by omega),Int.tdiv_eq_ediv_of_nonneg (by omega),u64 (by omega) (by omega)]
 omega
theorem wadd (i j:Nat) (h:i+j≤1000000000000):wrap64 ((i:Int)+(j:Int))=((i+j:Nat):Int):=by rw [w64] <;> omega
theorem mul_l1 (a b:List Int) (i:Nat) (x:Int) (N:Nat) (V:Int) (R:List Int→Prop) (hx0:0≤x) (hx1:x<1000000000) (hb:ok BB b) (hi:i+b.length<N) (hN:N≤1000000000000)
 (next:∀ out' : List Int,out'.length=N→ok BB out' → (∀ p:Nat,i+b.length<p→rd out' (p:Int)=0)→val BB out' = V→∃ r,Ev (fun k=>nat_N_Mul.l0 k b out' a (a.length:Int) (wrap64 ((i:Int)+1))) r∧R r) (d:Nat) :
 ∀ (j:Nat) (out:List Int) (c:Int),j+d=b.length→out.length=N→ok BB out→(∀ p:Nat,i+b.length≤p→rd out (p:Int)=0)→0≤c→c<1000000000 →
   val BB out+BB ^ (i+j) * (c+x * val BB (b.drop j))=V →
   ∃ r,Ev (fun k=>nat_N_Mul.l1 k b out (i:Int) x c a (a.length:Int) (i:Int) b (b.length:Int) (j:Int)) r∧R r:=by
 induction d with
 | zero =>
   intro j out c hj ho hok hz hc0 hc1 hv
   rw [show b.drop j=[] from List.drop_of_length_le (by omega)] at hv
   simp only [val,Int.mul_zero,Int.add_zero] at hv
   have hj' : j=b.length:=by omega
   subst hj'
   obtain ⟨r,q1,q2⟩:=next (out.set (i+b.length) c) (by simpa using ho) (ok_set hok _ hc0 hc1) (fun p hp=>by rw [rd_set_ne _ _ _ _ (by omega)]; exact hz p (by omega)) (by
    rw [val_set _ _ _ (by omega),hz _ (Nat.le_refl _),Int.sub_zero]; exact hv)
   refine ⟨r,?_,q2⟩
   refine Ev.step (fun k=>nat_N_Mul.l1.eq_2 _ _ _ _ _ _ _ _ _ _ _ k) ?_
   have e:wrap64 ((i:Int)+(b.length:Int))=((i+b.length:Nat):Int):=by rw [w64] <;> omega
   rw [e]
   refine Ev.no (by omega) (Ev.yes (by omega) (Ev.yes (by omega) ?_))
   rw [Int.toNat_natCast,show c % 4294967296=c by omega]
   exact q1
 | succ d ih =>
   intro j out c hj ho hok hz hc0 hc1 hv
   have g1:i+j≤1000000000000:=by omega
   have g2:j<1000000000000000:=by omega
   have b1:(j:Int)<(b.length:Int):=by omega
   have b2:(0:Int)≤(j:Int):=by omega
   have b3:(0:Int)≤((i+j:Nat):Int):=by omega
   have b4:((i+j:Nat):Int)<(out.length:Int):=by omega
   have hy:=ok_rd hb j (by omega)
   have hB:BB=1000000000:=rfl
   have hr:=ok_rd hok (i+j) (by omega)
   rw [hB] at hy hr
   have s3:=(mulstep hx0 hx1 hy.1 hy.2 hr.1 hr.2 hc0 hc1).2.2
   obtain ⟨m0,m1⟩:=mul_small hx0 (show x≤999999999 by omega) hy.1 (show rd b (j:Int)≤999999999 by omega)
   obtain ⟨r,q1,q2⟩:=ih (j+1) (out.set (i+j) ((x * rd b (j:Int)+rd out ((i+j:Nat):Int)+c) % 1000000000)) ((x * rd b (j:Int)+rd out ((i+j:Nat):Int)+c) / 1000000000) (by omega) (by simpa using ho)
    (ok_set hok _ (by omega) (by show _<(1000000000:Int); omega)) (fun p hp=>by rw [rd_set_ne _ _ _ _ (by omega)]; exact hz p hp) (by omega) s3 (by
        rw [val_set _ _ _ (by omega),← hv,drop_rd b j (by omega),← Nat.add_assoc,Int.pow_succ]
        simp only [val]
        have key:(x * rd b (j:Int)+rd out ((i+j:Nat):Int)+c) % 1000000000+BB * ((x * rd b (j:Int)+rd out ((i+j:Nat):Int)+c) / 1000000000)=x * rd b (j:Int)+rd out ((i+j:Nat):Int)+c:=by
         rw [hB]; omega
        exact NatAlg.mul1 _ _ _ _ _ _ _ _ _ _ key)
   refine ⟨r,?_,q2⟩
   refine Ev.step (fun k=>nat_N_Mul.l1.eq_2 _ _ _ _ _ _ _ _ _ _ _ k) ?_
   rw [wadd i j g1,(mulstep hx0 hx1 hy.1 hy.2 hr.1 hr.2 hc0 hc1).1,(mulstep hx0 hx1 hy.1 hy.2 hr.1 hr.2 hc0 hc1).2.1,w64s g2]
   refine Ev.yes b1 (Ev.yes b2 (Ev.yes b1 (Ev.yes b3 (Ev.yes b4 ?_))))
   rw [Int.toNat_natCast]
   exact q1
theorem mul_l0 (a b:List Int) (ha:ok BB a) (hb:ok BB b) (hn:a.length+b.length≤100000000000) (d:Nat) :
 ∀ (i:Nat) (out:List Int),i+d=a.length→out.length=a.length+b.length→ok BB out→(∀ p:Nat,i+b.length≤p→rd out (p:Int)=0) →
   val BB out+BB ^ i * (val BB (a.drop i) * val BB b)=val BB a * val BB b →
   ∃ r,Ev (fun k=>nat_N_Mul.l0 k b out a (a.length:Int) (i:Int)) r∧Limbs r (val BB a * val BB b)∧r.length≤a.length+b.length:=by
 induction d with
 | zero =>
   intro i out hi ho hok hz hv
   rw [show a.drop i=[] from List.drop_of_length_le (by omega)] at hv
   simp only [val,Int.zero_mul,Int.mul_zero,Int.add_zero] at hv
   obtain ⟨r,q1,q2,q3,q4,q5⟩:=trimf_ev out (by omega) hok
   refine ⟨r,?_,⟨by rw [q2,hv],q3,q4⟩,by omega⟩
   refine Ev.step (fun k=>nat_N_Mul.l0.eq_2 _ _ _ _ _ k) ?_
   exact Ev.no (by omega) (Ev.bind1 q1 (Ev.now _))
 | succ d ih =>
   intro i out hi ho hok hz hv
   have hx:=ok_rd ha i (by omega)
   have hB:BB=1000000000:=rfl
   rw [hB] at hx
   obtain ⟨r,q1,q2,q3⟩:=mul_l1 a b i (rd a (i:Int)) (a.length+b.length) (val BB out+BB ^ i * (rd a (i:Int) * val BB b)) (fun r=>Limbs r (val BB a * val BB b)∧r.length≤a.length+b.length) hx.1 hx.2 hb (by omega) (by omega)
    (fun out' h1 h2 h3 h4=>by
        rw [w64s (by omega)]
        exact ih (i+1) out' (by omega) h1 h2 (fun p hp=>h3 p (by omega)) (by
         rw [h4,← hv,drop_rd a i (by omega),Int.pow_succ]
         simp only [val]
         exact NatAlg.mul2 _ _ _ _ _ _)) b.length 0 out 0 (by omega) ho hok hz (by omega) (by omega) (by rw [List.drop_zero,Nat.add_zero,Int.zero_add])
   refine ⟨r,?_,q2,q3⟩
   refine Ev.step (fun k=>nat_N_Mul.l0.eq_2 _ _ _ _ _ k) ?_
   exact Ev.yes (by omega) (Ev.yes (by omega) (Ev.yes (by omega) q1))
theorem mul_ev {a b:List Int} {u v:Int} (ha:Limbs a u) (hb:Limbs b v) (hn:a.length+b.length≤100000000000) :
 ∃ r,Ev (fun k=>nat_N_Mul.f k a b) r∧Limbs r (u * v)∧r.length≤a.length+b.length:=by
 obtain ⟨hu,oa,ta⟩:=ha
 obtain ⟨hw,ob,tb⟩:=hb
 subst hu hw
 obtain ⟨r,q1,q2,q3⟩:=mul_l0 a b oa ob hn a.length 0 (List.replicate (a.length+b.length) 0) (by omega) (by simp) (fun x hx=>by
  rw [List.eq_of_mem_replicate hx]; decide) (fun p _=>rd_rep _ p) (by
  have:=val_zeros (b:=BB) [] (a.length+b.length)
  rw [List.nil_append] at this
  rw [this]; simp [val])
 refine ⟨r,?_,q2,q3⟩
 unfold nat_N_Mul.f
 have e:wrap64 ((a.length:Int)+(b.length:Int))=((a.length+b.length:Nat):Int):=by rw [w64] <;> omega
 rw [e,Int.toNat_natCast]
 exact Ev.yes (by omega) (Ev.yes (by omega) q1)
end
section
theorem limbs_one {c:Int} (h0:0≤c) (h1:c<1000000000):∃ r,Ev (fun k=>nat_N_trim.f k [c]) r∧Limbs r c∧r.length≤1:=by
 obtain ⟨r,q1,q2,q3,q4,q5⟩:=trimf_ev [c] (by simp) (ok_cons.2 ⟨⟨h0,h1⟩,ok_nil _⟩)
 exact ⟨r,q1,⟨by rw [q2]; simp [val],q3,q4⟩,by simpa using q5⟩
theorem divmod_of {a d q r:Int} (hd:0<d) (h:q * d+r=a) (h0:0≤r) (h1:r<d):a / d=q∧a % d=r:=by
 have hq:a / d=q:=by
  rw [← h,Int.add_comm,Int.add_mul_ediv_right _ _ (by omega),Int.ediv_eq_zero_of_lt h0 h1]; omega
 refine ⟨hq,?_⟩
 have:=Int.mul_ediv_add_emod a d
 rw [hq,Int.mul_comm] at this
 omega
theorem short_l0 (a:List Int) (d:Int) (hd0:0<d) (hd1:d<1000000000) (ha:ok BB a) (hn:a.length≤100000000000) (n:Nat) :
 ∀ (out:List Int) (rest:Int),n≤a.length→out.length=a.length→ok BB out→0≤rest→rest<d→val BB (out.drop n) * d+rest=val BB (a.drop n) →
   ∃ q r,Ev (fun k=>nat_N_short.l0 k a d out rest ((n:Int) - 1)) (q,r)∧Limbs q (val BB a / d)∧Limbs r (val BB a % d)∧q.length≤a.length∧r.length≤1:=by
 induction n with
 | zero =>
   intro out rest _ ho hok h0 h1 hv
   simp only [List.drop_zero] at hv
   obtain ⟨e1,e2⟩:=divmod_of hd0 hv h0 h1
   obtain ⟨q,q1,q2,q3,q4,q5⟩:=trimf_ev out (by omega) hok
   obtain ⟨r,r1,r2,r3⟩:=limbs_one h0 (show rest<1000000000 by omega)
   refine ⟨q,r,?_,⟨by rw [q2,e1],q3,q4⟩,by rw [e2]; exact r2,by omega,r3⟩
   refine Ev.step (fun k=>nat_N_short.l0.eq_2 _ _ _ _ _ k) ?_
   rw [show rest % 4294967296=rest by omega]
   exact Ev.no (by omega) (Ev.bind1 q1 (Ev.bind1 r1 (Ev.now _)))
 | succ n ih =>
   intro out rest hn' ho hok h0 h1 hv
   have hx:=ok_rd ha n (by omega)
   have hB:BB=1000000000:=rfl
   rw [hB] at hx
   have hq1:(rest * 1000000000+rd a (n:Int)) / d<1000000000:=Int.ediv_lt_of_lt_mul hd0 (by omega)
   have hq0:0≤(rest * 1000000000+rd a (n:Int)) / d:=Int.ediv_nonneg (by omega) (by omega)
   have hr0:=Int.emod_nonneg (rest * 1000000000+rd a (n:Int)) (show d≠0 by omega)
   have hr1:=Int.emod_lt_of_pos (rest * 1000000000+rd a (n:Int)) hd0
   have hm:=Int.mul_ediv_add_emod (rest * 1000000000+rd a (n:Int)) d
   obtain ⟨q,r,q1,q2⟩:=ih (out.set n ((rest * 1000000000+rd a (n:Int)) / d)) ((rest * 1000000000+rd a (n:Int)) % d) (by omega) (by simpa using ho) (ok_set hok _ hq0 hq1) hr0 hr1 (by
    rw [set_drop _ _ _ (by omega),drop_rd a n (by omega)]
    simp only [val]
    rw [← hv]
    exact NatAlg.short1 _ _ _ _ _ _ hm)
   refine ⟨q,r,?_,q2⟩
   refine Ev.step (fun k=>nat_N_short.l0.eq_2 _ _ _ _ _ k) ?_
   rw [show (((n+1:Nat):Int) - 1)=(n:Int) by omega,u64 (i:=d) (by omega) (by omega),u64 (i:=rest * 1000000000) (by omega) (by omega),u64 (i:=rd a (n:Int)) (by omega) (by omega),u64 (i:=rest * 1000000000+rd a (n:Int)) (by omega) (by omega),
    Int.tmod_eq_emod_of_nonneg (by omega),Int.tdiv_eq_ediv_of_nonneg (by omega),u64 (i:=(rest * 1000000000+rd a (n:Int)) / d) (by omega) (by omega),
    show (rest * 1000000000+rd a (n:Int)) / d % 4294967296=(rest * 1000000000+rd a (n:Int)) / d by omega,w64 (i:=(n:Int) - 1) (by omega) (by omega)]
   refine Ev.yes (by omega) (Ev.yes (by omega) (Ev.yes (by omega) (Ev.no (by omega) (Ev.yes (by omega) ?_))))
   rw [Int.toNat_natCast]
   exact q1
theorem short_ev {a:List Int} {u:Int} (ha:Limbs a u) (d:Int) (hd0:0<d) (hd1:d<1000000000) (hn:a.length≤100000000000) :
 ∃ q r,Ev (fun k=>nat_N_short.f k a d) (q,r)∧Limbs q (u / d)∧Limbs r (u % d)∧q.length≤a.length∧r.length≤1:=by
 obtain ⟨hu,oa,ta⟩:=ha
 subst hu
 obtain ⟨q,r,q1,q2⟩:=short_l0 a d hd0 hd1 oa hn a.length (List.replicate a.length 0) 0 (Nat.le_refl _) (by simp) (fun x hx=>by
  rw [List.eq_of_mem_replicate hx]; decide) (by omega) hd0 (by simp [val,List.drop_of_length_le])
 refine ⟨q,r,?_,q2⟩
 unfold nat_N_short.f
 rw [Int.toNat_natCast,w64 (by omega) (by omega)]
 exact Ev.yes (by omega) (Ev.yes (by omega) q1)
theorem rd_drop (l:List Int) (m p:Nat):rd (l.drop m) (p:Int)=rd l ((m+p:Nat):Int):=by
 simp only [rd,Int.toNat_natCast,List.getD_eq_getElem?_getD,List.getElem?_drop]
theorem val_high {l:List Int} (ho:ok BB l) (m:Nat) (h:∀ p:Nat,m≤p→rd l (p:Int)=0):val BB l<BB ^ m:=by
 have h1:=val_append (b:=BB) (l.take m) (l.drop m)
 rw [List.take_append_drop] at h1
 have h2:∀ (r:List Int),(∀ p:Nat,rd r (p:Int)=0)→val BB r=0:=by
  intro r
  induction r with
  | nil=>intro _; rfl
  | cons x r ih =>
    intro hr
    have hx:=hr 0
    have hr' : val BB r=0:=ih (fun p=>by have:=hr (p+1); simpa [rd] using this)
    simp only [val]
    rw [hr']
    simp [rd] at hx
    rw [hx]; simp
 have h3:val BB (l.drop m)=0:=h2 _ (fun p=>by
  rw [rd_drop]
  exact h (m+p) (by omega))
 rw [h1,h3,Int.mul_zero,Int.add_zero]
 have h4:=val_lt (b:=BB) (by decide) (ok_take ho m)
 have h5:BB ^ (l.take m).length≤BB ^ m:=pow_mono (by decide) (by simp; omega)
 omega
theorem high_zero {l:List Int} (ho:ok BB l) (m:Nat) (h:val BB l<BB ^ m) (p:Nat) (hp:m≤p):rd l (p:Int)=0:=by
 by_cases hl:p<l.length
 · have h1:=val_at (b:=BB) l p hl
   have h2:=val_nonneg (b:=BB) (by decide) (ok_take ho p)
   have h3:=ok_rd ho p hl
   have h4:0≤val BB (l.drop (p+1)):=val_nonneg (by decide) (fun x hx=>ho x (List.mem_of_mem_drop hx))
   have h5:BB ^ m≤BB ^ p:=pow_mono (by decide) hp
   by_cases h0:rd l (p:Int)=0
   · exact h0
   · have h6:BB ^ p * 1≤BB ^ p * (rd l (p:Int)+BB * val BB (l.drop (p+1))):=Int.mul_le_mul_of_nonneg_left (by
        have:0≤BB * val BB (l.drop (p+1)):=Int.mul_nonneg (by decide) h4
        omega) (Int.le_of_lt (Int.pow_pos (by decide)))
     omega
 · exact rd_out l p (by omega)
theorem minusdig {u t s:Int} (hu0:0≤u) (hu1:u<1000000000) (ht0:0≤t) (ht1:t<1000000000) (hs0:0≤s) (hs1:s≤1) :
 wrap64 (wrap64 (wrap64 u - wrap64 t) - s)=u - t - s∧wrap64 (u - t - s+1000000000)=u - t - s+1000000000:=by
 rw [w64 (i:=u) (by omega) (by omega),w64 (i:=t) (by omega) (by omega),w64 (i:=u - t) (by omega) (by omega),w64 (i:=u - t - s) (by omega) (by omega),w64 (by omega) (by omega)]
 exact ⟨rfl,rfl⟩
theorem minus_l0 (v:List Int) (kk:Nat) (q:Int) (N:Nat) (W:Int) (hv:ok BB v) (hq0:0≤q) (hq1:q≤1000000000) (hN:kk+v.length<N) (hN2:N≤100000000000) (d:Nat) :
 ∀ (i:Nat) (u:List Int) (s c:Int),i+d=v.length+1→u.length=N→ok BB u→(∀ p:Nat,kk+v.length<p→rd u (p:Int)=0)→0≤s→s≤1→0≤c→c<1000000000→(d=0→c=0) →
   val BB u - BB ^ (kk+i) * (s+c+q * val BB (v.drop i))=W →
   ∃ (t:Bool) (u' : List Int),Ev (fun k=>nat_N_minus.l0 k u v (kk:Int) q s c (i:Int)) (t,u')∧u'.length=N∧ok BB u' ∧ (∀ p:Nat,kk+v.length<p→rd u' (p:Int)=0) ∧
     val BB u' = W+(if t=true then BB ^ (kk+v.length+1) else 0):=by
 have hB:BB=1000000000:=rfl
 induction d with
 | zero =>
   intro i u s c hi hu ho hz hs0 hs1 hc0 hc1 hc hw
   rw [hc rfl,show v.drop i=[] from List.drop_of_length_le (by omega)] at hw
   simp only [val,Int.mul_zero,Int.add_zero] at hw
   refine ⟨decide (s > 0),u,?_,hu,ho,hz,?_⟩
   · refine Ev.step (fun k=>nat_N_minus.l0.eq_2 _ _ _ _ _ _ _ k) ?_
     exact Ev.no (by omega) (Ev.now _)
   · rw [show kk+v.length+1=kk+i by omega]
     by_cases h:s > 0
     · rw [if_pos (by simpa using h)]
       rw [show s=1 by omega,Int.mul_one] at hw
       omega
     · rw [if_neg (by simpa using h)]
       rw [show s=0 by omega,Int.mul_zero] at hw
       omega
 | succ d ih =>
   intro i u s c hi hu ho hz hs0 hs1 hc0 hc1 hc hw
   have hx:=ok_rd ho (kk+i) (by omega)
   rw [hB] at hx
   have g1:kk+i≤1000000000000:=by omega
   -- the digit to be subtracted
   have go : ∀ t:Int,0≤t→t<1000000000000000000→(t=c+q * rd v (i:Int))→(d=0→t<1000000000)→(i<v.length→t=c+q * rd v (i:Int))→(¬ i<v.length→t=c) →
        ∃ (t:Bool) (u' : List Int),Ev (fun k=>nat_N_minus.l0 k u v (kk:Int) q s c (i:Int)) (t,u')∧u'.length=N∧ok BB u' ∧ (∀ p:Nat,kk+v.length<p→rd u' (p:Int)=0) ∧
          val BB u' = W+(if t=true then BB ^ (kk+v.length+1) else 0):=by
    intro t ht0 ht1 hD hd0 hin hout
    have hm:=Int.mul_ediv_add_emod t 1000000000
    have hm0:=Int.emod_nonneg t (show (1000000000:Int)≠0 by decide)
    have hm1:=Int.emod_lt_of_pos t (show (0:Int)<1000000000 by decide)
    have hc' : t / 1000000000<1000000000:=by omega
    have hc0' : 0≤t / 1000000000:=by omega
    have eD:val BB (v.drop i)=rd v (i:Int)+BB * val BB (v.drop (i+1)):=by
        by_cases hlt:i<v.length
        · rw [drop_rd v i hlt]; rfl
        · rw [List.drop_of_length_le (by omega),List.drop_of_length_le (by omega),rd_out v i (by omega)]; rfl
    -- the next round
    have nx:∀ (x s' : Int),0≤x→x<1000000000→0≤s' → s' ≤ 1→x=rd u ((kk+i:Nat):Int) - t % 1000000000 - s+1000000000 * s' →
     ∃ (t' : Bool) (u' : List Int),Ev (fun k=>nat_N_minus.l0 k (u.set (kk+i) x) v (kk:Int) q s' (t / 1000000000) (wrap64 ((i:Int)+1))) (t', u')∧u'.length=N∧ok BB u' ∧ (∀ p:Nat,kk+v.length<p→rd u' (p:Int)=0) ∧
       val BB u' = W+(if t' = true then BB ^ (kk+v.length+1) else 0):=by
        intro x s' hx0 hx1 hs0' hs1' ex
        rw [w64s (by omega)]
        refine ih (i+1) _ s' (t / 1000000000) (by omega) (by simpa using hu) (ok_set ho _ hx0 hx1) (fun p hp=>by rw [rd_set_ne _ _ _ _ (by omega)]; exact hz p hp) hs0' hs1' hc0' hc' (fun h=>by have:=hd0 h; omega) ?_
        rw [val_set _ _ _ (by omega),← hw,eD,← Nat.add_assoc,Int.pow_succ]
        rw [ex]
        exact NatAlg.minus1 _ _ _ _ _ _ _ _ _ _ _ t (hD) hm
    have fin:∃ (t' : Bool) (u' : List Int),(Ev (fun k=>if (wrap64 (wrap64 (wrap64 (rd u ((kk+i:Nat):Int)) - wrap64 (t % 1000000000)) - s))<0 then
           (nat_N_minus.l0 k (u.set (kk+i) ((wrap64 (wrap64 (wrap64 (wrap64 (rd u ((kk+i:Nat):Int)) - wrap64 (t % 1000000000)) - s)+1000000000)) % 4294967296)) v (kk:Int) q 1 (t / 1000000000) (wrap64 ((i:Int)+1)))
           else (nat_N_minus.l0 k (u.set (kk+i) ((wrap64 (wrap64 (wrap64 (rd u ((kk+i:Nat):Int)) - wrap64 (t % 1000000000)) - s)) % 4294967296)) v (kk:Int) q 0 (t / 1000000000) (wrap64 ((i:Int)+1)))) (t', u'))∧u'.length=N∧ok BB u' ∧ (∀ p:Nat,kk+v.length<p→rd u' (p:Int)=0) ∧
           val BB u' = W+(if t' = true then BB ^ (kk+v.length+1) else 0):=by
        rw [(minusdig hx.1 hx.2 hm0 hm1 hs0 hs1).1,(minusdig hx.1 hx.2 hm0 hm1 hs0 hs1).2]
        by_cases hneg:rd u ((kk+i:Nat):Int) - t % 1000000000 - s<0
        · obtain ⟨t', u', q1,q2⟩:=nx ((rd u ((kk+i:Nat):Int) - t % 1000000000 - s+1000000000) % 4294967296) 1 (by omega) (by omega) (by omega) (by omega) (by omega)
          exact ⟨t', u', Ev.yes hneg q1,q2⟩
        · obtain ⟨t', u', q1,q2⟩:=nx ((rd u ((kk+i:Nat):Int) - t % 1000000000 - s) % 4294967296) 0 (by omega) (by omega) (by omega) (by omega) (by omega)
          exact ⟨t', u', Ev.no hneg q1,q2⟩
    obtain ⟨t', u', q1,q2⟩:=fin
    refine ⟨t', u', ?_,q2⟩
    refine Ev.step (fun k=>nat_N_minus.l0.eq_2 _ _ _ _ _ _ _ k) ?_
    rw [wadd kk i g1]
    refine Ev.yes (by omega) ?_
    by_cases hlt:i<v.length
    · have hy:=ok_rd hv i hlt
      rw [hB] at hy
      have et:=hin hlt
      have hqv0:0≤q * rd v (i:Int):=Int.mul_nonneg hq0 hy.1
      refine Ev.yes (by omega) (Ev.yes (by omega) (Ev.yes (by omega) (Ev.yes (by omega) ?_)))
      rw [u64 (i:=rd v (i:Int)) (by omega) (by omega),u64 (i:=q * rd v (i:Int)) (by omega) (by omega),← et,u64 (i:=t) (by omega) (by omega),Int.tmod_eq_emod_of_nonneg (by omega),Int.tdiv_eq_ediv_of_nonneg (by omega),u64 (i:=t / 1000000000) (by omega) (by omega),Int.toNat_natCast]
      exact q1
    · have et:=hout hlt
      rw [et] at q1
      refine Ev.no (by omega) (Ev.yes (by omega) (Ev.yes (by omega) ?_))
      rw [Int.tmod_eq_emod_of_nonneg (by omega),Int.tdiv_eq_ediv_of_nonneg (by omega),u64 (i:=c / 1000000000) (by omega) (by omega),Int.toNat_natCast]
      exact q1
   by_cases hlt:i<v.length
   · have hy:=ok_rd hv i hlt
     rw [hB] at hy
     have hqv0:0≤q * rd v (i:Int):=Int.mul_nonneg hq0 hy.1
     have hqv1:q * rd v (i:Int)≤1000000000 * 999999999:=Int.mul_le_mul hq1 (by omega) hy.1 (by omega)
     exact go (c+q * rd v (i:Int)) (by omega) (by omega) rfl (fun h=>by omega) (fun _=>rfl) (fun h=>absurd hlt h)
   · refine go c hc0 (by omega) ?_ (fun _=>hc1) (fun h=>absurd h hlt) (fun _=>rfl)
     rw [rd_out v i (by omega)]; simp
theorem minus_ev {u v:List Int} (kk:Nat) (q:Int) (hu:ok BB u) (hv:ok BB v) (hq0:0≤q) (hq1:q≤1000000000) (hN:kk+v.length<u.length) (hN2:u.length≤100000000000) (hz:∀ p:Nat,kk+v.length<p→rd u (p:Int)=0) :
 ∃ (t:Bool) (u' : List Int),Ev (fun k=>nat_N_minus.f k u v (kk:Int) q) (t,u')∧u'.length=u.length∧ok BB u' ∧ (∀ p:Nat,kk+v.length<p→rd u' (p:Int)=0) ∧
   val BB u' = val BB u - BB ^ kk * (q * val BB v)+(if t=true then BB ^ (kk+v.length+1) else 0):=by
 unfold nat_N_minus.f
 exact minus_l0 v kk q u.length (val BB u - BB ^ kk * (q * val BB v)) hv hq0 hq1 hN hN2 (v.length+1) 0 u 0 0 (by omega) rfl hu hz (by omega) (by omega) (by omega) (by omega) (fun h=>by omega) (by
  rw [List.drop_zero,Nat.add_zero]; simp)
theorem plus_l0 (v:List Int) (kk:Nat) (N:Nat) (W:Int) (hv:ok BB v) (hN:kk+v.length<N) (hN2:N≤100000000000) (d:Nat) :
 ∀ (i:Nat) (u:List Int) (c:Int),i+d=v.length+1→u.length=N→ok BB u→(∀ p:Nat,kk+v.length<p→rd u (p:Int)=0)→0≤c→c≤1 →
   val BB u+BB ^ (kk+i) * (c+val BB (v.drop i))=W →
   ∃ (u' : List Int) (c' : Int),Ev (fun k=>nat_N_plus.l0 k u v (kk:Int) c (i:Int)) u' ∧ u'.length=N∧ok BB u' ∧ (∀ p:Nat,kk+v.length<p→rd u' (p:Int)=0)∧0≤c' ∧ c' ≤ 1 ∧
     val BB u' + BB ^ (kk+v.length+1) * c' = W:=by
 have hB:BB=1000000000:=rfl
 induction d with
 | zero =>
   intro i u c hi hu ho hz hc0 hc1 hw
   rw [show v.drop i=[] from List.drop_of_length_le (by omega)] at hw
   simp only [val,Int.add_zero] at hw
   refine ⟨u,c,?_,hu,ho,hz,hc0,hc1,?_⟩
   · refine Ev.step (fun k=>nat_N_plus.l0.eq_2 _ _ _ _ _ k) ?_
     exact Ev.no (by omega) (Ev.now _)
   · rw [show kk+v.length+1=kk+i by omega]; exact hw
 | succ d ih =>
   intro i u c hi hu ho hz hc0 hc1 hw
   have hx:=ok_rd ho (kk+i) (by omega)
   rw [hB] at hx
   have g1:kk+i≤1000000000000:=by omega
   have eD:val BB (v.drop i)=rd v (i:Int)+BB * val BB (v.drop (i+1)):=by
    by_cases hlt:i<v.length
    · rw [drop_rd v i hlt]; rfl
    · rw [List.drop_of_length_le (by omega),List.drop_of_length_le (by omega),rd_out v i (by omega)]; rfl
   have nx:∀ t:Int,0≤t→t<2000000000→t=rd u ((kk+i:Nat):Int)+c+rd v (i:Int) →
        ∃ (u' : List Int) (c' : Int),Ev (fun k=>nat_N_plus.l0 k (u.set (kk+i) (t % 4294967296 % 1000000000)) v (kk:Int) (t % 4294967296 / 1000000000) (wrap64 ((i:Int)+1))) u' ∧ u'.length=N∧ok BB u' ∧ (∀ p:Nat,kk+v.length<p→rd u' (p:Int)=0)∧0≤c' ∧ c' ≤ 1 ∧
          val BB u' + BB ^ (kk+v.length+1) * c' = W:=by
    intro t ht0 ht1 et
    rw [w64s (by omega),show t % 4294967296=t by omega]
    have hm:=Int.mul_ediv_add_emod t 1000000000
    refine ih (i+1) _ _ (by omega) (by simpa using hu) (ok_set ho _ (by omega) (by show _<(1000000000:Int); omega)) (fun p hp=>by rw [rd_set_ne _ _ _ _ (by omega)]; exact hz p hp) (by omega) (by omega) ?_
    rw [val_set _ _ _ (by omega),← hw,eD,← Nat.add_assoc,Int.pow_succ,hB]
    exact NatAlg.plus1 _ _ _ _ _ _ _ _ t et hm
   by_cases hlt:i<v.length
   · have hy:=ok_rd hv i hlt
     rw [hB] at hy
     obtain ⟨u', c', q1,q2⟩:=nx (rd u ((kk+i:Nat):Int)+c+rd v (i:Int)) (by omega) (by omega) rfl
     refine ⟨u', c', ?_,q2⟩
     refine Ev.step (fun k=>nat_N_plus.l0.eq_2 _ _ _ _ _ k) ?_
     rw [wadd kk i g1]
     refine Ev.yes (by omega) (Ev.yes (by omega) (Ev.yes (by omega) (Ev.yes (by omega) (Ev.yes (by omega) ?_))))
     rw [Int.toNat_natCast]
     exact q1
   · obtain ⟨u', c', q1,q2⟩:=nx (rd u ((kk+i:Nat):Int)+c) (by omega) (by omega) (by rw [rd_out v i (by omega)]; omega)
     refine ⟨u', c', ?_,q2⟩
     refine Ev.step (fun k=>nat_N_plus.l0.eq_2 _ _ _ _ _ k) ?_
     rw [wadd kk i g1]
     refine Ev.yes (by omega) (Ev.yes (by omega) (Ev.yes (by omega) (Ev.no (by omega) ?_)))
     rw [Int.toNat_natCast]
     exact q1
theorem plus_ev {u v:List Int} (kk:Nat) (hu:ok BB u) (hv:ok BB v) (hN:kk+v.length<u.length) (hN2:u.length≤100000000000) (hz:∀ p:Nat,kk+v.length<p→rd u (p:Int)=0) :
 ∃ (u' : List Int) (c' : Int),Ev (fun k=>nat_N_plus.f k u v (kk:Int)) u' ∧ u'.length=u.length∧ok BB u' ∧ (∀ p:Nat,kk+v.length<p→rd u' (p:Int)=0)∧0≤c' ∧ c' ≤ 1 ∧
   val BB u' + BB ^ (kk+v.length+1) * c' = val BB u+BB ^ kk * val BB v:=by
 unfold nat_N_plus.f
 exact plus_l0 v kk u.length (val BB u+BB ^ kk * val BB v) hv hN hN2 (v.length+1) 0 u 0 (by omega) rfl hu hz (by omega) (by omega) (by
  rw [List.drop_zero,Nat.add_zero]; simp)
end
section
theorem ok_of_rd {b:Int} {l:List Int} (h:∀ p:Nat,p<l.length→0≤rd l (p:Int)∧rd l (p:Int)<b):ok b l:=by
 intro x hx
 obtain ⟨p,hp,rfl⟩:=List.mem_iff_getElem.1 hx
 have:=h p hp
 rw [rd_eq l p hp] at this
 exact this
theorem val_nn {b:Int} (hb:0≤b):∀ {l:List Int},(∀ p:Nat,0≤rd l (p:Int))→0≤val b l
 | [],_=>by simp [val]
 | x :: r,h=>by
   have h0:=h 0
   have h1:0≤val b r:=val_nn hb (fun p=>by have:=h (p+1); simpa [rd] using this)
   have h2:0≤b * val b r:=Int.mul_nonneg hb h1
   simp [rd] at h0
   simp only [val]; omega
theorem val_ge_top {l:List Int} (n:Nat) (hl:l.length=n+1) (h:∀ p:Nat,0≤rd l (p:Int)):10 ^ n * rd l (n:Int)≤val 10 l:=by
 have e:=rd_last l n hl
 have h1:val 10 l=val 10 (l.take n)+10 ^ n * rd l (n:Int):=by
  conv=>lhs; rw [e]
  rw [val_snoc,List.length_take,Nat.min_eq_left (by omega)]
 have h2:0≤val 10 (l.take n):=val_nn (by decide) (fun p=>by
  by_cases hp:p<n
  · have:rd (l.take n) (p:Int)=rd l (p:Int):=by
        simp only [rd,Int.toNat_natCast,List.getD_eq_getElem?_getD,List.getElem?_take,if_pos hp]
    rw [this]; exact h p
  · rw [rd_out _ p (by simp; omega)]; omega)
 omega
theorem wpred (N:Nat) (h:1≤N) (hN:N≤100000000000):wrap64 ((N:Int) - 1)=((N - 1:Nat):Int):=by rw [w64] <;> omega
theorem rmul_l2 (a b:ByteArray) (i N:Nat) (V:Int) (R:ByteArray→Prop) (hN:N≤20000000000) (hN1:1≤N) (hV:V<10 ^ (N - 1))
 (next:∀ out' : List Int,out'.length=N→ok 10 out' → val 10 out' = V→∃ t,Ev (fun k=>gamehallref2_NatMul.l0 k a b out' (a.size:Int) (wrap64 ((i:Int)+1))) t∧R t) (d:Nat) :
 ∀ (p:Nat) (out:List Int),p+d=N - 1→out.length=N→(∀ q:Nat,0≤rd out (q:Int))→(∀ q:Nat,q<p→rd out (q:Int)≤9)→rd out (p:Int)≤100→(∀ q:Nat,p<q→rd out (q:Int)≤90)→val 10 out=V →
   ∃ t,Ev (fun k=>gamehallref2_NatMul.l2 k a b out (a.size:Int) (i:Int) ((N - 1:Nat):Int) (p:Int)) t∧R t:=by
 induction d with
 | zero =>
   intro p out hp ho h0 h9 h100 h90 hv
   obtain ⟨t,t1,t2⟩:=next out ho (ok_of_rd (fun q hq=>by
    refine ⟨h0 q,?_⟩
    by_cases hqp:q<p
    · have:=h9 q hqp; omega
    · have hq' : q=N - 1:=by omega
      subst hq'
      have:=val_ge_top (l:=out) (N - 1) (by omega) h0
      rw [hv] at this
      by_cases h:rd out ((N - 1:Nat):Int)<10
      · exact h
      · have h1:(10:Int) ^ (N - 1) * 1≤10 ^ (N - 1) * rd out ((N - 1:Nat):Int):=Int.mul_le_mul_of_nonneg_left (by omega) (Int.le_of_lt (Int.pow_pos (by decide)))
        omega)) hv
   refine ⟨t,?_,t2⟩
   refine Ev.step (fun k=>gamehallref2_NatMul.l2.eq_2 _ _ _ _ _ _ _ k) ?_
   exact Ev.no (by omega) t1
 | succ d ih =>
   intro p out hp ho h0 h9 h100 h90 hv
   have hd0:=h0 p
   have hd1:=h0 (p+1)
   have hd2:=h90 (p+1) (by omega)
   have g2:p<1000000000000000:=by omega
   have b1:(p:Int)<((N - 1:Nat):Int):=by omega
   have b2:(0:Int)≤(p:Int):=by omega
   have b3:(p:Int)<(out.length:Int):=by omega
   by_cases hbig:rd out (p:Int) > 9
   · have hm:10 * (rd out (p:Int) / 10)+rd out (p:Int) % 10=rd out (p:Int):=by omega
     obtain ⟨t,t1,t2⟩:=ih (p+1) ((out.set (p+1) (rd out ((p+1:Nat):Int)+rd out (p:Int) / 10)).set p (rd out (p:Int) % 10)) (by omega) (by simpa using ho) (fun q=>by
      by_cases hq:p=q
      · subst hq; rw [rd_set_self _ _ _ (by simp; omega)]; omega
      · rw [rd_set_ne _ _ _ _ hq]
        by_cases hq1:p+1=q
        · subst hq1; rw [rd_set_self _ _ _ (by omega)]; omega
        · rw [rd_set_ne _ _ _ _ hq1]; exact h0 q) (fun q hq=>by
      by_cases hq' : p=q
      · subst hq'; rw [rd_set_self _ _ _ (by simp; omega)]; omega
      · rw [rd_set_ne _ _ _ _ hq', rd_set_ne _ _ _ _ (by omega)]; exact h9 q (by omega)) (by
      rw [rd_set_ne _ _ _ _ (by omega),rd_set_self _ _ _ (by omega)]; omega) (fun q hq=>by
      rw [rd_set_ne _ _ _ _ (by omega),rd_set_ne _ _ _ _ (by omega)]; exact h90 q (by omega)) (by
      rw [val_set _ _ _ (by simp; omega),val_set _ _ _ (by omega),rd_set_ne _ _ _ _ (by omega),← hv,Int.pow_succ]
      exact NatAlg.norm1 _ _ _ _ _ _ hm)
     refine ⟨t,?_,t2⟩
     refine Ev.step (fun k=>gamehallref2_NatMul.l2.eq_2 _ _ _ _ _ _ _ k) ?_
     have b4:(0:Int)≤((p+1:Nat):Int):=by omega
     have b5:((p+1:Nat):Int)<(out.length:Int):=by omega
     rw [w64s g2,Int.tdiv_eq_ediv_of_nonneg hd0,w64 (i:=rd out (p:Int) / 10) (by omega) (by omega),w64 (i:=rd out ((p+1:Nat):Int)+rd out (p:Int) / 10) (by omega) (by omega)]
     refine Ev.yes b1 (Ev.yes b2 (Ev.yes b3 (Ev.yes hbig (Ev.yes b4 (Ev.yes b5 (Ev.some_bind ?_))))))
     rw [Int.toNat_natCast,Int.toNat_natCast,rd_set_ne _ _ _ _ (by omega),Int.tmod_eq_emod_of_nonneg hd0]
     exact t1
   · obtain ⟨t,t1,t2⟩:=ih (p+1) out (by omega) ho h0 (fun q hq=>by
      by_cases hq' : q=p
      · subst hq'; omega
      · exact h9 q (by omega)) (by omega) (fun q hq=>h90 q (by omega)) hv
     refine ⟨t,?_,t2⟩
     refine Ev.step (fun k=>gamehallref2_NatMul.l2.eq_2 _ _ _ _ _ _ _ k) ?_
     rw [w64s g2]
     exact Ev.yes b1 (Ev.yes b2 (Ev.yes b3 (Ev.no hbig t1)))
theorem rmul_l1 (a b:ByteArray) (hb:asc (bytesOf b)) (i N:Nat) (x V:Int) (R:ByteArray→Prop) (hN:N≤20000000000) (hi:i+b.size<N) (hx0:0≤x) (hx1:x≤9) (hV:V<10 ^ (N - 1))
 (next:∀ out' : List Int,out'.length=N→ok 10 out' → val 10 out' = V→∃ t,Ev (fun k=>gamehallref2_NatMul.l0 k a b out' (a.size:Int) (wrap64 ((i:Int)+1))) t∧R t) (d:Nat) :
 ∀ (j:Nat) (out:List Int),j+d=b.size→out.length=N→(∀ q:Nat,0≤rd out (q:Int))→(∀ q:Nat,rd out (q:Int)≤90)→(∀ q:Nat,i+j≤q→rd out (q:Int)≤9)→val 10 out+10 ^ (i+j) * (x * val 10 ((digs (bytesOf b)).drop j))=V →
   ∃ t,Ev (fun k=>gamehallref2_NatMul.l1 k a b out (i:Int) x (a.size:Int) (i:Int) (b.size:Int) (j:Int)) t∧R t:=by
 have lb:(digs (bytesOf b)).length=b.size:=by rw [digs_length,bytesOf_length]
 induction d with
 | zero =>
   intro j out hj ho h0 h90 h9 hv
   rw [List.drop_of_length_le (by omega)] at hv
   simp only [val,Int.mul_zero,Int.add_zero] at hv
   obtain ⟨t,t1,t2⟩:=rmul_l2 a b i N V R hN (by omega) hV next (N - 1) 0 out (by omega) ho h0 (fun q hq=>by omega) (by have:=h90 0; simp only [Int.natCast_zero] at this ⊢; omega) (fun q _=>h90 q) hv
   refine ⟨t,?_,t2⟩
   refine Ev.step (fun k=>gamehallref2_NatMul.l1.eq_2 _ _ _ _ _ _ _ _ _ k) ?_
   rw [ho,wpred N (by omega) (by omega),Int.toNat_natCast,List.length_take,ho,Nat.min_eq_left (by omega)]
   exact Ev.no (by omega) (Ev.yes (by omega) (Ev.yes (by omega) t1))
 | succ d ih =>
   intro j out hj ho h0 h90 h9 hv
   have hy:=ok_rd (digs_ok hb) j (by omega)
   have hr0:=h0 (i+j)
   have hr9:=h9 (i+j) (by omega)
   have hxy0:0≤x * rd (digs (bytesOf b)) (j:Int):=Int.mul_nonneg hx0 hy.1
   have hxy1:x * rd (digs (bytesOf b)) (j:Int)≤9 * 9:=Int.mul_le_mul hx1 (by omega) hy.1 (by omega)
   have g1:i+j≤1000000000000:=by omega
   have g2:j<1000000000000000:=by omega
   have b1:(j:Int)<(b.size:Int):=by omega
   have b3:(0:Int)≤((i+j:Nat):Int):=by omega
   have b4:((i+j:Nat):Int)<(out.length:Int):=by omega
   obtain ⟨t,t1,t2⟩:=ih (j+1) (out.set (i+j) (rd out ((i+j:Nat):Int)+x * rd (digs (bytesOf b)) (j:Int))) (by omega) (by simpa using ho) (fun q=>by
        by_cases hq:i+j=q
        · subst hq; rw [rd_set_self _ _ _ (by omega)]; omega
        · rw [rd_set_ne _ _ _ _ hq]; exact h0 q) (fun q=>by
        by_cases hq:i+j=q
        · subst hq; rw [rd_set_self _ _ _ (by omega)]; omega
        · rw [rd_set_ne _ _ _ _ hq]; exact h90 q) (fun q hq=>by
        rw [rd_set_ne _ _ _ _ (by omega)]; exact h9 q (by omega)) (by
        rw [val_set _ _ _ (by omega),← hv,drop_rd (digs (bytesOf b)) j (by omega),← Nat.add_assoc,Int.pow_succ]
        simp only [val]
        exact NatAlg.row1 _ _ _ _ _ _ _)
   refine ⟨t,?_,t2⟩
   refine Ev.step (fun k=>gamehallref2_NatMul.l1.eq_2 _ _ _ _ _ _ _ _ _ k) ?_
   rw [wadd i j g1,w64s g2]
   refine Ev.yes b1 (Ev.yes b3 (Ev.yes b4 (Ev.opt_bind (digit_eq b hb (by omega) j (by omega)) ?_)))
   rw [w64 (i:=x * rd (digs (bytesOf b)) (j:Int)) (by omega) (by omega),w64 (i:=rd out ((i+j:Nat):Int)+x * rd (digs (bytesOf b)) (j:Int)) (by omega) (by omega),Int.toNat_natCast]
   exact t1
theorem rmul_l0 (a b:ByteArray) (ha:asc (bytesOf a)) (hb:asc (bytesOf b)) (hs:a.size+b.size≤10000000000) (hV:val 10 (digs (bytesOf a)) * val 10 (digs (bytesOf b))<10 ^ (a.size+b.size)) (d:Nat) :
 ∀ (i:Nat) (out:List Int),i+d=a.size→out.length=a.size+b.size+1→ok 10 out→val 10 out+10 ^ i * (val 10 ((digs (bytesOf a)).drop i) * val 10 (digs (bytesOf b)))=val 10 (digs (bytesOf a)) * val 10 (digs (bytesOf b)) →
   ∃ t,Ev (fun k=>gamehallref2_NatMul.l0 k a b out (a.size:Int) (i:Int)) t∧Canon t (val 10 (digs (bytesOf a)) * val 10 (digs (bytesOf b)))∧t.size≤10000000010:=by
 have la:(digs (bytesOf a)).length=a.size:=by rw [digs_length,bytesOf_length]
 induction d with
 | zero =>
   intro i out hi ho hok hv
   rw [List.drop_of_length_le (by omega)] at hv
   simp only [val,Int.zero_mul,Int.mul_zero,Int.add_zero] at hv
   obtain ⟨t,t1,t2,t3⟩:=rtext_ev out (by omega) hok
   rw [hv] at t2
   refine ⟨t,?_,t2,by omega⟩
   refine Ev.step (fun k=>gamehallref2_NatMul.l0.eq_2 _ _ _ _ _ k) ?_
   exact Ev.no (by omega) (Ev.bind1 t1 (Ev.now _))
 | succ d ih =>
   intro i out hi ho hok hv
   have hx:=ok_rd (digs_ok ha) i (by omega)
   have hB:0≤val 10 (digs (bytesOf b)):=val_nonneg (by decide) (digs_ok hb)
   have hA:0≤val 10 ((digs (bytesOf a)).drop (i+1)):=val_nonneg (by decide) (fun x hx=>digs_ok ha x (List.mem_of_mem_drop hx))
   have hle:val 10 out+10 ^ i * (rd (digs (bytesOf a)) (i:Int) * val 10 (digs (bytesOf b)))≤val 10 (digs (bytesOf a)) * val 10 (digs (bytesOf b)):=by
    rw [← hv,drop_rd (digs (bytesOf a)) i (by omega)]
    simp only [val]
    rw [NatAlg.row2]
    have:0≤10 ^ i * (10 * val 10 ((digs (bytesOf a)).drop (i+1)) * val 10 (digs (bytesOf b))):=Int.mul_nonneg (Int.le_of_lt (Int.pow_pos (by decide))) (Int.mul_nonneg (Int.mul_nonneg (by decide) hA) hB)
    omega
   have g2:i<1000000000000000:=by omega
   have b1:(i:Int)<(a.size:Int):=by omega
   obtain ⟨t,t1,t2⟩:=rmul_l1 a b hb i (a.size+b.size+1) (rd (digs (bytesOf a)) (i:Int)) (val 10 out+10 ^ i * (rd (digs (bytesOf a)) (i:Int) * val 10 (digs (bytesOf b)))) (fun t=>Canon t (val 10 (digs (bytesOf a)) * val 10 (digs (bytesOf b)))∧t.size≤10000000010) (by omega) (by omega) hx.1 (by omega) (by
        rw [Nat.add_sub_cancel]; omega) (fun out' h1 h2 h3=>by
        rw [w64s g2]
        exact ih (i+1) out' (by omega) h1 h2 (by
         rw [h3,← hv,drop_rd (digs (bytesOf a)) i (by omega),Int.pow_succ]
         simp only [val]
         exact NatAlg.mul2 _ _ _ _ _ _)) b.size 0 out (by omega) ho (fun q=>(ok_rd' (by decide) hok q).1) (fun q=>by have:=(ok_rd' (by decide) hok q).2; omega) (fun q _=>by have:=(ok_rd' (by decide) hok q).2; omega) (by rw [List.drop_zero,Nat.add_zero])
   refine ⟨t,?_,t2⟩
   refine Ev.step (fun k=>gamehallref2_NatMul.l0.eq_2 _ _ _ _ _ k) ?_
   exact Ev.yes b1 (Ev.opt_bind (digit_eq a ha (by omega) i (by omega)) t1)
theorem rmul_ev {a b:ByteArray} {u v:Int} (ha:Canon a u) (hb:Canon b v) (hs:a.size+b.size≤10000000000) :
 ∃ t,Ev (fun k=>gamehallref2_NatMul.f k a b) t∧Canon t (u * v)∧t.size≤10000000010:=by
 have h1:=val_lt (b:=10) (by decide) (digs_ok ha.1)
 have h2:=val_lt (b:=10) (by decide) (digs_ok hb.1)
 have n1:=val_nonneg (b:=10) (by decide) (digs_ok ha.1)
 have n2:=val_nonneg (b:=10) (by decide) (digs_ok hb.1)
 rw [digs_length,bytesOf_length] at h1 h2
 have hV:val 10 (digs (bytesOf a)) * val 10 (digs (bytesOf b))<10 ^ (a.size+b.size):=by
  rw [Int.pow_add]
  have p1:(0:Int)<10 ^ a.size:=Int.pow_pos (by decide)
  have p2:(0:Int)<10 ^ b.size:=Int.pow_pos (by decide)
  have h3:val 10 (digs (bytesOf a)) * val 10 (digs (bytesOf b))≤val 10 (digs (bytesOf a)) * 10 ^ b.size:=Int.mul_le_mul_of_nonneg_left (Int.le_of_lt h2) n1
  have h4:=Int.mul_lt_mul_of_pos_right h1 p2
  omega
 obtain ⟨t,t1,t2,t3⟩:=rmul_l0 a b ha.1 hb.1 hs hV a.size 0 (List.replicate (a.size+b.size+1) 0) (by omega) (by simp) (fun x hx=>by rw [List.eq_of_mem_replicate hx]; decide) (by
  have:=val_zeros (b:=10) [] (a.size+b.size+1)
  rw [List.nil_append] at this
  rw [this,List.drop_zero]; simp [val])
 rw [ha.2.1,hb.2.1] at t2
 refine ⟨t,?_,t2,t3⟩
 unfold gamehallref2_NatMul.f
 have e:wrap64 (wrap64 ((a.size:Int)+(b.size:Int))+1)=((a.size+b.size+1:Nat):Int):=by
  rw [wadd a.size b.size (by omega),w64s (by omega)]
 rw [e,Int.toNat_natCast]
 exact Ev.yes (by omega) (Ev.yes (by omega) t1)
theorem canon_size {t:ByteArray} {w:Int} (h:Canon t w) (n:Nat) (hn:1≤n) (hw:w<10 ^ n):t.size≤n:=by
 by_cases hle:t.size≤n
 · exact hle
 · have hne:digs (bytesOf t)≠[]:=fun z=>by
    have:=congrArg List.length z
    rw [digs_length,bytesOf_length,List.length_nil] at this
    omega
   have h1:=val_ge (b:=10) (by decide) (digs_ok h.1) (digs_noLead (h.2.2.2 (by omega))) hne
   rw [digs_length,bytesOf_length,h.2.1] at h1
   have h2:(10:Int) ^ n≤10 ^ (t.size - 1):=pow_mono (by decide) (by omega)
   omega
theorem canon_lt {t:ByteArray} {w:Int} (h:Canon t w) (n:Nat) (hn:t.size≤n):w<10 ^ n:=by
 have h1:=val_lt (b:=10) (by decide) (digs_ok h.1)
 rw [digs_length,bytesOf_length,h.2.1] at h1
 have h2:(10:Int) ^ t.size≤10 ^ n:=pow_mono (by decide) hn
 omega
end
section
theorem val_drop (l:List Int) (i:Nat):val BB (l.drop i)=rd l (i:Int)+BB * val BB (l.drop (i+1)):=by
 by_cases hlt:i<l.length
 · rw [drop_rd l i hlt]; rfl
 · rw [List.drop_of_length_le (by omega),List.drop_of_length_le (by omega),rd_out l i (by omega)]; rfl
theorem val_split (l:List Int) (j:Nat) (h:j≤l.length):val BB l=val BB (l.take j)+BB ^ j * val BB (l.drop j):=by
 have h1:=val_append (b:=BB) (l.take j) (l.drop j)
 rw [List.take_append_drop,List.length_take,Nat.min_eq_left h] at h1
 exact h1
theorem take_range {l:List Int} (ho:ok BB l) (j:Nat):0≤val BB (l.take j)∧val BB (l.take j)<BB ^ j:=by
 refine ⟨val_nonneg (by decide) (ok_take ho j),?_⟩
 have h4:=val_lt (b:=BB) (by decide) (ok_take ho j)
 have h5:BB ^ (l.take j).length≤BB ^ j:=pow_mono (by decide) (by simp; omega)
 omega
theorem est_up {U Vv K P T V2 low vl x:Int} (hK:0<K) (hP:0<P) (hU:U=K * P * T+low) (hl1:low<K * P) (hV:Vv=P * V2+vl) (hv0:0≤vl) (hx:0≤x) (h:T<x * V2):U<x * Vv * K:=by
 have h1:K * P * (T+1)≤K * P * (x * V2):=Int.mul_le_mul_of_nonneg_left (by omega) (Int.le_of_lt (Int.mul_pos hK hP))
 have h2:0≤x * vl * K:=Int.mul_nonneg (Int.mul_nonneg hx hv0) (Int.le_of_lt hK)
 have h3:x * Vv * K=K * P * (x * V2)+x * vl * K:=by rw [hV]; exact NatAlg.est1 _ _ _ _ _
 have h4:K * P * (T+1)=K * P * T+K * P:=by rw [Int.mul_add,Int.mul_one]
 omega
theorem est_low {U Vv K P T V2 low vl x B:Int} (hK:0<K) (hP:0<P) (hU:U=K * P * T+low) (hl0:0≤low) (hV:Vv=P * V2+vl) (hv0:0≤vl) (hv1:vl<P) (hx:0≤x) (hxB:x≤B) (hB:B≤V2) (h:x * V2≤T):(x - 1) * Vv * K≤U:=by
 have h1:K * P * (x * V2)≤K * P * T:=Int.mul_le_mul_of_nonneg_left h (Int.le_of_lt (Int.mul_pos hK hP))
 have h2:x * vl≤V2 * P:=Int.mul_le_mul (by omega) (by omega) hv0 (by omega)
 have h3:x * Vv * K=K * P * (x * V2)+(x * vl) * K:=by rw [hV]; exact NatAlg.est1 _ _ _ _ _
 have h4:(x * vl) * K≤(V2 * P) * K:=Int.mul_le_mul_of_nonneg_right h2 (Int.le_of_lt hK)
 have h5:0≤vl * K:=Int.mul_nonneg hv0 (Int.le_of_lt hK)
 have h6:(x - 1) * Vv * K=x * Vv * K - ((V2 * P) * K+vl * K):=by rw [hV]; exact NatAlg.est2 _ _ _ _ _
 omega
def Good (U Vv K x:Int):Prop:=0≤x∧x≤1000000000∧U<(x+1) * Vv * K∧(x - 1) * Vv * K≤U
theorem w3 (k n2 L:Nat) (h:L=n2+2) (hb:k+n2≤100000000000):wrap64 ((k:Int)+(L:Int))=((k+n2+2:Nat):Int)∧wrap64 (((k+n2+2:Nat):Int) - 1)=((k+n2+1:Nat):Int)∧wrap64 ((L:Int) - 1)=((n2+1:Nat):Int):=by
 refine ⟨?_,?_,?_⟩ <;> (rw [w64] <;> omega)
theorem w3b (k n2 L:Nat) (h:L=n2+2) (hb:k+n2≤100000000000):wrap64 ((L:Int) - 2)=(n2:Int)∧wrap64 (wrap64 ((k:Int)+(L:Int)) - 2)=((k+n2:Nat):Int):=by
 refine ⟨?_,?_⟩
 · rw [w64] <;> omega
 · rw [(w3 k n2 L h hb).1,w64] <;> omega
section
variable (by_:Int) (u v out:List Int) (kk n2:Nat) (K P low vl:Int)
theorem est_l2 (hu:ok BB u) (hv:ok BB v) (hn:v.length=n2+2) (hL:kk+n2+2<u.length) (hL2:u.length≤100000000000) (hK:0<K) (hP:0<P)
 (hU:val BB u=K * P * ((rd u ((kk+n2+2:Nat):Int) * BB+rd u ((kk+n2+1:Nat):Int)) * BB+rd u ((kk+n2:Nat):Int))+low) (hl0:0≤low) (hl1:low<K * P)
 (hV:val BB v=P * (rd v ((n2+1:Nat):Int) * BB+rd v (n2:Int))+vl) (hv0:0≤vl) (hv1:vl<P) (hn1:1≤rd v ((n2+1:Nat):Int))
 (hlt:val BB u<1000000000 * val BB v * K) (m:Nat) :
 ∀ qh rh:Int,qh * rd v ((n2+1:Nat):Int)+rh=rd u ((kk+n2+2:Nat):Int) * BB+rd u ((kk+n2+1:Nat):Int)→val BB u<(qh+1) * val BB v * K→0≤qh→qh≤1000000001→0≤rh→rh<1000000000→(1000000000 - rh).toNat≤m →
   ∃ x,Good (val BB u) (val BB v) K x∧∀ res,Ev (fun k=>nat_N_Div.j4 k by_ u v (v.length:Int) out (kk:Int) x) res→Ev (fun k=>nat_N_Div.l2 k by_ u v (v.length:Int) out (kk:Int) qh rh) res:=by
 have hB:BB=1000000000:=rfl
 have hd1:=ok_rd hv (n2+1) (by omega)
 have hd2:=ok_rd hv n2 (by omega)
 have hu3:=ok_rd hu (kk+n2) (by omega)
 have hu2:=ok_rd hu (kk+n2+1) (by omega)
 rw [hB] at hd1 hd2 hu3 hu2
 have g9:kk+n2≤100000000000:=by omega
 induction m with
 | zero=>intro qh rh h1 h2 h3 h4 h5 h6 h7; omega
 | succ m ih =>
   intro qh rh h1 h2 h3 h4 h5 h6 h7
   have hqv0:0≤qh * rd v (n2:Int):=Int.mul_nonneg h3 hd2.1
   have hqv1:qh * rd v (n2:Int)≤1000000001 * 999999999:=Int.mul_le_mul h4 (by omega) hd2.1 (by omega)
   -- a true test: one less
   have less:val BB u<qh * val BB v * K→1≤qh→∃ x,Good (val BB u) (val BB v) K x∧∀ res,Ev (fun k=>nat_N_Div.j4 k by_ u v (v.length:Int) out (kk:Int) x) res→Ev (fun k=>nat_N_Div.j3 k by_ u v (v.length:Int) out (kk:Int) qh rh true) res:=by
    intro hlt' hq1
    by_cases hr:rh+rd v ((n2+1:Nat):Int) ≥ 1000000000
    · refine ⟨qh - 1,⟨by omega,by omega,by rw [Int.sub_add_cancel]; exact hlt', ?_⟩,?_⟩
      · refine est_low (B:=1000000000) hK hP hU hl0 hV hv0 hv1 (by omega) (by omega) ?_ ?_
        · rw [hB]; omega
        · have h8:(qh - 1) * rd v (n2:Int)≤1000000000 * 999999999:=Int.mul_le_mul (by omega) (by omega) hd2.1 (by omega)
          have h9:(qh - 1) * (rd v ((n2+1:Nat):Int) * BB+rd v (n2:Int))=(qh * rd v ((n2+1:Nat):Int) - rd v ((n2+1:Nat):Int)) * BB+(qh - 1) * rd v (n2:Int):=NatAlg.a1 _ _ _ _
          rw [h9,hB] 
          rw [hB] at h1
          omega
      · intro res hres
        refine Ev.step (fun k=>nat_N_Div.j3.eq_2 _ _ _ _ _ _ _ _ _ k) ?_
        rw [(w3 kk n2 v.length hn g9).2.2,u64 (i:=rd v ((n2+1:Nat):Int)) (by omega) (by omega),u64 (i:=rh+rd v ((n2+1:Nat):Int)) (by omega) (by omega),u64 (i:=qh - 1) (by omega) (by omega)]
        exact Ev.yes rfl (Ev.yes (by omega) (Ev.yes (by omega) (Ev.yes hr hres)))
    · obtain ⟨x,gx,hx⟩:=ih (qh - 1) (rh+rd v ((n2+1:Nat):Int)) (by rw [← h1]; exact NatAlg.a2 _ _ _) (by rw [Int.sub_add_cancel]; exact hlt') (by omega) (by omega) (by omega) (by omega) (by omega)
      refine ⟨x,gx,fun res hres=>?_⟩
      refine Ev.step (fun k=>nat_N_Div.j3.eq_2 _ _ _ _ _ _ _ _ _ k) ?_
      rw [(w3 kk n2 v.length hn g9).2.2,u64 (i:=rd v ((n2+1:Nat):Int)) (by omega) (by omega),u64 (i:=rh+rd v ((n2+1:Nat):Int)) (by omega) (by omega),u64 (i:=qh - 1) (by omega) (by omega)]
      exact Ev.yes rfl (Ev.yes (by omega) (Ev.yes (by omega) (Ev.no hr (hx res hres))))
   by_cases hq:qh ≥ 1000000000
   · have hVK:0≤val BB v * K:=Int.mul_nonneg (val_nonneg (by decide) hv) (Int.le_of_lt hK)
     obtain ⟨x,gx,hx⟩:=less (by
        have:=Int.mul_le_mul_of_nonneg_right hq hVK
        rw [← Int.mul_assoc,← Int.mul_assoc] at this
        omega) (by omega)
     refine ⟨x,gx,fun res hres=>?_⟩
     refine Ev.step (fun k=>nat_N_Div.l2.eq_2 _ _ _ _ _ _ _ _ k) ?_
     exact Ev.yes hq (hx res hres)
   · have tests:∀ res,Ev (fun k=>nat_N_Div.j3 k by_ u v (v.length:Int) out (kk:Int) qh rh (decide (qh * rd v (n2:Int) > rh * 1000000000+rd u ((kk+n2:Nat):Int)))) res→Ev (fun k=>nat_N_Div.l2 k by_ u v (v.length:Int) out (kk:Int) qh rh) res:=by
        intro res hres
        refine Ev.step (fun k=>nat_N_Div.l2.eq_2 _ _ _ _ _ _ _ _ k) ?_
        rw [(w3b kk n2 v.length hn g9).1,(w3b kk n2 v.length hn g9).2,u64 (i:=rd v (n2:Int)) (by omega) (by omega),u64 (i:=qh * rd v (n2:Int)) (by omega) (by omega),u64 (i:=rh * 1000000000) (by omega) (by omega),u64 (i:=rd u ((kk+n2:Nat):Int)) (by omega) (by omega),u64 (i:=rh * 1000000000+rd u ((kk+n2:Nat):Int)) (by omega) (by omega)]
        exact Ev.no hq (Ev.yes (by omega) (Ev.yes (by omega) (Ev.yes (by omega) (Ev.yes (by omega) hres))))
     have hT:qh * (rd v ((n2+1:Nat):Int) * BB+rd v (n2:Int))=(qh * rd v ((n2+1:Nat):Int)) * BB+qh * rd v (n2:Int):=NatAlg.a3 _ _ _ _
     by_cases ht:qh * rd v (n2:Int) > rh * 1000000000+rd u ((kk+n2:Nat):Int)
     · have hq1:1≤qh:=by
        by_cases h:1≤qh
        · exact h
        · rw [show qh=0 by omega,Int.zero_mul] at ht
          omega
       obtain ⟨x,gx,hx⟩:=less (est_up hK hP hU hl1 hV hv0 h3 (by
        rw [hT]
        rw [hB] at h1 ⊢
        omega)) hq1
       refine ⟨x,gx,fun res hres=>tests res ?_⟩
       rw [decide_eq_true ht]
       exact hx res hres
     · refine ⟨qh,⟨h3,by omega,h2,?_⟩,fun res hres=>tests res ?_⟩
       · refine est_low (B:=1000000000) hK hP hU hl0 hV hv0 hv1 h3 (by omega) ?_ ?_
         · rw [hB]; omega
         · rw [hT]
           rw [hB] at h1 ⊢
           omega
       · rw [decide_eq_false ht]
         refine Ev.step (fun k=>nat_N_Div.j3.eq_2 _ _ _ _ _ _ _ _ _ k) ?_
         exact Ev.no (by simp) hres
end
theorem three (l:List Int) (j:Nat) (h:j≤l.length):val BB l=val BB (l.take j)+BB ^ j * (rd l (j:Int)+BB * (rd l ((j+1:Nat):Int)+BB * (rd l ((j+2:Nat):Int)+BB * val BB (l.drop (j+3))))):=by
 rw [val_split l j h,val_drop l j,val_drop l (j+1),val_drop l (j+2)]
theorem div_l1 (d:Int) (v:List Int) (n2:Nat) (A:Int) (L:Nat) (hd0:0<d) (hd1:d<1000000000) (hv:ok BB v) (hn:v.length=n2+2) (htop:500000000≤rd v ((n2+1:Nat):Int)) (hL2:L≤100000000000) (m:Nat) :
 ∀ (u out:List Int),u.length=L→m+n2+2≤L→out.length=L - (n2+2)→ok BB u→ok BB out→val BB u<val BB v * BB ^ m→val BB (out.drop m) * BB ^ m * val BB v+val BB u=A →
   ∃ q r,Ev (fun k=>nat_N_Div.l1 k d u v (v.length:Int) out ((m:Int) - 1)) (q,r)∧Limbs q (A / val BB v)∧Limbs r (A % val BB v / d)∧q.length≤L∧r.length≤L:=by
 have hB:BB=1000000000:=rfl
 have hV0:0≤val BB v:=val_nonneg (by decide) hv
 have hVs:=three v n2 (by omega)
 rw [show v.drop (n2+3)=[] from List.drop_of_length_le (by omega),rd_out v (n2+2) (by omega)] at hVs
 simp only [val,Int.mul_zero,Int.add_zero] at hVs
 obtain ⟨vl0,vl1⟩:=take_range hv n2
 induction m with
 | zero =>
   intro u out hu _ ho hou hoo hlt hA
   simp only [List.drop_zero,Int.pow_zero,Int.mul_one] at hlt hA
   have hVpos:0<val BB v:=by have:=val_nonneg (b:=BB) (by decide) hou; omega
   obtain ⟨a1,a2⟩:=divmod_of hVpos hA (val_nonneg (by decide) hou) hlt
   obtain ⟨t,t1,t2,t3,t4,t5⟩:=trimf_ev u (by omega) hou
   obtain ⟨q,q1,q2,q3,q4,q5⟩:=trimf_ev out (by omega) hoo
   obtain ⟨s,r,s1,s2,s3,s4,s5⟩:=short_ev (u:=val BB u) ⟨t2,t3,t4⟩ d hd0 hd1 (by omega)
   refine ⟨q,s,?_,⟨by rw [q2,a1],q3,q4⟩,by rw [a2]; exact s2,by omega,by omega⟩
   refine Ev.step (fun k=>nat_N_Div.l1.eq_2 _ _ _ _ _ _ k) ?_
   exact Ev.no (by omega) (Ev.bind1 t1 (Ev.bind1 s1 (Ev.bind1 q1 (Ev.now _))))
 | succ k ih =>
   intro u out hu hm ho hou hoo hlt hA
   -- the digits
   have hUs:=three u (k+n2) (by omega)
   have hhigh:val BB u<BB ^ (k+n2+3):=by
    have h1:=val_lt (b:=BB) (by decide) hv
    have h2:val BB v * BB ^ (k+1)≤BB ^ v.length * BB ^ (k+1):=Int.mul_le_mul_of_nonneg_right (Int.le_of_lt h1) (Int.le_of_lt (Int.pow_pos (by decide)))
    rw [← Int.pow_add,hn,show n2+2+(k+1)=k+n2+3 by omega] at h2
    omega
   have hz:∀ p:Nat,k+v.length<p→rd u (p:Int)=0:=fun p hp=>high_zero hou _ hhigh p (by omega)
   have hz3:val BB (u.drop (k+n2+3))=0:=by
    have h1:=val_split u (k+n2+3) (by omega)
    have h2:=take_range hou (k+n2+3)
    have h3:0≤val BB (u.drop (k+n2+3)):=val_nonneg (by decide) (fun x hx=>hou x (List.mem_of_mem_drop hx))
    by_cases h:val BB (u.drop (k+n2+3))=0
    · exact h
    · have h4:BB ^ (k+n2+3) * 1≤BB ^ (k+n2+3) * val BB (u.drop (k+n2+3)):=Int.mul_le_mul_of_nonneg_left (by omega) (Int.le_of_lt (Int.pow_pos (by decide)))
      omega
   rw [hz3,Int.mul_zero,Int.add_zero] at hUs
   obtain ⟨ul0,ul1⟩:=take_range hou (k+n2)
   have hK:0<BB ^ k:=Int.pow_pos (by decide)
   have hP:0<BB ^ n2:=Int.pow_pos (by decide)
   have hU:val BB u=BB ^ k * BB ^ n2 * ((rd u ((k+n2+2:Nat):Int) * BB+rd u ((k+n2+1:Nat):Int)) * BB+rd u ((k+n2:Nat):Int))+val BB (u.take (k+n2)):=by
    rw [hUs,Int.pow_add]
    exact NatAlg.a4 _ _ _ _ _ _
   rw [Int.pow_add] at ul1
   have hV:val BB v=BB ^ n2 * (rd v ((n2+1:Nat):Int) * BB+rd v (n2:Int))+val BB (v.take n2):=by
    rw [hVs]
    exact NatAlg.a5 _ _ _ _ _
   have hlt' : val BB u<1000000000 * val BB v * BB ^ k:=by
    rw [Int.pow_succ] at hlt
    have:val BB v * (BB ^ k * BB)=1000000000 * val BB v * BB ^ k:=NatAlg.a6 _ _ _
    omega
   have hd1' := ok_rd hv (n2+1) (by omega)
   have hu1:=ok_rd hou (k+n2+2) (by omega)
   have hu2:=ok_rd hou (k+n2+1) (by omega)
   have hu3:=ok_rd hou (k+n2) (by omega)
   rw [hB] at hd1' hu1 hu2 hu3
   -- the first estimate
   have hvp:(0:Int)<rd v ((n2+1:Nat):Int):=by omega
   have g0:0≤(rd u ((k+n2+2:Nat):Int) * 1000000000+rd u ((k+n2+1:Nat):Int)) / rd v ((n2+1:Nat):Int):=Int.ediv_nonneg (by omega) (by omega)
   have gm:=Int.mul_ediv_add_emod (rd u ((k+n2+2:Nat):Int) * 1000000000+rd u ((k+n2+1:Nat):Int)) (rd v ((n2+1:Nat):Int))
   have gr0:=Int.emod_nonneg (rd u ((k+n2+2:Nat):Int) * 1000000000+rd u ((k+n2+1:Nat):Int)) (show rd v ((n2+1:Nat):Int)≠0 by omega)
   have gr1:=Int.emod_lt_of_pos (rd u ((k+n2+2:Nat):Int) * 1000000000+rd u ((k+n2+1:Nat):Int)) hvp
   have hnb:rd u ((k+n2+2:Nat):Int)≤rd v ((n2+1:Nat):Int):=by
    by_cases h:rd u ((k+n2+2:Nat):Int)≤rd v ((n2+1:Nat):Int)
    · exact h
    · -- then u would not be less than B * v * K
      exfalso
      have hP1:BB ^ n2 * (rd v ((n2+1:Nat):Int) * BB+rd v (n2:Int))+val BB (v.take n2)<BB ^ n2 * ((rd v ((n2+1:Nat):Int)+1) * BB):=by
       have hd2:=ok_rd hv n2 (by omega)
       have:BB ^ n2 * (rd v ((n2+1:Nat):Int) * BB+rd v (n2:Int)+1)≤BB ^ n2 * ((rd v ((n2+1:Nat):Int)+1) * BB):=Int.mul_le_mul_of_nonneg_left (by rw [hB] at hd2 ⊢; omega) (Int.le_of_lt hP)
       rw [Int.mul_add (BB ^ n2) (rd v ((n2+1:Nat):Int) * BB+rd v (n2:Int)) 1] at this
       omega
      rw [← hV] at hP1
      have h2:BB ^ k * BB ^ n2 * ((rd v ((n2+1:Nat):Int)+1) * BB * BB)≤BB ^ k * BB ^ n2 * ((rd u ((k+n2+2:Nat):Int) * BB+rd u ((k+n2+1:Nat):Int)) * BB+rd u ((k+n2:Nat):Int)) :=
       Int.mul_le_mul_of_nonneg_left (by rw [hB]; omega) (Int.le_of_lt (Int.mul_pos hK hP))
      have h3:(BB * BB ^ k) * val BB v≤(BB * BB ^ k) * (BB ^ n2 * ((rd v ((n2+1:Nat):Int)+1) * BB)):=Int.mul_le_mul_of_nonneg_left (Int.le_of_lt hP1) (Int.le_of_lt (Int.mul_pos (by decide) hK))
      have h4:(BB * BB ^ k) * (BB ^ n2 * ((rd v ((n2+1:Nat):Int)+1) * BB))=BB ^ k * BB ^ n2 * ((rd v ((n2+1:Nat):Int)+1) * BB * BB):=NatAlg.a7 _ _ _ _
      have h5:(BB * BB ^ k) * val BB v=1000000000 * val BB v * BB ^ k:=NatAlg.a8 _ _ _
      omega
   have g1:(rd u ((k+n2+2:Nat):Int) * 1000000000+rd u ((k+n2+1:Nat):Int)) / rd v ((n2+1:Nat):Int)≤1000000001:=by
    have:(rd u ((k+n2+2:Nat):Int) * 1000000000+rd u ((k+n2+1:Nat):Int)) / rd v ((n2+1:Nat):Int)<1000000002:=Int.ediv_lt_of_lt_mul hvp (by omega)
    omega
   obtain ⟨x,⟨x0,x1,x2,x3⟩,hx⟩:=est_l2 d u v out k n2 (BB ^ k) (BB ^ n2) (val BB (u.take (k+n2))) (val BB (v.take n2)) hou hv hn (by omega) (by omega) hK hP hU ul0 ul1 hV vl0 vl1 (by omega) hlt' 1000000000
    ((rd u ((k+n2+2:Nat):Int) * 1000000000+rd u ((k+n2+1:Nat):Int)) / rd v ((n2+1:Nat):Int)) ((rd u ((k+n2+2:Nat):Int) * 1000000000+rd u ((k+n2+1:Nat):Int)) % rd v ((n2+1:Nat):Int))
    (by rw [Int.mul_comm] at gm; exact gm)
    (est_up hK hP hU ul1 hV vl0 (by omega) (by
        have hd2:=ok_rd hv n2 (by omega)
        rw [hB] at hd2 ⊢
        generalize (rd u ((k+n2+2:Nat):Int) * 1000000000+rd u ((k+n2+1:Nat):Int)) / rd v ((n2+1:Nat):Int)=y at *
        have e:(y+1) * (rd v ((n2+1:Nat):Int) * 1000000000+rd v (n2:Int))=(rd v ((n2+1:Nat):Int) * y+rd v ((n2+1:Nat):Int)) * 1000000000+(y+1) * rd v (n2:Int):=NatAlg.a9 _ _ _ _
        have e0:0≤(y+1) * rd v (n2:Int):=Int.mul_nonneg (by omega) hd2.1
        omega)) g0 g1 gr0 (by omega) (by omega)
   -- behind the estimate
   have next:∀ (y:Int) (u' : List Int),0≤y→u'.length=L→ok BB u' → val BB u' = val BB u - BB ^ k * (y * val BB v)→val BB u<(y+1) * val BB v * BB ^ k →
        ∃ q r,Ev (fun kq=>nat_N_Div.l1 kq d u' v (v.length:Int) (out.set k y) (wrap64 ((k:Int) - 1))) (q,r)∧Limbs q (A / val BB v)∧Limbs r (A % val BB v / d)∧q.length≤L∧r.length≤L∧y<1000000000:=by
    intro y u' hy0 hlu' hou' hval hy2
    have hnn:=val_nonneg (b:=BB) (by decide) hou'
    have hyB:y<1000000000:=by
        by_cases h:y<1000000000
        · exact h
        · have h1:1000000000 * (val BB v * BB ^ k)≤y * (val BB v * BB ^ k):=Int.mul_le_mul_of_nonneg_right (by omega) (Int.mul_nonneg hV0 (Int.le_of_lt hK))
          have h2:BB ^ k * (y * val BB v)=y * (val BB v * BB ^ k):=NatAlg.b1 _ _ _
          have h3:1000000000 * val BB v * BB ^ k=1000000000 * (val BB v * BB ^ k):=by rw [Int.mul_assoc]
          omega
    rw [w64 (i:=(k:Int) - 1) (by omega) (by omega)]
    obtain ⟨q,r,q1,q2,q3,q4,q5⟩:=ih u' (out.set k y) hlu' (by omega) (by simpa using ho) hou' (ok_set hoo _ hy0 hyB) (by
        have e:(y+1) * val BB v * BB ^ k=BB ^ k * (y * val BB v)+val BB v * BB ^ k:=NatAlg.b2 _ _ _
        omega) (by
        rw [set_drop _ _ _ (by omega),hval,← hA,Int.pow_succ]
        simp only [val]
        exact NatAlg.b3 _ _ _ _ _ _)
    exact ⟨q,r,q1,q2,q3,q4,q5,hyB⟩
   have j4:∃ q r,Ev (fun kq=>nat_N_Div.j4 kq d u v (v.length:Int) out (k:Int) x) (q,r)∧Limbs q (A / val BB v)∧Limbs r (A % val BB v / d)∧q.length≤L∧r.length≤L:=by
    obtain ⟨t,u', m1,m2,m3,m4,m5⟩:=minus_ev (u:=u) (v:=v) k x hou hv x0 x1 (by omega) (by omega) hz
    have hb' : val BB u' < BB ^ (k+v.length+1):=val_high m3 _ (fun p hp=>m4 p (by omega))
    have hn0:=val_nonneg (b:=BB) (by decide) m3
    cases t with
    | false =>
      simp only [Bool.false_eq_true,if_false,Int.add_zero] at m5
      obtain ⟨q,r,q1,q2,q3,q4,q5,q6⟩:=next x u' x0 (by omega) m3 m5 x2
      refine ⟨q,r,?_,q2,q3,q4,q5⟩
      refine Ev.step (fun kq=>nat_N_Div.j4.eq_2 _ _ _ _ _ _ _ kq) ?_
      refine Ev.bind1 m1 (Ev.no (by simp) (Ev.yes (by omega) (Ev.yes (by omega) ?_)))
      rw [Int.toNat_natCast,show x % 4294967296=x by omega]
      exact q1
    | true =>
      simp only [if_true] at m5
      obtain ⟨u2,c,p1,p2,p3,p4,p5,p6,p7⟩:=plus_ev (u:=u') (v:=v) k m3 hv (by omega) (by omega) m4
      have hb2:val BB u2<BB ^ (k+v.length+1):=val_high p3 _ (fun p hp=>p4 p (by omega))
      have hn2:=val_nonneg (b:=BB) (by decide) p3
      have e:(x - 1) * val BB v * BB ^ k=BB ^ k * (x * val BB v) - BB ^ k * val BB v:=NatAlg.b4 _ _ _
      have e' : (x - 1+1) * val BB v * BB ^ k=BB ^ k * (x * val BB v):=NatAlg.b5 _ _ _
      have e3:BB ^ k * ((x - 1) * val BB v)=BB ^ k * (x * val BB v) - BB ^ k * val BB v:=NatAlg.b6 _ _ _
      have hc:c=1:=by
       by_cases h:c=1
       · exact h
       · rw [show c=0 by omega,Int.mul_zero] at p7
         omega
      rw [hc,Int.mul_one] at p7
      have hx1:1≤x:=by
       by_cases h:1≤x
       · exact h
       · rw [show x=0 by omega,Int.zero_mul,Int.mul_zero] at m5
         have:=val_nonneg (b:=BB) (by decide) hou
         omega
      obtain ⟨q,r,q1,q2,q3,q4,q5,q6⟩:=next (x - 1) u2 (by omega) (by omega) p3 (by omega) (by omega)
      refine ⟨q,r,?_,q2,q3,q4,q5⟩
      refine Ev.step (fun kq=>nat_N_Div.j4.eq_2 _ _ _ _ _ _ _ kq) ?_
      refine Ev.bind1 m1 (Ev.yes rfl (Ev.bind1 p1 (Ev.yes (by omega) (Ev.yes (by omega) ?_))))
      rw [Int.toNat_natCast,u64 (i:=x - 1) (by omega) (by omega),show (x - 1) % 4294967296=x - 1 by omega]
      exact q1
   obtain ⟨q,r,q1,q2⟩:=j4
   refine ⟨q,r,?_,q2⟩
   refine Ev.step (fun kq=>nat_N_Div.l1.eq_2 _ _ _ _ _ _ kq) ?_
   have g9:k+n2≤100000000000:=by omega
   rw [show (((k+1:Nat):Int) - 1)=(k:Int) by omega,(w3 k n2 v.length hn g9).1,(w3 k n2 v.length hn g9).2.1,(w3 k n2 v.length hn g9).2.2,u64 (i:=rd v ((n2+1:Nat):Int)) (by omega) (by omega),u64 (i:=rd u ((k+n2+2:Nat):Int)) (by omega) (by omega),u64 (i:=rd u ((k+n2+1:Nat):Int)) (by omega) (by omega),
    u64 (i:=rd u ((k+n2+2:Nat):Int) * 1000000000) (by omega) (by omega),u64 (i:=rd u ((k+n2+2:Nat):Int) * 1000000000+rd u ((k+n2+1:Nat):Int)) (by omega) (by omega),Int.tmod_eq_emod_of_nonneg (by omega),Int.tdiv_eq_ediv_of_nonneg (by omega),
    u64 (i:=(rd u ((k+n2+2:Nat):Int) * 1000000000+rd u ((k+n2+1:Nat):Int)) / rd v ((n2+1:Nat):Int)) (by omega) (by omega)]
   exact Ev.yes (by omega) (Ev.yes (by omega) (Ev.yes (by omega) (Ev.yes (by omega) (Ev.yes (by omega) (Ev.yes (by omega) (Ev.yes (by omega) (Ev.no (by omega) (hx _ q1))))))))
end
section
theorem limbs_nonneg {l:List Int} {v:Int} (h:Limbs l v):0≤v:=by
 have:=val_nonneg (b:=BB) (by decide) h.2.1
 rw [h.1] at this; exact this
theorem limbs_pos {l:List Int} {v:Int} (h:Limbs l v):0<l.length↔0<v:=by
 constructor
 · intro hl
   have hne:l≠[]:=fun z=>by rw [z] at hl; simp at hl
   have h1:=val_ge (b:=BB) (by decide) h.2.1 h.2.2 hne
   have h2:0<BB ^ (l.length - 1):=Int.pow_pos (by decide)
   rw [h.1] at h1
   omega
 · intro hv
   by_cases hl:0<l.length
   · exact hl
   · have:l=[]:=List.eq_nil_of_length_eq_zero (by omega)
     have h1:=h.1
     rw [this] at h1
     simp only [val] at h1
     omega
theorem limbs_len {l r:List Int} {u v:Int} (h:Limbs l u) (h' : Limbs r v) (hle:u≤v):l.length≤r.length :=
 len_le_of_val (b:=BB) (by decide) h.2.1 h.2.2 h'.2.1 (by rw [h.1,h'.1]; exact hle)
theorem factor {top d:Int} (h0:1≤top) (h1:top<1000000000) (hd:d=1000000000 / (top+1)):1≤d∧d≤500000000∧(top+1) * d≤1000000000∧500000000≤top * d:=by
 have hm:=Int.mul_ediv_add_emod 1000000000 (top+1)
 have hr0:=Int.emod_nonneg 1000000000 (show top+1≠0 by omega)
 have hr1:=Int.emod_lt_of_pos 1000000000 (show 0<top+1 by omega)
 have hd1:1≤d:=by
  have:1≤1000000000 / (top+1):=(Int.le_ediv_iff_mul_le (by omega)).2 (by omega)
  omega
 rw [← hd] at hm
 generalize (1000000000:Int) % (top+1)=r at *
 clear hd
 have e:(top+1) * d=top * d+d:=by rw [Int.add_mul,Int.one_mul]
 have h2:0≤(top - 1) * (d - 1):=Int.mul_nonneg (by omega) (by omega)
 have e2:(top - 1) * (d - 1)=top * d - top - d+1:=by
  rw [Int.sub_mul,Int.mul_sub,Int.one_mul,Int.mul_one]; omega
 have h3:1 * d≤top * d:=Int.mul_le_mul_of_nonneg_right h0 (by omega)
 rw [e2] at h2
 rw [e] at hm ⊢
 rw [Int.one_mul] at h3
 omega
theorem top_split {l:List Int} (n:Nat) (hl:l.length=n+1):val BB l=val BB (l.take n)+BB ^ n * rd l (n:Int):=by
 have h:=val_split l n (by omega)
 rw [val_drop,List.drop_of_length_le (by omega)] at h
 simpa [val] using h
theorem snoc_zero {t:List Int} (ho:ok BB t):ok BB (t ++ [0]):=ok_append.2 ⟨ho,ok_cons.2 ⟨by decide,ok_nil _⟩⟩
theorem rep_ok (n:Nat):ok BB (List.replicate n (0:Int)):=fun x hx=>by rw [List.eq_of_mem_replicate hx]; decide
theorem wsub (L n m:Nat) (h:L=n+m) (hL:L≤100000000000):wrap64 ((L:Int) - (n:Int))=(m:Int)∧wrap64 ((m:Int) - 1)=(m:Int) - 1:=by
 refine ⟨?_,?_⟩ <;> (rw [w64] <;> omega)
theorem div_ev {a b:List Int} {u v:Int} (ha:Limbs a u) (hb:Limbs b v) (hv:0<v) (hn:a.length+b.length≤40000000000) :
 ∃ q r,Ev (fun k=>nat_N_Div.f k a b) (q,r)∧Limbs q (u / v)∧Limbs r (u % v)∧q.length≤a.length+2∧r.length≤a.length+2:=by
 have hu:=limbs_nonneg ha
 have hbl:=(limbs_pos hb).2 hv
 have hc:=cmp_ev (l:=a) (r:=b) (by omega) ha.2.1 hb.2.1 ha.2.2 hb.2.2
 rw [ha.1,hb.1] at hc
 by_cases hlt:u<v
 · refine ⟨[],a,?_,⟨by rw [Int.ediv_eq_zero_of_lt hu hlt]; rfl,ok_nil _,noLead_nil⟩,by rw [Int.emod_eq_of_lt hu hlt]; exact ha,by simp,by omega⟩
   unfold nat_N_Div.f
   exact Ev.bind1 hc (Ev.yes (by unfold cmpI; rw [if_pos hlt]; decide) (Ev.now _))
 · have hnc:¬ cmpI u v<0:=by unfold cmpI; rw [if_neg hlt]; split <;> omega
   by_cases h1:b.length=1
   · obtain ⟨x,hx⟩:∃ x,b=[x]:=List.length_eq_one_iff.1 h1
     subst hx
     have hx1:=hb.1
     simp only [val,Int.mul_zero,Int.add_zero] at hx1
     subst hx1
     have hxr:=ok_cons.1 hb.2.1
     obtain ⟨q,r,q1,q2,q3,q4,q5⟩:=short_ev ha x hv hxr.1.2 (by omega)
     refine ⟨q,r,?_,q2,q3,by omega,by omega⟩
     unfold nat_N_Div.f
     refine Ev.bind1 hc (Ev.no hnc (Ev.yes (by simp) (Ev.yes (by simp) ?_)))
     rw [show rd [x] 0=x from rfl]
     exact Ev.bind1 q1 (Ev.now _)
   · obtain ⟨n2,hn2⟩:∃ n2,b.length=n2+2:=⟨b.length - 2,by omega⟩
     have hB:BB=1000000000:=rfl
     have htr:=ok_rd hb.2.1 (n2+1) (by omega)
     rw [hB] at htr
     have hbne:b≠[]:=fun z=>by rw [z] at hn2; simp at hn2
     have htop:rd b ((n2+1:Nat):Int)≠0:=by
        have:=hb.2.2 hbne
        rw [List.getLast_eq_getElem] at this
        rw [rd_eq b (n2+1) (by omega)]
        intro h
        apply this
        rw [← h]
        congr 1
        omega
     have hvs:=top_split (l:=b) (n2+1) (by omega)
     have htk:=take_range hb.2.1 (n2+1)
     rw [hb.1] at hvs
     -- the factor
     obtain ⟨d,hd⟩:∃ d,d=1000000000 / (rd b ((n2+1:Nat):Int)+1):=⟨_,rfl⟩
     obtain ⟨d1,d2,d3,d4⟩:=factor (by omega) htr.2 hd
     have ed:IntKind.u64.wrap (Int.tdiv (1000000000:Int) (IntKind.u64.wrap ((IntKind.u64.wrap (rd b (wrap64 ((b.length:Int) - 1))))+1))) % 4294967296=d∧¬ (IntKind.u64.wrap ((IntKind.u64.wrap (rd b (wrap64 ((b.length:Int) - 1))))+1))=0∧0≤(wrap64 ((b.length:Int) - 1))∧(wrap64 ((b.length:Int) - 1))<(b.length:Int):=by
        rw [(w3 0 n2 b.length hn2 (by omega)).2.2,u64 (i:=rd b ((n2+1:Nat):Int)) (by omega) (by omega),u64 (i:=rd b ((n2+1:Nat):Int)+1) (by omega) (by omega),Int.tdiv_eq_ediv_of_nonneg (by omega),← hd,u64 (by omega) (by omega)]
        refine ⟨by omega,by omega,by omega,by omega⟩
     have hdl:Limbs [d] d:=⟨by simp [val],ok_cons.2 ⟨⟨by omega,by show _<(1000000000:Int); omega⟩,ok_nil _⟩,fun _=>by show d≠0; omega⟩
     obtain ⟨t,t1,t2,t3⟩:=mul_ev ha hdl (by simp; omega)
     obtain ⟨w,w1,w2,w3'⟩:=mul_ev hb hdl (by simp; omega)
     simp only [List.length_singleton] at t3 w3'
     have hPP:0<BB ^ (n2+1):=Int.pow_pos (by decide)
     have hPs:BB ^ (n2+2)=BB ^ (n2+1) * 1000000000:=Int.pow_succ _ _
     have hvle:v * 1≤v * d:=Int.mul_le_mul_of_nonneg_left d1 (by omega)
     have hule:u * 1≤u * d:=Int.mul_le_mul_of_nonneg_left d1 hu
     rw [Int.mul_one] at hvle hule
     -- the length of the divisor stays
     have hup:v * d<BB ^ (n2+2):=by
        have h2:(v+1) * d≤(BB ^ (n2+1) * (rd b ((n2+1:Nat):Int)+1)) * d:=Int.mul_le_mul_of_nonneg_right (by rw [Int.mul_add,Int.mul_one]; omega) (by omega)
        have h3:BB ^ (n2+1) * ((rd b ((n2+1:Nat):Int)+1) * d)≤BB ^ (n2+1) * 1000000000:=Int.mul_le_mul_of_nonneg_left d3 (Int.le_of_lt hPP)
        rw [Int.mul_assoc] at h2
        have h4:(v+1) * d=v * d+d:=by rw [Int.add_mul,Int.one_mul]
        omega
     have hvge:BB ^ (n2+1)≤v:=by
        have h2:BB ^ (n2+1) * 1≤BB ^ (n2+1) * rd b ((n2+1:Nat):Int):=Int.mul_le_mul_of_nonneg_left (by omega) (Int.le_of_lt hPP)
        omega
     have hwl:w.length=n2+2:=by
        have h2:w.length≤n2+2:=by
         by_cases h:w.length≤n2+2
         · exact h
         · have hwne:w≠[]:=fun z=>by rw [z] at h; simp at h
           have h3:=val_ge (b:=BB) (by decide) w2.2.1 w2.2.2 hwne
           have h4:BB ^ (n2+2)≤BB ^ (w.length - 1):=pow_mono (by decide) (by omega)
           rw [w2.1] at h3
           omega
        have h5:n2+2≤w.length:=by
         by_cases h:n2+2≤w.length
         · exact h
         · have h3:=val_lt (b:=BB) (by decide) w2.2.1
           have h4:BB ^ w.length≤BB ^ (n2+1):=pow_mono (by decide) (by omega)
           rw [w2.1] at h3
           omega
        omega
     have hwtop:500000000≤rd w ((n2+1:Nat):Int):=by
        have h2:=top_split (l:=w) (n2+1) (by omega)
        have h3:=take_range w2.2.1 (n2+1)
        rw [w2.1] at h2
        by_cases h:500000000≤rd w ((n2+1:Nat):Int)
        · exact h
        · have h4:BB ^ (n2+1) * (rd w ((n2+1:Nat):Int)+1)≤BB ^ (n2+1) * (rd b ((n2+1:Nat):Int) * d):=Int.mul_le_mul_of_nonneg_left (by omega) (Int.le_of_lt hPP)
          have h5:(BB ^ (n2+1) * rd b ((n2+1:Nat):Int)) * d≤v * d:=Int.mul_le_mul_of_nonneg_right (by omega) (by omega)
          rw [Int.mul_assoc] at h5
          rw [Int.mul_add,Int.mul_one] at h4
          omega
     have htl:a.length≤t.length:=limbs_len ha t2 hule
     have hal:=limbs_len hb ha (by omega)
     -- the division
     obtain ⟨m,hm⟩:∃ m,t.length+1=n2+2+m:=⟨t.length+1 - (n2+2),by omega⟩
     have hult:u<v * BB ^ m:=by
        have h2:=val_lt (b:=BB) (by decide) ha.2.1
        rw [ha.1] at h2
        have h3:BB ^ a.length≤BB ^ (n2+1+m):=pow_mono (by decide) (by omega)
        rw [Int.pow_add] at h3
        have h4:BB ^ (n2+1) * BB ^ m≤v * BB ^ m:=Int.mul_le_mul_of_nonneg_right hvge (Int.le_of_lt (Int.pow_pos (by decide)))
        omega
     obtain ⟨q,r,q1,q2,q3,q4,q5⟩:=div_l1 d w n2 (u * d) (t.length+1) (by omega) (by omega) w2.2.1 hwl hwtop (by omega) m (t ++ [0]) (List.replicate m 0) (by simp) (by omega) (by rw [List.length_replicate]; omega) (snoc_zero t2.2.1) (rep_ok m) (by
      rw [val_snoc,Int.mul_zero,Int.add_zero,t2.1,w2.1,Int.mul_comm v d,Int.mul_assoc,Int.mul_comm u d]
      exact Int.mul_lt_mul_of_pos_left hult (by omega)) (by
      rw [List.drop_of_length_le (by simp),val_snoc,Int.mul_zero,Int.add_zero,t2.1]; simp [val])
     rw [w2.1] at q2 q3
     rw [Int.mul_ediv_mul_of_pos_left _ _ (by omega)] at q2
     rw [Int.mul_comm u d,Int.mul_comm v d,Int.mul_emod_mul_of_pos _ _ (by omega),Int.mul_ediv_cancel_left _ (by omega)] at q3
     refine ⟨q,r,?_,q2,q3,by omega,by omega⟩
     obtain ⟨s1,s2⟩:=wsub (t.length+1) (n2+2) m hm (by omega)
     have l0:Ev (fun k=>nat_N_Div.l0 k a d (t ++ [0]) w) (q,r):=by
        refine Ev.step (fun k=>nat_N_Div.l0.eq_2 _ _ _ _ k) ?_
        have e1:((t ++ [0]).length:Int)=((t.length+1:Nat):Int):=by simp
        rw [hwl] at q1 ⊢
        rw [e1,s1,Int.toNat_natCast,s2]
        exact Ev.no (by omega) (Ev.yes (by omega) (Ev.yes (by omega) q1))
     unfold nat_N_Div.f
     rw [ed.1]
     refine Ev.bind1 hc (Ev.no hnc (Ev.no (by omega) (Ev.yes ed.2.2.1 (Ev.yes ed.2.2.2 (Ev.no ed.2.1 (Ev.bind1 t1 (Ev.yes (by omega) (Ev.bind1 w1 l0))))))))
theorem gcd_l0 (n:Nat):∀ (a b:List Int) (m:Nat),Limbs a (m:Int)→Limbs b (n:Int)→a.length≤10000000000→b.length≤10000000000 →
 ∃ r,Ev (fun k=>nat_N_Gcd.l0 k a b) r∧Limbs r ((Nat.gcd m n:Nat):Int):=by
 induction n using Nat.strongRecOn with
 | _ n ih =>
   intro a b m ha hb hal hbl
   have hp:=limbs_pos hb
   by_cases h0:n=0
   · subst h0
     refine ⟨a,?_,by rw [Nat.gcd_zero_right]; exact ha⟩
     refine Ev.step (fun k=>nat_N_Gcd.l0.eq_2 _ _ k) ?_
     exact Ev.no (by omega) (Ev.now _)
   · obtain ⟨q,r,q1,q2,q3,q4,q5⟩:=div_ev ha hb (by omega) (by omega)
     rw [← Int.natCast_emod] at q3
     have hlt:=Nat.mod_lt m (show 0<n by omega)
     have hrl:=limbs_len q3 hb (by omega)
     obtain ⟨g,g1,g2⟩:=ih (m % n) hlt b r n hb q3 hbl (by omega)
     refine ⟨g,?_,by rw [Nat.gcd_comm,Nat.gcd_rec,Nat.gcd_comm]; exact g2⟩
     refine Ev.step (fun k=>nat_N_Gcd.l0.eq_2 _ _ k) ?_
     exact Ev.yes (by omega) (Ev.bind1 q1 g1)
theorem gcd_ev {a b:List Int} {m n:Nat} (ha:Limbs a (m:Int)) (hb:Limbs b (n:Int)) (hal:a.length≤10000000000) (hbl:b.length≤10000000000) :
 ∃ r,Ev (fun k=>nat_N_Gcd.f k a b) r∧Limbs r ((Nat.gcd m n:Nat):Int):=by
 unfold nat_N_Gcd.f
 exact gcd_l0 n a b m ha hb hal hbl
end
section
theorem encode_digit (x:Int) (h0:48≤x) (h1:x≤57):bytesOf (Utf8.encode x)=[x]:=by
 have:x=48∨x=49∨x=50∨x=51∨x=52∨x=53∨x=54∨x=55∨x=56∨x=57:=by omega
 rcases this with rfl | rfl | rfl | rfl | rfl | rfl | rfl | rfl | rfl | rfl <;> rfl
theorem canon_zero {s:ByteArray} {v:Int} (h:Canon s v):s.toList=([48]:List UInt8)↔v=0:=by
 constructor
 · intro he
   have hb:bytesOf s=[48]:=by rw [bytesOf_nums,he]; rfl
   rw [← h.2.1,hb]; rfl
 · intro hv
   subst hv
   have h0:Canon (⟨#[48]⟩:ByteArray) 0:=⟨asc_cons (l:=[]) (by decide) (fun c hc=>by simp at hc),rfl,by decide,fun z=>by revert z; decide⟩
   rw [canon_inj h h0,ByteArray.toList_eq]
def pre (a:ByteArray) (i:Nat):Int:=val 10 (digs ((bytesOf a).take i))
theorem pre_step (a:ByteArray) (i:Nat) (h:i<a.size):pre a (i+1)=10 * pre a i+(rd (bytesOf a) (i:Int) - 48):=by
 unfold pre
 rw [take_rd _ _ (by rw [bytesOf_length]; exact h),digs_snoc]
 simp only [val]; omega
theorem take_all (a:ByteArray):(bytesOf a).take a.size=bytesOf a:=List.take_of_length_le (by rw [bytesOf_length]; exact Nat.le_refl _)
theorem asc_take {l:List Int} (h:asc l) (i:Nat):asc (l.take i):=fun c hc=>h c (List.mem_of_mem_take hc)
theorem bytes_one (a:ByteArray) (i:Nat) (h:i<a.size):bytesOf (a.extract i (i+1))=[rd (bytesOf a) (i:Int)]:=by
 rw [bytesOf_extract,drop_rd _ i (by rw [bytesOf_length]; exact h),show i+1 - i=1 by omega]; rfl
theorem canon_ten {r b:ByteArray} {w v:Int} (hr:Canon r w) (hb:Canon b v) (h:w<10 * v):r.size≤b.size+1:=by
 by_cases hle:r.size≤b.size+1
 · exact hle
 · have hne:digs (bytesOf r)≠[]:=fun z=>by
    have:=congrArg List.length z
    rw [digs_length,bytesOf_length,List.length_nil] at this
    omega
   have h1:=val_ge (b:=10) (by decide) (digs_ok hr.1) (digs_noLead (hr.2.2.2 (by omega))) hne
   rw [digs_length,bytesOf_length,hr.2.1] at h1
   have h2:(10:Int) ^ (b.size+1)≤10 ^ (r.size - 1):=pow_mono (by decide) (by omega)
   have h3:=val_lt (b:=10) (by decide) (digs_ok hb.1)
   rw [digs_length,bytesOf_length,hb.2.1] at h3
   rw [Int.pow_succ] at h2
   omega
theorem rdiv_l1 (a b:ByteArray) (i:Nat) (v:Int) (hb:Canon b v) (hv:0<v) (hbs:b.size≤9000000000) (q0:ByteArray) (R:ByteArray × ByteArray→Prop) (u:Int) (hu10:u<10 * v)
 (hq:q0.size≤100000000000)
 (next:∀ (r' : ByteArray) (x:Int),48≤x→x≤57→x=48+u / v→Canon r' (u % v)→∃ z,Ev (fun k=>gamehallref2_NatDiv.l0 k a b (q0 ++ Utf8.encode x) r' (wrap64 ((i:Int)+1))) z∧R z) (d:Nat) :
 ∀ (r:ByteArray) (w x:Int),Canon r w→w≤(d:Int) * v+(v - 1)→0≤w→48≤x→u=(x - 48) * v+w →
   ∃ z,Ev (fun k=>gamehallref2_NatDiv.l1 k a b q0 r (i:Int) x) z∧R z:=by
 have hx57:∀ (x w:Int),0≤w→u=(x - 48) * v+w→x≤57:=by
  intro x w hw0 he
  by_cases h:x≤57
  · exact h
  · have:=Int.mul_le_mul_of_nonneg_right (show (10:Int)≤x - 48 by omega) (show 0≤v by omega)
    omega
 induction d with
 | zero =>
   intro r w x hr hw hw0 hx he
   have hwv:w<v:=by omega
   obtain ⟨e1,e2⟩:=divmod_of hv he.symm hw0 hwv
   obtain ⟨z,z1,z2⟩:=next r x hx (hx57 x w hw0 he) (by omega) (by rw [e2]; exact hr)
   refine ⟨z,?_,z2⟩
   refine Ev.step (fun k=>gamehallref2_NatDiv.l1.eq_2 _ _ _ _ _ _ k) ?_
   have hsz:q0.size+(Utf8.encode x).size≤9223372036854775807:=by
    have:=congrArg List.length (encode_digit x hx (hx57 x w hw0 he))
    rw [bytesOf_length,List.length_singleton] at this
    omega
   exact Ev.opt_bind (rcmp_eq hr hb) (Ev.no (by unfold cmpI; rw [if_pos hwv]; decide) (Ev.yes hsz z1))
 | succ d ih =>
   intro r w x hr hw hw0 hx he
   by_cases hwv:w<v
   · obtain ⟨e1,e2⟩:=divmod_of hv he.symm hw0 hwv
     obtain ⟨z,z1,z2⟩:=next r x hx (hx57 x w hw0 he) (by omega) (by rw [e2]; exact hr)
     refine ⟨z,?_,z2⟩
     refine Ev.step (fun k=>gamehallref2_NatDiv.l1.eq_2 _ _ _ _ _ _ k) ?_
     have hsz:q0.size+(Utf8.encode x).size≤9223372036854775807:=by
        have:=congrArg List.length (encode_digit x hx (hx57 x w hw0 he))
        rw [bytesOf_length,List.length_singleton] at this
        omega
     exact Ev.opt_bind (rcmp_eq hr hb) (Ev.no (by unfold cmpI; rw [if_pos hwv]; decide) (Ev.yes hsz z1))
   · have hxv:0≤(x - 48) * v:=Int.mul_nonneg (by omega) (by omega)
     have hrs:=canon_ten hr hb (by omega)
     obtain ⟨s,s1,s2,s3⟩:=rsub_ev hr hb (by omega) (by omega)
     have he' : u=(x+1 - 48) * v+(w - v):=by
        rw [he,show x+1 - 48=(x - 48)+1 by omega,Int.add_mul,Int.one_mul]; omega
     have h57:=hx57 (x+1) (w - v) (by omega) he'
     obtain ⟨z,z1,z2⟩:=ih s (w - v) (x+1) s2 (by
        have:((d+1:Nat):Int) * v=(d:Int) * v+v:=by rw [Int.natCast_succ,Int.add_mul,Int.one_mul]
        omega) (by omega) (by omega) he'
     refine ⟨z,?_,z2⟩
     refine Ev.step (fun k=>gamehallref2_NatDiv.l1.eq_2 _ _ _ _ _ _ k) ?_
     rw [show (x+1) % 256=x+1 by omega]
     refine Ev.opt_bind (rcmp_eq hr hb) (Ev.yes (by unfold cmpI; rw [if_neg hwv]; split <;> omega) (Ev.bind1 s1 z1))
theorem strip_zero (s:ByteArray) (hs:asc (bytesOf s)) (hn:s.size≤100000000000):∃ t,Ev (fun k=>gamehallref2_strip.f k ((⟨#[48]⟩:ByteArray) ++ s)) t∧Canon t (val 10 (digs (bytesOf s)))∧t.size≤s.size+1:=by
 have hb:bytesOf ((⟨#[48]⟩:ByteArray) ++ s)=48 :: bytesOf s:=by rw [bytesOf_append]; rfl
 have hz:((⟨#[48]⟩:ByteArray) ++ s).size=s.size+1:=by
  rw [← bytesOf_length,hb,List.length_cons,bytesOf_length]
 obtain ⟨t,t1,t2,t3⟩:=stripf_ev ((⟨#[48]⟩:ByteArray) ++ s) (by omega) (by omega) (by rw [hb]; exact asc_cons (by decide) hs)
 refine ⟨t,t1,?_,by omega⟩
 rw [hb,digs_cons] at t2
 rw [val_append] at t2
 simpa [val] using t2
theorem rdiv_l0 (a b:ByteArray) (ha:asc (bytesOf a)) (has:a.size≤9000000000) (v:Int) (hb:Canon b v) (hv:0<v) (hbs:b.size≤9000000000) (d:Nat) :
 ∀ (i:Nat) (q r:ByteArray),i+d=a.size→asc (bytesOf q)→q.size≤i→Canon r (pre a i % v)→val 10 (digs (bytesOf q))=pre a i / v → 
   ∃ z:ByteArray × ByteArray,Ev (fun k=>gamehallref2_NatDiv.l0 k a b q r (i:Int)) z∧Canon z.1 (val 10 (digs (bytesOf a)) / v)∧Canon z.2 (val 10 (digs (bytesOf a)) % v):=by
 induction d with
 | zero =>
   intro i q r hi hq hqs hr hqv
   obtain ⟨t,t1,t2,t3⟩:=strip_zero q hq (by omega)
   have he:pre a i=val 10 (digs (bytesOf a)):=by unfold pre; rw [show i=a.size by omega,take_all]
   rw [he] at hr hqv
   refine ⟨(t,r),?_,by rw [← hqv]; exact t2,hr⟩
   refine Ev.step (fun k=>gamehallref2_NatDiv.l0.eq_2 _ _ _ _ _ k) ?_
   exact Ev.no (by omega) (Ev.yes (by omega) (Ev.bind1 t1 (Ev.now _)))
 | succ d ih =>
   intro i q r hi hq hqs hr hqv
   have hlt:i<a.size:=by omega
   have hc:48≤rd (bytesOf a) (i:Int)∧rd (bytesOf a) (i:Int)≤57:=ha _ (mem_rd _ i (by rw [bytesOf_length]; exact hlt))
   have hm0:=Int.emod_nonneg (pre a i) (show v≠0 by omega)
   have hm1:=Int.emod_lt_of_pos (pre a i) hv
   have hrs:r.size≤b.size:=by
    by_cases h:r.size≤b.size
    · exact h
    · have:=canon_len hb hr (by omega)
      omega
   -- the remainder with one digit more
   have hcat:bytesOf (r ++ a.extract i (i+1))=bytesOf r ++ [rd (bytesOf a) (i:Int)]:=by rw [bytesOf_append,bytes_one a i hlt]
   have hcs:(r ++ a.extract i (i+1)).size=r.size+1:=by rw [← bytesOf_length,hcat]; simp [bytesOf_length]
   have hes:(a.extract i (i+1)).size=1:=by rw [← bytesOf_length,bytes_one a i hlt]; rfl
   obtain ⟨s,s1,s2,s3⟩:=stripf_ev (r ++ a.extract i (i+1)) (by omega) (by omega) (by
    rw [hcat]; exact asc_append hr.1 (asc_cons hc (fun c hc=>by simp at hc)))
   rw [hcat,digs_snoc] at s2
   simp only [val] at s2
   rw [hr.2.1] at s2
   obtain ⟨u,hu⟩:∃ u,u=rd (bytesOf a) (i:Int) - 48+10 * (pre a i % v):=⟨_,rfl⟩
   rw [← hu] at s2
   have hu10:u<10 * v:=by omega
   have hu0:0≤u:=by omega
   -- the digit
   have hde:=Int.mul_ediv_add_emod (pre a i) v
   have hps:=pre_step a i hlt
   have hue:=Int.mul_ediv_add_emod u v
   have hum0:=Int.emod_nonneg u (show v≠0 by omega)
   have hum1:=Int.emod_lt_of_pos u hv
   obtain ⟨f1,f2⟩:=divmod_of (a:=pre a (i+1)) (d:=v) (q:=10 * (pre a i / v)+u / v) (r:=u % v) hv (NatAlg.div1 _ _ _ _ _ _ _ _ hde hue hps hu) hum0 hum1
   obtain ⟨z,z1,z2⟩:=rdiv_l1 a b i v hb hv hbs q (fun z=>Canon z.1 (val 10 (digs (bytesOf a)) / v)∧Canon z.2 (val 10 (digs (bytesOf a)) % v)) u hu10 (by omega) (fun r' x hx0 hx1 hx hr' => by
    rw [w64s (by omega)]
    have hen:=encode_digit x hx0 hx1
    have hbq:bytesOf (q ++ Utf8.encode x)=bytesOf q ++ [x]:=by rw [bytesOf_append,hen]
    have hqz:(q ++ Utf8.encode x).size=q.size+1:=by rw [← bytesOf_length,hbq]; simp [bytesOf_length]
    exact ih (i+1) (q ++ Utf8.encode x) r' (by omega) (by rw [hbq]; exact asc_append hq (asc_cons ⟨hx0,hx1⟩ (fun c hc=>by simp at hc))) (by omega) (by rw [f2]; exact hr') (by
        rw [hbq,digs_snoc,f1]
        simp only [val]
        rw [hqv,hx]; omega)) 9 s u 48 s2 (by omega) hu0 (by omega) (by omega)
   refine ⟨z,?_,z2⟩
   refine Ev.step (fun k=>gamehallref2_NatDiv.l0.eq_2 _ _ _ _ _ k) ?_
   rw [w64s (by omega),Int.toNat_natCast,Int.toNat_natCast]
   exact Ev.yes (by omega) (Ev.yes (by omega) (Ev.yes (by omega) (Ev.yes (by omega) (Ev.yes (by omega) (Ev.bind1 s1 z1)))))
theorem mxn (n m:Nat) (h:1≤m) (hm:m≤100000000000):mx 0 (mn (n:Int) (wrap64 ((m:Int) - 1)))=((min n (m - 1):Nat):Int):=by
 rw [wpred m h hm]
 unfold mx mn
 omega
theorem rdiv_ev {a b:ByteArray} {u v:Int} (ha:Canon a u) (hb:Canon b v) (hv:0<v) (has:a.size≤9000000000) (hbs:b.size≤9000000000) :
 ∃ z:ByteArray × ByteArray,Ev (fun k=>gamehallref2_NatDiv.f k a b) z∧Canon z.1 (u / v)∧Canon z.2 (u % v):=by
 obtain ⟨n,hn⟩:∃ n,n=min a.size (b.size - 1):=⟨_,rfl⟩
 have hpr:bytesOf (a.extract 0 n)=(bytesOf a).take n:=by rw [bytesOf_extract]; simp
 have hpz:(a.extract 0 n).size=n:=by rw [← bytesOf_length,hpr,List.length_take,bytesOf_length]; omega
 obtain ⟨r,r1,r2,r3⟩:=strip_zero (a.extract 0 n) (by rw [hpr]; exact asc_take ha.1 n) (by omega)
 rw [hpr] at r2
 have hlt:pre a n<v:=by
  have h1:=val_lt (b:=10) (by decide) (digs_ok (asc_take ha.1 n))
  rw [digs_length,List.length_take,bytesOf_length,Nat.min_eq_left (by omega)] at h1
  have h2:(10:Int) ^ n≤10 ^ (b.size - 1):=pow_mono (by decide) (by omega)
  by_cases h:1<b.size
  · have hne:digs (bytesOf b)≠[]:=fun z=>by
        have:=congrArg List.length z
        rw [digs_length,bytesOf_length,List.length_nil] at this
        omega
    have h3:=val_ge (b:=10) (by decide) (digs_ok hb.1) (digs_noLead (hb.2.2.2 h)) hne
    rw [digs_length,bytesOf_length,hb.2.1] at h3
    unfold pre
    omega
  · have:n=0:=by omega
    subst this
    unfold pre
    simpa [digs,val] using hv
 have hpre0:0≤pre a n:=val_nonneg (by decide) (digs_ok (asc_take ha.1 n))
 obtain ⟨z,z1,z2,z3⟩:=rdiv_l0 a b ha.1 has v hb hv hbs (a.size - n) n ⟨#[]⟩ r (by omega) (fun c hc=>by simp [bytesOf] at hc) (by show 0≤n; omega) (by rw [Int.emod_eq_of_lt hpre0 hlt]; exact r2) (by rw [Int.ediv_eq_zero_of_lt hpre0 hlt]; rfl)
 rw [ha.2.1] at z2 z3
 refine ⟨z,?_,z2,z3⟩
 have h0:=hb.2.2.1
 unfold gamehallref2_NatDiv.f
 rw [mxn a.size b.size h0 (by omega),← hn,Int.toNat_natCast]
 exact Ev.yes (by omega) (Ev.yes (by omega) (Ev.yes (by omega) (Ev.bind1 r1 z1)))
theorem rgcd_l0 (n:Nat):∀ (a b:ByteArray) (m:Nat),Canon a (m:Int)→Canon b (n:Int)→a.size≤9000000000→b.size≤9000000000 →
 ∃ t,Ev (fun k=>gamehallref2_NatGcd.l0 k a b) t∧Canon t ((Nat.gcd m n:Nat):Int):=by
 induction n using Nat.strongRecOn with
 | _ n ih =>
   intro a b m ha hb has hbs
   have hz:=canon_zero hb
   by_cases h0:n=0
   · subst h0
     refine ⟨a,?_,by rw [Nat.gcd_zero_right]; exact ha⟩
     refine Ev.step (fun k=>gamehallref2_NatGcd.l0.eq_2 _ _ k) ?_
     exact Ev.yes (hz.2 rfl) (Ev.now _)
   · obtain ⟨z,z1,z2,z3⟩:=rdiv_ev ha hb (by omega) has hbs
     rw [← Int.natCast_emod] at z3
     have hlt:=Nat.mod_lt m (show 0<n by omega)
     have hrl:z.2.size≤b.size:=by
       by_cases h:z.2.size≤b.size
       · exact h
       · have:=canon_len hb z3 (by omega)
         omega
     obtain ⟨g,g1,g2⟩:=ih (m % n) hlt b z.2 n hb z3 hbs (by omega)
     refine ⟨g,?_,by rw [Nat.gcd_comm,Nat.gcd_rec,Nat.gcd_comm]; exact g2⟩
     refine Ev.step (fun k=>gamehallref2_NatGcd.l0.eq_2 _ _ k) ?_
     exact Ev.no (fun h=>by have:=hz.1 h; omega) (Ev.bind1 z1 g1)
theorem rgcd_ev {a b:ByteArray} {m n:Nat} (ha:Canon a (m:Int)) (hb:Canon b (n:Int)) (has:a.size≤9000000000) (hbs:b.size≤9000000000) :
 ∃ t,Ev (fun k=>gamehallref2_NatGcd.f k a b) t∧Canon t ((Nat.gcd m n:Nat):Int):=by
 unfold gamehallref2_NatGcd.f
 exact rgcd_l0 n a b m ha hb has hbs
end
section
theorem noLead_snoc {l:List Int} {x:Int} (h:x≠0):noLead (l ++ [x]):=fun hne=>by
 have:(l ++ [x]).getLast hne=x:=by simp
 rw [this]; exact h
theorem of_l0 (N:Int) (m:Nat):∀ (n:Nat) (out:List Int),n≤m→n≤9223372036854775807→out.length+n≤9300000000000000000→out.length≤1000 - (if n=0 then 0 else 1)→(out.length≤100∨n=0)→ok BB out→(n=0→noLead out)→val BB out+BB ^ out.length * (n:Int)=N →
 n<1000000000 ^ (100 - out.length) →
 ∃ r,Ev (fun k=>nat_Of.l0 k (n:Int) out) r∧Limbs r N:=by
 induction m with
 | zero =>
   intro n out hn _ _ _ _ ho hl hv _
   obtain rfl:n=0:=by omega
   refine ⟨out,?_,⟨by simpa using hv,ho,hl rfl⟩⟩
   refine Ev.step (fun k=>nat_Of.l0.eq_2 _ _ k) ?_
   exact Ev.no (by omega) (Ev.now _)
 | succ m ih =>
   intro n out hn hn2 h3 h4 h5 ho hl hv hb
   by_cases h0:n=0
   · subst h0
     refine ⟨out,?_,⟨by simpa using hv,ho,hl rfl⟩⟩
     refine Ev.step (fun k=>nat_Of.l0.eq_2 _ _ k) ?_
     exact Ev.no (by omega) (Ev.now _)
   · have hlen:out.length<100:=by
        by_cases h:out.length<100
        · exact h
        · rw [show 100 - out.length=0 by omega,Nat.pow_zero] at hb
          omega
     obtain ⟨r,r1,r2⟩:=ih (n / 1000000000) (out ++ [((n % 1000000000:Nat):Int)]) (by omega) (by omega) (by simp; omega) (by simp; split <;> omega) (by simp; omega) (ok_append.2 ⟨ho,ok_cons.2 ⟨⟨by omega,by show _<(1000000000:Int); omega⟩,ok_nil _⟩⟩) (fun hz=>noLead_snoc (by omega)) (by
        rw [val_snoc,List.length_append,List.length_singleton,Int.pow_succ,← hv]
        have:(n:Int)=1000000000 * ((n / 1000000000:Nat):Int)+((n % 1000000000:Nat):Int):=by omega
        rw [this]
        exact NatAlg.of1 _ _ _ _ _) (by
        rw [List.length_append,List.length_singleton]
        have e:100 - out.length=(100 - (out.length+1))+1:=by omega
        rw [e,Nat.pow_succ] at hb
        exact Nat.div_lt_of_lt_mul (by rw [Nat.mul_comm]; exact hb))
     refine ⟨r,?_,r2⟩
     refine Ev.step (fun k=>nat_Of.l0.eq_2 _ _ k) ?_
     rw [Int.tmod_eq_emod_of_nonneg (by omega),Int.tdiv_eq_ediv_of_nonneg (by omega),w64 (i:=(n:Int) / 1000000000) (by omega) (by omega),show (n:Int) % 1000000000 % 4294967296=((n % 1000000000:Nat):Int) by omega,show (n:Int) / 1000000000=((n / 1000000000:Nat):Int) by omega]
     exact Ev.yes (by omega) (Ev.yes (by omega) r1)
theorem of_ev (n:Nat) (h:n≤9223372036854775807):∃ r,Ev (fun k=>nat_Of.f k (n:Int)) r∧Limbs r (n:Int):=by
 unfold nat_Of.f
 exact of_l0 n n n [] (Nat.le_refl _) h (by simp; omega) (by simp only [List.length_nil]; split <;> omega) (.inl (by simp)) (ok_nil _) (fun _=>noLead_nil) (by simp [val]) (by
  have:(9223372036854775807:Nat)<1000000000 ^ 100:=by decide +kernel
  simp only [List.length_nil,Nat.sub_zero]
  omega)
theorem limbs_short {l:List Int} {v:Int} (h:Limbs l v) (n:Nat) (hv:v<BB ^ n):l.length≤n:=by
 by_cases hle:l.length≤n
 · exact hle
 · have hne:l≠[]:=fun z=>by rw [z] at hle; simp at hle
   have h1:=val_ge (b:=BB) (by decide) h.2.1 h.2.2 hne
   have h2:BB ^ n≤BB ^ (l.length - 1):=pow_mono (by decide) (by omega)
   rw [h.1] at h1
   omega
end
end Go.Proofs.YtnnkjpcipldnfaaGreatDoor.Pure
end
section
set_option linter.unusedSimpArgs false
set_option linter.unusedVariables false
namespace Go.Proofs.YtnnkjpcipldnfaaGreatDoor.Sem
open Go Go.RowKit Go.Proofs.YtnnkjpcipldnfaaGreatDoor.ND Go.Proofs.YtnnkjpcipldnfaaGreatDoorW.PrintWords Go.Proofs.YtnnkjpcipldnfaaGreatDoor.Aid Go.Proofs.YtnnkjpcipldnfaaGreatDoor.NatVal Go.Proofs.YtnnkjpcipldnfaaGreatDoor.Pure
section
theorem digits_ex (b:Nat) (hb:1<b):∀ n:Nat,∃ l,val (b:Int) l=(n:Int)∧ok (b:Int) l∧noLead l:=by
 intro n
 induction n using Nat.strongRecOn with
 | _ n ih =>
   by_cases h0:n=0
   · subst h0; exact ⟨[],rfl,ok_nil _,noLead_nil⟩
   · have hlt:n / b<n:=Nat.div_lt_self (by omega) hb
     obtain ⟨l,h1,h2,h3⟩:=ih (n / b) hlt
     have hm:=Nat.mod_lt n (show 0<b by omega)
     have hd:=Nat.div_add_mod n b
     refine ⟨((n % b:Nat):Int) :: l,?_,ok_cons.2 ⟨⟨by omega,by omega⟩,h2⟩,fun hne=>?_⟩
     · simp only [val]
       rw [h1]
       have:((b * (n / b)+n % b:Nat):Int)=n:=by rw [hd]
       rw [Int.natCast_add,Int.natCast_mul] at this
       omega
     · by_cases hl:l=[]
       · subst hl
         simp only [val] at h1
         have hz:n / b=0:=by omega
         rw [hz,Nat.mul_zero,Nat.zero_add] at hd
         show ((n % b:Nat):Int)≠0
         omega
       · rw [List.getLast_cons hl]
         exact h3 hl
theorem limbs_ex (n:Nat):∃ l,Limbs l (n:Int):=by
 obtain ⟨l,h⟩:=digits_ex 1000000000 (by decide) n
 exact ⟨l,h⟩
noncomputable def limbsOf (n:Nat):List Int:=Classical.choose (limbs_ex n)
theorem limbsOf_is (n:Nat):Limbs (limbsOf n) (n:Int):=Classical.choose_spec (limbs_ex n)
theorem limbs_eq {l:List Int} {n:Nat} (h:Limbs l (n:Int)):l=limbsOf n:=by
 have h' := limbsOf_is n
 exact val_inj (b:=BB) (by decide) h.2.1 h.2.2 h'.2.1 h'.2.2 (by rw [h.1,h'.1])
theorem limbs_eq' {l:List Int} {v:Int} {n:Nat} (h:Limbs l v) (hv:v=(n:Int)):l=limbsOf n:=limbs_eq (hv ▸ h)
theorem limbsOf_zero : limbsOf 0=[]:=(limbs_eq (l:=[]) ⟨rfl,ok_nil _,noLead_nil⟩).symm
theorem limbsOf_len {n:Nat}:(limbsOf n).length=0↔n=0:=by
 have:=limbs_pos (limbsOf_is n)
 omega
theorem canon_ex (n:Nat):∃ s,Canon s (n:Int):=by
 by_cases h0:n=0
 · subst h0
   exact ⟨⟨#[48]⟩,asc_cons (l:=[]) (by decide) (fun c hc=>by simp at hc),rfl,by decide,fun z=>by revert z; decide⟩
 · obtain ⟨l,h1,h2,h3⟩:=digits_ex 10 (by decide) n
   have hne:l≠[]:=fun z=>by subst z; simp only [val] at h1; omega
   have ha:asc ((l.map fun d=>d+48).reverse):=fun c hc=>by
    rw [List.mem_reverse,List.mem_map] at hc
    obtain ⟨d,hd,rfl⟩:=hc
    have:=h2 d hd
    omega
   have hb:=bytesOf_strOfNums ha
   have hdg:digs ((l.map fun d=>d+48).reverse)=l:=by
    unfold digs
    rw [List.map_reverse,List.reverse_reverse,List.map_map]
    conv=>rhs; rw [← List.map_id l]
    exact List.map_congr_left fun d _=>by show d+48 - 48=d; omega
   have hsz:(strOfNums ((l.map fun d=>d+48).reverse)).size=l.length:=by rw [← bytesOf_length,hb]; simp
   have hpos:0<l.length:=List.length_pos_iff.2 hne
   refine ⟨strOfNums ((l.map fun d=>d+48).reverse),by rw [hb]; exact ha,by rw [hb,hdg]; exact h1,by omega,fun _=>?_⟩
   rw [hb]
   have hl:=h3 hne
   have:rd ((l.map fun d=>d+48).reverse) 0=l.getLast hne+48:=by
    have hr:(l.map fun d=>d+48).reverse=(l.getLast hne+48) :: ((l.dropLast).map fun d=>d+48).reverse:=by
        conv=>lhs; rw [← List.dropLast_concat_getLast hne]
        simp
    rw [hr]; rfl
   rw [this]
   omega
noncomputable def natText (n:Nat):ByteArray:=Classical.choose (canon_ex n)
theorem natText_is (n:Nat):Canon (natText n) (n:Int):=Classical.choose_spec (canon_ex n)
theorem ba_ext {s t:ByteArray} (h:s.toList=t.toList):s=t:=by
 rw [ByteArray.toList_eq,ByteArray.toList_eq] at h
 cases s; cases t
 exact congrArg ByteArray.mk (Array.toList_inj.1 h)
theorem bytes_ext {s t:ByteArray} (h:bytesOf s=bytesOf t):s=t:=ba_ext (bytes_inj h)
theorem text_eq {s:ByteArray} {n:Nat} (h:Canon s (n:Int)):s=natText n:=ba_ext (canon_inj h (natText_is n))
theorem text_eq' {s:ByteArray} {v:Int} {n:Nat} (h:Canon s v) (hv:v=(n:Int)):s=natText n:=text_eq (hv ▸ h)
theorem natText_inj {u v:Nat} (h:natText u=natText v):u=v:=by
 have h1:=(natText_is u).2.1
 have h2:=(natText_is v).2.1
 rw [h] at h1
 omega
theorem natText_zero : natText 0=⟨#[48]⟩:=by
 have h:Canon (⟨#[48]⟩:ByteArray) ((0:Nat):Int):=⟨asc_cons (c:=48) (l:=[]) (by decide) (fun c hc=>by simp at hc),rfl,by decide,fun z=>by revert z; decide⟩
 exact (text_eq h).symm
theorem natText_one : natText 1=⟨#[49]⟩:=by
 have h:Canon (⟨#[49]⟩:ByteArray) ((1:Nat):Int):=⟨asc_cons (c:=49) (l:=[]) (by decide) (fun c hc=>by simp at hc),rfl,by decide,fun z=>by revert z; decide⟩
 exact (text_eq h).symm
theorem natText_two : natText 2=⟨#[50]⟩:=by
 have h:Canon (⟨#[50]⟩:ByteArray) ((2:Nat):Int):=⟨asc_cons (c:=50) (l:=[]) (by decide) (fun c hc=>by simp at hc),rfl,by decide,fun z=>by revert z; decide⟩
 exact (text_eq h).symm
theorem natText_asc (n:Nat):asc (bytesOf (natText n)):=(natText_is n).1
noncomputable def dg (n:Nat):Nat:=(natText n).size
theorem dg_pos (n:Nat):1≤dg n:=(natText_is n).2.2.1
theorem dg_lt (n:Nat) {k:Nat} (h:dg n≤k):n<10 ^ k:=by
 have:=canon_lt (natText_is n) k h
 have e:((10 ^ k:Nat):Int)=10 ^ k:=by simp
 omega
theorem dg_le {n k:Nat} (h0:1≤k) (h:n<10 ^ k):dg n≤k:=canon_size (natText_is n) k h0 (by
 have e:((10 ^ k:Nat):Int)=10 ^ k:=by simp
 omega)
theorem dg_mono {u v:Nat} (h:u≤v):dg u≤dg v:=dg_le (dg_pos v) (Nat.lt_of_le_of_lt h (dg_lt v (Nat.le_refl _)))
theorem dg_mul (u v:Nat):dg (u * v)≤dg u+dg v:=by
 refine dg_le (by have:=dg_pos u; omega) ?_
 rw [Nat.pow_add]
 exact Nat.mul_lt_mul'' (dg_lt u (Nat.le_refl _)) (dg_lt v (Nat.le_refl _))
theorem dg_add {u v k:Nat} (hu:dg u≤k) (hv:dg v≤k):dg (u+v)≤k+1:=by
 refine dg_le (by omega) ?_
 have h1:=dg_lt u hu
 have h2:=dg_lt v hv
 rw [Nat.pow_succ]
 omega
theorem limbsOf_short (n:Nat):(limbsOf n).length≤dg n:=by
 refine limbs_short (limbsOf_is n) (dg n) ?_
 have h:=dg_lt n (Nat.le_refl _)
 have h1:(10:Nat) ^ dg n≤1000000000 ^ dg n:=Nat.pow_le_pow_left (by decide) _
 have e:((1000000000 ^ dg n:Nat):Int)=BB ^ dg n:=by simp [BB]
 omega
theorem digErr_vals : ∀ (l:List Int) (e:Int),digErr l e=e∧asc l∨digErr l e=5∧¬ asc l
 | [],e => .inl ⟨rfl,fun c hc=>by simp at hc⟩
 | c :: r,e=>by
   simp only [digErr]
   split
   · exact .inr ⟨rfl,fun h=>by have:=h c (by simp); omega⟩
   · split
     · exact .inr ⟨rfl,fun h=>by have:=h c (by simp); omega⟩
     · rcases digErr_vals r e with ⟨h1,h2⟩ | ⟨h1,h2⟩
       · exact .inl ⟨h1,asc_cons (by omega) h2⟩
       · exact .inr ⟨h1,fun h=>h2 fun x hx=>h x (by simp [hx])⟩
theorem natErr_cases (s:ByteArray):(∃ n,s=natText n∧natErr s=if dg n > 2000 then 2 else 0)∨(natErr s=5∧∀ n,s≠natText n):=by
 by_cases hc:∃ n,s=natText n
 · obtain ⟨n,rfl⟩:=hc
   left
   refine ⟨n,rfl,?_⟩
   obtain ⟨h1,h2,h3,h4⟩:=natText_is n
   unfold natErr
   rw [if_neg (by omega)]
   have hz:¬ (1<(natText n).size∧bt (natText n) 0=48):=fun ⟨a,b⟩=>h4 a (by rw [rd_bytesOf]; exact b)
   rw [if_neg hz]
   rcases digErr_vals (bytesOf (natText n)) (tailErr (natText n)) with ⟨e,_⟩ | ⟨_,e⟩
   · rw [e]
     unfold tailErr
     show (if ((dg n:Nat):Int) > 2000 then (2:Int) else 0)=_
     by_cases hd:dg n > 2000
     · rw [if_pos hd,if_pos (by omega)]
     · rw [if_neg hd,if_neg (by omega)]
   · exact absurd h1 e
 · right
   refine ⟨?_,fun n hn=>hc ⟨n,hn⟩⟩
   unfold natErr
   by_cases h0:s.size=0
   · rw [if_pos h0]
   · rw [if_neg h0]
     rcases digErr_vals (bytesOf s) (if 1<s.size∧bt s 0=48 then 5 else tailErr s) with ⟨e,ha⟩ | ⟨e,_⟩
     · by_cases hz:1<s.size∧bt s 0=48
       · rw [e,if_pos hz]
       · exfalso
         refine hc ⟨(val 10 (digs (bytesOf s))).toNat,text_eq ⟨ha,?_,by omega,fun h1 h2=>hz ⟨h1,by rw [← rd_bytesOf]; exact h2⟩⟩⟩
         have:=val_nonneg (b:=10) (by decide) (digs_ok ha)
         omega
     · exact e
theorem natErr_text (n:Nat):natErr (natText n)=if dg n > 2000 then 2 else 0:=by
 rcases natErr_cases (natText n) with ⟨m,hm,h⟩ | ⟨_,h⟩
 · rw [h,natText_inj hm]
 · exact absurd rfl (h n)
end
end Go.Proofs.YtnnkjpcipldnfaaGreatDoor.Sem
end
section
set_option linter.unusedSimpArgs false
set_option linter.unusedVariables false
namespace Go.Proofs.YtnnkjpcipldnfaaGreatDoor.Lib
open Go Go.Proofs.YtnnkjpcipldnfaaGreatDoor.Mach Go.Proofs.YtnnkjpcipldnfaaGreatDoor.ND Go.Proofs.YtnnkjpcipldnfaaGreatDoorW.PrintWords Go.RowKit Go.Proofs.YtnnkjpcipldnfaaGreatDoor.Sem Go.Proofs.YtnnkjpcipldnfaaGreatDoor.NatVal Go.Proofs.YtnnkjpcipldnfaaGreatDoor.Pure
section
theorem says_of {β:Type} {f:Nat→Option β} {mk:β→AV} {r:β} {Q:Res} (h:Ev f r) (hq:Q (mk r) []):says f mk Q:=by
 obtain ⟨k,hk⟩:=h.rounds
 exact ⟨k,r,hk,hq⟩
def Bd (n:Nat):Prop:=dg n≤4000000000
def NatI (n:Int):Prop:=0≤n∧n≤9223372036854775807
def checkS (s:ByteArray) (Q:Res):Prop:=s.size≤1000000000000000∧Q (.int .i64 (natErr s)) []
def readS (s:ByteArray) (Q:Res):Prop:=∃ n:Nat,s=natText n∧Bd n∧Q (.imm eW (limbsOf n)) []
def textS (l:List Int) (Q:Res):Prop:=∃ n:Nat,l=limbsOf n∧dg n≤9000000000∧Q (.str (natText n)) []
def cmpS (l m:List Int) (Q:Res):Prop:=∃ u v:Nat,l=limbsOf u∧m=limbsOf v∧dg u≤9000000000∧Q (.int .i64 (cmpI u v)) []
def addS (l m:List Int) (Q:Res):Prop:=∃ u v:Nat,l=limbsOf u∧m=limbsOf v∧dg u≤9000000000∧dg v≤9000000000∧Q (.imm eW (limbsOf (u+v))) []
def subS (l m:List Int) (Q:Res):Prop:=∃ u v:Nat,l=limbsOf u∧m=limbsOf v∧dg u≤9000000000∧v≤u∧Q (.imm eW (limbsOf (u - v))) []
def mulS (l m:List Int) (Q:Res):Prop:=∃ u v:Nat,l=limbsOf u∧m=limbsOf v∧dg u≤9000000000∧dg v≤9000000000∧Q (.imm eW (limbsOf (u * v))) []
def divS (l m:List Int) (Q:Res):Prop:=∃ u v:Nat,l=limbsOf u∧m=limbsOf v∧dg u≤9000000000∧dg v≤9000000000∧0<v∧Q (.tup [.imm eW (limbsOf (u / v)), .imm eW (limbsOf (u % v))]) []
def gcdS (l m:List Int) (Q:Res):Prop:=∃ u v:Nat,l=limbsOf u∧m=limbsOf v∧dg u≤9000000000∧dg v≤9000000000∧Q (.imm eW (limbsOf (Nat.gcd u v))) []
def ofS (n:Int) (Q:Res):Prop:=NatI n∧Q (.imm eW (limbsOf n.toNat)) []
def digitsS (l:List Int) (Q:Res):Prop:=∃ n:Nat,l=limbsOf n∧dg n≤9000000000∧Q (.int .i64 (dg n:Int)) []
def raddS (s t:ByteArray) (Q:Res):Prop:=∃ u v:Nat,s=natText u∧t=natText v∧dg u≤10000000000∧dg v≤10000000000∧Q (.str (natText (u+v))) []
def rsubS (s t:ByteArray) (Q:Res):Prop:=∃ u v:Nat,s=natText u∧t=natText v∧dg u≤10000000000∧v≤u∧Q (.str (natText (u - v))) []
def rmulS (s t:ByteArray) (Q:Res):Prop:=∃ u v:Nat,s=natText u∧t=natText v∧dg u≤5000000000∧dg v≤5000000000∧Q (.str (natText (u * v))) []
def rdivS (s t:ByteArray) (Q:Res):Prop:=∃ u v:Nat,s=natText u∧t=natText v∧dg u≤9000000000∧dg v≤9000000000∧0<v∧Q (.tup [.str (natText (u / v)), .str (natText (u % v))]) []
def rgcdS (s t:ByteArray) (Q:Res):Prop:=∃ u v:Nat,s=natText u∧t=natText v∧dg u≤9000000000∧dg v≤9000000000∧Q (.str (natText (Nat.gcd u v))) []
def rcmpS (s t:ByteArray) (Q:Res):Prop:=∃ u v:Nat,s=natText u∧t=natText v∧Q (.int .i64 (cmpI u v)) []
theorem check_conS {s:ByteArray} {Q:Res} (h:checkS s Q):Con Tryz.prog 143 [.str s] Q:=ncheck_con (says_of (check_ev s h.1) h.2)
theorem rerr_conS {s:ByteArray} {Q:Res} (h:checkS s Q):Con Tryz.prog 133 [.str s] Q:=rerr_con (says_of (rerr_ev s h.1) h.2)
theorem read_conS {s:ByteArray} {Q:Res} (h:readS s Q):Con Tryz.prog 107 [.str s] Q:=by
 obtain ⟨n,rfl,hb,hq⟩:=h
 have hb' : (natText n).size≤10000000000:=Nat.le_trans hb (by decide)
 obtain ⟨r,h1,h2,_⟩:=read_ev (natText n) (natText_asc n) hb'
 rw [limbs_eq' h2 (natText_is n).2.1] at h1
 exact nread_con (says_of h1 hq)
theorem text_conS {l:List Int} {Q:Res} (h:textS l Q):Con Tryz.prog 132 [.imm eW l] Q:=by
 obtain ⟨n,rfl,hb,hq⟩:=h
 obtain ⟨t,h1,h2,_⟩:=text_ev (limbsOf_is n) (by have:=limbsOf_short n; omega)
 rw [text_eq h2] at h1
 exact ntext_con (says_of h1 hq)
theorem cmp_conS {l m:List Int} {Q:Res} (h:cmpS l m Q):Con Tryz.prog 103 [.imm eW l, .imm eW m] Q:=by
 obtain ⟨u,v,rfl,rfl,hb,hq⟩:=h
 have hu:=limbsOf_is u
 have hv:=limbsOf_is v
 have h1:=cmp_ev (l:=limbsOf u) (r:=limbsOf v) (by have:=limbsOf_short u; omega) hu.2.1 hv.2.1 hu.2.2 hv.2.2
 rw [hu.1,hv.1] at h1
 exact ncmp_con (says_of h1 hq)
theorem add_conS {l m:List Int} {Q:Res} (h:addS l m Q):Con Tryz.prog 102 [.imm eW l, .imm eW m] Q:=by
 obtain ⟨u,v,rfl,rfl,hb,hb', hq⟩:=h
 have hu:=limbsOf_is u
 have hv:=limbsOf_is v
 obtain ⟨r,h1,h2,_⟩:=add_ev (a:=limbsOf u) (b:=limbsOf v) (by have:=limbsOf_short u; omega) (by have:=limbsOf_short v; omega) hu.2.1 hv.2.1 hu.2.2 hv.2.2
 rw [hu.1,hv.1] at h2
 rw [limbs_eq' h2 (by omega:(u:Int)+v=((u+v:Nat):Int))] at h1
 exact nadd_con (says_of h1 hq)
theorem sub_conS {l m:List Int} {Q:Res} (h:subS l m Q):Con Tryz.prog 104 [.imm eW l, .imm eW m] Q:=by
 obtain ⟨u,v,rfl,rfl,hb,hle,hq⟩:=h
 have hu:=limbsOf_is u
 have hv:=limbsOf_is v
 obtain ⟨r,h1,h2,_⟩:=sub_ev (a:=limbsOf u) (b:=limbsOf v) (by have:=limbsOf_short u; omega) hu.2.1 hv.2.1 hv.2.2 (by rw [hu.1,hv.1]; omega)
 rw [hu.1,hv.1] at h2
 rw [limbs_eq' h2 (by omega:(u:Int) - v=((u - v:Nat):Int))] at h1
 exact nsub_con (says_of h1 hq)
theorem mul_conS {l m:List Int} {Q:Res} (h:mulS l m Q):Con Tryz.prog 99 [.imm eW l, .imm eW m] Q:=by
 obtain ⟨u,v,rfl,rfl,hb,hb', hq⟩:=h
 obtain ⟨r,h1,h2,_⟩:=mul_ev (limbsOf_is u) (limbsOf_is v) (by have:=limbsOf_short u; have:=limbsOf_short v; omega)
 rw [limbs_eq' h2 (Int.natCast_mul u v).symm] at h1
 exact nmul_con (says_of h1 hq)
theorem div_conS {l m:List Int} {Q:Res} (h:divS l m Q):Con Tryz.prog 128 [.imm eW l, .imm eW m] Q:=by
 obtain ⟨u,v,rfl,rfl,hb,hb', h0,hq⟩:=h
 obtain ⟨q,r,h1,h2,h3,_⟩:=div_ev (limbsOf_is u) (limbsOf_is v) (by omega) (by have:=limbsOf_short u; have:=limbsOf_short v; omega)
 rw [limbs_eq' h2 (Int.natCast_ediv u v).symm,limbs_eq' h3 (Int.natCast_emod u v).symm] at h1
 exact ndiv_con (says_of h1 hq)
theorem gcd_conS {l m:List Int} {Q:Res} (h:gcdS l m Q):Con Tryz.prog 127 [.imm eW l, .imm eW m] Q:=by
 obtain ⟨u,v,rfl,rfl,hb,hb', hq⟩:=h
 obtain ⟨r,h1,h2⟩:=gcd_ev (limbsOf_is u) (limbsOf_is v) (by have:=limbsOf_short u; omega) (by have:=limbsOf_short v; omega)
 rw [limbs_eq h2] at h1
 exact ngcd_con (says_of h1 hq)
theorem of_conS {n:Int} {Q:Res} (h:ofS n Q):Con Tryz.prog 108 [.int .i64 n] Q:=by
 obtain ⟨⟨h0,h9⟩,hq⟩:=h
 obtain ⟨r,h1,h2⟩:=of_ev n.toNat (by omega)
 rw [limbs_eq h2,Int.toNat_of_nonneg h0] at h1
 exact nof_con (says_of h1 hq)
theorem digits_conS {l:List Int} {Q:Res} (h:digitsS l Q):Con Tryz.prog 131 [.imm eW l] Q:=by
 obtain ⟨n,rfl,hb,hq⟩:=h
 obtain ⟨t,h1,h2,_⟩:=text_ev (limbsOf_is n) (by have:=limbsOf_short n; omega)
 rw [text_eq h2] at h1
 obtain ⟨k,hk⟩:=h1.rounds
 refine ndigits_con ⟨k,((natText n).size:Int),?_,hq⟩
 show (nat_N_Text.f k (limbsOf n)).bind _=_
 rw [hk]; rfl
theorem radd_conS {s t:ByteArray} {Q:Res} (h:raddS s t Q):Con Tryz.prog 114 [.str s, .str t] Q:=by
 obtain ⟨u,v,rfl,rfl,hb,hb', hq⟩:=h
 obtain ⟨r,h1,h2,_⟩:=radd_ev (natText_is u) (natText_is v) hb hb'
 rw [text_eq' h2 (by omega:(u:Int)+v=((u+v:Nat):Int))] at h1
 exact radd_con (says_of h1 hq)
theorem rsub_conS {s t:ByteArray} {Q:Res} (h:rsubS s t Q):Con Tryz.prog 116 [.str s, .str t] Q:=by
 obtain ⟨u,v,rfl,rfl,hb,hle,hq⟩:=h
 obtain ⟨r,h1,h2,_⟩:=rsub_ev (natText_is u) (natText_is v) hb (by omega)
 rw [text_eq' h2 (by omega:(u:Int) - v=((u - v:Nat):Int))] at h1
 exact rsub_con (says_of h1 hq)
theorem rmul_conS {s t:ByteArray} {Q:Res} (h:rmulS s t Q):Con Tryz.prog 64 [.str s, .str t] Q:=by
 obtain ⟨u,v,rfl,rfl,hb,hb', hq⟩:=h
 obtain ⟨r,h1,h2,_⟩:=rmul_ev (natText_is u) (natText_is v) (by show dg u+dg v≤_; omega)
 rw [text_eq' h2 (Int.natCast_mul u v).symm] at h1
 exact rmul_con (says_of h1 hq)
theorem rdiv_conS {s t:ByteArray} {Q:Res} (h:rdivS s t Q):Con Tryz.prog 96 [.str s, .str t] Q:=by
 obtain ⟨u,v,rfl,rfl,hb,hb', h0,hq⟩:=h
 obtain ⟨z,h1,h2,h3⟩:=rdiv_ev (natText_is u) (natText_is v) (by omega) hb hb'
 obtain ⟨z1,z2⟩:=z
 simp only at h2 h3
 rw [text_eq' h2 (Int.natCast_ediv u v).symm,text_eq' h3 (Int.natCast_emod u v).symm] at h1
 exact rdiv_con (says_of h1 hq)
theorem rgcd_conS {s t:ByteArray} {Q:Res} (h:rgcdS s t Q):Con Tryz.prog 95 [.str s, .str t] Q:=by
 obtain ⟨u,v,rfl,rfl,hb,hb', hq⟩:=h
 obtain ⟨r,h1,h2⟩:=rgcd_ev (natText_is u) (natText_is v) hb hb'
 rw [text_eq h2] at h1
 exact rgcd_con (says_of h1 hq)
theorem rcmp_conS {s t:ByteArray} {Q:Res} (h:rcmpS s t Q):Con Tryz.prog 115 [.str s, .str t] Q:=by
 obtain ⟨u,v,rfl,rfl,hq⟩:=h
 exact rcmp_con ⟨_,rcmp_eq (natText_is u) (natText_is v),hq⟩
end
end Go.Proofs.YtnnkjpcipldnfaaGreatDoor.Lib
end
section
set_option linter.unusedSimpArgs false
set_option linter.unusedVariables false
namespace Go.Proofs.YtnnkjpcipldnfaaGreatDoor.Lib
open Go Go.Proofs.YtnnkjpcipldnfaaGreatDoor.Mach
section
def preB (s:ByteArray):Bool:=bif decide (1≤s.size) then (s.extract 0 1).toList == (ByteArray.mk #[45]).toList else false
def preR (s:ByteArray):ByteArray:=bif preB s then s.extract 1 s.size else s
def preS (s t:ByteArray) (Q:Res):Prop:=t=⟨#[45]⟩∧s.size≤1000000000000000000∧Q (.tup [.str (preR s), .bool (preB s)]) []
def cutI (s:ByteArray):Bool:=decide (0≤firstIdx s 47)
def cutA (s:ByteArray):ByteArray:=bif cutI s then s.extract 0 (firstIdx s 47).toNat else s
def cutB (s:ByteArray):ByteArray:=bif cutI s then s.extract ((firstIdx s 47).toNat+1) s.size else ⟨#[]⟩
def cutS (s t:ByteArray) (Q:Res):Prop:=t=⟨#[47]⟩∧s.size≤1000000000000000000∧Q (.tup [.str (cutA s), .str (cutB s), .bool (cutI s)]) []
end
end Go.Proofs.YtnnkjpcipldnfaaGreatDoor.Lib
end
section
set_option linter.unusedSimpArgs false
set_option linter.unusedVariables false
namespace Go.Proofs.YtnnkjpcipldnfaaGreatDoor.Mach
open Go Go.Proofs.YtnnkjpcipldnfaaGreatDoor Go.Proofs.YtnnkjpcipldnfaaGreatDoor.Lib
section
set_option maxRecDepth 1000000
def spre_live : List (Nat × List Nat):=[]
def spre_nils : List (Nat × ETy):=[]
theorem spre_E (s t:ByteArray) (n0:Nat) (K:AV→List HObj→Prop) :
 execN tab (mixE tab con0 [129,140] 400) (maskN spre_live spre_nils (GoodL Tryz.prog n0 105 K)) (finK tab (fnT Tryz.f105).res K) 400 [.code (fnT Tryz.f105).body] ⟨initEnv (fnT Tryz.f105).n [AV.str s,AV.str t],[]⟩ =
 (bif decide ((↑s.size:Int) ≥ (↑t.size:Int)) then bif decide (0≤(↑t.size:Int)) && decide ((↑t.size:Int)≤(↑s.size:Int)) then bif !bif true then (s.extract 0 (↑t.size:Int).toNat).toList == t.toList else false then K (AV.tup [AV.str s,AV.bool false]) [] else bif decide (0≤(↑t.size:Int)) && decide ((↑t.size:Int)≤(↑s.size:Int)) && decide ((↑s.size:Int)≤(↑s.size:Int)) then K (AV.tup [AV.str (s.extract (↑t.size:Int).toNat (↑s.size:Int).toNat),AV.bool true]) [] else False else False else K (AV.tup [AV.str s,AV.bool false]) []):=by kernel_rfl
def scut_live : List (Nat × List Nat):=[]
def scut_nils : List (Nat × ETy):=[]
theorem scut_E (s t:ByteArray) (n0:Nat) (K:AV→List HObj→Prop) :
 execN tab (mixE tab con0 [130,141,144] 400) (maskN scut_live scut_nils (GoodL Tryz.prog n0 106 K)) (finK tab (fnT Tryz.f106).res K) 400 [.code (fnT Tryz.f106).body] ⟨initEnv (fnT Tryz.f106).n [AV.str s,AV.str t],[]⟩ =
 (bif decide ((↑t.size:Int)=0) then bif decide (0≤IntKind.i64.wrap (0+(↑t.size:Int))) && decide (IntKind.i64.wrap (0+(↑t.size:Int))≤(↑s.size:Int)) && decide ((↑s.size:Int)≤(↑s.size:Int)) then K (AV.tup [AV.str (s.extract 0 0),AV.str (s.extract (IntKind.i64.wrap (0+(↑t.size:Int))).toNat (↑s.size:Int).toNat),AV.bool true]) [] else False else bif bif false then true else t.toList == s.toList then bif decide (0≤IntKind.i64.wrap (0+(↑t.size:Int))) && decide (IntKind.i64.wrap (0+(↑t.size:Int))≤(↑s.size:Int)) && decide ((↑s.size:Int)≤(↑s.size:Int)) then K (AV.tup [AV.str (s.extract 0 0),AV.str (s.extract (IntKind.i64.wrap (0+(↑t.size:Int))).toNat (↑s.size:Int).toNat),AV.bool true]) [] else False else bif decide ((↑t.size:Int)=1) then bif decide (0<(↑t.size:Int)) then bif decide (firstIdx s (↑(t.data.toList.getD 0 0).toNat:Int).toNat.toUInt8 ≥ 0) then bif decide (0≤firstIdx s (↑(t.data.toList.getD 0 0).toNat:Int).toNat.toUInt8) && decide (firstIdx s (↑(t.data.toList.getD 0 0).toNat:Int).toNat.toUInt8≤(↑s.size:Int)) then bif decide (0≤IntKind.i64.wrap (firstIdx s (↑(t.data.toList.getD 0 0).toNat:Int).toNat.toUInt8+(↑t.size:Int))) && decide (IntKind.i64.wrap (firstIdx s (↑(t.data.toList.getD 0 0).toNat:Int).toNat.toUInt8+(↑t.size:Int))≤(↑s.size:Int)) && decide ((↑s.size:Int)≤(↑s.size:Int)) then K (AV.tup [AV.str (s.extract 0 (firstIdx s (↑(t.data.toList.getD 0 0).toNat:Int).toNat.toUInt8).toNat),AV.str (s.extract (IntKind.i64.wrap (firstIdx s (↑(t.data.toList.getD 0 0).toNat:Int).toNat.toUInt8+(↑t.size:Int))).toNat (↑s.size:Int).toNat),AV.bool true]) [] else False else False else K (AV.tup [AV.str s,AV.str (ByteArray.mk #[]),AV.bool false]) [] else False else bif decide ((↑t.size:Int) ≥ (↑s.size:Int)) then K (AV.tup [AV.str s,AV.str (ByteArray.mk #[]),AV.bool false]) [] else False):=by kernel_rfl
end
end Go.Proofs.YtnnkjpcipldnfaaGreatDoor.Mach
end
section
set_option linter.unusedSimpArgs false
set_option linter.unusedVariables false
namespace Go.Proofs.YtnnkjpcipldnfaaGreatDoor.Lib
open Go Go.Proofs.YtnnkjpcipldnfaaGreatDoor.Mach
section
theorem str_ext {s t:ByteArray} (h:s.toList=t.toList):s=t:=by
 rw [ByteArray.toList_eq,ByteArray.toList_eq] at h
 cases s; cases t; simp_all
theorem firstIdx_some {s:ByteArray} {c:UInt8} {i:Nat} (hi:i<s.size) (h:s[i]! = c) (hb:∀ j,j<i→s[j]! ≠ c):firstIdx s c=i:=by
 unfold firstIdx
 rw [List.find?_range_eq_some.2 ⟨by simpa using h,by simpa using hi,fun j hj=>by simpa using hb j hj⟩]
theorem firstIdx_lt (s:ByteArray) (c:UInt8) : -1≤firstIdx s c∧firstIdx s c<s.size:=by
 unfold firstIdx
 split
 · rename_i i h
   have:=(List.find?_range_eq_some.1 h).2.1
   simp at this
   omega
 · omega
theorem at_get (s:ByteArray) (i:Nat) (h:i<s.size):s[i]! = s.data.toList.getD i default:=by
 rw [getElem!_pos s i h,List.getD_eq_getElem?_getD,List.getElem?_eq_getElem (by rw [Array.length_toList]; exact h)]
 rfl
theorem firstIdx_app {a b:ByteArray} {c:UInt8} (h:∀ x∈a.data.toList,x≠c):firstIdx (a ++ (⟨#[c]⟩ ++ b)) c=a.size:=by
 have hl:a.data.toList.length=a.size:=by rw [Array.length_toList]; rfl
 have hd:(a ++ (⟨#[c]⟩ ++ b)).data.toList=a.data.toList ++ c :: b.data.toList:=by simp [ByteArray.data_append]
 refine firstIdx_some ?_ ?_ fun j hj=>?_
 · simp only [ByteArray.size_append,show (ByteArray.mk #[c]).size=1 from rfl]; omega
 · rw [at_get _ _ (by simp only [ByteArray.size_append,show (ByteArray.mk #[c]).size=1 from rfl]; omega),hd,List.getD_eq_getElem?_getD,List.getElem?_append_right (by omega)]
   simp [hl]
 · rw [at_get _ _ (by simp only [ByteArray.size_append]; omega),hd,List.getD_eq_getElem?_getD,List.getElem?_append_left (by omega),List.getElem?_eq_getElem (by omega)]
   exact h _ (List.getElem_mem ..)
theorem firstIdx_no {s:ByteArray} {c:UInt8} (h:∀ x∈s.data.toList,x≠c):firstIdx s c = -1:=by
 unfold firstIdx
 rw [List.find?_eq_none.2 fun i hi=>by
  have hs:i<s.size:=by simpa using hi
  have hl:s.data.toList.length=s.size:=by rw [Array.length_toList]; rfl
  rw [at_get _ _ hs,List.getD_eq_getElem?_getD,List.getElem?_eq_getElem (by omega)]
  intro hc
  exact h _ (List.getElem_mem (l:=s.data.toList) (n:=i) (by omega)) (by simpa using hc)]
theorem app_left (a b:ByteArray):(a ++ b).extract 0 a.size=a:=by
 apply ByteArray.ext
 simp [ByteArray.data_extract]
theorem app_right (a b:ByteArray):(a ++ b).extract a.size (a ++ b).size=b:=by
 apply ByteArray.ext
 have e:a.size=a.data.size:=rfl
 have e2:b.size=b.data.size:=rfl
 rw [ByteArray.data_extract,ByteArray.size_append,ByteArray.data_append,Array.extract_append,e,e2,Array.extract_eq_empty_of_le (by omega),Array.empty_append,Nat.sub_self,Nat.add_sub_cancel_left,Array.extract_size]
theorem pre_con {s t:ByteArray} {Q:Res} (h:preS s t Q):Con Tryz.prog 105 [.str s, .str t] Q:=by
 obtain ⟨rfl,hs,hq⟩:=h
 refine conN (gn:=fnT Tryz.f105) (by kernel_rfl) con0_ok (inl:=[129,140]) (LT:=spre_live) (NT:=spre_nils) rfl fun n0=>?_
 rw [spre_E]
 have hk:∀ r:ByteArray,∀ b:Bool,Q (.tup [.str r, .bool b]) []→resK Q (.tup [.str r, .bool b]) []:=fun r b h=>res_plain h rfl rfl
 have z:(ByteArray.mk #[45]).size=1:=rfl
 rw [z]
 by_cases h1:1≤s.size
 · have d1:decide ((s.size:Int) ≥ ((1:Nat):Int))=true:=decide_eq_true (by omega)
   have d2:decide (0≤((1:Nat):Int))=true:=decide_eq_true (by omega)
   have d3:decide (((1:Nat):Int)≤(s.size:Int))=true:=decide_eq_true (by omega)
   have d4:decide ((s.size:Int)≤(s.size:Int))=true:=decide_eq_true (by omega)
   have hb:preB s=((s.extract 0 1).toList == (ByteArray.mk #[45]).toList):=by unfold preB; rw [decide_eq_true h1]; rfl
   simp only [d1,d2,d3,d4,Bool.and_true,cond_true,Bool.not_true,cond_false,Int.toNat_natCast]
   cases hp:((s.extract 0 1).toList == (ByteArray.mk #[45]).toList) with
   | true =>
     simp only [cond_true,Bool.not_true,cond_false]
     rw [hp] at hb
     unfold preR at hq
     rw [hb] at hq
     exact hk _ _ hq
   | false =>
     simp only [cond_false,Bool.not_false,cond_true]
     rw [hp] at hb
     unfold preR at hq
     rw [hb] at hq
     exact hk _ _ hq
 · have d1:decide ((s.size:Int) ≥ ((1:Nat):Int))=false:=decide_eq_false (by omega)
   rw [d1]
   have hb:preB s=false:=by unfold preB; rw [decide_eq_false h1]; rfl
   unfold preR at hq
   rw [hb] at hq
   exact hk _ _ hq
theorem cut_con {s t:ByteArray} {Q:Res} (h:cutS s t Q):Con Tryz.prog 106 [.str s, .str t] Q:=by
 obtain ⟨rfl,hs,hq⟩:=h
 refine conN (gn:=fnT Tryz.f106) (by kernel_rfl) con0_ok (inl:=[130,141,144]) (LT:=scut_live) (NT:=scut_nils) rfl fun n0=>?_
 rw [scut_E]
 have hk:∀ r u:ByteArray,∀ b:Bool,Q (.tup [.str r, .str u, .bool b]) []→resK Q (.tup [.str r, .str u, .bool b]) []:=fun r u b h=>res_plain h rfl rfl
 have z:(ByteArray.mk #[47]).size=1:=rfl
 have z47:(((ByteArray.mk #[47]).data.toList.getD 0 0).toNat:Int).toNat.toUInt8=47:=by decide
 rw [z47,z]
 have hi:=firstIdx_lt s 47
 by_cases he:s=⟨#[47]⟩
 · subst he
   have e1:firstIdx ⟨#[47]⟩ 47=0:=firstIdx_some (i:=0) (by decide) (by decide) (fun j h=>by omega)
   have e2:cutI ⟨#[47]⟩=true:=by unfold cutI; rw [e1]; rfl
   unfold cutA cutB at hq
   rw [e2,e1] at hq
   have w1:IntKind.i64.wrap (0+((1:Nat):Int))=1:=by decide
   rw [w1]
   refine bif_neg (by omega) ?_
   refine bif_t (by simp) ?_
   refine bif_t (by rw [z]; rfl) ?_
   exact hk _ _ _ hq
 · have hne:((ByteArray.mk #[47]).toList == s.toList)=false:=beq_eq_false_iff_ne.2 fun h=>he (str_ext h.symm)
   rw [hne]
   refine bif_neg (by omega) ?_
   refine bif_f (by simp) ?_
   refine bif_pos (by omega) (bif_pos (by omega) ?_)
   unfold cutA cutB cutI at hq
   by_cases h0:0≤firstIdx s 47
   · rw [decide_eq_true h0] at hq
     have w1:IntKind.i64.wrap (firstIdx s 47+((1:Nat):Int))=((((firstIdx s 47).toNat+1:Nat)):Int):=by rw [wr (by omega) (by omega)]; omega
     rw [w1]
     refine bif_pos (by omega) ?_
     refine bif_and (bif_pos (by omega) (bif_pos (by omega) ?_))
     refine bif_and (bif_and (bif_pos (by omega) (bif_pos (by omega) (bif_pos (by omega) ?_))))
     simp only [Int.toNat_natCast]
     exact hk _ _ _ hq
   · rw [decide_eq_false h0] at hq
     refine bif_neg (by omega) ?_
     exact hk _ _ _ hq
end
end Go.Proofs.YtnnkjpcipldnfaaGreatDoor.Lib
end
section
set_option linter.unusedSimpArgs false
set_option linter.unusedVariables false
namespace Go.Proofs.YtnnkjpcipldnfaaGreatDoor.Sem
open Go Go.RowKit Go.Proofs.YtnnkjpcipldnfaaGreatDoorW.PrintWords Go.Proofs.YtnnkjpcipldnfaaGreatDoor.Aid Go.Proofs.YtnnkjpcipldnfaaGreatDoor.NatVal Go.Proofs.YtnnkjpcipldnfaaGreatDoor.Pure
section
def sg (neg:Bool) (u:Nat):Int:=if neg=true then -(u:Int) else u
theorem sg_abs (neg:Bool) (u:Nat):(sg neg u).natAbs=u:=by cases neg <;> simp [sg]
def mkq (neg:Bool) (u v:Nat):Rat:=mkRat (sg neg u) v
theorem mkq_abs {neg:Bool} {u v:Nat} (hv:0<v):(mkq neg u v).num.natAbs=u / Nat.gcd u v:=by
 unfold mkq
 rw [Rat.num_mkRat,if_neg (by omega),sg_abs,Int.natAbs_ediv_of_dvd]
 · rw [sg_abs,Int.natAbs_natCast,Nat.gcd_comm]
 · exact Int.ofNat_dvd_left.2 (by rw [sg_abs]; exact Nat.gcd_dvd_right v u)
theorem mkq_den {neg:Bool} {u v:Nat} (hv:0<v):(mkq neg u v).den=v / Nat.gcd u v:=by
 unfold mkq
 rw [Rat.den_mkRat,if_neg (by omega),sg_abs,Nat.gcd_comm]
theorem mkq_zero (neg:Bool) (v:Nat):mkq neg 0 v=0:=by
 have:sg neg 0=0:=by cases neg <;> rfl
 unfold mkq
 rw [this,Rat.zero_mkRat]
theorem mkq_neg {neg:Bool} {u v:Nat} (hv:0<v):(mkq neg u v).num<0↔neg=true∧0<u:=by
 unfold mkq
 rw [Rat.num_mkRat,if_neg (by omega),sg_abs]
 have hg:0<Nat.gcd v u:=Nat.gcd_pos_of_pos_left u hv
 obtain ⟨w,hw⟩:=Nat.gcd_dvd_right v u
 generalize Nat.gcd v u=g at *
 subst hw
 cases neg with
 | false =>
   simp only [sg,Bool.false_eq_true,if_false,false_and,iff_false,Int.not_lt]
   exact Int.ediv_nonneg (by omega) (by omega)
 | true =>
   simp only [sg,if_true,true_and]
   rw [Int.natCast_mul,← Int.mul_neg,Int.mul_ediv_cancel_left _ (by omega)]
   constructor
   · intro h; exact Nat.mul_pos hg (by omega)
   · intro h
     have:0<w:=Nat.pos_of_mul_pos_left h
     omega
theorem mkq_self (q:Rat):mkq (decide (q.num<0)) q.num.natAbs q.den=q:=by
 unfold mkq
 have:sg (decide (q.num<0)) q.num.natAbs=q.num:=by
  unfold sg
  by_cases h:q.num<0
  · rw [if_pos (decide_eq_true h)]; omega
  · rw [if_neg (by simpa using h)]; omega
 rw [this,Rat.mkRat_self]
theorem mkq_add (p q:Bool) (n d m f:Nat) (hd:0<d) (hf:0<f):mkq p n d+mkq q m f=if p=q then mkq p (n * f+m * d) (d * f) else if m * d≤n * f then mkq p (n * f - m * d) (d * f) else mkq q (m * d - n * f) (d * f):=by
 unfold mkq
 rw [Rat.mkRat_add_mkRat _ _ (by omega) (by omega)]
 have e:∀ (p:Bool) (u w:Nat),sg p u * (w:Int)=sg p (u * w):=fun p u w=>by
  cases p <;> simp [sg,Int.neg_mul]
 rw [e,e]
 by_cases hpq:p=q
 · subst hpq
   rw [if_pos rfl]
   congr 1
   cases p <;> simp [sg] <;> omega
 · rw [if_neg hpq]
   split
   · rename_i h
     congr 1
     cases p <;> cases q <;> simp [sg] at hpq ⊢ <;> rw [← Int.natCast_mul,← Int.natCast_mul] <;> omega
   · rename_i h
     congr 1
     cases p <;> cases q <;> simp [sg] at hpq ⊢ <;> rw [← Int.natCast_mul,← Int.natCast_mul] <;> omega
theorem mkq_mul (p q:Bool) (n d m f:Nat):mkq p n d * mkq q m f=mkq (p != q) (n * m) (d * f):=by
 unfold mkq
 rw [Rat.mkRat_mul_mkRat]
 congr 1
 cases p <;> cases q <;> simp [sg,Int.neg_mul,Int.mul_neg]
theorem mkq_opp (p:Bool) (n d:Nat) : -mkq p n d=mkq (!p) n d:=by
 unfold mkq
 rw [Rat.neg_mkRat]
 congr 1
 cases p <;> simp [sg]
theorem mkq_norm (neg:Bool) (u v g:Nat) (hg:0<g) (hu:g ∣ u) (hv:g ∣ v):mkq neg (u / g) (v / g)=mkq neg u v:=by
 obtain ⟨a,rfl⟩:=hu
 obtain ⟨b,rfl⟩:=hv
 rw [Nat.mul_div_cancel_left _ hg,Nat.mul_div_cancel_left _ hg]
 unfold mkq
 have e:sg neg (g * a)=(g:Int) * sg neg a:=by cases neg <;> simp [sg,Int.mul_neg]
 rw [e,Rat.mkRat_mul_left (by omega)]
noncomputable def szN (q:Rat):Nat:=dg q.num.natAbs
noncomputable def szD (q:Rat):Nat:=dg q.den
theorem szN_mkq {neg:Bool} {u v:Nat} (hv:0<v):szN (mkq neg u v)≤dg u:=by
 unfold szN
 rw [mkq_abs hv]
 exact dg_mono (Nat.div_le_self _ _)
theorem szD_mkq {neg:Bool} {u v:Nat} (hv:0<v):szD (mkq neg u v)≤dg v:=by
 unfold szD
 rw [mkq_den hv]
 exact dg_mono (Nat.div_le_self _ _)
theorem den_pos (q:Rat):0<q.den:=Nat.pos_of_ne_zero q.den_nz
noncomputable def rt (neg:Bool) (u v:Nat):ByteArray:=(bif neg then ⟨#[45]⟩ else ⟨#[]⟩) ++ natText u ++ (if v=1 then ⟨#[]⟩ else ⟨#[47]⟩ ++ natText v)
noncomputable def ratText (q:Rat):ByteArray:=rt (decide (q.num<0)) q.num.natAbs q.den
theorem rt_bytes (neg:Bool) (u v:Nat):bytesOf (rt neg u v)=(bif neg then [45] else []) ++ bytesOf (natText u) ++ (if v=1 then [] else 47 :: bytesOf (natText v)):=by
 unfold rt
 rw [bytesOf_append,bytesOf_append]
 congr 1
 · congr 1
   cases neg <;> rfl
 · split
   · rfl
   · rw [bytesOf_append]; rfl
theorem ratText_mkq {neg:Bool} {u v:Nat} (hv:0<v) (hu:0<u):ratText (mkq neg u v)=rt neg (u / Nat.gcd u v) (v / Nat.gcd u v):=by
 unfold ratText
 rw [mkq_abs hv,mkq_den hv]
 congr 1
 have:=mkq_neg (neg:=neg) hv (u:=u)
 cases neg
 · simp only [Bool.false_eq_true,false_and,iff_false] at this
   exact decide_eq_false this
 · exact decide_eq_true (this.2 ⟨rfl,hu⟩)
theorem ratText_nat (n:Nat):ratText (n:Rat)=natText n:=by
 apply bytes_ext
 unfold ratText
 rw [rt_bytes]
 have:¬ ((n:Int)<0):=by omega
 simp [Rat.num_natCast,Rat.den_natCast,this]
theorem ratText_zero : ratText 0=⟨#[48]⟩:=(ratText_nat 0).trans natText_zero
theorem ratText_one : ratText 1=⟨#[49]⟩:=(ratText_nat 1).trans natText_one
def sgn (q:Rat):Int:=if q.num=0 then 0 else if q.num<0 then -1 else 1
noncomputable def numOf (s:ByteArray):Nat:=(val 10 (digs (bytesOf s))).toNat
theorem numOf_text (n:Nat):numOf (natText n)=n:=by
 unfold numOf
 rw [(natText_is n).2.1,Int.toNat_natCast]
structure QV (z:Bool × List Int × List Int) (q:Rat):Prop where
 neg:z.1=decide (q.num<0)
 num:z.2.1=limbsOf q.num.natAbs
 den:z.2.2=limbsOf q.den∨(z.2.2=[]∧q.den=1)
theorem QV.zero : QV (false,[],[]) 0:=⟨rfl,limbsOf_zero.symm, .inr ⟨rfl,rfl⟩⟩
theorem QV.nil {z:Bool × List Int × List Int} {q:Rat} (h:QV z q):z.2.1.length=0↔q=0:=by
 rw [h.num,limbsOf_len,Int.natAbs_eq_zero,Rat.num_eq_zero]
theorem QV.of {z:Bool × List Int × List Int} {q:Rat} (h:QV z q):mkq z.1 q.num.natAbs q.den=q:=by rw [h.neg,mkq_self]
theorem QV.make {neg:Bool} {u v:Nat} (hu:0<u) (hv:0<v) (hg:Nat.gcd u v=1):QV (neg,limbsOf u,limbsOf v) (mkq neg u v):=by
 refine ⟨?_,by rw [mkq_abs hv,hg,Nat.div_one], .inl (by rw [mkq_den hv,hg,Nat.div_one])⟩
 have:=mkq_neg (neg:=neg) hv (u:=u)
 cases neg
 · simp only [Bool.false_eq_true,false_and,iff_false] at this
   exact (decide_eq_false this).symm
 · exact (decide_eq_true (this.2 ⟨rfl,hu⟩)).symm
end
end Go.Proofs.YtnnkjpcipldnfaaGreatDoor.Sem
end
section
set_option linter.unusedSimpArgs false
set_option linter.unusedVariables false
namespace Go.Proofs.YtnnkjpcipldnfaaGreatDoor.Lib
open Go Go.Proofs.YtnnkjpcipldnfaaGreatDoor.Mach Go.Proofs.YtnnkjpcipldnfaaGreatDoorW.PrintWords Go.Proofs.YtnnkjpcipldnfaaGreatDoor.Sem Go.Proofs.YtnnkjpcipldnfaaGreatDoor.Pure
section
abbrev QT : Type:=Bool × List Int × List Int
def getQ : AV→Option QT
 | .agg cs=>(match cs with
   | [b,n,d]=>(match asB b,getRow eW n,getRow eW d with | some b,some n,some d=>some (b,n,d) | _,_,_=>none)
   | _=>none)
 | _=>none
def qa (z:QT):AV := .agg [.bool z.1, .imm eW z.2.1, .imm eW z.2.2]
theorem row_ok {e:ETy} {x:AV} {l:List e.D} (h:getRow e x=some l) {c:Ctx} {w:World} {v:Value} (hx:AVR c w x v):AVR c w (.imm e l) v:=(vRow e).ok (x:=x) (a:=l) h hx
theorem asB_eq {x:AV} {b:Bool} (h:asB x=some b):x = .bool b:=by
 unfold asB at h
 split at h
 · cases h; rfl
 · cases h
def vQ : View QT:=⟨getQ,qa,fun {x a} h {c w v} hx=>by
 unfold getQ at h
 split at h
 · split at h
   · rename_i cs b n d
     split at h
     · rename_i h1 h2 h3
       cases h
       rw [asB_eq h1] at hx
       cases hx with
       | agg hl u q1 q2 =>
         refine .agg (by simpa using hl) u (fun j y hy=>?_) (fun j y hy=>?_)
         · match j,hy with
           | 0,hy=>exact q1 0 _ rfl
           | 1,hy=>exact q1 1 _ rfl
           | 2,hy=>exact q1 2 _ rfl
         · match j,hy with
           | 0,hy=>cases hy; exact q2 0 _ rfl
           | 1,hy=>cases hy; exact row_ok h2 (q2 1 _ rfl)
           | 2,hy=>cases hy; exact row_ok h3 (q2 2 _ rfl)
     · cases h
   · cases h
 · cases h⟩
def Sz (k:Nat) (q:Rat):Prop:=szN q≤k∧szD q≤k
def wholeS (z:QT) (Q:Res):Prop:=∃ q,QV z q∧Q (.imm eW (limbsOf q.den)) []
def lowS (neg:Bool) (n d:List Int) (Q:Res):Prop:=∃ u v:Nat,n=limbsOf u∧d=limbsOf v∧0<v∧dg u≤9000000000∧dg v≤9000000000∧∀ z,QV z (mkq neg u v)→Q (qa z) []
def inS (s:ByteArray) (Q:Res):Prop:=∃ q,s=ratText q∧Sz 4000000000 q∧∀ z,QV z q→Q (qa z) []
def outS (z:QT) (Q:Res):Prop:=∃ q,QV z q∧Sz 9000000000 q∧Q (.str (ratText q)) []
noncomputable def fitV (q:Rat):Int:=if szN q > 2000∨szD q > 2000 then 2 else 0
def fitS (z:QT) (Q:Res):Prop:=∃ q,QV z q∧Sz 9000000000 q∧Q (.int .i64 (fitV q)) []
noncomputable def toldV (q:Rat):ByteArray:=if fitV q=0 then ratText q else ⟨#[]⟩
def toldS (z:QT) (Q:Res):Prop:=∃ q,QV z q∧Sz 9000000000 q∧Q (.tup [.str (toldV q), .int .i64 (fitV q)]) []
def signS (z:QT) (Q:Res):Prop:=∃ q,QV z q∧Q (.int .i64 (sgn q)) []
def negS (z:QT) (Q:Res):Prop:=∃ q,QV z q∧∀ r,QV r (-q)→Q (qa r) []
def addQ (z w:QT) (Q:Res):Prop:=∃ x y,QV z x∧QV w y∧Sz 4000000000 x∧Sz 4000000000 y∧∀ r,QV r (x+y)→Q (qa r) []
def subQ (z w:QT) (Q:Res):Prop:=∃ x y,QV z x∧QV w y∧Sz 4000000000 x∧Sz 4000000000 y∧∀ r,QV r (x - y)→Q (qa r) []
def mulQ (z w:QT) (Q:Res):Prop:=∃ x y,QV z x∧QV w y∧Sz 4000000000 x∧Sz 4000000000 y∧∀ r,QV r (x * y)→Q (qa r) []
def cmpQ (z w:QT) (Q:Res):Prop:=∃ x y,QV z x∧QV w y∧Sz 4000000000 x∧Sz 4000000000 y∧Q (.int .i64 (sgn (x - y))) []
noncomputable def ratErr (s:ByteArray):Int :=
 if natErr (cutA (preR s))=5∨(cutI (preR s)=true∧natErr (cutB (preR s))=5)∨(preB s=true∧cutA (preR s)=zeroS) then 5
 else if natErr (cutA (preR s))≠0∨(cutI (preR s)=true∧natErr (cutB (preR s))≠0) then 2
 else if cutI (preR s)=true∧(cutB (preR s)=zeroS∨cutB (preR s)=⟨#[49]⟩∨Nat.gcd (numOf (cutA (preR s))) (numOf (cutB (preR s)))≠1) then 3 else 0
noncomputable def ratOf (s:ByteArray):Rat:=mkq (preB s) (numOf (cutA (preR s))) (if cutI (preR s)=true then numOf (cutB (preR s)) else 1)
noncomputable def ratErrs : List ByteArray→Int
 | []=>0
 | s :: l=>if ratErr s=0 then ratErrs l else ratErr s
def Tx (s:ByteArray):Prop:=s.size≤1000000000000000
def rcheckS (s:ByteArray) (Q:Res):Prop:=Tx s∧Q (.int .i64 (ratErr s)) []
def TxL (l:List ByteArray):Prop:=l.length≤1000000000000000∧∀ s∈l,Tx s
def rchecksS (l:List ByteArray) (Q:Res):Prop:=TxL l∧Q (.int .i64 (ratErrs l)) []
def I64m (n:Int):Prop := -9223372036854775808<n∧n≤9223372036854775807
def intQ (n:Int) (Q:Res):Prop:=I64m n∧∀ r,QV r (n:Rat)→Q (qa r) []
def partsS (s:ByteArray) (Q:Res):Prop:=∃ q,s=ratText q∧Sz 9000000000 q∧Q (.tup [.bool (decide (q.num<0)), .str (natText q.num.natAbs), .str (natText q.den)]) []
def canonS (neg:Bool) (n d:ByteArray) (Q:Res):Prop:=∃ u v:Nat,n=natText u∧d=natText v∧0<v∧dg u≤9000000000∧dg v≤9000000000∧Q (.str (ratText (mkq neg u v))) []
def xbig (s:ByteArray) (Q:Res):Prop:=∃ q,s=ratText q∧Sz 9000000000 q∧Q (.bool (decide (szN q > 2000∨szD q > 2000))) []
def xneg (s:ByteArray) (Q:Res):Prop:=∃ q,s=ratText q∧Sz 4000000000 q∧Q (.str (ratText (-q))) []
def xadd (s t:ByteArray) (Q:Res):Prop:=∃ x y,s=ratText x∧t=ratText y∧Sz 4000000000 x∧Sz 4000000000 y∧Q (.str (ratText (x+y))) []
def xmul (s t:ByteArray) (Q:Res):Prop:=∃ x y,s=ratText x∧t=ratText y∧Sz 4000000000 x∧Sz 4000000000 y∧Q (.str (ratText (x * y))) []
def xsign (s:ByteArray) (Q:Res):Prop:=∃ q,s=ratText q∧Sz 9000000000 q∧Q (.int .i64 (sgn q)) []
noncomputable def conQ1 : FuncId→List AV→Res→Prop:=tableC [(108,c1 vI ofS),(127,c2 vW vW gcdS),(103,c2 vW vW cmpS),(128,c2 vW vW divS),(102,c2 vW vW addS),(104,c2 vW vW subS),(99,c2 vW vW mulS),(132,c1 vW textS),(131,c1 vW digitsS),(107,c1 vS readS),(143,c1 vS checkS),(105,c2 vS vS preS),(106,c2 vS vS cutS)]
noncomputable def conQ2 : FuncId→List AV→Res→Prop:=tableC [(108,c1 vI ofS),(127,c2 vW vW gcdS),(103,c2 vW vW cmpS),(128,c2 vW vW divS),(102,c2 vW vW addS),(104,c2 vW vW subS),(99,c2 vW vW mulS),(132,c1 vW textS),(131,c1 vW digitsS),(100,c1 vQ wholeS),(101,c3 vB vW vW lowS)]
noncomputable def conQ3 : FuncId→List AV→Res→Prop:=tableC [(68,c2 vQ vQ addQ),(117,c1 vQ negS),(94,c1 vQ signS),(110,c1 vQ outS),(109,c1 vQ fitS)]
noncomputable def conQ3b : FuncId→List AV→Res→Prop:=tableC [(136,c2 vQ vQ subQ),(94,c1 vQ signS)]
noncomputable def conQ4 : FuncId→List AV→Res→Prop:=tableC [(134,c1 vS rcheckS)]
noncomputable def conX1 : FuncId→List AV→Res→Prop:=tableC [(133,c1 vS checkS),(115,c2 vS vS rcmpS),(114,c2 vS vS raddS),(116,c2 vS vS rsubS),(64,c2 vS vS rmulS),(96,c2 vS vS rdivS),(95,c2 vS vS rgcdS)]
noncomputable def conX2 : FuncId→List AV→Res→Prop:=tableC [(115,c2 vS vS rcmpS),(114,c2 vS vS raddS),(116,c2 vS vS rsubS),(64,c2 vS vS rmulS),(96,c2 vS vS rdivS),(95,c2 vS vS rgcdS),(62,c1 vS partsS),(63,c3 vB vS vS canonS)]
noncomputable def conX3 : FuncId→List AV→Res→Prop:=tableC [(39,c1 vS xneg),(75,c2 vS vS xadd),(111,c1 vS rcheckS)]
end
end Go.Proofs.YtnnkjpcipldnfaaGreatDoor.Lib
end
section
set_option linter.unusedSimpArgs false
set_option linter.unusedVariables false
namespace Go.Proofs.YtnnkjpcipldnfaaGreatDoor.Mach
open Go Go.Proofs.YtnnkjpcipldnfaaGreatDoor Go.Proofs.YtnnkjpcipldnfaaGreatDoor.Lib
section
set_option maxRecDepth 1000000
def qwhole_live : List (Nat × List Nat):=[]
def qwhole_nils : List (Nat × ETy):=[]
theorem qwhole_E (zb:Bool) (zn zd:List Int) (n0:Nat) (K:AV→List HObj→Prop) :
 execN tab (mixE tab conQ1 [] 400) (maskN qwhole_live qwhole_nils (GoodL Tryz.prog n0 100 K)) (finK tab (fnT Tryz.f100).res K) 400 [.code (fnT Tryz.f100).body] ⟨initEnv (fnT Tryz.f100).n [AV.agg [AV.bool zb,AV.imm eW zn,AV.imm eW zd]],[]⟩ =
 (bif decide ((↑zd.length:Int)=0) then NatI 1∧K (AV.imm eW (Sem.limbsOf 1)) [HObj.box [AV.bool zb,AV.imm eW zn,AV.imm eW zd]] else K (AV.imm eW zd) [HObj.box [AV.bool zb,AV.imm eW zn,AV.imm eW zd]]):=by kernel_rfl
def qlow_live : List (Nat × List Nat):=[]
def qlow_nils : List (Nat × ETy):=[]
theorem qlow_E (neg:Bool) (n d:List Int) (n0:Nat) (K:AV→List HObj→Prop) :
 execN tab (mixE tab conQ1 [] 400) (maskN qlow_live qlow_nils (GoodL Tryz.prog n0 101 K)) (finK tab (fnT Tryz.f101).res K) 400 [.code (fnT Tryz.f101).body] ⟨initEnv (fnT Tryz.f101).n [AV.bool neg,AV.imm eW n,AV.imm eW d],[]⟩ =
 (bif decide ((↑n.length:Int)=0) then K (AV.agg [AV.bool false,AV.nils,AV.nils]) [HObj.box [AV.bool false,AV.nils,AV.nils]] else ∃ u v,n=Sem.limbsOf u∧d=Sem.limbsOf v∧Sem.dg u≤9000000000∧Sem.dg v≤9000000000∧NatI 1∧∃ u_1 v_1,Sem.limbsOf (u.gcd v)=Sem.limbsOf u_1∧Sem.limbsOf 1=Sem.limbsOf v_1∧Sem.dg u_1≤9000000000∧bif decide (Pure.cmpI (↑u_1:Int) (↑v_1:Int) > 0) then ∃ u_2 v_2,n=Sem.limbsOf u_2∧Sem.limbsOf (u.gcd v)=Sem.limbsOf v_2∧Sem.dg u_2≤9000000000∧Sem.dg v_2≤9000000000∧0<v_2∧∃ u_3 v_3,d=Sem.limbsOf u_3∧Sem.limbsOf (u.gcd v)=Sem.limbsOf v_3∧Sem.dg u_3≤9000000000∧Sem.dg v_3≤9000000000∧0<v_3∧K (AV.agg [AV.bool neg,AV.imm eW (Sem.limbsOf (u_2 / v_2)),AV.imm eW (Sem.limbsOf (u_3 / v_3))]) [HObj.box [AV.bool neg,AV.imm eW (Sem.limbsOf (u_2 / v_2)),AV.imm eW (Sem.limbsOf (u_3 / v_3))]] else K (AV.agg [AV.bool neg,AV.imm eW n,AV.imm eW d]) [HObj.box [AV.bool neg,AV.imm eW n,AV.imm eW d]]):=by kernel_rfl
def qin_live : List (Nat × List Nat):=[]
def qin_nils : List (Nat × ETy):=[]
theorem qin_E (s:ByteArray) (n0:Nat) (K:AV→List HObj→Prop) :
 execN tab (mixE tab conQ1 [] 400) (maskN qin_live qin_nils (GoodL Tryz.prog n0 70 K)) (finK tab (fnT Tryz.f70).res K) 400 [.code (fnT Tryz.f70).body] ⟨initEnv (fnT Tryz.f70).n [AV.str s],[]⟩ =
 (ByteArray.mk #[45]=ByteArray.mk #[45]∧s.size≤1000000000000000000∧ByteArray.mk #[47]=ByteArray.mk #[47]∧(preR s).size≤1000000000000000000∧∃ n,cutA (preR s)=Sem.natText n∧Bd n∧NatI 1∧bif cutI (preR s) then ∃ n_1,cutB (preR s)=Sem.natText n_1∧Bd n_1∧K (AV.agg [AV.bool (preB s),AV.imm eW (Sem.limbsOf n),AV.imm eW (Sem.limbsOf n_1)]) [HObj.box [AV.bool (preB s),AV.imm eW (Sem.limbsOf n),AV.imm eW (Sem.limbsOf n_1)],HObj.box [AV.bool (preB s),AV.imm eW (Sem.limbsOf n),AV.imm eW (Sem.limbsOf n_1)]] else K (AV.agg [AV.bool (preB s),AV.imm eW (Sem.limbsOf n),AV.imm eW (Sem.limbsOf 1)]) [HObj.box [AV.bool (preB s),AV.imm eW (Sem.limbsOf n),AV.imm eW (Sem.limbsOf 1)],HObj.box [AV.bool (preB s),AV.imm eW (Sem.limbsOf n),AV.imm eW (Sem.limbsOf 1)]]):=by kernel_rfl
def qout_live : List (Nat × List Nat):=[]
def qout_nils : List (Nat × ETy):=[]
theorem qout_E (zb:Bool) (zn zd:List Int) (n0:Nat) (K:AV→List HObj→Prop) :
 execN tab (mixE tab conQ2 [] 400) (maskN qout_live qout_nils (GoodL Tryz.prog n0 110 K)) (finK tab (fnT Tryz.f110).res K) 400 [.code (fnT Tryz.f110).body] ⟨initEnv (fnT Tryz.f110).n [AV.agg [AV.bool zb,AV.imm eW zn,AV.imm eW zd]],[]⟩ =
 (bif decide ((↑zn.length:Int)=0) then K (AV.str (ByteArray.mk #[48])) [HObj.box [AV.bool zb,AV.imm eW zn,AV.imm eW zd]] else ∃ n,zn=Sem.limbsOf n∧Sem.dg n≤9000000000∧bif zb then bif decide (1+(Sem.natText n).size≤9223372036854775807) then ∃ q,Sem.QV (zb,zn,zd) q∧∃ n_1,Sem.limbsOf q.den=Sem.limbsOf n_1∧Sem.dg n_1≤9000000000∧bif !(Sem.natText n_1).toList == (ByteArray.mk #[49]).toList then bif decide (1+(Sem.natText n_1).size≤9223372036854775807) then bif decide ((ByteArray.mk #[45] ++ Sem.natText n).size+(ByteArray.mk #[47] ++ Sem.natText n_1).size≤9223372036854775807) then K (AV.str (ByteArray.mk #[45] ++ Sem.natText n ++ (ByteArray.mk #[47] ++ Sem.natText n_1))) [HObj.box [AV.bool zb,AV.imm eW zn,AV.imm eW zd]] else False else False else K (AV.str (ByteArray.mk #[45] ++ Sem.natText n)) [HObj.box [AV.bool zb,AV.imm eW zn,AV.imm eW zd]] else False else ∃ q,Sem.QV (zb,zn,zd) q∧∃ n_1,Sem.limbsOf q.den=Sem.limbsOf n_1∧Sem.dg n_1≤9000000000∧bif !(Sem.natText n_1).toList == (ByteArray.mk #[49]).toList then bif decide (1+(Sem.natText n_1).size≤9223372036854775807) then bif decide ((Sem.natText n).size+(ByteArray.mk #[47] ++ Sem.natText n_1).size≤9223372036854775807) then K (AV.str (Sem.natText n ++ (ByteArray.mk #[47] ++ Sem.natText n_1))) [HObj.box [AV.bool zb,AV.imm eW zn,AV.imm eW zd]] else False else False else K (AV.str (Sem.natText n)) [HObj.box [AV.bool zb,AV.imm eW zn,AV.imm eW zd]]):=by kernel_rfl
def qfits_live : List (Nat × List Nat):=[]
def qfits_nils : List (Nat × ETy):=[]
theorem qfits_E (zb:Bool) (zn zd:List Int) (n0:Nat) (K:AV→List HObj→Prop) :
 execN tab (mixE tab conQ2 [] 400) (maskN qfits_live qfits_nils (GoodL Tryz.prog n0 109 K)) (finK tab (fnT Tryz.f109).res K) 400 [.code (fnT Tryz.f109).body] ⟨initEnv (fnT Tryz.f109).n [AV.agg [AV.bool zb,AV.imm eW zn,AV.imm eW zd]],[]⟩ =
 (∃ n,zn=Sem.limbsOf n∧Sem.dg n≤9000000000∧bif decide ((↑(Sem.dg n):Int) > 2000) then K (AV.int .i64 2) [HObj.box [AV.bool zb,AV.imm eW zn,AV.imm eW zd]] else ∃ n,zd=Sem.limbsOf n∧Sem.dg n≤9000000000∧bif bif false then true else decide ((↑(Sem.dg n):Int) > 2000) then K (AV.int .i64 2) [HObj.box [AV.bool zb,AV.imm eW zn,AV.imm eW zd]] else K (AV.int .i64 0) [HObj.box [AV.bool zb,AV.imm eW zn,AV.imm eW zd]]):=by kernel_rfl
def qtold_live : List (Nat × List Nat):=[]
def qtold_nils : List (Nat × ETy):=[]
theorem qtold_E (zb:Bool) (zn zd:List Int) (n0:Nat) (K:AV→List HObj→Prop) :
 execN tab (mixE tab conQ3 [] 400) (maskN qtold_live qtold_nils (GoodL Tryz.prog n0 71 K)) (finK tab (fnT Tryz.f71).res K) 400 [.code (fnT Tryz.f71).body] ⟨initEnv (fnT Tryz.f71).n [AV.agg [AV.bool zb,AV.imm eW zn,AV.imm eW zd]],[]⟩ =
 (∃ q,Sem.QV (zb,zn,zd) q∧Sz 9000000000 q∧bif !decide (fitV q=0) then K (AV.tup [AV.str (ByteArray.mk #[]),AV.int .i64 (fitV q)]) [HObj.box [AV.bool zb,AV.imm eW zn,AV.imm eW zd]] else ∃ q,Sem.QV (zb,zn,zd) q∧Sz 9000000000 q∧K (AV.tup [AV.str (Sem.ratText q),AV.int .i64 0]) [HObj.box [AV.bool zb,AV.imm eW zn,AV.imm eW zd]]):=by kernel_rfl
def qsign_live : List (Nat × List Nat):=[]
def qsign_nils : List (Nat × ETy):=[]
theorem qsign_E (zb:Bool) (zn zd:List Int) (n0:Nat) (K:AV→List HObj→Prop) :
 execN tab (mixE tab conQ2 [] 400) (maskN qsign_live qsign_nils (GoodL Tryz.prog n0 94 K)) (finK tab (fnT Tryz.f94).res K) 400 [.code (fnT Tryz.f94).body] ⟨initEnv (fnT Tryz.f94).n [AV.agg [AV.bool zb,AV.imm eW zn,AV.imm eW zd]],[]⟩ =
 (bif decide ((↑zn.length:Int)=0) then K (AV.int .i64 0) [HObj.box [AV.bool zb,AV.imm eW zn,AV.imm eW zd]] else bif zb then K (AV.int .i64 (-1)) [HObj.box [AV.bool zb,AV.imm eW zn,AV.imm eW zd]] else K (AV.int .i64 1) [HObj.box [AV.bool zb,AV.imm eW zn,AV.imm eW zd]]):=by kernel_rfl
def qneg_live : List (Nat × List Nat):=[]
def qneg_nils : List (Nat × ETy):=[]
theorem qneg_E (zb:Bool) (zn zd:List Int) (n0:Nat) (K:AV→List HObj→Prop) :
 execN tab (mixE tab conQ2 [] 400) (maskN qneg_live qneg_nils (GoodL Tryz.prog n0 117 K)) (finK tab (fnT Tryz.f117).res K) 400 [.code (fnT Tryz.f117).body] ⟨initEnv (fnT Tryz.f117).n [AV.agg [AV.bool zb,AV.imm eW zn,AV.imm eW zd]],[]⟩ =
 (bif decide ((↑zn.length:Int)=0) then K (AV.agg [AV.bool zb,AV.imm eW zn,AV.imm eW zd]) [HObj.box [AV.bool zb,AV.imm eW zn,AV.imm eW zd],HObj.box [AV.bool zb,AV.imm eW zn,AV.imm eW zd]] else K (AV.agg [AV.bool !zb,AV.imm eW zn,AV.imm eW zd]) [HObj.box [AV.bool zb,AV.imm eW zn,AV.imm eW zd],HObj.box [AV.bool !zb,AV.imm eW zn,AV.imm eW zd]]):=by kernel_rfl
def qadd_live : List (Nat × List Nat):=[]
def qadd_nils : List (Nat × ETy):=[]
theorem qadd_E (zb:Bool) (zn zd:List Int) (wb:Bool) (wn wd:List Int) (n0:Nat) (K:AV→List HObj→Prop) :
 execN tab (mixE tab conQ2 [] 400) (maskN qadd_live qadd_nils (GoodL Tryz.prog n0 68 K)) (finK tab (fnT Tryz.f68).res K) 400 [.code (fnT Tryz.f68).body] ⟨initEnv (fnT Tryz.f68).n [AV.agg [AV.bool zb,AV.imm eW zn,AV.imm eW zd],AV.agg [AV.bool wb,AV.imm eW wn,AV.imm eW wd]],[]⟩ =
 (bif decide ((↑zn.length:Int)=0) then K (AV.agg [AV.bool wb,AV.imm eW wn,AV.imm eW wd]) [HObj.box [AV.bool zb,AV.imm eW zn,AV.imm eW zd],HObj.box [AV.bool wb,AV.imm eW wn,AV.imm eW wd],HObj.box [AV.bool wb,AV.imm eW wn,AV.imm eW wd]]
  else bif decide ((↑wn.length:Int)=0) then K (AV.agg [AV.bool zb,AV.imm eW zn,AV.imm eW zd]) [HObj.box [AV.bool zb,AV.imm eW zn,AV.imm eW zd],HObj.box [AV.bool wb,AV.imm eW wn,AV.imm eW wd],HObj.box [AV.bool zb,AV.imm eW zn,AV.imm eW zd]] else ∃ q,Sem.QV (wb,wn,wd) q∧∃ u v,zn=Sem.limbsOf u∧Sem.limbsOf q.den=Sem.limbsOf v∧Sem.dg u≤9000000000∧Sem.dg v≤9000000000∧∃ q,Sem.QV (zb,zn,zd) q∧∃ u_1 v_1,wn=Sem.limbsOf u_1∧Sem.limbsOf q.den=Sem.limbsOf v_1∧Sem.dg u_1≤9000000000∧Sem.dg v_1≤9000000000∧∃ q,Sem.QV (zb,zn,zd) q∧∃ q_1,Sem.QV (wb,wn,wd) q_1∧∃ u_2 v_2,Sem.limbsOf q.den=Sem.limbsOf u_2∧Sem.limbsOf q_1.den=Sem.limbsOf v_2∧Sem.dg u_2≤9000000000∧Sem.dg v_2≤9000000000∧bif zb == wb then ∃ u_3 v_3,Sem.limbsOf (u * v)=Sem.limbsOf u_3∧Sem.limbsOf (u_1 * v_1)=Sem.limbsOf v_3∧Sem.dg u_3≤9000000000∧Sem.dg v_3≤9000000000∧∃ u v,Sem.limbsOf (u_3+v_3)=Sem.limbsOf u∧Sem.limbsOf (u_2 * v_2)=Sem.limbsOf v∧0<v∧Sem.dg u≤9000000000∧Sem.dg v≤9000000000∧∀ (z:Bool × List Int × List Int),Sem.QV z (Sem.mkq zb u v)→K (AV.agg [AV.bool z.1,AV.imm eW z.2.1,AV.imm eW z.2.2]) [HObj.box [AV.bool zb,AV.imm eW zn,AV.imm eW zd],HObj.box [AV.bool wb,AV.imm eW wn,AV.imm eW wd],HObj.box [AV.bool z.1,AV.imm eW z.2.1,AV.imm eW z.2.2]] else ∃ u_3 v_3,Sem.limbsOf (u * v)=Sem.limbsOf u_3∧Sem.limbsOf (u_1 * v_1)=Sem.limbsOf v_3∧Sem.dg u_3≤9000000000∧bif decide (Pure.cmpI (↑u_3:Int) (↑v_3:Int) ≥ 0) then ∃ u_4 v_4,Sem.limbsOf (u * v)=Sem.limbsOf u_4∧Sem.limbsOf (u_1 * v_1)=Sem.limbsOf v_4∧Sem.dg u_4≤9000000000∧v_4≤u_4∧∃ u v,Sem.limbsOf (u_4 - v_4)=Sem.limbsOf u∧Sem.limbsOf (u_2 * v_2)=Sem.limbsOf v∧0<v∧Sem.dg u≤9000000000∧Sem.dg v≤9000000000∧∀ (z:Bool × List Int × List Int),Sem.QV z (Sem.mkq zb u v)→K (AV.agg [AV.bool z.1,AV.imm eW z.2.1,AV.imm eW z.2.2]) [HObj.box [AV.bool zb,AV.imm eW zn,AV.imm eW zd],HObj.box [AV.bool wb,AV.imm eW wn,AV.imm eW wd],HObj.box [AV.bool z.1,AV.imm eW z.2.1,AV.imm eW z.2.2]] else ∃ u_4 v_4,Sem.limbsOf (u_1 * v_1)=Sem.limbsOf u_4∧Sem.limbsOf (u * v)=Sem.limbsOf v_4∧Sem.dg u_4≤9000000000∧v_4≤u_4∧∃ u v,Sem.limbsOf (u_4 - v_4)=Sem.limbsOf u∧Sem.limbsOf (u_2 * v_2)=Sem.limbsOf v∧0<v∧Sem.dg u≤9000000000∧Sem.dg v≤9000000000∧∀ (z:Bool × List Int × List Int),Sem.QV z (Sem.mkq wb u v)→K (AV.agg [AV.bool z.1,AV.imm eW z.2.1,AV.imm eW z.2.2]) [HObj.box [AV.bool zb,AV.imm eW zn,AV.imm eW zd],HObj.box [AV.bool wb,AV.imm eW wn,AV.imm eW wd],HObj.box [AV.bool z.1,AV.imm eW z.2.1,AV.imm eW z.2.2]]):=by kernel_rfl
def qsub_live : List (Nat × List Nat):=[]
def qsub_nils : List (Nat × ETy):=[]
theorem qsub_E (zb:Bool) (zn zd:List Int) (wb:Bool) (wn wd:List Int) (n0:Nat) (K:AV→List HObj→Prop) :
 execN tab (mixE tab conQ3 [] 400) (maskN qsub_live qsub_nils (GoodL Tryz.prog n0 136 K)) (finK tab (fnT Tryz.f136).res K) 400 [.code (fnT Tryz.f136).body] ⟨initEnv (fnT Tryz.f136).n [AV.agg [AV.bool zb,AV.imm eW zn,AV.imm eW zd],AV.agg [AV.bool wb,AV.imm eW wn,AV.imm eW wd]],[]⟩ =
 (∃ q,Sem.QV (wb,wn,wd) q∧∀ (r:Bool × List Int × List Int),Sem.QV r (-q)→∃ x y,Sem.QV (zb,zn,zd) x∧Sem.QV (r.1,r.2.1,r.2.2) y∧Sz 4000000000 x∧Sz 4000000000 y∧∀ (r:Bool × List Int × List Int),Sem.QV r (x+y)→K (AV.agg [AV.bool r.1,AV.imm eW r.2.1,AV.imm eW r.2.2]) [HObj.box [AV.bool zb,AV.imm eW zn,AV.imm eW zd],HObj.box [AV.bool wb,AV.imm eW wn,AV.imm eW wd],HObj.box [AV.bool r.1,AV.imm eW r.2.1,AV.imm eW r.2.2]]):=by kernel_rfl
def qmul_live : List (Nat × List Nat):=[]
def qmul_nils : List (Nat × ETy):=[]
theorem qmul_E (zb:Bool) (zn zd:List Int) (wb:Bool) (wn wd:List Int) (n0:Nat) (K:AV→List HObj→Prop) :
 execN tab (mixE tab conQ2 [] 400) (maskN qmul_live qmul_nils (GoodL Tryz.prog n0 69 K)) (finK tab (fnT Tryz.f69).res K) 400 [.code (fnT Tryz.f69).body] ⟨initEnv (fnT Tryz.f69).n [AV.agg [AV.bool zb,AV.imm eW zn,AV.imm eW zd],AV.agg [AV.bool wb,AV.imm eW wn,AV.imm eW wd]],[]⟩ =
 (bif decide ((↑zn.length:Int)=0) then K (AV.agg [AV.bool false,AV.nils,AV.nils]) [HObj.box [AV.bool zb,AV.imm eW zn,AV.imm eW zd],HObj.box [AV.bool wb,AV.imm eW wn,AV.imm eW wd],HObj.box [AV.bool false,AV.nils,AV.nils]] else bif bif false then true else decide ((↑wn.length:Int)=0) then K (AV.agg [AV.bool false,AV.nils,AV.nils]) [HObj.box [AV.bool zb,AV.imm eW zn,AV.imm eW zd],HObj.box [AV.bool wb,AV.imm eW wn,AV.imm eW wd],HObj.box [AV.bool false,AV.nils,AV.nils]] else ∃ u v,zn=Sem.limbsOf u∧wn=Sem.limbsOf v∧Sem.dg u≤9000000000∧Sem.dg v≤9000000000∧∃ q,Sem.QV (zb,zn,zd) q∧∃ q_1,Sem.QV (wb,wn,wd) q_1∧∃ u_1 v_1,Sem.limbsOf q.den=Sem.limbsOf u_1∧Sem.limbsOf q_1.den=Sem.limbsOf v_1∧Sem.dg u_1≤9000000000∧Sem.dg v_1≤9000000000∧∃ u_2 v_2,Sem.limbsOf (u * v)=Sem.limbsOf u_2∧Sem.limbsOf (u_1 * v_1)=Sem.limbsOf v_2∧0<v_2∧Sem.dg u_2≤9000000000∧Sem.dg v_2≤9000000000∧∀ (z:Bool × List Int × List Int),Sem.QV z (Sem.mkq (!zb == wb) u_2 v_2)→K (AV.agg [AV.bool z.1,AV.imm eW z.2.1,AV.imm eW z.2.2]) [HObj.box [AV.bool zb,AV.imm eW zn,AV.imm eW zd],HObj.box [AV.bool wb,AV.imm eW wn,AV.imm eW wd],HObj.box [AV.bool z.1,AV.imm eW z.2.1,AV.imm eW z.2.2]]):=by kernel_rfl
def qcmp_live : List (Nat × List Nat):=[]
def qcmp_nils : List (Nat × ETy):=[]
theorem qcmp_E (zb:Bool) (zn zd:List Int) (wb:Bool) (wn wd:List Int) (n0:Nat) (K:AV→List HObj→Prop) :
 execN tab (mixE tab conQ3b [] 400) (maskN qcmp_live qcmp_nils (GoodL Tryz.prog n0 118 K)) (finK tab (fnT Tryz.f118).res K) 400 [.code (fnT Tryz.f118).body] ⟨initEnv (fnT Tryz.f118).n [AV.agg [AV.bool zb,AV.imm eW zn,AV.imm eW zd],AV.agg [AV.bool wb,AV.imm eW wn,AV.imm eW wd]],[]⟩ =
 (∃ x y,Sem.QV (zb,zn,zd) x∧Sem.QV (wb,wn,wd) y∧Sz 4000000000 x∧Sz 4000000000 y∧∀ (r:Bool × List Int × List Int),Sem.QV r (x - y)→∃ q,Sem.QV (r.1,r.2.1,r.2.2) q∧K (AV.int .i64 (Sem.sgn q)) [HObj.box [AV.bool zb,AV.imm eW zn,AV.imm eW zd],HObj.box [AV.bool wb,AV.imm eW wn,AV.imm eW wd]]):=by kernel_rfl
def qcheck_live : List (Nat × List Nat):=[]
def qcheck_nils : List (Nat × ETy):=[]
theorem qcheck_E (s:ByteArray) (n0:Nat) (K:AV→List HObj→Prop) :
 execN tab (mixE tab conQ1 [] 400) (maskN qcheck_live qcheck_nils (GoodL Tryz.prog n0 134 K)) (finK tab (fnT Tryz.f134).res K) 400 [.code (fnT Tryz.f134).body] ⟨initEnv (fnT Tryz.f134).n [AV.str s],[]⟩ =
 (ByteArray.mk #[45]=ByteArray.mk #[45] ∧
 s.size≤1000000000000000000 ∧
  ByteArray.mk #[47]=ByteArray.mk #[47] ∧
   (preR s).size≤1000000000000000000 ∧
        (cutA (preR s)).size≤1000000000000000 ∧
         bif cutI (preR s) then (cutB (preR s)).size≤1000000000000000∧bif decide (Pure.natErr (cutA (preR s))=5) then K (AV.int .i64 5) [] else bif bif false then true else decide (Pure.natErr (cutB (preR s))=5) then K (AV.int .i64 5) [] else bif preB s then bif bif false then true else bif true then (cutA (preR s)).toList == (ByteArray.mk #[48]).toList else false then K (AV.int .i64 5) [] else bif !decide (Pure.natErr (cutA (preR s))=0) then K (AV.int .i64 2) [] else bif bif false then true else !decide (Pure.natErr (cutB (preR s))=0) then K (AV.int .i64 2) [] else bif cutI (preR s) then bif (cutB (preR s)).toList == (ByteArray.mk #[48]).toList then K (AV.int .i64 3) [] else bif bif false then true else (cutB (preR s)).toList == (ByteArray.mk #[49]).toList then K (AV.int .i64 3) [] else ∃ n,cutA (preR s)=Sem.natText n∧Bd n∧∃ n_1,cutB (preR s)=Sem.natText n_1∧Bd n_1∧∃ u v,Sem.limbsOf n=Sem.limbsOf u∧Sem.limbsOf n_1=Sem.limbsOf v∧Sem.dg u≤9000000000∧Sem.dg v≤9000000000∧NatI 1∧∃ u_1 v_1,Sem.limbsOf (u.gcd v)=Sem.limbsOf u_1∧Sem.limbsOf 1=Sem.limbsOf v_1∧Sem.dg u_1≤9000000000∧bif bif true then bif false then true else !decide (Pure.cmpI (↑u_1:Int) (↑v_1:Int)=0) else false then K (AV.int .i64 3) [] else K (AV.int .i64 0) [] else K (AV.int .i64 0) [] else bif !decide (Pure.natErr (cutA (preR s))=0) then K (AV.int .i64 2) [] else bif bif false then true else !decide (Pure.natErr (cutB (preR s))=0) then K (AV.int .i64 2) [] else bif cutI (preR s) then bif (cutB (preR s)).toList == (ByteArray.mk #[48]).toList then K (AV.int .i64 3) [] else bif bif false then true else (cutB (preR s)).toList == (ByteArray.mk #[49]).toList then K (AV.int .i64 3) [] else ∃ n,cutA (preR s)=Sem.natText n∧Bd n∧∃ n_1,cutB (preR s)=Sem.natText n_1∧Bd n_1∧∃ u v,Sem.limbsOf n=Sem.limbsOf u∧Sem.limbsOf n_1=Sem.limbsOf v∧Sem.dg u≤9000000000∧Sem.dg v≤9000000000∧NatI 1∧∃ u_1 v_1,Sem.limbsOf (u.gcd v)=Sem.limbsOf u_1∧Sem.limbsOf 1=Sem.limbsOf v_1∧Sem.dg u_1≤9000000000∧bif bif true then bif false then true else !decide (Pure.cmpI (↑u_1:Int) (↑v_1:Int)=0) else false then K (AV.int .i64 3) [] else K (AV.int .i64 0) [] else K (AV.int .i64 0) []
         else bif decide (Pure.natErr (cutA (preR s))=5) then K (AV.int .i64 5) [] else bif preB s then bif bif false then true else bif true then (cutA (preR s)).toList == (ByteArray.mk #[48]).toList else false then K (AV.int .i64 5) [] else bif !decide (Pure.natErr (cutA (preR s))=0) then K (AV.int .i64 2) [] else bif cutI (preR s) then bif (cutB (preR s)).toList == (ByteArray.mk #[48]).toList then K (AV.int .i64 3) [] else bif bif false then true else (cutB (preR s)).toList == (ByteArray.mk #[49]).toList then K (AV.int .i64 3) [] else ∃ n,cutA (preR s)=Sem.natText n∧Bd n∧∃ n_1,cutB (preR s)=Sem.natText n_1∧Bd n_1∧∃ u v,Sem.limbsOf n=Sem.limbsOf u∧Sem.limbsOf n_1=Sem.limbsOf v∧Sem.dg u≤9000000000∧Sem.dg v≤9000000000∧NatI 1∧∃ u_1 v_1,Sem.limbsOf (u.gcd v)=Sem.limbsOf u_1∧Sem.limbsOf 1=Sem.limbsOf v_1∧Sem.dg u_1≤9000000000∧bif bif true then bif false then true else !decide (Pure.cmpI (↑u_1:Int) (↑v_1:Int)=0) else false then K (AV.int .i64 3) [] else K (AV.int .i64 0) [] else K (AV.int .i64 0) [] else bif !decide (Pure.natErr (cutA (preR s))=0) then K (AV.int .i64 2) [] else bif cutI (preR s) then bif (cutB (preR s)).toList == (ByteArray.mk #[48]).toList then K (AV.int .i64 3) [] else bif bif false then true else (cutB (preR s)).toList == (ByteArray.mk #[49]).toList then K (AV.int .i64 3) [] else ∃ n,cutA (preR s)=Sem.natText n∧Bd n∧∃ n_1,cutB (preR s)=Sem.natText n_1∧Bd n_1∧∃ u v,Sem.limbsOf n=Sem.limbsOf u∧Sem.limbsOf n_1=Sem.limbsOf v∧Sem.dg u≤9000000000∧Sem.dg v≤9000000000∧NatI 1∧∃ u_1 v_1,Sem.limbsOf (u.gcd v)=Sem.limbsOf u_1∧Sem.limbsOf 1=Sem.limbsOf v_1∧Sem.dg u_1≤9000000000∧bif bif true then bif false then true else !decide (Pure.cmpI (↑u_1:Int) (↑v_1:Int)=0) else false then K (AV.int .i64 3) [] else K (AV.int .i64 0) [] else K (AV.int .i64 0) []):=by kernel_rfl
def qchecks_live : List (Nat × List Nat):=[(2,[6,7,8])]
def qchecks_nils : List (Nat × ETy):=[(6,eS)]
noncomputable def qchecks_s2_0 (l:List ByteArray) (x0 x1:Int):St:=stOf 18 [(6,AV.imm eS l),(7,AV.int .i64 x0),(8,AV.int .i64 x1)] []
theorem qchecks_E (l:List ByteArray) (n0:Nat) (K:AV→List HObj→Prop) :
 execN tab (mixE tab conQ4 [] 400) (maskN qchecks_live qchecks_nils (GoodL Tryz.prog n0 124 K)) (finK tab (fnT Tryz.f124).res K) 400 [.code (fnT Tryz.f124).body] ⟨initEnv (fnT Tryz.f124).n [AV.imm eS l],[]⟩ =
 (GoodL Tryz.prog n0 124 K (headAt (fnT Tryz.f124) 2) (qchecks_s2_0 l (↑l.length:Int) 0)):=by kernel_rfl
theorem qchecks_s2_0_E (l:List ByteArray) (x0 x1:Int) (n0:Nat) (K:AV→List HObj→Prop) :
 execN tab (mixE tab conQ4 [] 400) (maskN qchecks_live qchecks_nils (GoodL Tryz.prog n0 124 K)) (finK tab (fnT Tryz.f124).res K) 400 (roundAt (fnT Tryz.f124) 2) (qchecks_s2_0 l x0 x1) =
 (bif decide (x1<x0) then bif decide (0≤x1) && decide (x1<(↑l.length:Int)) then Tx (l.getD x1.toNat ByteArray.empty)∧bif !decide (ratErr (l.getD x1.toNat ByteArray.empty)=0) then K (AV.int .i64 (ratErr (l.getD x1.toNat ByteArray.empty))) [] else GoodL Tryz.prog n0 124 K (headAt (fnT Tryz.f124) 2) (qchecks_s2_0 l x0 (IntKind.i64.wrap (x1+1))) else False else K (AV.int .i64 0) []):=by kernel_rfl
end
end Go.Proofs.YtnnkjpcipldnfaaGreatDoor.Mach
end
section
set_option linter.unusedSimpArgs false
set_option linter.unusedVariables false
namespace Go.Proofs.YtnnkjpcipldnfaaGreatDoor.Lib
open Go Go.Proofs.YtnnkjpcipldnfaaGreatDoor.Mach Go.Proofs.YtnnkjpcipldnfaaGreatDoorW.PrintWords Go.Proofs.YtnnkjpcipldnfaaGreatDoor.Sem Go.Proofs.YtnnkjpcipldnfaaGreatDoor.Pure
section
def resQ (q:Rat):Res:=fun v o=>o=[]∧((∃ z,QV z q∧v=qa z)∨(q=0∧v = .agg [.bool false, .nils, .nils]))
theorem con_Q {P:Program} {g:FuncId} {args:List AV} {q:Rat} {Q:Res} (h:Con P g args (resQ q)) (hQ:∀ z,QV z q→Q (qa z) []):Con P g args Q :=
 h.sealTo fun v o hv=>by
  obtain ⟨rfl,⟨z,hz,rfl⟩ | ⟨rfl,rfl⟩⟩:=hv
  · exact ⟨_,⟨_,rfl, .cons rfl (.cons rfl (.cons rfl .nil))⟩,hQ z hz⟩
  · exact ⟨_,⟨_,rfl, .cons rfl (.cons (Or.inr ⟨eW,rfl⟩) (.cons (Or.inr ⟨eW,rfl⟩) .nil))⟩,hQ (false,[],[]) QV.zero⟩
theorem res_Q {z:QT} {q:Rat} {H:List HObj} (h:QV z q):resK (resQ q) (.agg [.bool z.1, .imm eW z.2.1, .imm eW z.2.2]) H:=res_plain ⟨rfl, .inl ⟨z,h,rfl⟩⟩ rfl rfl
theorem res_Q0 {q:Rat} {H:List HObj} (h:q=0):resK (resQ q) (.agg [.bool false, .nils, .nils]) H:=res_plain ⟨rfl, .inr ⟨h,rfl⟩⟩ rfl rfl
theorem len0 {n:Nat} (h:n=0):(n:Int)=0:=by omega
theorem nlen0 {n:Nat} (h:¬ n=0):¬ (n:Int)=0:=by omega
theorem dg_one : dg 1=1:=by
 show (natText 1).size=1
 rw [natText_one]; rfl
theorem dg_zero : dg 0=1:=by
 show (natText 0).size=1
 rw [natText_zero]; rfl
theorem natI1 : NatI 1:=⟨by decide,by decide⟩
theorem cmp_gt {u v:Nat}:cmpI (u:Int) (v:Int) > 0↔v<u:=by
 unfold cmpI
 split
 · omega
 · split <;> omega
theorem cmp_ge {u v:Nat}:cmpI (u:Int) (v:Int) ≥ 0↔v≤u:=by
 unfold cmpI
 split
 · omega
 · split <;> omega
theorem cmp_eq {u v:Nat}:cmpI (u:Int) (v:Int)=0↔v=u:=by
 unfold cmpI
 split
 · omega
 · split <;> omega
theorem conQ1_ok : ∀ g xs Q,conQ1 g xs Q→Con Tryz.prog g xs Q:=table_ok fun p hp=>by
 simp only [List.mem_cons,List.not_mem_nil,or_false] at hp
 rcases hp with rfl | rfl | rfl | rfl | rfl | rfl | rfl | rfl | rfl | rfl | rfl | rfl | rfl
 · exact c1_ok fun _ _ h=>of_conS h
 · exact c2_ok fun _ _ _ h=>gcd_conS h
 · exact c2_ok fun _ _ _ h=>cmp_conS h
 · exact c2_ok fun _ _ _ h=>div_conS h
 · exact c2_ok fun _ _ _ h=>add_conS h
 · exact c2_ok fun _ _ _ h=>sub_conS h
 · exact c2_ok fun _ _ _ h=>mul_conS h
 · exact c1_ok fun _ _ h=>text_conS h
 · exact c1_ok fun _ _ h=>digits_conS h
 · exact c1_ok fun _ _ h=>read_conS h
 · exact c1_ok fun _ _ h=>check_conS h
 · exact c2_ok fun _ _ _ h=>pre_con h
 · exact c2_ok fun _ _ _ h=>cut_con h
theorem whole_con {z:QT} {Q:Res} (h:wholeS z Q):Con Tryz.prog 100 [qa z] Q:=by
 obtain ⟨q,hz,hq⟩:=h
 obtain ⟨b,n,d⟩:=z
 refine conN (gn:=fnT Tryz.f100) (by kernel_rfl) conQ1_ok (inl:=[]) (LT:=qwhole_live) (NT:=qwhole_nils) rfl fun n0=>?_
 refine (qwhole_E b n d n0 _).symm ▸ ?_
 by_cases h0:d.length=0
 · refine bif_pos (len0 h0) ⟨natI1,?_⟩
   rcases hz.den with hd | ⟨hd,hd1⟩
   · have:d=limbsOf q.den:=hd
     rw [this,limbsOf_len] at h0
     exact absurd h0 q.den_nz
   · rw [hd1] at hq
     exact res_plain hq rfl rfl
 · refine bif_neg (nlen0 h0) ?_
   rcases hz.den with hd | ⟨hd,hd1⟩
   · have:d=limbsOf q.den:=hd
     rw [this]
     exact res_plain hq rfl rfl
   · exact absurd (congrArg List.length hd) h0
theorem low_con {neg:Bool} {n d:List Int} {Q:Res} (h:lowS neg n d Q):Con Tryz.prog 101 [.bool neg, .imm eW n, .imm eW d] Q:=by
 obtain ⟨u,v,rfl,rfl,hv,hbu,hbv,hq⟩:=h
 refine con_Q ?_ hq
 refine conN (gn:=fnT Tryz.f101) (by kernel_rfl) conQ1_ok (inl:=[]) (LT:=qlow_live) (NT:=qlow_nils) rfl fun n0=>?_
 rw [qlow_E]
 by_cases h0:u=0
 · subst h0
   refine bif_pos (len0 (limbsOf_len.2 rfl)) ?_
   exact res_Q0 (mkq_zero _ _)
 · refine bif_neg (nlen0 fun h=>h0 (limbsOf_len.1 h)) ?_
   have hg:0<Nat.gcd u v:=Nat.gcd_pos_of_pos_right u hv
   have hgb:dg (Nat.gcd u v)≤9000000000:=Nat.le_trans (dg_mono (Nat.le_of_dvd hv (Nat.gcd_dvd_right u v))) hbv
   refine ⟨u,v,rfl,rfl,hbu,hbv,natI1,Nat.gcd u v,1,rfl,rfl,hgb,?_⟩
   by_cases h1:1<Nat.gcd u v
   · refine bif_pos (cmp_gt.2 h1) ⟨u,Nat.gcd u v,rfl,rfl,hbu,hgb,hg,v,Nat.gcd u v,rfl,rfl,hbv,hgb,hg,?_⟩
     rw [← mkq_norm neg u v _ hg (Nat.gcd_dvd_left u v) (Nat.gcd_dvd_right u v)]
     exact res_Q (z:=(neg,_,_)) (QV.make (Nat.div_pos (Nat.le_of_dvd (by omega) (Nat.gcd_dvd_left u v)) hg) (Nat.div_pos (Nat.le_of_dvd hv (Nat.gcd_dvd_right u v)) hg) (by rw [Nat.gcd_div (Nat.gcd_dvd_left u v) (Nat.gcd_dvd_right u v),Nat.div_self hg]))
   · refine bif_neg (fun h=>h1 (cmp_gt.1 h)) ?_
     exact res_Q (z:=(neg,_,_)) (QV.make (by omega) hv (by omega))
theorem conQ2_ok : ∀ g xs Q,conQ2 g xs Q→Con Tryz.prog g xs Q:=table_ok fun p hp=>by
 simp only [List.mem_cons,List.not_mem_nil,or_false] at hp
 rcases hp with rfl | rfl | rfl | rfl | rfl | rfl | rfl | rfl | rfl | rfl | rfl
 · exact c1_ok fun _ _ h=>of_conS h
 · exact c2_ok fun _ _ _ h=>gcd_conS h
 · exact c2_ok fun _ _ _ h=>cmp_conS h
 · exact c2_ok fun _ _ _ h=>div_conS h
 · exact c2_ok fun _ _ _ h=>add_conS h
 · exact c2_ok fun _ _ _ h=>sub_conS h
 · exact c2_ok fun _ _ _ h=>mul_conS h
 · exact c1_ok fun _ _ h=>text_conS h
 · exact c1_ok fun _ _ h=>digits_conS h
 · exact c1_ok fun _ _ h=>whole_con h
 · exact c3_ok fun _ _ _ _ h=>low_con h
theorem qv_nlen {b:Bool} {n d:List Int} {q:Rat} (h:QV (b,n,d) q):n=limbsOf q.num.natAbs:=h.num
theorem qv_len {b:Bool} {n d:List Int} {q:Rat} (h:QV (b,n,d) q):(n.length:Int)=0↔q=0:=by
 have:(n.length=0)↔q=0:=h.nil
 rw [← this]; omega
theorem sz_n {k:Nat} {q:Rat} (h:Sz k q):dg q.num.natAbs≤k:=h.1
theorem sz_d {k:Nat} {q:Rat} (h:Sz k q):dg q.den≤k:=h.2
theorem qv_sgn {b:Bool} {n d:List Int} {q:Rat} (h:QV (b,n,d) q) (h0:¬ q=0):sgn q=bif b then -1 else 1:=by
 have hb:b=decide (q.num<0):=h.neg
 unfold sgn
 rw [if_neg (fun h=>h0 (Rat.num_eq_zero.1 h)),hb]
 by_cases hn:q.num<0
 · rw [if_pos hn,decide_eq_true hn]; rfl
 · rw [if_neg hn,decide_eq_false hn]; rfl
theorem sign_con {z:QT} {Q:Res} (h:signS z Q):Con Tryz.prog 94 [qa z] Q:=by
 obtain ⟨q,hz,hq⟩:=h
 obtain ⟨b,n,d⟩:=z
 refine conN (gn:=fnT Tryz.f94) (by kernel_rfl) conQ2_ok (inl:=[]) (LT:=qsign_live) (NT:=qsign_nils) rfl fun n0=>?_
 refine (qsign_E b n d n0 _).symm ▸ ?_
 by_cases h0:q=0
 · refine bif_pos ((qv_len hz).2 h0) ?_
   rw [show sgn q=0 by rw [h0]; rfl] at hq
   exact res_plain hq rfl rfl
 · refine bif_neg (fun h=>h0 ((qv_len hz).1 h)) ?_
   rw [qv_sgn hz h0] at hq
   cases b
   · exact res_plain hq rfl rfl
   · exact res_plain hq rfl rfl
theorem neg_QV {b:Bool} {n d:List Int} {q:Rat} (h:QV (b,n,d) q) (h0:¬ q=0):QV (!b,n,d) (-q):=by
 have hb:b=decide (q.num<0):=h.neg
 refine ⟨?_,?_,?_⟩
 · show (!b)=decide ((-q).num<0)
   rw [Rat.neg_num,hb]
   have:q.num≠0:=fun h=>h0 (Rat.num_eq_zero.1 h)
   by_cases hn:q.num<0
   · rw [decide_eq_true hn,decide_eq_false (by omega)]; rfl
   · rw [decide_eq_false hn,decide_eq_true (by omega)]; rfl
 · rw [Rat.neg_num,Int.natAbs_neg]; exact h.num
 · rw [Rat.neg_den]; exact h.den
theorem neg_con {z:QT} {Q:Res} (h:negS z Q):Con Tryz.prog 117 [qa z] Q:=by
 obtain ⟨q,hz,hq⟩:=h
 refine con_Q ?_ hq
 obtain ⟨b,n,d⟩:=z
 refine conN (gn:=fnT Tryz.f117) (by kernel_rfl) conQ2_ok (inl:=[]) (LT:=qneg_live) (NT:=qneg_nils) rfl fun n0=>?_
 refine (qneg_E b n d n0 _).symm ▸ ?_
 by_cases h0:q=0
 · refine bif_pos ((qv_len hz).2 h0) ?_
   refine res_Q (z:=(b,n,d)) ?_
   subst h0
   exact hz
 · refine bif_neg (fun h=>h0 ((qv_len hz).1 h)) ?_
   exact res_Q (z:=(!b,n,d)) (neg_QV hz h0)
theorem dg_mul2 {u v:Nat} (hu:dg u≤4000000000) (hv:dg v≤4000000000):dg (u * v)≤8000000000:=Nat.le_trans (dg_mul u v) (by omega)
theorem add_con {z w:QT} {Q:Res} (h:addQ z w Q):Con Tryz.prog 68 [qa z,qa w] Q:=by
 obtain ⟨x,y,hz,hw,sx,sy,hq⟩:=h
 refine con_Q ?_ hq
 obtain ⟨b,n,d⟩:=z
 obtain ⟨b', n', d'⟩:=w
 refine conN (gn:=fnT Tryz.f68) (by kernel_rfl) conQ2_ok (inl:=[]) (LT:=qadd_live) (NT:=qadd_nils) rfl fun n0=>?_
 refine (qadd_E b n d b' n' d' n0 _).symm ▸ ?_
 by_cases h0:x=0
 · refine bif_pos ((qv_len hz).2 h0) ?_
   refine res_Q (z:=(b', n', d')) ?_
   rw [h0,Rat.zero_add]; exact hw
 · refine bif_neg (fun h=>h0 ((qv_len hz).1 h)) ?_
   by_cases h1:y=0
   · refine bif_pos ((qv_len hw).2 h1) ?_
     refine res_Q (z:=(b,n,d)) ?_
     rw [h1,Rat.add_zero]; exact hz
   · refine bif_neg (fun h=>h1 ((qv_len hw).1 h)) ?_
     have e1:=sz_n sx; have e2:=sz_d sx; have e3:=sz_n sy; have e4:=sz_d sy
     have m1:=dg_mul2 e1 e4
     have m2:=dg_mul2 e3 e2
     have m3:=dg_mul2 e2 e4
     have px:=den_pos x
     have py:=den_pos y
     have hsum:x+y=mkq b x.num.natAbs x.den+mkq b' y.num.natAbs y.den:=by rw [hz.of,hw.of]
     rw [mkq_add _ _ _ _ _ _ px py] at hsum
     refine ⟨y,hw,_,_,(qv_nlen hz),rfl,by omega,by omega,x,hz,_,_,(qv_nlen hw),rfl,by omega,by omega,x,hz,y,hw,_,_,rfl,rfl,by omega,by omega,?_⟩
     by_cases hb:b=b'
     · rw [if_pos hb] at hsum
       refine bif_t (by rw [hb,beq_self_eq_true]) ?_
       refine ⟨_,_,rfl,rfl,by omega,by omega,_,_,rfl,rfl,Nat.mul_pos px py,?_,by omega,fun r hr=>?_⟩
       · have:=dg_add m1 m2; omega
       · rw [hsum]; exact res_Q hr
     · rw [if_neg hb] at hsum
       refine bif_f (by simpa using hb) ?_
       refine ⟨_,_,rfl,rfl,by omega,?_⟩
       by_cases hc:y.num.natAbs * x.den≤x.num.natAbs * y.den
       · rw [if_pos hc] at hsum
         refine bif_pos (cmp_ge.2 hc) ?_
         refine ⟨_,_,rfl,rfl,by omega,hc,_,_,rfl,rfl,Nat.mul_pos px py,?_,by omega,fun r hr=>?_⟩
         · have:=dg_mono (Nat.sub_le (x.num.natAbs * y.den) (y.num.natAbs * x.den)); omega
         · rw [hsum]; exact res_Q hr
       · rw [if_neg hc] at hsum
         refine bif_neg (fun h=>hc (cmp_ge.1 h)) ?_
         refine ⟨_,_,rfl,rfl,by omega,by omega,_,_,rfl,rfl,Nat.mul_pos px py,?_,by omega,fun r hr=>?_⟩
         · have:=dg_mono (Nat.sub_le (y.num.natAbs * x.den) (x.num.natAbs * y.den)); omega
         · rw [hsum]; exact res_Q hr
theorem mul_con {z w:QT} {Q:Res} (h:mulQ z w Q):Con Tryz.prog 69 [qa z,qa w] Q:=by
 obtain ⟨x,y,hz,hw,sx,sy,hq⟩:=h
 refine con_Q ?_ hq
 obtain ⟨b,n,d⟩:=z
 obtain ⟨b', n', d'⟩:=w
 refine conN (gn:=fnT Tryz.f69) (by kernel_rfl) conQ2_ok (inl:=[]) (LT:=qmul_live) (NT:=qmul_nils) rfl fun n0=>?_
 refine (qmul_E b n d b' n' d' n0 _).symm ▸ ?_
 by_cases h0:x=0
 · refine bif_pos ((qv_len hz).2 h0) (res_Q0 (by rw [h0,Rat.zero_mul]))
 · refine bif_neg (fun h=>h0 ((qv_len hz).1 h)) ?_
   by_cases h1:y=0
   · refine bif_t (decide_eq_true ((qv_len hw).2 h1)) (res_Q0 (by rw [h1,Rat.mul_zero]))
   · refine bif_f (fun h=>h1 ((qv_len hw).1 (of_decide_eq_true h))) ?_
     have e1:=sz_n sx; have e2:=sz_d sx; have e3:=sz_n sy; have e4:=sz_d sy
     have m1:=dg_mul2 e1 e3
     have m3:=dg_mul2 e2 e4
     have hprod:x * y=mkq b x.num.natAbs x.den * mkq b' y.num.natAbs y.den:=by rw [hz.of,hw.of]
     rw [mkq_mul] at hprod
     refine ⟨_,_,(qv_nlen hz),(qv_nlen hw),by omega,by omega,x,hz,y,hw,_,_,rfl,rfl,by omega,by omega,_,_,rfl,rfl,Nat.mul_pos (den_pos x) (den_pos y),by omega,by omega,fun r hr=>?_⟩
     rw [hprod]; exact res_Q hr
end
end Go.Proofs.YtnnkjpcipldnfaaGreatDoor.Lib
end
