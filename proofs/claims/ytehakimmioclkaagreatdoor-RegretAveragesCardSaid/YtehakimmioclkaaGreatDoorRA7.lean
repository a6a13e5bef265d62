/- Texts of this session, put together. -/
import Derived.Test.YtehakimmioclkaaGreatDoorRA6
import Derived.Deep.Slices
import Derived.OpenShut
import Derived.ShutString
import Derived.ChangeOld
import Derived.Carry
import Derived.SizedLaws
section
set_option linter.unusedSectionVars false
set_option linter.unusedSimpArgs false
set_option linter.unusedVariables false
namespace Go.Proofs.YtehakimmioclkaaGreatDoor.Mach
open Go Go.ChangeShapes Go.WideShapes
section
def ETy.list : ETy→List CTy
 | .one t=>[t]
 | .more t e=>t :: e.list
def aQW : CTy→Nat
 | .int k=>match k with | .i8 | .u8=>1 | .i16 | .u16=>2 | .i32 | .u32=>4 | .i64 | .u64=>8
 | .bool=>1
 | .str=>16
 | .slice _=>24
def pJ : ETy→Nat
 | .one t=>aQW t
 | .more t e=>aQW t+pJ e
def rep {α:Type} (f:α→Option α):Nat→α→Option α
 | 0,l=>some l
 | n+1,l=>match f l with | some l' => rep f n l' | none=>none
def tG (P:Program) (f:TypeId→List CTy→Option (List CTy)):List Field→Nat→List CTy→Option (Nat × List CTy)
 | [],o,l=>some (o,l)
 | x :: r,o,l=>if x.offset=o then (match f x.type l with | some l' => tG P f r (o+P.cellsOf x.type) l' | none=>none) else none
def eat (P:Program):Nat→TypeId→List CTy→Option (List CTy)
 | 0,_,_=>none
 | d+1,t,l=>match P.underlying t with
   | some (.int k)=>(match l with | .int k' :: r=>if k=k' then some r else none | _=>none)
   | some .bool=>(match l with | .bool :: r=>some r | _=>none)
   | some .string=>(match l with | .str :: r=>some r | _=>none)
   | some (.slice et)=>(match l with
     | .slice e :: r=>(match eat P d et e.list with
       | some []=>if pJ e≤P.bytesOf et∧e.size=P.cellsOf et then some r else none
       | _=>none)
     | _=>none)
   | some (.struct fs)=>(match tG P (eat P d) fs.toList 0 l with
     | some (o,l')=>if o=P.cellsOf t then some l' else none
     | none=>none)
   | some (.array n e)=>if n * P.cellsOf e=P.cellsOf t then rep (eat P d e) n l else none
   | _=>none
mutual
def SzC : (t:CTy)→t.D→Prop
 | .int k,n=>(Lit.int k n).wf=true
 | .bool,_=>True
 | .str,s=>s.size≤140737488351232
 | .slice e,l=>(dE l).length * pJ e≤140737488351232∧(dE l).length≤maxLen∧∀ x∈dE l,SzE e x
def SzE : (e:ETy)→e.D→Prop
 | .one t,x=>SzC t x
 | .more t e,x=>SzC t x.1∧SzE e x.2
end
inductive All2 {α β:Type} (R:α→β→Prop):List α→List β→Prop
 | nil:All2 R [] []
 | cons {a:α} {b:β} {l:List α} {m:List β} (h:R a b) (t:All2 R l m):All2 R (a :: l) (b :: m)
theorem All2.append {α β:Type} {R:α→β→Prop} {l l' : List α} {m m' : List β} (h:All2 R l m) (h' : All2 R l' m'):All2 R (l ++ l') (m ++ m'):=by
 induction h with
 | nil=>exact h'
 | cons a _ ih=>exact .cons a ih
theorem All2.len {α β:Type} {R:α→β→Prop} {l:List α} {m:List β} (h:All2 R l m):l.length=m.length:=by
 induction h with
 | nil=>rfl
 | cons _ _ ih=>simp [ih]
abbrev Cell : Type:=Σ t:CTy,t.D
def CR (w:World) (x:Cell) (v:Value):Prop:=CellR (fun g=>g<w.heap.size) w x.1 x.2 v∧SzC x.1 x.2
theorem aE5 {w:World}:∀ {e:ETy} {xs:List Cell} {vs:List Value},e.list=xs.map (·.1)→All2 (CR w) xs vs→∃ x:e.D,ElemR (fun g=>g<w.heap.size) w e x vs∧SzE e x
 | .one t,xs,vs,he,h=>by
   cases h with
   | nil=>simp [ETy.list] at he
   | @cons a v l m h1 h2 =>
     simp only [ETy.list,List.map_cons,List.cons.injEq] at he
     obtain ⟨e1,e2⟩:=he
     have hl:l=[]:=by simpa using e2.symm
     subst hl
     cases h2
     obtain ⟨t', x⟩:=a
     simp only at e1
     subst e1
     exact ⟨x,by simp only [ElemR]; exact ⟨v,rfl,h1.1⟩,by simp only [SzE]; exact h1.2⟩
 | .more t e,xs,vs,he,h=>by
   cases h with
   | nil=>simp [ETy.list] at he
   | @cons a v l m h1 h2 =>
     simp only [ETy.list,List.map_cons,List.cons.injEq] at he
     obtain ⟨e1,e2⟩:=he
     obtain ⟨t', x⟩:=a
     simp only at e1
     subst e1
     obtain ⟨y,hy,hz⟩:=aE5 e2 h2
     exact ⟨(x,y),by simp only [ElemR]; exact ⟨v,m,rfl,h1.1,hy⟩,by simp only [SzE]; exact ⟨h1.2,hz⟩⟩
theorem aQX : reachBytes=140737488351232:=by decide
section
variable {H:Type} {enc:TypeId × Value→H} {P:Program} {w:World} {held:Bool}
theorem aQY {t:TypeId} {d:DataW H}:∀ {l:List (DataW H)},d∈l→∀ n∈d.weights P t,n∈DataW.weightsAll P t l
 | x :: l,hd,n,hn=>by
   simp only [DataW.weightsAll,List.mem_append]
   rcases List.mem_cons.1 hd with rfl | hd
   · exact Or.inl hn
   · exact Or.inr (aQY hd n hn)
theorem aQZ {a:Addr} {i:Nat} (hs:a.spot=none):a.add i=⟨a.block,a.off+i,none⟩:=by
 obtain ⟨b,o,s⟩:=a
 simp only at hs
 subst hs
 unfold Addr.add
 split
 · rename_i h; subst h; rfl
 · rfl
def aE6 (P:Program) (enc:TypeId × Value→H) (w:World) (held:Bool) (t:TypeId) (f:List CTy→Option (List CTy)):Prop :=
 ∀ (fuel:Nat) (l l' : List CTy) (cs:List Value) (D:DataW H) (ps:List MemPlace),f l=some l' → DataW.trod enc P w 0 (fun _=>true) held fuel t cs=some (D,ps)→(∀ n∈D.weights P t,n≤reachBytes) →
   ∃ xs:List Cell,l=xs.map (·.1) ++ l' ∧ All2 (CR w) xs cs
theorem aQ0 {f:TypeId→List CTy→Option (List CTy)} (hf:∀ t,aE6 P enc w held t (f t)) {fuel:Nat} {cs:List Value}:∀ (fs:List Field) (o o' : Nat) (l l' : List CTy) (xs:List (DataW H × List MemPlace)),
 tG P f fs o l=some (o', l')→xs.length=fs.length→(∀ (i:Nat) (x:Field),fs[i]? = some x→DataW.trod enc P w 0 (fun _=>true) held fuel x.type ((cs.drop x.offset).take (P.cellsOf x.type))=xs[i]?) →
 (∀ n∈DataW.weightsEach P (fs.map (·.type)) (xs.map (·.1)),n≤reachBytes)→o' ≤ cs.length→o≤o' ∧ ∃ ys:List Cell,l=ys.map (·.1) ++ l' ∧ All2 (CR w) ys ((cs.drop o).take (o' - o))
 | [],o,o', l,l', xs,h,_,_,_,_=>by
   simp only [tG,Option.some.injEq,Prod.mk.injEq] at h
   obtain ⟨rfl,rfl⟩:=h
   exact ⟨Nat.le_refl _,[],rfl,by simpa using All2.nil⟩
 | x :: r, o,o', l,l', xs,h,hl,ht,hw,hc=>by
   cases xs with
   | nil=>simp at hl
   | cons y ys =>
     simp only [tG] at h
     split at h
     · rename_i ho
       cases hfx:f x.type l with
       | none=>rw [hfx] at h; cases h
       | some l1 =>
         rw [hfx] at h
         simp only at h
         have h0:=ht 0 x rfl
         simp only [List.getElem?_cons_zero] at h0
         obtain ⟨D,ps⟩:=y
         obtain ⟨a,ha,hA⟩:=hf x.type fuel l l1 _ D ps hfx h0 (fun n hn=>hw n (by simp only [List.map_cons,DataW.weightsEach,List.mem_append]; exact Or.inl hn))
         obtain ⟨hle,b,hb,hB⟩:=aQ0 hf r (o+P.cellsOf x.type) o' l1 l' ys h (by simpa using hl) (fun i z hz=>by simpa using ht (i+1) z (by simpa using hz))
           (fun n hn=>hw n (by simp only [List.map_cons,DataW.weightsEach,List.mem_append]; exact Or.inr hn)) hc
         refine ⟨by omega,a ++ b,by rw [ha,hb,List.map_append,List.append_assoc],?_⟩
         have e:(cs.drop o).take (o' - o)=(cs.drop x.offset).take (P.cellsOf x.type) ++ (cs.drop (o+P.cellsOf x.type)).take (o' - (o+P.cellsOf x.type)):=by
           rw [ho,show o' - o=P.cellsOf x.type+(o' - (o+P.cellsOf x.type)) by omega,List.take_add,List.drop_drop]
         rw [e]
         exact hA.append hB
     · cases h
theorem rep_ok {f:List CTy→Option (List CTy)} {e:TypeId} (hf:aE6 P enc w held e f) {fuel:Nat} {cs:List Value}:∀ (n k:Nat) (l l' : List CTy) (xs:List (DataW H × List MemPlace)),
 rep f n l=some l' → xs.length=n→(∀ i,i<n→DataW.trod enc P w 0 (fun _=>true) held fuel e ((cs.drop ((k+i) * P.cellsOf e)).take (P.cellsOf e))=xs[i]?) →
 (∀ m∈DataW.weightsAll P e (xs.map (·.1)),m≤reachBytes)→∃ ys:List Cell,l=ys.map (·.1) ++ l' ∧ All2 (CR w) ys ((cs.drop (k * P.cellsOf e)).take (n * P.cellsOf e))
 | 0,k,l,l', xs,h,_,_,_=>by
   simp only [rep,Option.some.injEq] at h
   subst h
   exact ⟨[],rfl,by simpa using All2.nil⟩
 | n+1,k,l,l', xs,h,hl,ht,hw=>by
   cases xs with
   | nil=>simp at hl
   | cons y ys =>
     simp only [rep] at h
     cases hfx:f l with
     | none=>rw [hfx] at h; cases h
     | some l1 =>
       rw [hfx] at h
       simp only at h
       have h0:=ht 0 (by omega)
       simp only [List.getElem?_cons_zero,Nat.add_zero] at h0
       obtain ⟨D,ps⟩:=y
       obtain ⟨a,ha,hA⟩:=hf fuel l l1 _ D ps hfx h0 (fun m hm=>hw m (by simp only [List.map_cons,DataW.weightsAll,List.mem_append]; exact Or.inl hm))
       obtain ⟨b,hb,hB⟩:=rep_ok hf n (k+1) l1 l' ys h (by simpa using hl) (fun i hi=>by
        have:=ht (i+1) (by omega)
        rw [show k+(i+1)=k+1+i by omega] at this
        simpa using this)
        (fun m hm=>hw m (by simp only [List.map_cons,DataW.weightsAll,List.mem_append]; exact Or.inr hm))
       refine ⟨a ++ b,by rw [ha,hb,List.map_append,List.append_assoc],?_⟩
       have e1:(cs.drop (k * P.cellsOf e)).take ((n+1) * P.cellsOf e)=(cs.drop (k * P.cellsOf e)).take (P.cellsOf e) ++ (cs.drop ((k+1) * P.cellsOf e)).take (n * P.cellsOf e):=by
        rw [show (n+1) * P.cellsOf e=P.cellsOf e+n * P.cellsOf e by rw [Nat.add_mul]; omega,List.take_add,List.drop_drop,show k * P.cellsOf e+P.cellsOf e=(k+1) * P.cellsOf e by rw [Nat.add_mul]; omega]
       rw [e1]
       exact hA.append hB
theorem a47 {S:Nat→Prop} {e:ETy} {A:Option Addr} {c:Nat}:CellR S w (.slice e) ([]:List e.D) (.slice A 0 c):=by
 simp only [CellR]
 exact ⟨A,c,rfl,Nat.zero_le _,fun h=>absurd h (Nat.lt_irrefl _)⟩
theorem aQ1 : ∀ (d:Nat) (t:TypeId),aE6 P enc w held t (eat P d t)
 | 0,_,_,_,_,_,_,_,h,_,_=>by simp [eat] at h
 | d + 1, t, fuel, l,l', cs,D,ps,h,ht,hw=>by
   have ih:=aQ1 d
   unfold eat at h
   split at h
   · rename_i k hk
     obtain ⟨n,rfl,_,hwf⟩:=DataW.trod_int hk ht
     split at h
     · rename_i k' r
       split at h
       · rename_i he
         cases h; subst he
         exact ⟨[⟨.int k,n⟩],rfl, .cons ⟨rfl,hwf⟩ .nil⟩
       · cases h
     · cases h
   · rename_i hk
     obtain ⟨b,rfl,_⟩:=DataW.trod_bool hk ht
     split at h
     · cases h
       exact ⟨[⟨.bool,b⟩],rfl, .cons ⟨rfl,trivial⟩ .nil⟩
     · cases h
   · rename_i hk
     obtain ⟨s,rfl,hx,_⟩:=DataW.trod_string hk ht
     simp only [Prod.mk.injEq] at hx
     obtain ⟨rfl,rfl⟩:=hx
     split at h
     · cases h
       refine ⟨[⟨.str,s⟩],rfl, .cons ⟨rfl,?_⟩ .nil⟩
       have:=hw s.size (by simp [DataW.weights])
       rw [aQX] at this
       exact this
     · cases h
   · rename_i et hk
     split at h
     · rename_i e r
       split at h
       · rename_i he
         split at h
         · rename_i hb
           cases h
           rcases Deep.open_slice hk ht with ⟨rfl,_⟩ | ⟨a,len,cap,m,n,Dl,Pl,rfl,_,hlc,hcm,hm,hx,hel⟩
           · refine ⟨[⟨.slice e,([]:List e.D)⟩],rfl, .cons ⟨a47,?_⟩ .nil⟩
             show SzC (.slice e) ([]:List e.D)
             simp only [SzC]
             exact ⟨by simp [dE],by simp [dE],fun x hx=>by simp [dE] at hx⟩
           · simp only [if_true] at hm
             simp only [Prod.mk.injEq] at hx
             obtain ⟨rfl,rfl⟩:=hx
             have hbytes:cap * P.bytesOf et≤reachBytes:=by
              have:=hw (cap * P.bytesOf et) (by simp only [DataW.weights,hk,List.length_map,List.length_range,List.mem_cons]; exact Or.inl (by rw [hm,show len+(cap - len)=cap by omega]))
              exact this
             have each:∀ i,i<len→∃ x:Option e.D,∃ x', x=some x' ∧ ∃ vs,ElemR (fun g=>g<w.heap.size) w e x' vs∧SzE e x' ∧ w.cells? 0 (a.add (i * P.cellsOf et)) (P.cellsOf et)=some vs:=by
              intro i hi
              obtain ⟨cs', h1,h2⟩:=hel i (by omega)
              obtain ⟨xs,hxs,hA⟩:=ih et n e.list [] cs' _ _ he h2 (fun q hq=>hw q (by
                 simp only [DataW.weights,hk,List.mem_cons,List.mem_append]
                 exact Or.inr (Or.inl (aQY (List.mem_map.2 ⟨i,List.mem_range.2 hi,rfl⟩) q hq))))
              obtain ⟨x,hx1,hx2⟩:=aE5 (by simpa using hxs) hA
              exact ⟨some x,x,rfl,cs', hx1,hx2,h1⟩
             obtain ⟨X,hX⟩:=Deep.choose_lt each
             have hsz:e.size=P.cellsOf et:=hb.2
             refine ⟨[⟨.slice e,(List.range len).map fun i=>(X i).getD e.dflt⟩],rfl, .cons ⟨?_,?_⟩ .nil⟩
             · show CellR _ w (.slice e) ((List.range len).map fun i=>(X i).getD e.dflt) _
               simp only [CellR]
               refine ⟨some a,cap,by simp [dE],by simpa [dE] using hlc,fun h0=>?_⟩
               have hlen:0<len:=by simpa [dE] using h0
               have hpos:0<e.size:=by cases e <;> simp [ETy.size]
               have hspot:a.spot=none∧a.block<w.heap.size:=by
                 obtain ⟨x', _,vs,hE,_,hc⟩:=hX 0 hlen
                 obtain ⟨_,hcl,hcc⟩:=World.cells?_some hc
                 have h00:=hcc 0 (by omega)
                 rw [Nat.zero_mul,show a.add 0=a from rfl,show a.add 0=a from rfl,List.getElem?_eq_getElem (by omega)] at h00
                 refine ⟨?_,World.block_lt_of_cell? w a h00⟩
                 unfold World.cell? at h00
                 split at h00
                 · split at h00
                   · cases h00
                   · rename_i hh; simpa using hh
                 · cases h00
               obtain ⟨ab,ao,ars⟩:=a
               simp only at hspot
               obtain ⟨rfl,hab⟩:=hspot
               refine ⟨ab,ao,rfl,hab,fun i x hx=>?_⟩
               have hi:i<len:=by
                 have:=(List.getElem?_eq_some_iff.1 hx).1
                 simpa [dE] using this
               obtain ⟨x', hx', vs,hE,_,hc⟩:=hX i hi
               have hxe:x=x' := by
                 have:(dE ((List.range len).map fun i=>(X i).getD e.dflt))[i]? = some ((X i).getD e.dflt):=by
                   show ((List.range len).map fun i=>(X i).getD e.dflt)[i]? = _
                   rw [List.getElem?_map,List.getElem?_range hi]; rfl
                 rw [hx] at this
                 rw [Option.some.inj this,hx']; rfl
               subst hxe
               refine ⟨vs,hE,fun j u hu=>?_⟩
               obtain ⟨_,hcl,hcc⟩:=World.cells?_some hc
               have hj:j<vs.length:=(List.getElem?_eq_some_iff.1 hu).1
               have:=hcc j (by omega)
               rw [aQZ (a:=⟨ab,ao,none⟩) (i:=i * P.cellsOf et) rfl,aQZ (a:=⟨ab,ao+i * P.cellsOf et,none⟩) rfl,hu] at this
               simp only at this
               rw [hsz]
               exact this
             · show SzC (.slice e) ((List.range len).map fun i=>(X i).getD e.dflt)
               simp only [SzC]
               refine ⟨?_,by simp only [dE,List.length_map,List.length_range]; omega,fun x hx=>?_⟩
               · simp only [dE,List.length_map,List.length_range]
                 rw [aQX] at hbytes
                 exact Nat.le_trans (Nat.mul_le_mul hlc hb.1) hbytes
               · obtain ⟨i,hi,rfl⟩:=List.mem_map.1 hx
                 obtain ⟨x', hx', vs,_,hz,_⟩:=hX i (List.mem_range.1 hi)
                 rw [hx']
                 exact hz
         · cases h
       · cases h
     · cases h
   · rename_i fs hk
     split at h
     · rename_i o l1 hF
       split at h
       · rename_i ho
         cases h
         obtain ⟨xs,n,rfl,hx,hcl,hxl,hxs⟩:=DataW.trod_struct hk ht
         simp only [Prod.mk.injEq] at hx
         obtain ⟨rfl,rfl⟩:=hx
         obtain ⟨_,ys,hy,hY⟩:=aQ0 (fun t=>ih t) fs.toList 0 o l l' xs hF (by simpa using hxl) (fun i x hi=>hxs i x (by simpa using hi)) (fun m hm=>hw m (by simpa [DataW.weights,hk] using hm)) (by omega)
         refine ⟨ys,hy,?_⟩
         rw [List.drop_zero,Nat.sub_zero,ho,← hcl,List.take_length] at hY
         exact hY
       · cases h
     · cases h
   · rename_i n e hk
     split at h
     · rename_i hn
       obtain ⟨xs,m,rfl,hx,hcl,hxl,hxs⟩:=DataW.trod_array hk ht
       simp only [Prod.mk.injEq] at hx
       obtain ⟨rfl,rfl⟩:=hx
       obtain ⟨ys,hy,hY⟩:=rep_ok (ih e) n 0 l l' xs h hxl (fun i hi=>by rw [Nat.zero_add]; exact hxs i hi) (fun m hm=>hw m (by simpa [DataW.weights,hk] using hm))
       refine ⟨ys,hy,?_⟩
       rw [Nat.zero_mul,List.drop_zero,hn,← hcl,List.take_length] at hY
       exact hY
     · cases h
   · cases h
abbrev Arg : Type:=Σ e:ETy,e.D
def kT : Arg→AV
 | ⟨.one t,x⟩=>jU t x
 | ⟨.more t e,x⟩ => .agg (dD (.more t e) x)
theorem aE7 {S:Nat→Prop} {t:CTy} {x:t.D} {v:Value} (h:CellR S w t x v):AVR (dM S) w (jU t x) v:=by
 cases t with
 | int k=>simp only [CellR] at h; subst h; exact .int _ _
 | bool=>simp only [CellR] at h; subst h; exact .bool _
 | str=>simp only [CellR] at h; subst h; exact .str _
 | slice e=>exact .imm h
theorem aQ2 {S:Nat→Prop}:∀ {e:ETy} {x:e.D} {vs:List Value},ElemR S w e x vs→(dD e x).length=vs.length∧∀ (j:Nat) (y:AV),(dD e x)[j]? = some y→∃ u,vs[j]? = some u∧AVR (dM S) w y u
 | .one t,x,vs,h=>by
   simp only [ElemR] at h
   obtain ⟨v,rfl,h⟩:=h
   refine ⟨rfl,fun j y hy=>?_⟩
   cases j with
   | zero=>cases hy; exact ⟨v,rfl,aE7 h⟩
   | succ j=>cases hy
 | .more t e,x,vs,h=>by
   simp only [ElemR] at h
   obtain ⟨v,r,rfl,h1,h2⟩:=h
   obtain ⟨i1,i2⟩:=aQ2 h2
   refine ⟨by simp [dD,i1],fun j y hy=>?_⟩
   cases j with
   | zero=>cases hy; exact ⟨v,rfl,aE7 h1⟩
   | succ j=>exact i2 j y hy
def aE8 (P:Program) (t:TypeId) (e:ETy):Bool:=(match eat P 8 t e.list with | some []=>true | _=>false) &&
 (match P.underlying t,e with
    | some (.struct _), .more _ _=>true
    | some (.array _ _), .more _ _=>true
    | some (.int _), .one _=>true
    | some .bool, .one _=>true
    | some .string, .one _=>true
    | some (.slice _), .one _=>true
    | _,_=>false)
theorem a48 {r:Reach} {b0:Nat} {t:TypeId} {e:ETy} {v:Value} {D:DataW H} {ps:List MemPlace} (hok:aE8 P t e=true) (hval:Value.okWide P w r b0 t v) (ht:DataW.Trod enc P w 0 (fun _=>true) held t v D ps)
 (hw:∀ n∈D.weights P t,n≤reachBytes):∃ x:e.D,AVR (dM fun g=>g<w.heap.size) w (kT ⟨e,x⟩) v∧SzE e x:=by
 unfold aE8 at hok
 rw [Bool.and_eq_true] at hok
 obtain ⟨h1,h2⟩:=hok
 obtain ⟨fuel,hf⟩:=ht
 have he:eat P 8 t e.list=some []:=by
  split at h1
  · rename_i hh; exact hh
  · cases h1
 obtain ⟨xs,hxs,hA⟩:=aQ1 8 t fuel e.list [] _ D ps he hf hw
 obtain ⟨x,hE,hS⟩:=aE5 (by simpa using hxs) hA
 refine ⟨x,?_,hS⟩
 have one:∀ {t' : CTy} {x:t'.D},ElemR (fun g=>g<w.heap.size) w (.one t') x v.cells.toList→(∀ cs,v ≠ .agg cs)→AVR (dM fun g=>g<w.heap.size) w (jU t' x) v:=by
  intro t' x hE hna
  simp only [ElemR] at hE
  obtain ⟨u,hu,hc⟩:=hE
  have:v.cells.toList=[v]:=by
   cases v <;> first | rfl | exact absurd rfl (hna _)
  rw [this] at hu
  cases hu
  exact aE7 hc
 have many:∀ {t' : CTy} {e' : ETy} {x:(ETy.more t' e').D} {cs:Array Value},ElemR (fun g=>g<w.heap.size) w (.more t' e') x v.cells.toList→v = .agg cs→AVR (dM fun g=>g<w.heap.size) w (.agg (dD (.more t' e') x)) v:=by
  intro t' e' x cs hE hv
  subst hv
  obtain ⟨i1,i2⟩:=aQ2 hE
  have i1' : (dD (.more t' e') x).length=cs.size:=by rw [i1]; simp [Value.cells]
  refine .agg i1' (fun j=>cs.getD j undef) (fun j y hy=>?_) (fun j y hy=>?_)
  · obtain ⟨u,hu,_⟩:=i2 j y hy
    have hu' : cs[j]? = some u:=by simpa [Value.cells] using hu
    rw [hu']; simp [Array.getD_eq_getD_getElem?, hu']
  · obtain ⟨u,hu,hr⟩:=i2 j y hy
    have hu' : cs[j]? = some u:=by simpa [Value.cells] using hu
    have:cs.getD j undef=u:=by simp [Array.getD_eq_getD_getElem?, hu']
    rw [this]; exact hr
 split at h2
 · rename_i hk; simp only [Value.okWide,hk] at hval
   obtain ⟨cs,hv,_,_⟩:=hval
   exact many hE hv
 · rename_i hk; simp only [Value.okWide,hk] at hval
   obtain ⟨cs,hv,_,_⟩:=hval
   exact many hE hv
 · rename_i hk; simp only [Value.okWide,hk,Cell.okWide,Cell.ok] at hval
   exact one hE (fun cs hc=>by subst hc; simp at hval)
 · rename_i hk; simp only [Value.okWide,hk,Cell.okWide,Cell.ok] at hval
   exact one hE (fun cs hc=>by subst hc; simp at hval)
 · rename_i hk; simp only [Value.okWide,hk,Cell.okWide,Cell.ok] at hval
   exact one hE (fun cs hc=>by subst hc; simp at hval)
 · rename_i hk; simp only [Value.okWide,hk,Cell.okWide,Cell.ok] at hval
   exact one hE (fun cs hc=>by subst hc; simp at hval)
 · cases h2
theorem aQ3 {e:ETy} {es:List ETy} {xs:List Arg} (h:xs.map (·.1)=e :: es):∃ (x:e.D) (r:List Arg),xs=⟨e,x⟩ :: r∧r.map (·.1)=es:=by
 cases xs with
 | nil=>simp at h
 | cons a r =>
   obtain ⟨e', x⟩:=a
   simp only [List.map_cons,List.cons.injEq] at h
   obtain ⟨rfl,h2⟩:=h
   exact ⟨x,r,rfl,h2⟩
theorem a49 {xs:List Arg} (h:xs.map (·.1)=[]):xs=[]:=by simpa using h
def iM (P:Program):List TypeId→List ETy→Bool
 | [],[]=>true
 | t :: ts,e :: es=>aE8 P t e && iM P ts es
 | _,_=>false
theorem aQ4 {r:Reach} {b0:Nat}:∀ {ts:List TypeId} {es:List ETy} {vs:List Value} {ds:List (DataW H)} {ps:List MemPlace},iM P ts es=true→(∀ (j:Nat) t v,ts[j]? = some t→vs[j]? = some v→Value.okWide P w r b0 t v) →
 DataW.TrodAll enc P w 0 (fun _=>true) held ts vs ds ps→(∀ n∈DataW.weightsEach P ts ds,n≤reachBytes) →
 ∃ xs:List Arg,xs.map (·.1)=es∧(∀ x∈xs,SzE x.1 x.2)∧All2 (fun x v=>AVR (dM fun g=>g<w.heap.size) w (kT x) v) xs vs
 | [],[],vs,ds,ps,_,_,ht,_=>by
   obtain ⟨rfl,_,_⟩:=trodAll_nil ht
   exact ⟨[],rfl,by simp, .nil⟩
 | t :: ts,e :: es,vs,ds,ps,ho,hval,ht,hw=>by
   simp only [iM,Bool.and_eq_true] at ho
   obtain ⟨v,vs,d,ds,p,q,rfl,rfl,rfl,h0,h1⟩:=trodAll_cons ht
   obtain ⟨x,hx,hs⟩:=a48 ho.1 (hval 0 t v rfl rfl) h0 (fun n hn=>hw n (by simp only [DataW.weightsEach,List.mem_append]; exact Or.inl hn))
   obtain ⟨xs,h2,h3,h4⟩:=aQ4 ho.2 (fun j t' v' ht' hv' => hval (j+1) t' v' ht' hv') h1 (fun n hn=>hw n (by simp only [DataW.weightsEach,List.mem_append]; exact Or.inr hn))
   refine ⟨⟨e,x⟩ :: xs,by simp [h2],fun y hy=>?_, .cons hx h4⟩
   rcases List.mem_cons.1 hy with rfl | hy
   · exact hs
   · exact h3 y hy
 | [],_ :: _,_,_,_,h,_,_,_=>by simp [iM] at h
 | _ :: _,[],_,_,_,h,_,_,_=>by simp [iM] at h
theorem a5A {f:FuncId} {es:List ETy} {args:Array Value} {ts:List TypeId} {ds:List (DataW H)} {ps:List MemPlace} {r:Reach} {b0:Nat} (hes:iM P ts es=true)
 (hval:∀ (j:Nat) t v,ts[j]? = some t→args[j]? = some v→Value.okWide P w r b0 t v) (ht:DataW.TrodAll enc P w 0 (fun _=>true) held ts args.toList ds ps) (hw:∀ n∈DataW.weightsEach P ts ds,n≤reachBytes)
 (hcon:∀ xs:List Arg,xs.map (·.1)=es→(∀ x∈xs,SzE x.1 x.2)→Con P f (xs.map kT) fun v _=>v = .bool true) :
 Calls P f args w fun e w' => e = .returned (.bool true)∧RowKit.Below w.heap.size w w' := by
 obtain ⟨xs,h1,h2,h3⟩:=aQ4 hes (fun j t v hj hv=>hval j t v hj (by simpa using hv)) ht hw
 have hargs:gX (dM fun g=>g<w.heap.size) w (xs.map kT) args:=by
  have key:∀ {xs:List Arg} {vs:List Value},All2 (fun x v=>AVR (dM fun g=>g<w.heap.size) w (kT x) v) xs vs→∀ (j:Nat) (x:AV),(xs.map kT)[j]? = some x→∃ v,vs[j]? = some v∧AVR (dM fun g=>g<w.heap.size) w x v:=by
   intro xs vs hA
   induction hA with
   | nil=>intro j x hx; simp at hx
   | @cons a b l m h t ih =>
     intro j x hx
     cases j with
     | zero=>simp only [List.map_cons,List.getElem?_cons_zero,Option.some.injEq] at hx; subst hx; exact ⟨b,rfl,h⟩
     | succ j=>exact ih j x (by simpa using hx)
  refine ⟨by rw [List.length_map,h3.len]; simp,fun j x hx=>?_⟩
  obtain ⟨v,hv,hr⟩:=key h3 j x hx
  have hv' : args[j]? = some v:=by simpa using hv
  have:args.getD j undef=v:=by simp [Array.getD_eq_getD_getElem?, hv']
  rw [this]; exact hr
 refine ((hcon xs h1 h2 w.heap.size).2 (dM fun g=>g<w.heap.size) w args hargs ⟨⟨rfl,fun id h=>absurd h (Nat.not_lt_zero _),fun i j g h=>absurd h (Nat.not_lt_zero _)⟩,Nat.le_refl _,fun g hg=>hg,fun g hg _=>hg⟩).mono fun e w' he=>?_
 obtain ⟨v,rfl,c', x,H', hstep,hx,_,v0,objs,rfl,_,_,ids,_,_,_,hr⟩:=he
 have hx' : x = .bool true:=by rw [hr]; rfl
 subst hx'
 rw [gV hx]
 exact ⟨rfl,hstep.below⟩
theorem aQ5 {w' : World} (hl:laidOutB P=true) (hb:RowKit.Below w.heap.size w w'):∀ {ts:List TypeId} {vs:List Value} {ds:List (DataW H)} {ps:List MemPlace},ts.all (fun t=>P.readableRec t && decide (t<P.types.size))=true →
 DataW.TrodAll enc P w 0 (fun _=>true) true ts vs ds ps→DataW.TrodAll enc P w' 0 (fun b=>decide (b<w.heap.size)) true ts vs ds ps
 | [],vs,ds,ps,_,ht=>by
   obtain ⟨rfl,rfl,rfl⟩:=trodAll_nil ht
   exact trodAll_mk0
 | t :: ts,vs,ds,ps,ho,ht=>by
   simp only [List.all_cons,Bool.and_eq_true,decide_eq_true_eq] at ho
   obtain ⟨v,vs,d,ds,p,q,rfl,rfl,rfl,h0,h1⟩:=trodAll_cons ht
   have lt0:∀ x∈p,x.block<w.heap.size:=by obtain ⟨m,hm⟩:=h0; exact DataW.trod_lt m _ _ _ hm
   exact trodAll_cons_mk (RowKit.Below.trod hl ho.1.1 ho.1.2 h0 hb lt0) (aQ5 hl hb ho.2 h1)
theorem a5B {s:ChangeSpec} {f:FuncId} {fn:Func} {es:List ETy} {tb:TypeId} (hvars:s.vars=[]) (hl:laidOutB P=true) (hes:iM P fn.params.toList es=true)
 (hread:fn.params.toList.all (fun t=>P.readableRec t && decide (t<P.types.size))=true) (hres:fn.resultTypes = #[tb]) (hb:P.underlying tb=some .bool)
 (hspec:∀ ds:List (DataW H),ds.length=es.length→s.fn H ds = { results:=[.lit (.bool true)],args:=ds })
 (hcon:∀ xs:List Arg,xs.map (·.1)=es→(∀ x∈xs,SzE x.1 x.2)→Con P f (xs.map kT) fun v _=>v = .bool true)
 {base:Nat} {args:Array Value} {ds gs:List (DataW H)} {before:List MemPlace} (hval:∀ (j:Nat) t v,fn.params[j]? = some t→args[j]? = some v→Value.okWide P w .any base t v)
 (hW:DataW.Whole enc P fn.params.toList s.vars false w args.toList ds gs before) (hsz:(DataW.weightsEach P (fn.params.toList ++ s.plain.varTypes P) (ds ++ gs)).all (· ≤ reachBytes)=true) :
 Calls P f args w fun e w' => ∃ v,e = .returned v∧s.post enc P fn false true false false w args v w' := by
 have hW' := hW
 obtain ⟨p,q,hA,hV,rfl,_⟩:=hW
 rw [hvars] at hV
 obtain ⟨rfl,rfl⟩:=trodVars_none hV
 have hvt:s.plain.varTypes P=[]:=by simp [ChangeSpec.plain,DataSpec.varTypes,hvars]
 rw [hvt,List.append_nil,List.append_nil] at hsz
 have hdl:∀ {ts:List TypeId} {es:List ETy} {vs:List Value} {ds:List (DataW H)} {ps:List MemPlace},iM P ts es=true→DataW.TrodAll enc P w 0 (fun _=>true) true ts vs ds ps→ds.length=es.length:=by
  intro ts
  induction ts with
  | nil =>
    intro es vs ds ps h1 h2
    obtain ⟨_,rfl,_⟩:=trodAll_nil h2
    cases es with
    | nil=>rfl
    | cons _ _=>simp [iM] at h1
  | cons t ts ih =>
    intro es vs ds ps h1 h2
    obtain ⟨v,vs,d,ds,p,q,rfl,rfl,rfl,_,h3⟩:=trodAll_cons h2
    cases es with
    | nil=>simp [iM] at h1
    | cons _ _ =>
      simp only [iM,Bool.and_eq_true] at h1
      simp [ih h1.2 h3]
 refine (a5A hes (by simpa using hval) hA (fun n hn=>by simpa using List.all_eq_true.1 hsz n hn) hcon).mono fun e w' ⟨he,bel⟩=>?_
 subst he
 have hsp:=hspec ds (hdl hes hA)
 refine ⟨_,rfl,ds,[],_,[],p,[],hW', ?_,?_,?_,bel.frame _,fun h=>by cases h⟩
 · rw [List.append_nil,hsp,hres]; exact trodAll_mk1 (RowKit.shut_bool hb _)
 · rw [List.append_nil,hsp]; exact aQ5 hl bel hread hA
 · rw [List.append_nil,hsp,hvars]; rfl
end
end
end Go.Proofs.YtehakimmioclkaaGreatDoor.Mach
end
