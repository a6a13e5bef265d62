/- Texts of this session, put together. -/
import Derived.Test.YtehakimmioclkaaGreatDoorRA0
import Derived.ChangeKeysEq
section
set_option linter.unusedSimpArgs false
set_option linter.unusedVariables false
namespace Go.Proofs.YtehakimmioclkaaGreatDoor.Mach
open Go
section
theorem aGQ {S:Nat→Prop} {w:World} {e:ETy}:∀ {n:Nat} {l:List Value},pK e n l=true→l.length=n * e.size∧RowR S w e (List.replicate n e.dflt) l
 | 0,l,h=>by
   have:l=[]:=by simpa [pK] using h
   subst this
   exact ⟨by simp,fun i x hx=>by simp at hx⟩
 | n+1,l,h=>by
   simp only [pK,Bool.and_eq_true] at h
   obtain ⟨h1,h2⟩:=aGQ (S:=S) (w:=w) h.2
   have h3:=aBF h.1
   simp only [List.length_take,List.length_drop] at h3 h1
   have e1:(n+1) * e.size=n * e.size+e.size:=by rw [Nat.add_mul,Nat.one_mul]
   refine ⟨by omega,fun i x hx=>?_⟩
   cases i with
   | zero =>
     simp only [List.replicate_succ,List.getElem?_cons_zero,Option.some.injEq] at hx
     subst hx
     refine ⟨l.take e.size,aBG h.1,fun j u hu=>?_⟩
     rw [List.getElem?_take] at hu
     split at hu
     · simpa using hu
     · simp at hu
   | succ i =>
     obtain ⟨vs,h4,h5⟩:=h2 i x (by simpa [List.replicate_succ] using hx)
     refine ⟨vs,h4,fun j u hu=>?_⟩
     have:=h5 j u hu
     rw [List.getElem?_drop] at this
     rw [← this]
     congr 1
     rw [Nat.add_mul]; omega
theorem uI : ∀ (e:ETy) (x:e.D),(dD e x).length=e.size
 | .one t,x=>rfl
 | .more t e,x=>by simp [dD,ETy.size,uI e]
theorem aGR (t:CTy) (x:t.D):fC (jU t x)=[]:=by cases t <;> rfl
theorem aGS : ∀ (e:ETy) (x:e.D),bM (dD e x)=[]
 | .one t,x=>by
   have h:=aGR t x
   exact (List.append_nil _).trans h
 | .more t e,x=>by show fC (jU t x.1) ++ bM (dD e x.2)=[]; rw [aGR,aGS e]; rfl
theorem nC {cs:List AV} {id:Nat}:id∈bM cs↔∃ x∈cs,id∈fC x:=by
 induction cs with
 | nil=>simp [bM]
 | cons y cs ih =>
   show id∈fC y ++ bM cs↔_
   rw [List.mem_append,ih]
   simp
theorem aGT : ∀ (new:List AV) (cs:List AV) (i:Nat) (id:Nat),id∈bM (patch cs i new)→id∈bM cs∨id∈bM new
 | [],cs,i,id,h => .inl h
 | x :: new,cs,i,id,h=>by
   rcases aGT new (c7 cs i x) (i+1) id h with h1 | h1
   · rw [qK] at h1
     rw [nC] at h1
     obtain ⟨y,hy,hid⟩:=h1
     rcases List.mem_or_eq_of_mem_set hy with hy | rfl
     · exact .inl (nC.2 ⟨y,hy,hid⟩)
     · exact .inr (nC.2 ⟨y,by simp,hid⟩)
   · refine .inr ?_
     show id∈fC x ++ bM new
     exact List.mem_append.2 (.inr h1)
section
variable {P:Program} {T:Tab} {n0:Nat} {c:Ctx} {H:List aA} {w:World} {env:Env} {a:Act} {o:Oper}
def nD (P:Program) (n0:Nat) (c:Ctx) (w:World) (o:Oper) (a:Act) (x:AV) (H' : List aA):Prop :=
 ∃ v w' c' nx,(execOp a.eval o).run P w = .ok nx w' ∧ (nx = .value v∨(nx = .skip∧v=undef))∧Ctx.le c c' ∧ AVR c' w' x v∧Mem n0 c' H' w' ∧ RowKit.Below n0 w w' ∧ ∀ g,c.S g→w'.heap[g]? = w.heap[g]?
theorem MemSpec.n {x:AV} {H' : List aA} (h:MemSpec P n0 c w o a x H'):nD P n0 c w o a x H' := by
 obtain ⟨v,w', c', h1,h2⟩:=h
 exact ⟨v,w', c', _,h1, .inl rfl,h2⟩
theorem aGU (hM:Mem n0 c H w) (h:EnvR c w env a.tmps) (hT:bC P T) {t:TypeId} (ho:o.op = .alloc t):dX P n0 c w o a (pU T H t):=by
 have hrun:∀ (i:TypeInfo) (z:Value),P.info? t=some i→i.zero=some z→(execOp a.eval o).run P w = .ok (.value (.pointer (some ⟨w.heap.size,0,none⟩))) (w.alloc (.cells z.cells t)):=by
  intro i z hi hz
  simp [execOp,ho,Instr.alloc,zeroValue,typeInfo,hi,hz,newVar,newRow,newObj,Sem.run_bind,Sem.run_pure,Sem.run]
 have hold:∀ (ob:Obj) (g:Nat),g<w.heap.size→(w.alloc ob).heap[g]? = w.heap[g]? := fun ob g hg=>heap_alloc_old w ob g hg
 have hcl:=hM.obj.len
 unfold pU
 split
 · rename_i x hx
   have hx' := lA hT hx
   subst hx'
   have base:dX P n0 c w o a (mN H (aY P t)):=by
    unfold mN
    split
    · rename_i z hz
      intro _
      cases hi:P.info? t with
      | none=>simp [aY,hi] at hz
      | some i =>
        obtain ⟨zv,hzv,hzr⟩:=aGB (c:=c) (w:=w) hi hz
        have hle:=Ctx.more_le c (.pointer (some ⟨w.heap.size,0,none⟩)) 0 (S:=c.S) (fun _ hg=>hg)
        have hS:∀ g,c.S g→(w.alloc (.cells zv.cells t)).heap[g]? = w.heap[g]? := fun g hg=>hold _ g (hM.stab g hg)
        refine ⟨_,_,c.more (.pointer (some ⟨w.heap.size,0,none⟩)) 0 c.S,hrun i zv hi hzv,hle, .ptr (off:=0) (by simp [Ctx.more,hcl]) (by simp [Ctx.more,hcl]),⟨?_,?_,?_,fun g hg hl=>hM.old g hg hl⟩,(RowKit.Below.refl n0 w).alloc hM.base _,hS⟩
        · refine hM.obj.push (hold _) hM.stab (fun id g hid hal hb=>hM.obj.lt id g hid hal hb) (fun g hg=>by simp [blk] at hg; omega) ?_
          refine ⟨w.heap.size,t,zv.cells,by simp [Ctx.more],hM.base,heap_alloc_new w _,by simpa using hzr.1.symm,fun j y hy=>?_,fun hg=>?_⟩
          · have:=(hzr.2 j y hy).mono hle hS
            rwa [List.getD_eq_getElem?_getD,Array.getElem?_toList,← Array.getD_eq_getD_getElem?] at this
          · have:=hM.stab _ hg
            omega
        · have:=hM.base
          simp; omega
        · intro g hg
          have:=hM.stab g hg
          simp; omega
    · trivial
   unfold aAT
   split
   · rename_i p hp
     cases hre:aAR p.2 with
     | true=>exact base
     | false =>
     rw [cond_false]
     cases hz:(aY P t).ezok with
     | false=>trivial
     | true =>
       intro _
       cases hu:P.underlying t with
       | none=>simp [aY,hu] at hp
       | some d =>
         cases d with
         | array n e =>
           simp only [aY,hu,Option.map_eq_some_iff] at hp hz
           obtain ⟨et,he,rfl⟩:=hp
           simp only [Bool.and_eq_true] at hz
           have hz2:=hz.2
           unfold aFA at hz2
           rw [he] at hz2
           cases hi:P.info? t with
           | none=>rw [hi] at hz2; simp at hz2
           | some i =>
             cases hj:P.info? e with
             | none=>rw [hi,hj] at hz2; simp at hz2
             | some j =>
               rw [hi,hj] at hz2
               simp only at hz2
               split at hz2
               · rename_i z hzz
                 simp only [Bool.and_eq_true,decide_eq_true_eq] at hz2
                 obtain ⟨h1,h2⟩:=aGQ (S:=c.S) (w:=w.alloc (.cells z.cells t)) hz2.1.1
                 have hsz:z.cells.size=n * et.size:=by simpa using h1
                 refine ⟨_,_,c.more (.slice (some ⟨w.heap.size,0,none⟩) n n) et.size c.S,hrun i z hi hzz,Ctx.more_le c _ _ (fun _ h=>h),?_,?_,(RowKit.Below.refl n0 w).alloc hM.base _,fun g hg=>hold _ g (hM.stab g hg)⟩
                 · exact .parr (n:=n) (k:=n) (by simp [Ctx.more,hcl]) (by simp [Ctx.more,hcl]) rfl
                 · refine uE hM (Ty:=t) (cells:=z.cells.toList) (hold _) (by simp) (fun g hg=>by simp [blk] at hg; omega) ?_ h2
                   rw [List.length_replicate]
                   exact World.ownsRow_lit w z.cells n hM.base (by have:=hz2.2; simp only [maxLen]; omega) hsz
               · simp at hz2
         | _=>simp [aY,hu] at hp
   · exact base
 · trivial
theorem Mem.swap (hM:Mem n0 c H w) {w' : World} {id:Nat} {ob:aA} (hid:id<H.length) (hal:aV (aF H id)=true) {g:Nat} (hg:blk (c.m id)=some g) (hn:n0≤g) (hnS:¬ c.S g) (hsz:w'.heap.size=w.heap.size)
 (hoth:∀ k,k≠g→w'.heap[k]? = w.heap[k]?) (hob:ObjR n0 c w' id ob):Mem n0 c (c7 H id ob) w' ∧ ∀ g,c.S g→w'.heap[g]? = w.heap[g]? := by
 have hS:∀ g,c.S g→w'.heap[g]? = w.heap[g]? := fun k hk=>hoth k fun h=>hnS (h ▸ hk)
 have hcl:=hM.obj.len
 refine ⟨⟨⟨by rw [jJ]; exact hcl,fun k hk=>?_,fun i j q hi hj hne ai aj bi=>?_⟩,by rw [hsz]; exact hM.base,fun q hq=>by rw [hsz]; exact hM.stab q hq,hM.old⟩,hS⟩
 · rw [jJ] at hk
   rw [eJ]
   by_cases h:k=id∧k<H.length
   · rw [if_pos h,h.1]; exact hob
   · rw [if_neg h]
     have hne:k≠id:=fun e=>h ⟨e,hk⟩
     by_cases ha:aV (aF H k)=true
     · exact (hM.obj.obj k hk).mono (Ctx.le_refl c) (by omega) (fun _ _ h=>h) hS fun q hq=>hoth q fun e=>hM.obj.dist k id q hk hid hne ha hal hq (by rw [hg,e])
     · cases ho:aF H k with
       | dead=>trivial
       | typed e xs fz=>rw [ho] at ha; simp [aV] at ha
       | box cs=>rw [ho] at ha; simp [aV] at ha
 · rw [jJ] at hi hj
   have key:∀ k,aV (aF (c7 H id ob) k)=true→aV (aF H k)=true:=by
    intro k hk
    rw [eJ] at hk
    split at hk
    · rename_i h; rw [h.1]; exact hal
    · exact hk
   exact hM.obj.dist i j q hi hj hne (key i ai) (key j aj) bi
theorem aGV {cs new r:List AV} {off z:Nat} (h:tP cs off new z=some r):0<z∧new.length=z∧off+new.length≤cs.length∧r=patch cs off new:=by
 unfold tP at h
 cases h1:Nat.blt 0 z && Nat.beq new.length z with
 | false=>rw [h1] at h; simp at h
 | true =>
   rw [h1] at h
   simp only [Bool.and_eq_true] at h1
   simp only [cond_true] at h
   cases h2:Nat.ble (off+new.length) cs.length with
   | false=>rw [h2] at h; simp at h
   | true =>
     rw [h2] at h
     simp only [cond_true,Option.some.injEq] at h
     exact ⟨(dW _ _).1 h1.1,Nat.eq_of_beq_eq_true h1.2,(eH _ _).1 h2,h.symm⟩
theorem aBL (hT:bC P T) {t:TypeId} {g off:Nat} {v:Value} {cur:Array Value} {Ty:TypeId} (hg:w.heap[g]? = some (.cells cur Ty (0,0))) (hz:0<T.size t) (hl:v.cells.size=T.size t) (hf:off+v.cells.size≤cur.size) (h1:∀ u∈v.cells.toList,u.oneCell' = true) :
 (Instr.storeAt t (.pointer (some ⟨g,off,none⟩)) v).run P w = .ok () (w.setRow g (lay cur.toList off v.cells.toList).toArray):=by
 have hst:=run_storeCells_at P g off Ty v.cells.toList 0 cur w hg (by simpa using hf) h1
 simp only [Nat.add_zero] at hst
 rw [← j6 _ _ _ (by simpa using hf)] at hst
 unfold Tab.size at hz hl
 split at hz
 · rename_i x hx
   have hx' := lA hT hx
   subst hx'
   simp only [aY,Program.cellsOf] at hz hl
   cases hi:P.info? t with
   | none=>rw [hi] at hz; simp at hz
   | some i =>
     rw [hx] at hl
     simp only [aY,Program.cellsOf,hi,Option.map_some,Option.getD_some] at hl
     simp [Instr.storeAt,Instr.sureAddr,storeVar,sizeOf,typeInfo,hi,hl,hst,Sem.run_bind,Sem.run_pure]
 · simp at hz
theorem aBM (hH:HR n0 c H w) {e:ETy}:∀ {n:Nat} {cs:List AV} {vs:List Value} {ys:List e.D},CellsR c w cs vs→jG H e n cs=some ys→∀ {S:Nat→Prop},(∀ g,c.S g→S g) →
 (∀ id∈bM cs,eU (aF H id)=true→∀ g,blk (c.m id)=some g→S g)→ys.length=n∧RowR S w e ys vs
 | 0,cs,vs,ys,h,hy,S,hS,hs=>by
   simp only [jG] at hy
   split at hy
   · have:ys=[]:=(Option.some.inj hy).symm
     subst this
     exact ⟨rfl,fun i x hx=>by simp at hx⟩
   · simp at hy
 | n + 1,cs,vs,ys,h,hy,S,hS,hs=>by
   simp only [jG] at hy
   split at hy
   · rename_i x r hx hr
     have hy' := Option.some.inj hy
     subst hy'
     have hsub:∀ {ds:List AV},(∀ z∈ds,z∈cs)→∀ id∈bM ds,eU (aF H id)=true→∀ g,blk (c.m id)=some g→S g:=fun hd id hid=>by
       obtain ⟨z,hz,hi⟩:=nC.1 hid
       exact hs id (nC.2 ⟨z,hd z hz,hi⟩)
     have h1:CellsR c w (cs.take e.size) (vs.take e.size):=⟨by rw [List.length_take,List.length_take,h.1],fun j z hz=>by
       rw [List.getElem?_take] at hz
       split at hz
       · rename_i hj
         have:=h.2 j z hz
         rw [List.getD_eq_getElem?_getD,List.getElem?_take,if_pos hj,← List.getD_eq_getElem?_getD]
         exact this
       · simp at hz⟩
     have h2:CellsR c w (cs.drop e.size) (vs.drop e.size):=⟨by rw [List.length_drop,List.length_drop,h.1],fun j z hz=>by
       rw [List.getElem?_drop] at hz
       have:=h.2 _ z hz
       rw [List.getD_eq_getElem?_getD,List.getElem?_drop,← List.getD_eq_getElem?_getD]
       exact this⟩
     have g1:=uH hH h1 hx hS (hsub fun z hz=>List.mem_of_mem_take hz)
     obtain ⟨g2,g3⟩:=aBM hH h2 hr hS (hsub fun z hz=>List.mem_of_mem_drop hz)
     refine ⟨by simp [g2],fun i y hy=>?_⟩
     cases i with
     | zero =>
       simp only [List.getElem?_cons_zero,Option.some.injEq] at hy
       subst hy
       refine ⟨_,g1,fun j u hu=>?_⟩
       rw [List.getElem?_take] at hu
       split at hu
       · simpa using hu
       · simp at hu
     | succ i =>
       obtain ⟨us,k1,k2⟩:=g3 i y (by simpa using hy)
       refine ⟨us,k1,fun j u hu=>?_⟩
       have:=k2 j u hu
       rw [List.getElem?_drop] at this
       rw [← this]
       congr 1
       rw [Nat.add_mul]; omega
   · simp at hy
theorem aR1 (hM : Mem n0 c H w) (h:EnvR c w env a.tmps) (hT:bC P T) {t:TypeId} {x y:Operand} (ho:o.op = .store t x y) {v:AV} {H' : List aA} (hr:k3 T H t (aD env y) (aD env x) = .ok true v H'):nD P n0 c w o a v H' := by
 have hx:=bN h x
 have hy:=bN h y
 have hrun:∀ (w' : World),(Instr.storeAt t (a.eval x) (a.eval y)).run P w = .ok () w' → (execOp a.eval o).run P w = .ok .skip w' := by
  intro w' hh
  simp only [execOp,ho,Sem.run_bind,hh,Result.andThen_ok,Sem.run_pure]
 generalize a.eval x=vx at *
 generalize a.eval y=vy at *
 generalize aD env x=X at *
 generalize aD env y=Y at *
 have hcl:=hM.obj.len
 unfold k3 at hr
 split at hr
 · rename_i id off
   split at hr
   · rename_i cs hobj
     unfold tQ at hr
     split at hr
     · rename_i r hl
       simp only [OpR.ok.injEq] at hr
       obtain ⟨hv,rfl,rfl⟩:=hr
       obtain ⟨hz,hlen,hfit,rfl⟩:=aGV hl
       obtain ⟨hc1,hc2⟩:=nA hy hv
       have hlt:=cU (H:=H) (id:=id) (by rw [hobj]; simp)
       have hob:=hM.obj.obj id hlt
       rw [hobj] at hob
       obtain ⟨g,Ty,arr,b1,b2,b3,b4,b5,b6⟩:=hob
       cases hx with
       | ptr hb hm =>
         rw [b1] at hm
         simp only [Value.pointer.injEq,Option.some.injEq,Addr.mk.injEq,and_true] at hm
         subst hm
         have hcl2:(cellsOf Y).length=vy.cells.size:=by simpa using hc1.1
         have hst:=aBL hT (t:=t) (off:=off) (v:=vy) b3 hz (by omega) (by omega) hc2
         have hcur:CellsR c w cs arr.toList:=⟨by simpa using b4.symm,fun j z hz=>by
          rw [List.getD_eq_getElem?_getD,Array.getElem?_toList,← Array.getD_eq_getD_getElem?]
          exact b5 j z hz⟩
         have hnew:=hcur.patch off hc1
         obtain ⟨m1,m2⟩:=hM.swap (w' := w.setRow g (lay arr.toList off vy.cells.toList).toArray) (ob := .box (patch cs off (cellsOf Y))) hlt (by rw [hobj]; rfl) (g:=g) (by rw [b1]; rfl) b2 b6 (by simp) (fun k hk=>setRow_other w g k _ hk)
          ⟨g,Ty,(lay arr.toList off vy.cells.toList).toArray,b1,b2,setRow_heap w g arr _ Ty _ b3,by simp only [List.size_toArray]; exact hnew.1.symm,fun j z hz=>by
             have hS:∀ q,c.S q→(w.setRow g (lay arr.toList off vy.cells.toList).toArray).heap[q]? = w.heap[q]? := fun q hq=>setRow_other w g q _ (fun e=>b6 (e ▸ hq))
             have:=(hnew.2 j z hz).mono (Ctx.le_refl c) hS
             simpa [Array.getD_eq_getD_getElem?, List.getD_eq_getElem?_getD] using this,b6⟩
         refine ⟨undef,_,c, .skip,hrun _ hst, .inr ⟨rfl,rfl⟩,Ctx.le_refl c, .undef _,m1,?_,m2⟩
         exact (RowKit.Below.refl n0 w).trans ⟨rfl,rfl,rfl,by simp,fun k hk=>setRow_other w g k _ (by omega)⟩
     · simp at hr
   · simp at hr
 · rename_i id i off
   split at hr
   · rename_i e xs hobj
     unfold tR at hr
     split at hr
     · rename_i r hl
       split at hr
       · rename_i q hq
         cases hcon:(bM (cellsOf Y)).contains id with
         | true=>rw [hcon] at hr; simp at hr
         | false =>
           rw [hcon] at hr
           simp only [cond_false,OpR.ok.injEq] at hr
           obtain ⟨hv,rfl,rfl⟩:=hr
           obtain ⟨hz,hlen,hfit,rfl⟩:=aGV hl
           rw [uI] at hfit
           obtain ⟨hc1,hc2⟩:=nA hy hv
           have hcl2:(cellsOf Y).length=vy.cells.size:=by simpa using hc1.1
           have hnid:id ∉ bM (cellsOf Y):=by
            intro hm
            have:(bM (cellsOf Y)).contains id=true:=by simpa using hm
            rw [this] at hcon; simp at hcon
           obtain ⟨S,hS1,hS2,hS3⟩:=hM.freezeAt (bM (cellsOf Y))
           have hobj' : aF (freezeAt H (bM (cellsOf Y))) id = .typed e xs false:=by rw [aBJ _ _ _ hnid]; exact hobj
           have hlt' := cU (H:=freezeAt H (bM (cellsOf Y))) (id:=id) (by rw [hobj']; simp)
           have hob:=hS2.obj.obj id hlt'
           rw [hobj'] at hob
           obtain ⟨hzz,⟨Ty,cells,hown,hrow⟩,hst⟩:=hob
           cases hx with
           | elt hb hm h0 h1 h2 =>
             rename_i g n k
             have hmS:(c.withS S).m id = .slice (some ⟨g,0,none⟩) n k:=hm
             have hzS:c.z id=e.size:=hzz
             rw [hmS] at hown
             obtain ⟨hol,hor⟩:=hown
             rcases hor with ⟨hbad,_⟩ | ⟨g', cap,cur,hsl,hbg,hgg,hnc,hcm,hcs,htake⟩
             · simp at hbad
             · simp only [Value.slice.injEq,Option.some.injEq,Addr.mk.injEq,and_true] at hsl
               obtain ⟨rfl,rfl,rfl⟩:=hsl
               have hin:i.toNat<xs.length:=by omega
               have hget:xs[i.toNat]? = some (xs.getD i.toNat e.dflt):=by
                 rw [List.getD_eq_getElem?_getD,List.getElem?_eq_getElem hin]; rfl
               obtain ⟨vs,hvs,hvc⟩:=hrow _ _ hget
               have hvl:=hvs.length
               have hpos:i.toNat * e.size+e.size≤xs.length * e.size:=by
                 have:(i.toNat+1) * e.size≤xs.length * e.size:=Nat.mul_le_mul_right _ (by omega)
                 rwa [Nat.add_mul,Nat.one_mul] at this
               have hcapm:xs.length * e.size≤k * e.size:=Nat.mul_le_mul_right _ hnc
               rw [hzS] at hrun
               have hst2:=aBL hT (t:=t) (off:=i.toNat * e.size+off) (v:=vy) hgg hz (by omega) (by omega) hc2
               -- the element's new cells
               have hold:CellsR (c.withS S) w (dD e (xs.getD i.toNat e.dflt)) vs:=⟨by rw [uI,hvl],fun j z hz=>(m8 hvs j z hz).2⟩
               have hc1S:CellsR (c.withS S) w (cellsOf Y) vy.cells.toList:=⟨hc1.1,fun j z hz=>(hc1.2 j z hz).mono (Ctx.withS_le c hS1) (fun _ _=>rfl)⟩
               have hnewC:=hold.patch off hc1S
               have hold0:CellsR c w (dD e (xs.getD i.toNat e.dflt)) vs→CellsR c w (patch (dD e (xs.getD i.toNat e.dflt)) off (cellsOf Y)) (lay vs off vy.cells.toList):=fun h=>h.patch off hc1
               have hel:ElemR S w e q (lay vs off vy.cells.toList):=by
                 -- by the memory ars it was (what the element's cells show lies in blocks that stay)
                 have hrow0:=hM.obj.obj id (cU (by rw [hobj]; simp))
                 rw [hobj] at hrow0
                 obtain ⟨_,⟨Ty0,cells0,hown0,hr0⟩,_⟩:=hrow0
                 rw [hm] at hown0
                 obtain ⟨hol0,hor0⟩:=hown0
                 rcases hor0 with ⟨hbad,_⟩ | ⟨g2,cap2,cur2,hsl2,_,hgg2,_,_,_,htake2⟩
                 · simp at hbad
                 · simp only [Value.slice.injEq,Option.some.injEq,Addr.mk.injEq,and_true,true_and] at hsl2
                   obtain ⟨rfl,rfl⟩:=hsl2
                   rw [hgg] at hgg2
                   simp only [Option.some.injEq,Obj.cells.injEq] at hgg2
                   obtain ⟨rfl,rfl,_⟩:=hgg2
                   have:cells0=cells:=by rw [← htake2,← htake]
                   subst this
                   obtain ⟨vs0,hvs0,hvc0⟩:=hr0 _ _ hget
                   have hsame:vs0=vs:=by
                      apply List.ext_getElem?
                      intro j
                      by_cases hj:j<e.size
                      · have h1:=hvc0 j _ (List.getElem?_eq_getElem (by rw [hvs0.length]; exact hj))
                        have h2:=hvc j _ (List.getElem?_eq_getElem (by rw [hvl]; exact hj))
                        rw [List.getElem?_eq_getElem (by rw [hvs0.length]; exact hj),List.getElem?_eq_getElem (by rw [hvl]; exact hj),← h1,← h2]
                      · rw [List.getElem?_eq_none (by rw [hvs0.length]; omega),List.getElem?_eq_none (by rw [hvl]; omega)]
                   subst hsame
                   refine uH hM.obj (hold0 ⟨by rw [uI,hvl],fun j z hz=>(m8 hvs0 j z hz).2⟩) hq hS1 fun id' hid' => ?_
                   rcases aGT _ _ _ _ hid' with h3 | h3
                   · rw [aGS] at h3; cases h3
                   · exact hS3 id' h3
               have hgS:¬ S g:=(hst g (by rw [hmS]; rfl)).2 rfl
               obtain ⟨m1,m2⟩:=hS2.swap (w' := w.setRow g (lay cur.toList (i.toNat * e.size+off) vy.cells.toList).toArray) (ob := .typed e (xs.set i.toNat q) false) hlt' (by rw [hobj']; rfl) (g:=g) (by rw [hmS]; rfl) hbg hgS (by simp) (fun k hk=>setRow_other w g k _ hk) (by
                 have hSw:∀ k,S k→(w.setRow g (lay cur.toList (i.toNat * e.size+off) vy.cells.toList).toArray).heap[k]? = w.heap[k]? := fun k hk=>setRow_other w g k _ (fun h=>hgS (h ▸ hk))
                 have hcells:(lay cur.toList (i.toNat * e.size+off) vy.cells.toList).take (xs.length * e.size)=lay cells (i.toNat * e.size+off) vy.cells.toList:=by
                   have l1:i.toNat * e.size+off+vy.cells.toList.length≤xs.length * e.size:=by simp; omega
                   rw [j6 _ _ _ (by simp at l1 ⊢; omega),j6 _ _ _ (by rw [hol]; exact l1),← htake]
                   rw [List.take_append,List.take_append,List.take_take,List.take_take,List.drop_take]
                   simp only [List.length_take,List.length_append,Array.length_toList] at l1 ⊢
                   congr 1
                   · congr 1
                     · congr 1; omega
                     · rw [List.take_of_length_le (by simp; omega)]
                   · congr 1; omega
                 refine ⟨hzz,⟨Ty,lay cells (i.toNat * e.size+off) vy.cells.toList,?_,fun j z hz=>?_⟩,hst⟩
                 · rw [hmS,List.length_set]
                   refine ⟨by rw [qL,hol], .inr ⟨g,k,_,rfl,hbg,setRow_heap w g cur _ Ty _ hgg,hnc,hcm,by simp [qL,hcs],?_⟩⟩
                   simpa using hcells
                 · have l1:i.toNat * e.size+off+vy.cells.toList.length≤cells.length:=by rw [hol]; simp; omega
                   rw [List.getElem?_set] at hz
                   have hlayget:∀ k:Nat,(lay cells (i.toNat * e.size+off) vy.cells.toList)[k]? = if k<i.toNat * e.size+off then cells[k]? else if k<i.toNat * e.size+off+vy.cells.toList.length then vy.cells.toList[k - (i.toNat * e.size+off)]? else cells[k]? := by
                      intro k
                      rw [j6 _ _ _ l1,List.append_assoc]
                      by_cases k1:k<i.toNat * e.size+off
                      · rw [if_pos k1,List.getElem?_append_left (by simp; omega),List.getElem?_take,if_pos k1]
                      · rw [if_neg k1,List.getElem?_append_right (by simp; omega)]
                        have e1:k - (cells.take (i.toNat * e.size+off)).length=k - (i.toNat * e.size+off):=by simp; omega
                        rw [e1]
                        by_cases k2:k<i.toNat * e.size+off+vy.cells.toList.length
                        · rw [if_pos k2,List.getElem?_append_left (by omega)]
                        · rw [if_neg k2,List.getElem?_append_right (by omega),List.getElem?_drop]
                          congr 1; omega
                   split at hz
                   · rename_i hij
                     subst hij
                     simp only [Option.some.injEq] at hz
                     subst hz
                     refine ⟨lay vs off vy.cells.toList,hel.mono (fun _ h=>h) hSw,fun k u hu=>?_⟩
                     have hvfit:off+vy.cells.toList.length≤vs.length:=by rw [hvl]; simp; omega
                     have hk:k<e.size:=by
                       have:=(List.getElem?_eq_some_iff.1 hu).1
                       rw [qL,hvl] at this
                       exact this
                     rw [hlayget]
                     rw [j6 _ _ _ hvfit,List.append_assoc] at hu
                     by_cases k1:k<off
                     · rw [if_pos (by omega)]
                       rw [List.getElem?_append_left (by simp; omega),List.getElem?_take,if_pos k1] at hu
                       exact hvc k u hu
                     · rw [if_neg (by omega)]
                       rw [List.getElem?_append_right (by simp; omega)] at hu
                       have e1:k - (vs.take off).length=k - off:=by simp; omega
                       rw [e1] at hu
                       by_cases k2:k<off+vy.cells.toList.length
                       · rw [if_pos (by omega),show i.toNat * e.size+k - (i.toNat * e.size+off)=k - off by omega]
                         rwa [List.getElem?_append_left (by omega)] at hu
                       · rw [if_neg (by omega)]
                         rw [List.getElem?_append_right (by omega),List.getElem?_drop,show off+vy.cells.toList.length+(k - off - vy.cells.toList.length)=k by omega] at hu
                         exact hvc k u hu
                   · rename_i hij
                     obtain ⟨us,hus,huc⟩:=hrow j z hz
                     refine ⟨us,hus.mono (fun _ h=>h) hSw,fun k u hu=>?_⟩
                     have hk:k<e.size:=by
                       have:=(List.getElem?_eq_some_iff.1 hu).1
                       rw [hus.length] at this
                       exact this
                     have:=huc k u hu
                     rw [hlayget]
                     by_cases hji:j<i.toNat
                     · have:(j+1) * e.size≤i.toNat * e.size:=Nat.mul_le_mul_right _ (by omega)
                       rw [Nat.add_mul,Nat.one_mul] at this
                       rw [if_pos (by omega)]
                       assumption
                     · have:(i.toNat+1) * e.size≤j * e.size:=Nat.mul_le_mul_right _ (by omega)
                       rw [Nat.add_mul,Nat.one_mul] at this
                       have e3:vy.cells.toList.length=vy.cells.size:=by simp
                       rw [if_neg (by omega),if_neg (by omega)]
                       assumption)
               refine ⟨undef,_,c.withS S, .skip,hrun _ hst2, .inr ⟨rfl,rfl⟩,Ctx.withS_le c hS1, .undef _,m1,?_,fun k hk=>m2 k (hS1 k hk)⟩
               exact (RowKit.Below.refl n0 w).trans ⟨rfl,rfl,rfl,by simp,fun k hk=>setRow_other w g k _ (by omega)⟩
       · simp at hr
     · simp at hr
   · simp at hr
 · rename_i id
   split at hr
   · rename_i e xs hobj
     unfold tS at hr
     cases hc0:(Nat.blt 0 (T.size t) && (Nat.beq (cellsOf Y).length (T.size t) && Nat.beq (T.alen t * e.size) (T.size t))) with
     | false=>rw [hc0] at hr; simp at hr
     | true =>
       rw [hc0] at hr
       simp only [Bool.and_eq_true] at hc0
       have hz:=(dW _ _).1 hc0.1
       have hlen:=Nat.eq_of_beq_eq_true hc0.2.1
       have hns:=Nat.eq_of_beq_eq_true hc0.2.2
       simp only [cond_true] at hr
       split at hr
       · rename_i ys hys
         cases hcon:(bM (cellsOf Y)).contains id with
         | true=>rw [hcon] at hr; simp at hr
         | false =>
           rw [hcon] at hr
           simp only [cond_false,OpR.ok.injEq,Bool.and_eq_true] at hr
           obtain ⟨⟨hv,hxl⟩,rfl,rfl⟩:=hr
           have hxl' := Nat.eq_of_beq_eq_true hxl
           obtain ⟨hc1,hc2⟩:=nA hy hv
           have hcl2:(cellsOf Y).length=vy.cells.size:=by simpa using hc1.1
           have hnid:id ∉ bM (cellsOf Y):=by
            intro hm
            have:(bM (cellsOf Y)).contains id=true:=by simpa using hm
            rw [this] at hcon; simp at hcon
           obtain ⟨S,hS1,hS2,hS3⟩:=hM.freezeAt (bM (cellsOf Y))
           have hobj' : aF (freezeAt H (bM (cellsOf Y))) id = .typed e xs false:=by rw [aBJ _ _ _ hnid]; exact hobj
           have hlt' := cU (H:=freezeAt H (bM (cellsOf Y))) (id:=id) (by rw [hobj']; simp)
           have hob:=hS2.obj.obj id hlt'
           rw [hobj'] at hob
           obtain ⟨hzz,⟨Ty,cells,hown,hrow⟩,hst⟩:=hob
           cases hx with
           | parr hb hm hkk =>
             rename_i g n k
             have hmS:(c.withS S).m id = .slice (some ⟨g,0,none⟩) n k:=hm
             rw [hmS] at hown
             obtain ⟨hol,hor⟩:=hown
             rcases hor with ⟨hbad,_⟩ | ⟨g', cap,cur,hsl,hbg,hgg,hnc,hcm,hcs,htake⟩
             · simp at hbad
             · simp only [Value.slice.injEq,Option.some.injEq,Addr.mk.injEq,and_true] at hsl
               obtain ⟨rfl,rfl,rfl⟩:=hsl
               have hcapm:xs.length * e.size≤k * e.size:=Nat.mul_le_mul_right _ hnc
               have hvs:vy.cells.size=xs.length * e.size:=by rw [hxl', hns,← hlen,hcl2]
               have hst2:=aBL hT (t:=t) (off:=0) (v:=vy) hgg hz (by omega) (by omega) hc2
               obtain ⟨hyl,hyr⟩:=aBM hM.obj hc1 hys hS1 hS3
               have hgS:¬ S g:=(hst g (by rw [hmS]; rfl)).2 rfl
               have hlay:(lay cur.toList 0 vy.cells.toList).take (xs.length * e.size)=vy.cells.toList:=by
                 rw [j6 _ _ _ (by simp; omega),List.take_zero,List.nil_append,Nat.zero_add,List.take_append,List.take_of_length_le (by simp; omega)]
                 have:xs.length * e.size - vy.cells.toList.length=0:=by simp; omega
                 rw [this,List.take_zero,List.append_nil]
               obtain ⟨m1,m2⟩:=hS2.swap (w' := w.setRow g (lay cur.toList 0 vy.cells.toList).toArray) (ob := .typed e ys false) hlt' (by rw [hobj']; rfl) (g:=g) (by rw [hmS]; rfl) hbg hgS (by simp) (fun k hk=>setRow_other w g k _ hk) (by
                 have hSw:∀ k,S k→(w.setRow g (lay cur.toList 0 vy.cells.toList).toArray).heap[k]? = w.heap[k]? := fun k hk=>setRow_other w g k _ (fun h=>hgS (h ▸ hk))
                 have hyx:ys.length=xs.length:=by omega
                 refine ⟨hzz,⟨Ty,vy.cells.toList,?_,hyr.mono (fun _ h=>h) hSw⟩,hst⟩
                 rw [hmS,hyx]
                 exact ⟨by simpa using hvs, .inr ⟨g,k,_,rfl,hbg,setRow_heap w g cur _ Ty _ hgg,hnc,hcm,by simp [qL,hcs],by simpa using hlay⟩⟩)
               refine ⟨undef,_,c.withS S, .skip,hrun _ hst2, .inr ⟨rfl,rfl⟩,Ctx.withS_le c hS1, .undef _,m1,?_,fun k hk=>m2 k (hS1 k hk)⟩
               exact (RowKit.Below.refl n0 w).trans ⟨rfl,rfl,rfl,by simp,fun k hk=>setRow_other w g k _ (by omega)⟩
       · simp at hr
   · simp at hr
 · simp at hr
theorem aGW : ∀ {e:ETy} {cs:List AV} {y:e.D},gH H e cs=some y→cs.length=e.size
 | .one t,cs,y,h=>by
   unfold gH at h
   split at h
   · split at h
     · rfl
     · simp at h
   · simp at h
 | .more t e,cs,y,h=>by
   unfold gH at h
   split at h
   · split at h
     · rename_i a b h1 h2
       have:=aGW h2
       simp only [List.length_cons,ETy.size]
       omega
     · simp at h
   · simp at h
theorem aGX {e:ETy}:∀ {n:Nat} {cs:List AV} {ys:List e.D},jG H e n cs=some ys→cs.length=n * e.size
 | 0,cs,ys,hy=>by
   simp only [jG] at hy
   split at hy
   · simp
   · simp at hy
 | n+1,cs,ys,hy=>by
   simp only [jG] at hy
   split at hy
   · rename_i x r h1 h2
     have e2:=aGX h2
     have e1:=aGW h1
     rw [List.length_drop] at e2
     rw [List.length_take] at e1
     have hp:=e.size_pos
     rw [Nat.add_mul,Nat.one_mul]
     omega
   · simp at hy
theorem aGY (hM:Mem n0 c H w) (h:EnvR c w env a.tmps) {t:TypeId} {x:Operand} (ho:o.op = .box t x):dX P n0 c w o a (pV T H t (aD env x)):=by
 have base:dX P n0 c w o a (k5 H (aD env x)):=by
  intro hv
  exact s_box hM h ho hv
 have hx:=bN h x
 unfold pV
 split
 · split
   · rename_i p hp
     cases hni:aAS (cellsOf (aD env x)) with
     | true=>exact base
     | false =>
     rw [cond_false]
     cases hs:(bM (cellsOf (aD env x))).isEmpty with
     | false=>exact base
     | true =>
       simp only [cond_true]
       split
       · rename_i ys hys
         intro hg
         rw [Bool.and_eq_true] at hg
         obtain ⟨hc1,hc2⟩:=nA hx hg.1
         have hn:=(eH _ _).1 hg.2
         have hno:bM (cellsOf (aD env x))=[]:=by simpa using hs
         obtain ⟨hyl,hyr⟩:=aBM hM.obj hc1 hys (S:=c.S) (fun _ h=>h) (fun id hid=>by rw [hno] at hid; simp at hid)
         have hold:∀ g,g<w.heap.size→(w.alloc (.cells (a.eval x).cells t)).heap[g]? = w.heap[g]? := fun g hg=>heap_alloc_old w _ g hg
         have hcl:=hM.obj.len
         have hsz:(a.eval x).cells.size=p.1 * p.2.size:=by
          have h1:=aGX hys
          have h2:=hc1.1
          rw [h1] at h2
          simpa using h2.symm
         refine ⟨.pointer (some ⟨w.heap.size,0,none⟩),w.alloc (.cells (a.eval x).cells t),c.more (.slice (some ⟨w.heap.size,0,none⟩) p.1 p.1) p.2.size c.S,?_,Ctx.more_le c _ _ (fun _ h=>h),?_,?_,(RowKit.Below.refl n0 w).alloc hM.base _,fun g hg=>hold g (hM.stab g hg)⟩
         · simp [execOp,ho,Instr.box,newVar,newRow,newObj,Sem.run_bind,Sem.run_pure,Sem.run]
         · exact .parr (n:=p.1) (k:=p.1) (by simp [Ctx.more,hcl]) (by simp [Ctx.more,hcl]) rfl
         · refine uE hM (Ty:=t) (cells:=(a.eval x).cells.toList) hold (by simp) (fun g hg=>by simp [blk] at hg; omega) ?_ (hyr.mono (fun _ h=>h) fun g hg=>hold g (hM.stab g hg))
           rw [hyl]
           exact World.ownsRow_lit w (a.eval x).cells p.1 hM.base (by simp only [maxLen]; omega) hsz
       · exact base
   · exact base
 · exact base
end
end
section
section
variable {P:Program} {T:Tab} {n0:Nat} {c:Ctx} {H:List aA} {w:World} {env:Env} {a:Act} {o:Oper}
theorem aGZ (hT:bC P T) {t:TypeId} (hk:T.kind t = .arr) (hz:0<T.esize t):∃ n e i,P.underlying t=some (.array n e)∧P.info? e=some i∧i.size=T.esize t:=by
 have h1:∃ n e,P.underlying t=some (.array n e):=by
  unfold Tab.kind at hk
  split at hk
  · rename_i x hx
    rw [hT.ty _ _ hx] at hk
    unfold aY at hk
    dsimp only at hk
    split at hk <;> first | exact ⟨_,_,by assumption⟩ | (exfalso; revert hk; split <;> simp) | simp at hk
  · simp at hk
 obtain ⟨n,e,he⟩:=h1
 unfold Tab.esize at hz ⊢
 cases hf:find T.ty t with
 | none=>rw [hf] at hz; simp at hz
 | some x =>
   rw [hf] at hz
   have hx:=hT.ty _ _ hf
   subst hx
   have hs:(aY P t).esize=P.cellsOf e:=by simp [aY,he]
   simp only [hs] at hz ⊢
   unfold Program.cellsOf at hz ⊢
   cases hi:P.info? e with
   | none=>rw [hi] at hz; simp at hz
   | some i=>exact ⟨n,e,i,he,hi,rfl⟩
theorem aBN (hT:bC P T) {t:TypeId} {n:Nat} {e:TypeId} (hu:P.underlying t=some (.array n e)) {m:Nat} (hm:T.alen t=m) (h0:0<m):n=m:=by
 unfold Tab.alen at hm
 split at hm
 · rename_i x hx
   have hx' := lA hT hx
   subst hx'
   split at hm
   · rename_i p hp
     simp only [aY,hu,Option.map_eq_some_iff] at hp
     obtain ⟨et,_,rfl⟩:=hp
     exact hm
   · omega
 · omega
theorem aG0 (hH:HR n0 c H w) {id:Nat} {v:Value} (hx:AVR c w (.parr id) v) {e:ETy} {xs:List e.D} {fz:Bool} (hobj:aF H id = .typed e xs fz):∃ g k,v = .pointer (some ⟨g,0,none⟩)∧c.m id = .slice (some ⟨g,0,none⟩) xs.length k∧id<c.n∧c.z id=e.size∧k=xs.length:=by
 obtain ⟨A,cap,h3,h4,h5,h6⟩:=gW hH hobj
 cases hx with
 | parr hb hm hk =>
   rw [h3] at hm
   simp only [Value.slice.injEq] at hm
   obtain ⟨rfl,h8,h9⟩:=hm
   exact ⟨_,cap,rfl,h3,hb,h5,by omega⟩
theorem aR2 (hH:HR n0 c H w) (h:EnvR c w env a.tmps) (hT:bC P T) {t:TypeId} {x y:Operand} (ho:o.op = .indexAddr t x y) (hk:T.kind t = .arr) (hs:cS H (T.esize t) (aD env x)=true) {k:IntKind} {j:Int} (hy:a.eval y = .int k j) :
 PureSpec P c w H o a (mH (T.alen t) H (aD env x) j):=by
 obtain ⟨n,et,i,ht,hi,hsz⟩:=aGZ hT hk (qJ hs)
 have hx:=bN h x
 generalize hv:a.eval x=vx at *
 generalize aD env x=X at *
 unfold mH
 split
 · rename_i id
   split
   · rename_i e xs fz hobj
     intro hg
     simp only [Bool.and_eq_true,decide_eq_true_eq] at hg
     obtain ⟨hal,h0,h1⟩:=hg
     have hal' := Nat.eq_of_beq_eq_true hal
     have hn:=aBN hT ht hal' (by omega)
     obtain ⟨g,cap,rfl,hm,hb,hz,hcap⟩:=aG0 hH hx hobj
     have hes:=Nat.eq_of_beq_eq_true (show Nat.beq e.size (T.esize t)=true by simpa [cS,hobj] using hs)
     refine ⟨rfl, .pointer (some ⟨g,j.toNat * i.size,none⟩),?_,?_⟩
     · have h1' : j<(n:Int):=by omega
       simp only [execOp,ho,hv,hy]
       simp [Instr.indexAt,Instr.sureAddr,asIntOf,run_underlying ht,sizeOf,typeInfo,hi,h0,h1', fW,Sem.run_bind,Sem.run_pure]
     · rw [hsz,← hes,← hz]
       have:=AVR.elt (w:=w) (off:=0) hb hm h0 h1 (by rw [hz]; exact e.size_pos)
       simpa using this
   · trivial
 · rename_i id off
   intro hg
   simp only [Bool.and_eq_true,decide_eq_true_eq] at hg
   obtain ⟨h0,h1⟩:=hg
   have hn:=aBN hT ht rfl (by omega)
   have hz1:i.size=1:=by rw [hsz]; exact Nat.eq_of_beq_eq_true (show Nat.beq (T.esize t) 1=true from hs)
   cases hx with
   | ptr hb hm =>
     rename_i g
     refine ⟨rfl, .pointer (some ⟨g,off+j.toNat,none⟩),?_, .ptr hb hm⟩
     have h1' : j<(n:Int):=by omega
     simp only [execOp,ho,hv,hy]
     simp [Instr.indexAt,Instr.sureAddr,asIntOf,run_underlying ht,sizeOf,typeInfo,hi,h0,h1', fW,hz1,Sem.run_bind,Sem.run_pure]
 · trivial
theorem aR3 (hH:HR n0 c H w) (h:EnvR c w env a.tmps) (hT:bC P T) {t:TypeId} {x:Operand} {lo hi:Option Operand} (ho:o.op = .slice t x lo hi none) (hk:T.kind t = .arr) (hs:cS H (T.esize t) (aD env x)=true) {l r:Int}
 (hl:bnd 0 (lo.map (aD env))=some l) {n:Nat} (hn:lenOf H (aD env x)=some n) (hr:bnd n (hi.map (aD env))=some r):PureSpec P c w H o a (tM (T.alen t) H n l r (aD env x)):=by
 obtain ⟨m,et,i,ht,hi', hsz⟩:=aGZ hT hk (qJ hs)
 have hx:=bN h x
 generalize hv:a.eval x=vx at *
 generalize hX:aD env x=X at *
 unfold tM
 split
 · rename_i id
   intro hg
   simp only [Bool.and_eq_true,decide_eq_true_eq] at hg
   obtain ⟨⟨hal0,h00⟩,hg⟩:=hg
   have hal:=Nat.eq_of_beq_eq_true hal0
   have h0:=(dW _ _).1 h00
   simp only [lenOf] at hn
   split at hn
   · rename_i e xs fz hobj
     simp only [Option.some.injEq] at hn
     subst hn
     obtain ⟨g,cap,rfl,hm,hb,hz,hcap⟩:=aG0 hH hx hobj
     have hes:=Nat.eq_of_beq_eq_true (show Nat.beq e.size (T.esize t)=true by simpa [cS,hobj] using hs)
     have hmn:=aBN hT ht hal h0
     subst hmn
     have hbr:=aBA (P:=P) (w:=w) h false xs.length xs.length lo hi hl hr hg.1.1 hg.1.2 hg.2 (Nat.le_refl _)
     refine ⟨rfl, .slice (some (if xs.length=l.toNat then ⟨g,0,none⟩ else ⟨g,l.toNat * i.size,none⟩)) (r.toNat - l.toNat) (xs.length - l.toNat),?_,?_⟩
     · simp only [execOp,ho,Option.map_none,hv]
       simp [Instr.sliceAt,Instr.sureAddr,run_underlying ht,hbr,sizeOf,typeInfo,hi', fW,Sem.run_bind,Sem.run_pure]
     · refine .win hb hm (by omega) (by omega) (fun hp=>⟨g,rfl,?_⟩) fun h0' => ⟨?_,by omega⟩
       · rw [if_neg (by omega),hz,hsz,← hes]
       · rw [h0', Nat.zero_mul,ite_self]
   · simp at hn
 · trivial
end
section
variable {P:Program} {T:Tab} {n0:Nat} {c:Ctx} {H:List aA} {w:World} {env:Env} {a:Act} {o:Oper}
theorem aG1 {k:SK} {t:TypeId} (hk:kV P t=some k) (d:Nat) {x y:AV} {u v:Value} (hx:AVR c w x u) (hy:AVR c w y v) {b:Bool} (h:eq1 k x y=some b):(Op.equalIn (d+1) t u v).run P w = .ok b w:=by
 unfold kV at hk
 unfold eq1 at h
 split at h
 · rename_i k1 m k2 n
   cases hd:decide (k1=k2) with
   | false=>rw [hd] at h; simp at h
   | true =>
     rw [hd] at h
     have hk12:=of_decide_eq_true hd
     subst hk12
     simp only [cond_true,Option.some.injEq] at h
     subst h
     rw [eA hx,eA hy]
     split at hk
     · rename_i hu; rw [run_equalIn_int w d t _ _ m n hu]; rfl
     · simp at hk
     · simp at hk
     · simp at hk
 · rename_i s r
   simp only [Option.some.injEq] at h
   subst h
   rw [iE hx,iE hy]
   split at hk
   · simp at hk
   · rename_i hu; exact run_equalIn_string w d t s r hu
   · simp at hk
   · simp at hk
 · rename_i s r
   simp only [Option.some.injEq] at h
   subst h
   rw [gV hx,gV hy]
   split at hk
   · simp at hk
   · simp at hk
   · rename_i hu; exact run_equalIn_bool' w d t s r hu
   · simp at hk
 · simp at h
theorem uJ {k:SK} {t:TypeId} (hk:kV P t=some k) {cs:Array Value} {j:Nat} {u:Value} (h:cs[j]? = some u):(part t cs j).run P w = .ok u w:=by
 unfold kV at hk
 split at hk
 · rename_i hu; simp [part,isAgg,run_underlying hu,h,Sem.run_bind,Sem.run_pure]
 · rename_i hu; simp [part,isAgg,run_underlying hu,h,Sem.run_bind,Sem.run_pure]
 · rename_i hu; simp [part,isAgg,run_underlying hu,h,Sem.run_bind,Sem.run_pure]
 · simp at hk
theorem aG2 (d:Nat) {vs us:Array Value}:∀ (fs:List Field) (i:Nat) (ks:List SK),pL P fs i=some ks→∀ {xs ys:List AV},(∀ (j:Nat) (x:AV),xs[j]? = some x→∃ u,vs[i+j]? = some u∧AVR c w x u) →
 (∀ (j:Nat) (x:AV),ys[j]? = some x→∃ u,us[i+j]? = some u∧AVR c w x u)→∀ {b:Bool},jE ks xs ys=some b→(Op.eqFields (d+1) vs us fs).run P w = .ok b w
 | [],i,ks,hk,xs,ys,hx,hy,b,h=>by
   simp only [pL,Option.some.injEq] at hk
   subst hk
   simp only [jE,Option.some.injEq] at h
   subst h
   simp [Op.eqFields,Sem.run_pure]
 | f :: fs,i,ks,hk,xs,ys,hx,hy,b,h=>by
   simp only [pL] at hk
   split at hk
   · simp at hk
   · rename_i hno
     split at hk
     · rename_i k l h1 h2
       simp only [Option.some.injEq] at hk
       subst hk
       simp only [jE] at h
       split at h
       · rename_i x xs' y ys'
         split at h
         · rename_i p q hp hq
           simp only [Option.some.injEq] at h
           subst h
           simp only [not_or,Decidable.not_not] at hno
           obtain ⟨u,hu,hxu⟩:=hx 0 x rfl
           obtain ⟨v,hv,hyv⟩:=hy 0 y rfl
           have ih:=aG2 d fs (i+1) l h2 (xs:=xs') (ys:=ys') (fun j z hz=>by
            rw [show i+1+j=i+(j+1) by omega]; exact hx (j+1) z (by simpa using hz)) (fun j z hz=>by
            rw [show i+1+j=i+(j+1) by omega]; exact hy (j+1) z (by simpa using hz)) hq
           have e1:=uJ (w:=w) h1 (cs:=vs) (j:=i) hu
           have e2:=uJ (w:=w) h1 (cs:=us) (j:=i) hv
           have e3:=aG1 h1 d hxu hyv hp
           simp only [Op.eqFields,if_pos hno.1,hno.2,Sem.run_bind,e1,e2,e3,Result.andThen_ok]
           cases p with
           | false=>simp [Sem.run_pure]
           | true=>simpa using ih
         · simp at h
       · simp at h
     · simp at hk
theorem aG3 (d:Nat) {k:SK} {e:TypeId} (hk:kV P e=some k) {vs us:Array Value}:∀ (n i:Nat) {xs ys:List AV},(∀ (j:Nat) (x:AV),xs[j]? = some x→∃ u,vs[i+j]? = some u∧AVR c w x u) →
 (∀ (j:Nat) (x:AV),ys[j]? = some x→∃ u,us[i+j]? = some u∧AVR c w x u)→∀ {b:Bool},jE (List.replicate n k) xs ys=some b→(Op.eqItems (d+1) e 1 vs us (List.range' i n)).run P w = .ok b w
 | 0,i,xs,ys,hx,hy,b,h=>by
   simp only [List.replicate_zero,jE,Option.some.injEq] at h
   subst h
   simp [Op.eqItems,Sem.run_pure]
 | n+1,i,xs,ys,hx,hy,b,h=>by
   simp only [List.replicate_succ,jE] at h
   split at h
   · rename_i x xs' y ys'
     split at h
     · rename_i p q hp hq
       simp only [Option.some.injEq] at h
       subst h
       obtain ⟨u,hu,hxu⟩:=hx 0 x rfl
       obtain ⟨v,hv,hyv⟩:=hy 0 y rfl
       have ih:=aG3 d hk n (i+1) (xs:=xs') (ys:=ys') (fun j z hz=>by
        rw [show i+1+j=i+(j+1) by omega]; exact hx (j+1) z (by simpa using hz)) (fun j z hz=>by
        rw [show i+1+j=i+(j+1) by omega]; exact hy (j+1) z (by simpa using hz)) hq
       have e1:=uJ (w:=w) hk (cs:=vs) (j:=i) hu
       have e2:=uJ (w:=w) hk (cs:=us) (j:=i) hv
       have e3:=aG1 hk d hxu hyv hp
       simp only [List.range'_succ,Op.eqItems,Nat.mul_one,Sem.run_bind,e1,e2,e3,Result.andThen_ok]
       cases p with
       | false=>simp [Sem.run_pure]
       | true=>simpa using ih
     · simp at h
   · simp at h
theorem aR4 {t:TypeId} {ks:List SK} (hk:tI P t=some ks) {xs ys:List AV} {u v:Value} (hx:AVR c w (.agg xs) u) (hy:AVR c w (.agg ys) v) {b:Bool} (h:jE ks xs ys=some b) :
 (∀ op x y,(eqGuard op t x y u v).run P w = .ok () w)∧(binOp .eql t u v).run P w = .ok (.bool b) w∧(binOp .neq t u v).run P w = .ok (.bool (!b)) w:=by
 cases hx with
 | agg hl f h1 h2 =>
   cases hy with
   | agg hl' g h1' h2' =>
     rename_i vs us
     have gx:∀ (j:Nat) (x:AV),xs[j]? = some x→∃ u,vs[0+j]? = some u∧AVR c w x u:=fun j x hx=>⟨f j,by rw [Nat.zero_add]; exact h1 j x hx,h2 j x hx⟩
     have gy:∀ (j:Nat) (x:AV),ys[j]? = some x→∃ u,us[0+j]? = some u∧AVR c w x u:=fun j x hx=>⟨g j,by rw [Nat.zero_add]; exact h1' j x hx,h2' j x hx⟩
     have fin:P.eqGuardType P.depth t=false→(Op.equalIn 10000 t (.agg vs) (.agg us)).run P w = .ok b w →
         (∀ op x y,(eqGuard op t x y (.agg vs) (.agg us)).run P w = .ok () w)∧(binOp .eql t (.agg vs) (.agg us)).run P w = .ok (.bool b) w∧(binOp .neq t (.agg vs) (.agg us)).run P w = .ok (.bool (!b)) w:=fun hg he =>
       ⟨fun op x y=>run_eqGuard_agg w op t x y vs us hg,by rw [run_eql_struct,he]; rfl,by rw [run_neq_struct,he]; rfl⟩
     unfold tI at hk
     split at hk
     · rename_i fs hu
       split at hk
       · rename_i l hl
         cases hb:P.stoodInHeld t || P.eqGuardType P.depth t with
         | true=>rw [hb] at hk; simp at hk
         | false =>
           rw [hb] at hk
           simp only [cond_false,Option.some.injEq] at hk
           subst hk
           rw [Bool.or_eq_false_iff] at hb
           have hfs:P.fieldsOf t=fs:=by simp [Program.fieldsOf,hu]
           refine fin hb.2 ?_
           rw [show (10000:Nat)=9999+1 from rfl,run_equalIn_agg w 9999 t vs us (by rw [hfs]; exact hu) hb.1,hfs]
           exact aG2 9998 fs.toList 0 l hl gx gy h
       · simp at hk
     · rename_i n e hu
       split at hk
       · rename_i k hk1
         cases hb:decide (n≤8) && (decide ((P.info? e).map (·.size)=some 1) && !P.eqGuardType P.depth t) with
         | false=>rw [hb] at hk; simp at hk
         | true =>
           rw [hb] at hk
           simp only [cond_true,Option.some.injEq] at hk
           subst hk
           simp only [Bool.and_eq_true,decide_eq_true_eq,Bool.not_eq_true'] at hb
           obtain ⟨_,hs,hg⟩:=hb
           rw [Option.map_eq_some_iff] at hs
           obtain ⟨i,hi,hs1⟩:=hs
           have hc:P.cellsOf e=1:=by simp [Program.cellsOf,hi,hs1]
           refine fin hg ?_
           rw [show (10000:Nat)=9999+1 from rfl,run_equalIn_array w 9999 vs us hu hi,hc,List.range_eq_range']
           exact aG3 9998 hk1 n 0 gx gy h
       · simp at hk
     · simp at hk
theorem aG4 (hT:bC P T) (h:EnvR c w env a.tmps) (H:List aA) (hH:HR n0 c H w) {op:BinOp} {t u:TypeId} {x y:Operand} (ho:o.op = .binOp op t x y u) :
 PureSpec P c w H o a (mE T t H op (aD env x) (aD env y)):=by
 have hb:=s_bin hT h H hH ho
 have hx:=bN h x
 have hy:=bN h y
 generalize hX:aD env x=X at *
 generalize hY:aD env y=Y at *
 unfold mE
 split
 · rename_i xs
   split
   · rename_i ys
     split
     · rename_i z hz
       have hz' := hT.ty _ _ hz
       subst hz'
       unfold aAL
       split
       · rename_i ks hks
         split
         · rename_i b he
           have hks' : tI P t=some ks:=hks
           obtain ⟨r1,r2,r3⟩:=aR4 (w:=w) hks' hx hy he
           split
           · intro _
             exact ⟨rfl,_,aA9 ho (r1 _ _ _) r2, .bool _⟩
           · intro _
             exact ⟨rfl,_,aA9 ho (r1 _ _ _) r3, .bool _⟩
           · trivial
         · trivial
       · trivial
     · trivial
   · trivial
 · exact hb
end
end
section
structure Step1 (n0:Nat) (c c' : Ctx) (w w' : World):Prop where
 le:Ctx.le c c'
 below:RowKit.Below n0 w w'
 stab:∀ g,c.S g→w'.heap[g]? = w.heap[g]?
theorem Step1.refl (n0:Nat) (c:Ctx) (w:World):Step1 n0 c c w w:=⟨Ctx.le_refl c,RowKit.Below.refl n0 w,fun _ _=>rfl⟩
theorem Step1.trans {n0:Nat} {c c' c'' : Ctx} {w w' w'' : World} (h:Step1 n0 c c' w w') (k:Step1 n0 c' c'' w' w''):Step1 n0 c c'' w w'' :=
 ⟨h.le.trans k.le,h.below.trans k.below,fun g hg=>(k.stab g (h.le.S g hg)).trans (h.stab g hg)⟩
def gX (c:Ctx) (w:World) (args:List AV) (vals:Array Value):Prop:=vals.size=args.length∧∀ (j:Nat) (x:AV),args[j]? = some x→AVR c w x (vals.getD j undef)
def Ends (n0:Nat) (c:Ctx) (w:World) (K:AV→List aA→Prop) (v:Value) (w' : World):Prop:=∃ c' x H', Step1 n0 c c' w w' ∧ AVR c' w' x v∧Mem n0 c' H' w' ∧ K x H'
theorem Ends.mono {n0:Nat} {c:Ctx} {w:World} {K K' : AV→List aA→Prop} {v:Value} {w' : World} (hK:∀ x H,K x H→K' x H) (h:Ends n0 c w K v w'):Ends n0 c w K' v w' := by
 obtain ⟨c', x,H', h1,h2,h3,h4⟩:=h
 exact ⟨c', x,H', h1,h2,h3,hK _ _ h4⟩
def CallOk (P:Program) (n0:Nat) (g:FuncId) (args:List AV) (H:List aA) (K:AV→List aA→Prop):Prop :=
 (eG P g).isSome=true∧∀ (c:Ctx) (w:World) (vals:Array Value),gX c w args vals→Mem n0 c H w→Calls P g vals w fun e w' => ∃ v,e = .returned v∧Ends n0 c w K v w'
def gY (H H' : List aA):Prop:=∀ id,aF H id ≠ .dead→aF H' id=aF H id
def uK (H:List aA) (keep:Bool) (K:AV→List aA→Prop) (v:AV) (H' : List aA):Prop:=(keep=true→gY H H')∧K v H'
def eK (P:Program) (n0:Nat) (callK:cC):Prop:=∀ g args H keep K,callK g args H keep K→CallOk P n0 g args H (uK H keep K)
structure qN (P:Program) (T:Tab) (n0:Nat):Prop where
 ok:∀ {c:Ctx} {w:World} {H:List aA} {env:Env} {a:Act} {o:Oper} {x:AV} {H' : List aA},EnvR c w env a.tmps→Mem n0 c H w→opR T H env o.op = .ok true x H' → nD P n0 c w o a x H'
 call:∀ {c:Ctx} {w:World} {H:List aA} {env:Env} {a:Act} {o:Oper} {f:FuncId} {args:List AV},EnvR c w env a.tmps→Mem n0 c H w→opR T H env o.op = .call f args→(eG P f).isSome=true →
  ∃ vals,(execOp a.eval o).run P w = .ok (.enter f vals) w∧gX c w args vals
structure StR (n0:Nat) (c:Ctx) (w:World) (st:St) (a:Act):Prop where
 env:EnvR c w st.env a.tmps
 mem:Mem n0 c st.H w
 nod:a.defers=[]
def lC (n0:Nat) (c0:Ctx) (w0:World) (K:St→Prop) (e:Exit) (a:Act) (w:World):Prop:=e = .normal∧∃ c st,Step1 n0 c0 c w0 w∧StR n0 c w st a∧K st
theorem nE (a:Act) (d:Option Tmp) (v:Value):(a.put d v).defers=a.defers:=by cases d <;> rfl
theorem aG5 {c:Ctx} {w:World} {env:Env} {a:Act} (h:EnvR c w env a.tmps) {d:Nat} {b:Bool} (hx:c5 env d = .bool b):a.tmps[d]? = some (.bool b)∧EnvR c w (c6 env d (.bool b)) a.tmps:=by
 have hd:d<env.lim:=by
  by_cases hd:d<env.lim
  · exact hd
  · rw [qH _ _ hd] at hx; simp at hx
 have hd' : d<a.tmps.size:=by rw [← h.lim]; exact hd
 have h1:=h.at_ d
 rw [hx] at h1
 have h2:=gV h1
 have h3:a.tmps[d]? = some (.bool b):=by
  rw [Array.getElem?_eq_getElem hd']
  simp [Array.getD,hd'] at h2
  rw [h2]
 refine ⟨h3,?_⟩
 have h4:=h.set d (AVR.bool (c:=c) (w:=w) b)
 have h5:a.tmps.setIfInBounds d (.bool b)=a.tmps:=by
  apply Array.ext (by simp)
  intro i h1 h2
  rw [Array.getElem_setIfInBounds h2]
  split
  · rename_i he
    subst he
    have:=Array.getElem?_eq_getElem h2
    rw [h3] at this
    exact Option.some.inj this
  · rfl
 rw [h5] at h4
 exact h4
theorem aR5 {c:Ctx} {w:World} {env:Env} {a:Act} (h:EnvR c w env a.tmps) {d:Nat} {l:List AV} (hx:c5 env d = .tup l):∃ vs,a.tmps[d]? = some (.tuple vs):=by
 have hd:d<env.lim:=by
  by_cases hd:d<env.lim
  · exact hd
  · rw [qH _ _ hd] at hx; simp at hx
 have hd' : d<a.tmps.size:=by rw [← h.lim]; exact hd
 have h1:=h.at_ d
 rw [hx] at h1
 generalize hv:a.tmps.getD d Go.undef=v at h1
 cases h1 with
 | tup =>
   rename_i vs _ _ _ _
   refine ⟨vs,?_⟩
   rw [Array.getElem?_eq_getElem hd']
   simp [Array.getD,hd'] at hv
   rw [hv]
section
variable {P:Program} {T:Tab} {n0:Nat} {callK:cC}
theorem aG6 {all:List Oper} {c:Ctx} {w:World} {env:Env} {a:Act} (h:EnvR c w env a.tmps) {o:Oper} {go skip:Env→Prop} (hg:jY all env o.guard go skip) :
 ∃ env', EnvR c w env' a.tmps∧((Region.wanted o (yielded all.toArray a.tmps)=true∧go env')∨(Region.wanted o (yielded all.toArray a.tmps)=false∧skip env')):=by
 unfold jY at hg
 split at hg
 · rename_i hn
   exact ⟨env,h, .inl ⟨by simp [Region.wanted,hn],hg⟩⟩
 · rename_i p hp
   unfold aAW at hg
   split at hg
   · rename_i q hq
     split at hg
     · rename_i d hd
       rw [k9] at hq
       have hb:((all.toArray[p.1]?).bind (·.dst))=some d:=by simp [hq,hd]
       unfold way at hg
       split at hg
       · rename_i b hx
         obtain ⟨h1,h2⟩:=aG5 h hx
         have hy:yielded all.toArray a.tmps p.1=some b:=by
          unfold yielded
          rw [hb]
          simp [h1]
         have hw:Region.wanted o (yielded all.toArray a.tmps)=(some b == some p.2):=by
          unfold Region.wanted
          rw [hp]
          obtain ⟨p1,p2⟩:=p
          simp only at hy ⊢
          rw [hy]
         rw [hw]
         split at hg <;> rename_i hp2 <;> rw [hp2] <;> cases b <;> simp only [cond_true,cond_false] at hg
         · exact ⟨_,h2, .inr ⟨rfl,hg⟩⟩
         · exact ⟨_,h2, .inl ⟨rfl,hg⟩⟩
         · exact ⟨_,h2, .inl ⟨rfl,hg⟩⟩
         · exact ⟨_,h2, .inr ⟨rfl,hg⟩⟩
       · rename_i vs hx
         obtain ⟨us,h1⟩:=aR5 h hx
         have hy:yielded all.toArray a.tmps p.1=none:=by
          unfold yielded
          rw [hb]
          simp [h1]
         refine ⟨env,h, .inr ⟨?_,hg⟩⟩
         unfold Region.wanted
         rw [hp]
         obtain ⟨p1,p2⟩:=p
         simp only at hy ⊢
         rw [hy]; rfl
       · exact hg.elim
     · exact hg.elim
   · exact hg.elim
theorem uL (hO:qN P T n0) (hC:eK P n0 callK) {c0:Ctx} {w0:World} {K:St→Prop} {all:List Oper} :
 ∀ (l:List Oper) (i:Nat),all.drop i=l→∀ {c:Ctx} {w:World} {env:Env} {H:List aA} {a:Act},Step1 n0 c0 c w0 w→StR n0 c w ⟨env,H⟩ a→tU T callK all K l env H →
   wpOps P all.toArray (lC n0 c0 w0 K) (List.range' i l.length) a w
 | [],i,hl,c,w,env,H,a,hs,hr,h=>⟨rfl,c,⟨env,H⟩,hs,hr,h⟩
 | o :: l, i,hl,c,w,env,H,a,hs,hr,h=>by
   have hio:all.toArray[i]? = some o:=by
     have:(all.drop i)[0]? = some o:=by rw [hl]; rfl
     simpa using this
   have hl' : all.drop (i+1)=l:=by
     rw [← List.drop_drop,hl]; rfl
   simp only [List.length_cons,List.range'_succ,wpOps,hio]
   have h' : jY all env o.guard
     (fun env=>opK callK false H (fun v H=>tU T callK all K l (b8 env o.dst v) H) (opR T H env o.op))
     (fun env=>tU T callK all K l (b8 env o.dst (.tup [])) H):=h
   obtain ⟨env', he,hw | hw⟩:=aG6 hr.env h'
   · obtain ⟨hw,hg⟩:=hw
     rw [if_pos hw]
     refine .inl ?_
     unfold Oper.wp
     unfold opK at hg
     split at hg
     · exact hg.elim
     · rename_i g x H' hop
       cases g with
       | false=>exact hg.elim
       | true =>
         obtain ⟨v,w', c', nx,hrun,hnx,hle,hx,hm,hb,hst⟩:=hO.ok (o:=o) he hr.mem hop
         rw [hrun]
         suffices hgoal:wpOps P all.toArray (lC n0 c0 w0 K) (List.range' (i+1) l.length) (a.put o.dst v) w' by
           rcases hnx with rfl | ⟨rfl,rfl⟩
           · exact hgoal
           · exact hgoal
         exact uL hO hC l (i+1) hl' (hs.trans ⟨hle,hb,hst⟩) ⟨(he.mono hle hst).put o.dst hx,hm,by rw [nE]; exact hr.nod⟩ hg
     · rename_i f args hop
       have hcok:=hC _ _ _ _ _ hg
       obtain ⟨vals,hrun,ha⟩:=hO.call (o:=o) he hr.mem hop hcok.1
       rw [hrun]
       refine (hcok.2 c w vals ha hr.mem).mono fun e w' hE=>?_
       obtain ⟨v,rfl,c', x,H', hst,hx,hm,_,hk⟩:=hE
       show wpOps P all.toArray _ _ (a.put o.dst v) w'
       exact uL hO hC l (i+1) hl' (hs.trans hst) ⟨(he.mono hst.le hst.stab).put o.dst hx,hm,by rw [nE]; exact hr.nod⟩ hk
   · obtain ⟨hw,hg⟩:=hw
     rw [if_neg (by rw [hw]; exact Bool.false_ne_true)]
     exact uL hO hC l (i+1) hl' hs ⟨he.put o.dst (.tup rfl (fun _=>default) (fun j x hx=>by simp at hx) (fun j x hx=>by simp at hx)),hr.mem,by rw [nE]; exact hr.nod⟩ hg
end
end
section
theorem Mem.heap {n0:Nat} {c:Ctx} {H:List aA} {w w' : World} (h:Mem n0 c H w) (hh:w'.heap=w.heap):Mem n0 c H w' := by
 refine ⟨⟨h.obj.len,fun id hid=>?_,h.obj.dist⟩,by rw [hh]; exact h.base,fun g hg=>by rw [hh]; exact h.stab g hg,h.old⟩
 have hlen:=h.obj.len
 exact (h.obj.obj id hid).mono (Ctx.le_refl c) (by omega) (fun _ _ hg=>hg) (fun g _=>by rw [hh]) (fun g _=>by rw [hh])
theorem aG7 (id:Nat):∀ l:List Item,tT id l=exitTo id l
 | []=>rfl
 | x :: l=>by
   have ih:=aG7 id l
   cases x with
   | inBlock j =>
     show (bif Nat.beq j id then some l else tT id l)=if j == id then some l else exitTo id l
     rw [ih]
     by_cases h:j=id
     · subst h; simp
     · have h1:Nat.beq j id=false:=by cases hb:Nat.beq j id with | false=>rfl | true=>exact absurd (Nat.eq_of_beq_eq_true hb) h
       rw [h1]; simp [h]
   | _=>exact ih
def GoodAt (P:Program) (n0:Nat) (f:FuncId) (K:AV→List aA→Prop) (todo:List Item) (st:St):Prop :=
 ∀ (c:Ctx) (w:World) (a:Act) (cs:List Frame),StR n0 c w st a→∃ v w' fr,Ends n0 c w K v w' ∧
   Steps P (lone (({ (default:Frame) with fn:=f,kind := .normal }:Frame).at a todo) cs w) (lone fr cs w')∧fr.fn=f∧fr.leaving P w' (.returned v)
section
variable {P:Program} {T:Tab} {n0:Nat} {callK:cC} {f:FuncId} {K:AV→List aA→Prop}
structure IsGood (P:Program) (n0:Nat) (f:FuncId) (fn:Func) (K:AV→List aA→Prop) (G:List Item→St→Prop):Prop where
 to:∀ {todo:List Item} {st:St},(∀ (c:Ctx) (w:World) (a:Act) (cs:List Frame),StR n0 c w st a→∃ todo' st' c' w' a', G todo' st' ∧ Step1 n0 c c' w w' ∧ StR n0 c' w' st' a' ∧
  Steps P (lone (({ (default:Frame) with fn:=f,kind := .normal }:Frame).at a todo) cs w) (lone (({ (default:Frame) with fn:=f,kind := .normal }:Frame).at a' todo') cs w'))→G todo st
 fin : ∀ {todo:List Item} {st:St},(∀ (c:Ctx) (w:World) (a:Act) (cs:List Frame),StR n0 c w st a→∃ v x todo',
     Steps P (lone (({ (default:Frame) with fn:=f,kind := .normal }:Frame).at a todo) cs w) (lone { ({ (default:Frame) with fn:=f,kind := .normal }:Frame).at a todo' with mode := .returning } cs w) ∧
     (results fn a.tmps).run P w = .ok v w∧AVR c w x v∧K x st.H)→G todo st
 un:∀ {b:Code} {k:List Item} {st:St},G (.inLoop b :: k) st→G (.code b :: .inLoop b :: k) st
theorem aBO {b:Frame} {a:Act} {c:Code} {k:List Item} {cs:List Frame} {w w' : World} {fr:Frame} {v:Value} (h:Steps P (lone (b.at a (.inLoop c :: k)) cs w) (lone fr cs w')) (hl:fr.leaving P w' (.returned v)) :
 Steps P (lone (b.at a (.code c :: .inLoop c :: k)) cs w) (lone fr cs w'):=by
 obtain ⟨n,hn⟩:=h
 cases n with
 | zero =>
   exfalso
   simp only [runN,Stepped.next.injEq] at hn
   have h1:b.at a (.inLoop c :: k)=fr:=by
    have:=congrArg (fun m:Machine=>(m.gs[0]?).map (·.frame)) hn
    simpa [lone] using this
   have h2:=hl.1
   rw [← h1] at h2
   simp [Frame.at] at h2
 | succ n =>
   simp only [runN,step_inLoop] at hn
   exact ⟨n,hn⟩
theorem IsGood.same {fn:Func} {G:List Item→St→Prop} (hG:IsGood P n0 f fn K G) {todo todo' : List Item} {st:St} (h:G todo' st)
 (hs:∀ (w:World) (a:Act) (cs:List Frame),Go.step P (lone (({ (default:Frame) with fn:=f,kind := .normal }:Frame).at a todo) cs w) = .next (lone (({ (default:Frame) with fn:=f,kind := .normal }:Frame).at a todo') cs w)):G todo st :=
 hG.to fun c w a cs hr=>⟨todo', st,c,w,a,h,Step1.refl n0 c w,hr, .one (hs w a cs)⟩
theorem aG8 {fn:Func} (hf:P.funcs[f]? = some fn):IsGood P n0 f fn K (GoodAt P n0 f K) where
 to h c w a cs hr:=by
  obtain ⟨todo', st', c', w', a', hg,h1,h2,h3⟩:=h c w a cs hr
  obtain ⟨v,w'', fr,⟨c'', x,H', he1,he2,he3,he4⟩,hst,hfn,hl⟩:=hg c' w' a' cs h2
  exact ⟨v,w'', fr,⟨c'', x,H', h1.trans he1,he2,he3,he4⟩,h3.trans hst,hfn,hl⟩
 fin h c w a cs hr:=by
  obtain ⟨v,x,todo', h1,h2,h3,h4⟩:=h c w a cs hr
  exact ⟨v,w,_,⟨c,x,_,Step1.refl n0 c w,h3,hr.mem,h4⟩,h1,rfl,rfl,hr.nod,rfl,fn,hf,h2⟩
 un h c w a cs hr:=by
  obtain ⟨v,w'', fr,hE,hst,hfn,hl⟩:=h c w a cs hr
  exact ⟨v,w'', fr,hE,aBO hst hl,hfn,hl⟩
theorem GoodAt.same {todo todo' : List Item} {st:St} (h:GoodAt P n0 f K todo' st)
 (hs:∀ (w:World) (a:Act) (cs:List Frame),Go.step P (lone (({ (default:Frame) with fn:=f,kind := .normal }:Frame).at a todo) cs w) = .next (lone (({ (default:Frame) with fn:=f,kind := .normal }:Frame).at a todo') cs w)):GoodAt P n0 f K todo st:=by
 intro c w a cs hr
 obtain ⟨v,w'', fr,hE,hst,hfn,hl⟩:=h c w a cs hr
 exact ⟨v,w'', fr,hE, .head (hs w a cs) hst,hfn,hl⟩
theorem aR6 {t:TypeId} {p v:Value} {w:World} (h:(Instr.loadAt t p).run P w = .ok v w):(do loadVar t (← asAddr p):Sem Value).run P w = .ok v w:=by
 cases p with
 | pointer q =>
   cases q with
   | none=>simp [Instr.loadAt,Instr.sureAddr,stuck,throw,Sem.run_bind,Sem.run] at h
   | some ad=>exact h
 | _=>simp [Instr.loadAt,Instr.sureAddr,stuck,throw,Sem.run_bind,Sem.run] at h
def qO (a:Act) (r:ResultVar):Sem Value:=match r with
 | .tmp t=>pure (a.tmps.getD t undef)
 | .cell b t=>do loadVar t (← asAddr (a.tmps.getD b undef))
theorem aR7 (hT:bC P T) {c:Ctx} {w:World} {st:St} {a:Act} (hr:StR n0 c w st a) (r:ResultVar) (x:AV) (hx:tV T st r=some x):∃ v,(qO a r).run P w = .ok v w∧AVR c w x v:=by
 cases r with
 | tmp t =>
   simp only [tV,Option.some.injEq] at hx
   subst hx
   exact ⟨_,by simp [qO,Sem.run_pure],hr.env.at_ t⟩
 | cell b t =>
   simp only [tV] at hx
   split at hx
   · rename_i v H' hl
     simp only [Option.some.injEq] at hx
     subst hx
     have hld := aBC (P := P) (T := T) (o := { dst := none, op := .load t (.tmp b), type := 0, pos := "", after := #[], guard := none }) hr.mem.obj hr.env hT rfl
     rw [show aD st.env (.tmp b)=c5 st.env b from rfl,hl] at hld
     obtain ⟨_,u,hrun,hu⟩:=hld rfl
     refine ⟨u,?_,hu⟩
     simp only [execOp,Act.eval,Sem.run_bind] at hrun
     refine aR6 ?_
     revert hrun
     generalize Sem.run P (Instr.loadAt t (a.tmps.getD b undef)) w=res
     intro hrun
     cases res with
     | ok y w2=>simp [Result.andThen,Sem.run_pure] at hrun; rw [hrun.1,hrun.2]
     | halt y w2=>simp [Result.andThen] at hrun
   · simp at hx
theorem aG9 (hT:bC P T) {c:Ctx} {w:World} {st:St} {a:Act} (hr:StR n0 c w st a):∀ (rs:List ResultVar) (xs:List AV),qA T st rs=some xs →
 ∃ vs,(rs.mapM (qO a)).run P w = .ok vs w∧vs.length=xs.length∧∀ (j:Nat) (x:AV),xs[j]? = some x→vs[j]? = some (vs.getD j default)∧AVR c w x (vs.getD j default)
 | [],xs,h=>by
   simp only [qA,Option.some.injEq] at h
   subst h
   exact ⟨[],by simp [Sem.run_pure],rfl,fun j x hx=>by simp at hx⟩
 | r :: rs,xs,h=>by
   simp only [qA] at h
   split at h
   · rename_i x ys hx hys
     simp only [Option.some.injEq] at h
     subst h
     obtain ⟨v,h1,h2⟩:=aR7 hT hr r x hx
     obtain ⟨vs,h3,h4,h5⟩:=aG9 hT hr rs ys hys
     refine ⟨v :: vs,by simp [List.mapM_cons,Sem.run_bind,h1,h3,Sem.run_pure],by simp [h4],fun j y hy=>?_⟩
     cases j with
     | zero=>simp only [List.getElem?_cons_zero,Option.some.injEq] at hy; subst hy; exact ⟨rfl,h2⟩
     | succ j =>
       simp only [List.getElem?_cons_succ] at hy
       obtain ⟨h6,h7⟩:=h5 j y hy
       exact ⟨by simpa using h6,by simpa using h7⟩
   · simp at h
theorem aHA (hT:bC P T) {c:Ctx} {w:World} {st:St} {a:Act} (hr:StR n0 c w st a) {fn:Func} (h:aI T fn.results.toList K st) :
 ∃ v x,(results fn a.tmps).run P w = .ok v w∧AVR c w x v∧K x st.H:=by
 unfold aI at h
 split at h
 · exact h.elim
 · rename_i xs hxs
   obtain ⟨vs,h1,h2,h3⟩:=aG9 hT hr _ _ hxs
   have hm:(fn.results.mapM (qO a)).run P w = .ok vs.toArray w:=by
    rw [Array.mapM_eq_mapM_toList,map_eq_pure_bind]
    simp [Sem.run_bind,h1,Sem.run_pure]
   have hre:results fn a.tmps=(do let vs ← fn.results.mapM (qO a); pure (if h:vs.size=1 then vs[0] else .tuple vs)):=rfl
   rw [hre]
   split at h
   · rename_i x
     have hl:vs.length=1:=by simpa using h2
     obtain ⟨h4,h5⟩:=h3 0 x rfl
     refine ⟨vs.getD 0 default,x,?_,h5,h⟩
     obtain ⟨v,rfl⟩:∃ v,vs=[v]:=List.length_eq_one_iff.1 hl
     simp [Sem.run_bind,hm,Sem.run_pure]
   · rename_i hne
     have hl:vs.length≠1:=by
        intro hl
        rw [h2] at hl
        obtain ⟨x,rfl⟩:=List.length_eq_one_iff.1 hl
        exact hne x rfl
     refine ⟨.tuple vs.toArray, .tup xs,?_, .tup (u:=fun j=>vs.getD j default) (by simp [h2]) (fun j x hx=>by simpa using (h3 j x hx).1) (fun j x hx=>(h3 j x hx).2),h⟩
     simp [Sem.run_bind,hm,Sem.run_pure,hl]
theorem aHB {c:Ctx} {w:World} {st:St} {a:Act} (hr:StR n0 c w st a) {x:Operand} {b:Bool} (hx:aD st.env x = .bool b):StR n0 c w (p8 st x b) a∧a.eval x = .bool b:=by
 have hv:=gV (hx ▸ bN hr.env x)
 refine ⟨?_,hv⟩
 cases x with
 | tmp t=>exact ⟨(aG5 hr.env hx).2,hr.mem,hr.nod⟩
 | const v=>exact hr
 | global g=>exact hr
 | func g=>exact hr
theorem qP (hT:bC P T) (hO:qN P T n0) (hC:eK P n0 callK)
 (hD:∀ ops:List Oper,mW ops=true→∀ (c0:Ctx) (w0:World) (st:St) (a:Act) (X:St→Prop) (id:Nat),StR n0 c0 w0 st a→t0 T callK ops X st.env st.H→(Code.region id ops.toArray true).wp P (lC n0 c0 w0 X) a w0)
 {fn:Func} (hf:P.funcs[f]? = some fn) {G:List Item→St→Prop} (hG:IsGood P n0 f fn K G) {loopK:List Item→St→Prop} (hL:∀ todo st,loopK todo st→G todo st) :
 ∀ (n:Nat) (todo:List Item) (st:St),aH T callK loopK (aI T fn.results.toList K) n todo st→G todo st
 | 0,_,_,h=>h.elim
 | n + 1,todo,st,h=>by
   have ih:=qP hT hO hC hD hf hG hL n
   have h' : aFF T callK loopK (aI T fn.results.toList K) (aH T callK loopK (aI T fn.results.toList K) n) todo st:=h
   generalize hgo:aH T callK loopK (aI T fn.results.toList K) n=go at *
   have reg:∀ {id:Nat} {ops:Array Oper} {dr:Bool} {k:List Item},(∀ (c:Ctx) (w:World) (a:Act),StR n0 c w st a→(Code.region id ops dr).wp P (lC n0 c w (go k)) a w)→G (.code (.region id ops dr) :: k) st:=by
     intro id ops dr k hw
     refine hG.to fun c w a cs hr=>?_
     obtain ⟨e,a', w', ⟨rfl,c', st', h1,h2,h3⟩,harr⟩:=hw c w a hr { (default:Frame) with fn:=f,kind := .normal } k cs
     exact ⟨k,st', c', w', a', ih k st' h3,h1,h2,harr⟩
   cases todo with
   | nil =>
     refine hG.fin fun c w a cs hr=>?_
     obtain ⟨v,x,h1,h2,h3⟩:=aHA hT hr h'
     exact ⟨v,x,_, .one step_end,h1,h2,h3⟩
   | cons i k =>
     cases i with
     | inBlock j=>exact hG.same (ih k st h') fun w a cs=>step_inBlock
     | inLoop b=>exact hL _ _ h'
     | code cd =>
       cases cd with
       | skip=>exact hG.same (ih k st h') fun w a cs=>step_skip
       | seq x y=>exact hG.same (ih _ st h') fun w a cs=>step_seq
       | block j x=>exact hG.same (ih _ st h') fun w a cs=>step_block
       | loop x=>exact hG.same (hG.un (ih _ st h')) fun w a cs=>step_loop
       | exit j =>
         have h2:aAY go st (tT j k):=h'
         rw [aG7] at h2
         unfold aAY at h2
         split at h2
         · rename_i k' hk
           exact hG.same (ih _ st h2) fun w a cs=>step_exit hk
         · exact h2.elim
       | ret =>
         refine hG.fin fun c w a cs hr=>?_
         obtain ⟨v,x,h1,h2,h3⟩:=aHA hT hr h'
         exact ⟨v,x,_, .one step_ret,h1,h2,h3⟩
       | cond x y z =>
         have h2:aAX st x (go (.code y :: k)) (go (.code z :: k)) (aD st.env x):=h'
         unfold aAX at h2
         split at h2
         · rename_i b hb
           cases b with
           | true =>
             refine hG.to fun c w a cs hr=>?_
             obtain ⟨h3,h4⟩:=aHB hr hb
             exact ⟨_,_,c,w,a,ih _ _ h2,Step1.refl n0 c w,h3, .one (step_cond h4)⟩
           | false =>
             refine hG.to fun c w a cs hr=>?_
             obtain ⟨h3,h4⟩:=aHB hr hb
             exact ⟨_,_,c,w,a,ih _ _ h2,Step1.refl n0 c w,h3, .one (step_cond h4)⟩
         · exact h2.elim
       | region id ops dr =>
         have h2:aFE T callK (go k) st ops.toList dr:=h'
         refine reg fun c w a hr=>?_
         cases dr with
         | false =>
           have h3:=uL hO hC (all:=ops.toList) ops.toList 0 rfl (Step1.refl n0 c w) hr h2
           rw [Array.toArray_toList,← List.range_eq_range', Array.length_toList] at h3
           exact wp_region h3
         | true =>
           have h3:(bif mW ops.toList then t0 T callK ops.toList (go k) st.env st.H else False):=h2
           cases hcm:mW ops.toList with
           | false=>rw [hcm] at h3; exact h3.elim
           | true =>
             rw [hcm] at h3
             have:=hD ops.toList hcm c w st a (go k) id hr h3
             rw [Array.toArray_toList] at this
             exact this
       | _=>exact h'.elim
     | _=>exact h'.elim
end
end
section
section
variable {P:Program} {T:Tab} {n0:Nat} {c:Ctx} {H:List aA} {w:World} {env:Env} {a:Act} {o:Oper}
theorem aR8 (hM:Mem n0 c H w) (h:EnvR c w env a.tmps) {ts:Array TypeId} {x y:Operand} (ho:o.op = .call { callee := .builtin .max,args:=#[x,y],argTypes:=ts }):dX P n0 c w o a (aAQ H (aD env x) (aD env y)):=by
 have hx:=bN h x
 have hy:=bN h y
 generalize hvx:a.eval x=vx at *
 generalize hvy:a.eval y=vy at *
 unfold aAQ
 split
 · rename_i k m k' n hX hY
   rw [hX] at hx
   rw [hY] at hy
   intro _
   refine Pure1.mem hM ⟨.int k (if n > m then n else m),?_, .int _ _⟩
   simp [execOp,ho,resolve,invoke,builtin,Builtin.max_,Builtin.max2,hvx,hvy,eA hx,eA hy,Sem.run_bind,Sem.run_pure]
 · trivial
theorem aR9 (hM:Mem n0 c H w) (h:EnvR c w env a.tmps) {ts:Array TypeId} {x y:Operand} (ho:o.op = .call { callee := .builtin .min,args:=#[x,y],argTypes:=ts }):dX P n0 c w o a (aAP H (aD env x) (aD env y)):=by
 have hx:=bN h x
 have hy:=bN h y
 generalize hvx:a.eval x=vx at *
 generalize hvy:a.eval y=vy at *
 unfold aAP
 split
 · rename_i k m k' n hX hY
   rw [hX] at hx
   rw [hY] at hy
   intro _
   refine Pure1.mem hM ⟨.int k (if n<m then n else m),?_, .int _ _⟩
   simp [execOp,ho,resolve,invoke,builtin,Builtin.min_,Builtin.min2,hvx,hvy,eA hx,eA hy,Sem.run_bind,Sem.run_pure]
 · trivial
theorem s_cap (h:EnvR c w env a.tmps) (hT:bC P T) {t:TypeId} {ts:Array TypeId} {x:Operand} (ho:o.op = .call { callee := .builtin .cap,args:=#[x],argTypes:=ts }) (ht:ts[0]? = some t) :
 PureSpec P c w H o a (capR (T.kind t) H (aD env x)):=by
 have hx:=bN h x
 have row:(T.kind t = .slice∨T.kind t = .bytes)→PureSpec P c w H o a (tO H (aD env x)):=by
  intro hk
  obtain ⟨e,he⟩:=j5 hT hk
  generalize hX:aD env x=X at *
  unfold tO
  split
  · intro _
    generalize hvx:a.eval x=vx at *
    cases hx
    refine ⟨rfl, .int .i64 0,?_, .int _ _⟩
    simp [execOp,ho,resolve,invoke,builtin,Builtin.cap_,ht,hvx,run_underlying he,Sem.run_bind,Sem.run_pure,goInt]
  · trivial
 unfold capR
 split
 · rename_i hk; exact row (.inl hk)
 · rename_i hk; exact row (.inr hk)
 · trivial
theorem aSA {f:AV→AV→OpR} {env:Env} {args:Array Operand} {Q:OpR→Prop} (hf:Q .fail) (h:∀ x y,args = #[x,y]→Q (f (aD env x) (aD env y))):Q (two f (args.toList.map (aD env))):=by
 unfold two
 split
 · rename_i x r hr
   split
   · rename_i y q
     split
     · cases ha:args.toList with
       | nil=>rw [ha] at hr; simp at hr
       | cons p l =>
         rw [ha] at hr
         cases l with
         | nil=>simp at hr
         | cons p' l' =>
           cases l' with
           | nil =>
             simp only [List.map_cons,List.map_nil,List.cons.injEq,and_true] at hr
             obtain ⟨rfl,rfl⟩:=hr
             exact h p p' (by rw [← Array.toArray_toList (xs:=args),ha])
           | cons p'' l'' => simp at hr
     · exact hf
   · exact hf
 · exact hf
theorem aHC {f:AV→OpR} {env:Env} {args:Array Operand} {Q:OpR→Prop} (hf:Q .fail) (h:∀ x,args = #[x]→Q (f (aD env x))):Q (mF f (args.toList.map (aD env))):=by
 unfold mF
 split
 · rename_i x r hr
   split
   · cases ha:args.toList with
     | nil=>rw [ha] at hr; simp at hr
     | cons p l =>
       rw [ha] at hr
       cases l with
       | nil =>
         simp only [List.map_cons,List.map_nil,List.cons.injEq,and_true] at hr
         subst hr
         exact h p (by rw [← Array.toArray_toList (xs:=args),ha])
       | cons p' l' => simp at hr
   · exact hf
 · exact hf
theorem aHD (hM:Mem n0 c H w) (h:EnvR c w env a.tmps) (hT:bC P T) {b:Builtin} {args:Array Operand} {ts:Array TypeId} (ho:o.op = .call { callee := .builtin b,args:=args,argTypes:=ts }) :
 dX P n0 c w o a (pP T H b ts.toList (args.toList.map (aD env))):=by
 have two' := fun (f:AV→AV→OpR) (hf:∀ x y,args = #[x,y]→dX P n0 c w o a (f (aD env x) (aD env y)))=>aSA (f:=f) (env:=env) (args:=args) (Q:=dX P n0 c w o a) trivial hf
 unfold pP
 split
 · split
   · rename_i t r hts
     refine aHC (Q:=dX P n0 c w o a) trivial fun x hx=>?_
     subst hx
     have ht:ts[0]? = some t:=by
        have:ts.toList[0]? = some t:=by rw [hts]; rfl
        simpa using this
     exact (s_len hM.obj h hT ho ht).spec hM
   · trivial
 · split
   · rename_i t r hts
     split
     · rename_i u q
       split
       · cases hb:Nat.beq t u with
         | false=>trivial
         | true =>
           have:=Nat.eq_of_beq_eq_true hb
           subst this
           refine two' _ fun x y hxy=>?_
           subst hxy
           have hts' : ts = #[t,t]:=by rw [← Array.toArray_toList (xs:=ts),hts]
           subst hts'
           exact aR0 hM h hT ho
       · trivial
     · trivial
   · trivial
 · split
   · rename_i t r hts
     refine aHC (Q:=dX P n0 c w o a) trivial fun x hx=>?_
     subst hx
     have ht:ts[0]? = some t:=by
        have:ts.toList[0]? = some t:=by rw [hts]; rfl
        simpa using this
     exact (s_cap h hT ho ht).spec hM
   · trivial
 · refine two' _ fun x y hxy=>?_
   subst hxy
   exact aR8 hM h ho
 · refine two' _ fun x y hxy=>?_
   subst hxy
   exact aR9 hM h ho
 · trivial
theorem aHE (hM:Mem n0 c H w) (h:EnvR c w env a.tmps) (hT:bC P T) {t:TypeId} {x:Operand} {lo hi mx:Option Operand} (ho:o.op = .slice t x lo hi mx):PureSpec P c w H o a (k7 T t H env x lo hi mx):=by
 unfold k7
 split
 · unfold aAK
   split
   · trivial
   · rename_i n hn
     split
     · rename_i l r hl hr
       unfold aAJ
       split
       · rename_i hk
         exact aRD h hT ho hk hl hn hr
       · rename_i hk
         cases hs:cS H (T.esize t) (aD env x) with
         | false=>trivial
         | true=>exact aFR hM.obj h hT ho (.inl hk) hs hl hn hr
       · rename_i hk
         cases hs:cS H (T.esize t) (aD env x) with
         | false=>trivial
         | true=>exact aFR hM.obj h hT ho (.inr hk) hs hl hn hr
       · rename_i hk
         cases hs:cS H (T.esize t) (aD env x) with
         | false=>trivial
         | true=>exact aR3 hM.obj h hT ho hk hs hl hn hr
       · trivial
     · trivial
 · trivial
theorem aHF (hM:Mem n0 c H w) (h:EnvR c w env a.tmps) (hT:bC P T) {t:TypeId} {x y:Operand} (ho:o.op = .indexAddr t x y):PureSpec P c w H o a (mI (T.kind t) (T.esize t) (T.alen t) H (aD env x) (aD env y)):=by
 unfold mI
 split
 · rename_i k j hj
   have hy:=eA (hj ▸ bN h y)
   split
   · rename_i hk
     cases hs:cS H (T.esize t) (aD env x) with
     | false=>trivial
     | true=>exact aFT hM.obj h hT ho (.inl hk) hs hy
   · rename_i hk
     cases hs:cS H (T.esize t) (aD env x) with
     | false=>trivial
     | true=>exact aFT hM.obj h hT ho (.inr hk) hs hy
   · rename_i hk
     cases hs:cS H (T.esize t) (aD env x) with
     | false=>trivial
     | true=>exact aR2 hM.obj h hT ho hk hs hy
   · trivial
 · trivial
theorem aHG (hM:Mem n0 c H w) (h:EnvR c w env a.tmps) (hT:bC P T) {f:FuncId} (hf:find T.ext f=some 1) {vals:Array Value} {args:List AV} (hrun:(execOp a.eval o).run P w=(callFunc f vals).run P w) (hv:gX c w args vals):dX P n0 c w o a (two (pY H) args):=by
 cases args with
 | nil=>trivial
 | cons x r =>
   cases r with
   | nil=>trivial
   | cons y q =>
     cases q with
     | cons z q=>trivial
     | nil =>
       show dX P n0 c w o a (pY H x y)
       obtain ⟨h1,h2⟩:=hv
       have hx:=h2 0 x rfl
       have hy:=h2 1 y rfl
       unfold pY
       split
       · rename_i s
         split
         · rename_i k n
           split
           · rename_i hk
             have hk' : k = .u8:=by simpa using hk
             subst hk'
             intro _
             obtain ⟨fn,g1,g2,g3,g4,g5⟩:=hT.ext f hf
             have e0:=iE hx
             have e1:=eA hy
             have hvals:vals = #[.string s, .int .u8 n]:=by
              apply Array.ext
              · simpa using h1
              · intro i i1 i2
                simp at i2
                have:i=0∨i=1:=by omega
                rcases this with rfl | rfl
                · simpa [Array.getD,i1] using e0
                · simpa [Array.getD,i1] using e1
             refine Pure1.mem hM ⟨_,?_, .int _ _⟩
             rw [hrun,run_callFunc_extern g1 g2 g3 g4 g5,hvals,run_indexByte_string]
             rfl
           · trivial
         · trivial
       · trivial
theorem aBP (h:EnvR c w env a.tmps) {f:Operand} {args:Array Operand} {ts:Array TypeId} (ho:o.op = .call { callee := .value f,args:=args,argTypes:=ts }) {g:FuncId} {caps:List AV} (hf:aD env f = .fn g caps) :
 ∃ vals,(execOp a.eval o).run P w=(callFunc g vals).run P w∧gX c w (args.toList.map (aD env) ++ caps) vals:=by
 have hfr:=hf ▸ bN h f
 generalize hv:a.eval f=vf at *
 cases hfr with
 | fn hl u h1 h2 =>
   rename_i vs
   refine ⟨args.map a.eval ++ vs,?_,?_⟩
   · simp [execOp,ho,resolve,hv,Deferred.ofValue,invoke,Sem.run_bind,Sem.run_pure]
   · have ha:=aF6 h args
     refine ⟨by simp [hl],fun j x hx=>?_⟩
     by_cases hj:j<args.size
     · rw [List.getElem?_append_left (by simpa using hj)] at hx
       have:=ha.2 j x hx
       rw [List.getD_eq_getElem?_getD] at this
       simpa [Array.getD_eq_getD_getElem?, Array.getElem?_append_left,hj] using this
     · rw [List.getElem?_append_right (by simpa using hj)] at hx
       simp only [List.length_map,Array.length_toList] at hx
       have:=h1 _ x hx
       rw [Array.getD_eq_getD_getElem?, Array.getElem?_append_right (by simpa using hj)]
       simp only [Array.size_map,this,Option.getD_some]
       exact h2 _ x hx
theorem op_ok (hT:bC P T) (h:EnvR c w env a.tmps) (hM:Mem n0 c H w) {x:AV} {H' : List aA} (hr:opR T H env o.op = .ok true x H'):nD P n0 c w o a x H' := by
 have pure' : ∀ r,PureSpec P c w H o a r→r = .ok true x H' → nD P n0 c w o a x H' := fun r hp he=>by
  subst he
  exact (PureSpec.spec hM hp rfl).n
 have spec' : ∀ r,dX P n0 c w o a r→r = .ok true x H' → nD P n0 c w o a x H' := fun r hp he=>by
  subst he
  exact (hp rfl).n
 cases hop:o.op with
 | move y =>
   rw [hop] at hr
   refine pure' (.ok true (aD env y) H) (fun _=>⟨rfl,aFI h y (.inl hop)⟩) hr
 | assign y =>
   rw [hop] at hr
   refine pure' (.ok true (aD env y) H) (fun _=>⟨rfl,aFI h y (.inr hop)⟩) hr
 | binOp b t y z u=>rw [hop] at hr; exact pure' _ (aG4 hT h H hM.obj hop) hr
 | unOp b t y=>rw [hop] at hr; exact pure' _ (s_un h hop) hr
 | convert s d y=>rw [hop] at hr; exact spec' _ (aGG hM h hT hop) hr
 | indexAddr t y i=>rw [hop] at hr; exact pure' _ (aHF hM h hT hop) hr
 | index t y i=>rw [hop] at hr; exact pure' _ (aFO h hT hop) hr
 | load t y=>rw [hop] at hr; exact pure' _ (aBC hM.obj h hT hop) hr
 | store t y z=>rw [hop] at hr; exact aR1 hM h hT hop hr
 | slice t y lo hi mx=>rw [hop] at hr; exact pure' _ (aHE hM h hT hop) hr
 | field t y f=>rw [hop] at hr; exact pure' _ (aF5 h hT hop) hr
 | fieldAddr t y f=>rw [hop] at hr; exact pure' _ (aF3 hM.obj h hT hop) hr
 | alloc t=>rw [hop] at hr; exact spec' _ (aGU hM h hT hop) hr
 | box t y=>rw [hop] at hr; exact spec' _ (aGY hM h hop) hr
 | build t ps=>rw [hop] at hr; exact pure' _ (aGC h hT hop) hr
 | buildSlice t n ps=>rw [hop] at hr; exact spec' _ (aGM hM h hT hop) hr
 | makeSlice t y z=>rw [hop] at hr; exact spec' _ (aGI hM h hT hop) hr
 | makeFunc f fs cs=>rw [hop] at hr; exact pure' _ (aF7 h hop) hr
 | extract y i=>rw [hop] at hr; exact pure' _ (aFM h hop) hr
 | pick y z u=>rw [hop] at hr; exact pure' _ (aFL h hop) hr
 | nilCheck y=>rw [hop] at hr; exact pure' _ (aFN h hop) hr
 | call cl =>
   rw [hop] at hr
   obtain ⟨cal,args,ts⟩:=cl
   have hr' : mR T H env cal (args.toList.map (aD env)) ts.toList = .ok true x H' := hr
   unfold mR at hr'
   split at hr'
   · exact spec' _ (aHD hM h hT hop) hr'
   · rename_i f
     unfold pZ at hr'
     split at hr'
     · rename_i g caps hf
       split at hr'
       · simp at hr'
       · rename_i k hk
         cases hb:Nat.beq k 1 with
         | false=>rw [hb] at hr'; simp at hr'
         | true =>
           rw [hb] at hr'
           have:=Nat.eq_of_beq_eq_true hb
           subst this
           obtain ⟨vals,h1,h2⟩:=aBP (P:=P) (w:=w) h hop hf
           exact spec' _ (aHG hM h hT hk h1 h2) hr'
     · simp at hr'
   · simp at hr'
 | _=>rw [hop] at hr; simp [opR] at hr
theorem aSB (hT:bC P T) (h:EnvR c w env a.tmps) (hM:Mem n0 c H w) {f:FuncId} {args:List AV} (hr:opR T H env o.op = .call f args) (hf:(eG P f).isSome=true):∃ vals,(execOp a.eval o).run P w = .ok (.enter f vals) w∧gX c w args vals:=by
 have pure' : ∀ r,PureSpec P c w H o a r→r ≠ .call f args:=fun r hp he=>by subst he; exact hp
 have spec' : ∀ r,dX P n0 c w o a r→r ≠ .call f args:=fun r hp he=>by subst he; exact hp
 cases hop:o.op with
 | call cl =>
   rw [hop] at hr
   obtain ⟨cal,ars,ts⟩:=cl
   have hr' : mR T H env cal (ars.toList.map (aD env)) ts.toList = .call f args:=hr
   unfold mR at hr'
   split at hr'
   · exact (spec' _ (aHD hM h hT hop) hr').elim
   · rename_i fo
     unfold pZ at hr'
     split at hr'
     · rename_i g caps hfo
       split at hr'
       · simp only [OpR.call.injEq] at hr'
         obtain ⟨rfl,rfl⟩:=hr'
         obtain ⟨vals,h1,h2⟩:=aBP (P:=P) (w:=w) h hop hfo
         refine ⟨vals,?_,h2⟩
         rw [h1]
         unfold eG at hf
         split at hf
         · rename_i fn hfn
           split at hf
           · rename_i cd hb
             cases hnm : (fn.name == "runtime.NumGoroutine") with
             | true=>rw [hnm] at hf; simp at hf
             | false =>
               have hnm' : fn.name ≠ "runtime.NumGoroutine" := by simpa using hnm
               simp [callFunc,hfn,hnm', hb,Sem.run_bind,Sem.run_pure]
           · simp at hf
         · simp at hf
       · rename_i k hk
         cases hb:Nat.beq k 1 with
         | false=>rw [hb] at hr'; simp at hr'
         | true =>
           rw [hb] at hr'
           have:=Nat.eq_of_beq_eq_true hb
           subst this
           obtain ⟨vals,h1,h2⟩:=aBP (P:=P) (w:=w) h hop hfo
           exact (spec' _ (aHG hM h hT hk h1 h2) hr').elim
     · simp at hr'
   · simp at hr'
 | move y=>rw [hop] at hr; simp [opR,mS] at hr
 | assign y=>rw [hop] at hr; simp [opR,mS] at hr
 | binOp b t y z u=>rw [hop] at hr; exact (pure' _ (aG4 hT h H hM.obj hop) hr).elim
 | unOp b t y=>rw [hop] at hr; exact (pure' _ (s_un h hop) hr).elim
 | convert s d y=>rw [hop] at hr; exact (spec' _ (aGG hM h hT hop) hr).elim
 | indexAddr t y i=>rw [hop] at hr; exact (pure' _ (aHF hM h hT hop) hr).elim
 | index t y i=>rw [hop] at hr; exact (pure' _ (aFO h hT hop) hr).elim
 | load t y=>rw [hop] at hr; exact (pure' _ (aBC hM.obj h hT hop) hr).elim
 | store t y z =>
   rw [hop] at hr
   have hr' : k3 T H t (aD env z) (aD env y) = .call f args:=hr
   have harr:∀ {id e xs n z v},tS H id e xs n z v ≠ .call f args:=by
    intro id e xs n z v hh
    unfold tS at hh
    cases hc:(Nat.blt 0 z && (Nat.beq (cellsOf v).length z && Nat.beq (n * e.size) z)) <;> rw [hc] at hh
    · simp at hh
    · simp only [cond_true] at hh
      split at hh
      · cases hd:(bM (cellsOf v)).contains id <;> rw [hd] at hh <;> simp at hh
      · simp at hh
   unfold k3 tQ tR at hr'
   exfalso
   revert hr'
   repeat' split
   all_goals first
    | exact harr
    | (intro hh; simp at hh; done)
    | (cases hcon:(bM (cellsOf (aD env z))).contains _ <;> intro hh <;> simp at hh)
 | slice t y lo hi mx=>rw [hop] at hr; exact (pure' _ (aHE hM h hT hop) hr).elim
 | field t y f=>rw [hop] at hr; exact (pure' _ (aF5 h hT hop) hr).elim
 | fieldAddr t y f=>rw [hop] at hr; exact (pure' _ (aF3 hM.obj h hT hop) hr).elim
 | alloc t=>rw [hop] at hr; exact (spec' _ (aGU hM h hT hop) hr).elim
 | box t y=>rw [hop] at hr; exact (spec' _ (aGY hM h hop) hr).elim
 | build t ps=>rw [hop] at hr; exact (pure' _ (aGC h hT hop) hr).elim
 | buildSlice t n ps=>rw [hop] at hr; exact (spec' _ (aGM hM h hT hop) hr).elim
 | makeSlice t y z=>rw [hop] at hr; exact (spec' _ (aGI hM h hT hop) hr).elim
 | makeFunc f fs cs=>rw [hop] at hr; exact (pure' _ (aF7 h hop) hr).elim
 | extract y i=>rw [hop] at hr; exact (pure' _ (aFM h hop) hr).elim
 | pick y z u=>rw [hop] at hr; exact (pure' _ (aFL h hop) hr).elim
 | nilCheck y=>rw [hop] at hr; exact (pure' _ (aFN h hop) hr).elim
 | _=>rw [hop] at hr; simp [opR] at hr
theorem nF (hT:bC P T) (n0:Nat):qN P T n0:=⟨fun h hM hr=>op_ok hT h hM hr,fun h hM hr hf=>aSB hT h hM hr hf⟩
end
end
section
theorem aHH (d:Nat):∀ n,gG (iN d) n = .undef:=by
 induction d with
 | zero=>intro n; rfl
 | succ d ih =>
   intro n
   cases n with
   | zero=>rfl
   | succ n =>
     rw [show iN (d+1) = .node .undef (iN d) (iN d) from rfl,iS,ih]
     split <;> rfl
theorem EnvR.lay {c:Ctx} {w:World} {env:Env} {tmps:Array Value} (h:EnvR c w env tmps) (d:Nat) {x:AV} (hx:AVR c w x (tmps.getD d Go.undef)):EnvR c w (c6 env d x) tmps:=by
 have h4:=h.set d hx
 have h5:tmps.setIfInBounds d (tmps.getD d Go.undef)=tmps:=by
  apply Array.ext (by simp)
  intro i h1 h2
  rw [Array.getElem_setIfInBounds h2]
  split
  · rename_i he
    subst he
    simp [Array.getD,h2]
  · rfl
 rw [h5] at h4
 exact h4
theorem aHI {c:Ctx} {w:World} {tmps:Array Value}:∀ (l:List AV) (env:Env) (k:Nat),EnvR c w env tmps→(∀ (j:Nat) (x:AV),l[j]? = some x→AVR c w x (tmps.getD (k+j) Go.undef))→EnvR c w (aA7 l env k) tmps
 | [],_,_,h,_=>h
 | x :: l,env,k,h,hl=>by
   show EnvR c w (aA7 l (c6 env k x) (k+1)) tmps
   refine aHI l _ _ (h.lay k (hl 0 x rfl)) fun j y hy=>?_
   have:=hl (j+1) y hy
   rwa [show k+(j+1)=k+1+j by omega] at this
theorem aBQ {c:Ctx} {w:World} {n:Nat} {args:List AV} {vals:Array Value} (h:gX c w args vals) (hn:args.length≤n):EnvR c w (aP n args) (vals ++ Array.replicate (n - vals.size) undef):=by
 have hs:=h.1
 refine aHI args _ 0 ⟨?_,fun i=>?_⟩ fun j x hx=>?_
 · simp; omega
 · show AVR c w (c5 ⟨n,iN _⟩ i) _
   unfold c5
   cases Nat.blt i (Env.lim ⟨n,iN (bif Nat.blt n 62 then 6 else bif Nat.blt n 126 then 7 else bif Nat.blt n 254 then 8 else 11)⟩) with
   | false=>exact .undef _
   | true =>
     simp only [cond_true]
     rw [aHH]
     exact .undef _
 · have hj:j<vals.size:=by
    rw [hs]
    by_cases hj:j<args.length
    · exact hj
    · rw [List.getElem?_eq_none (by omega)] at hx; simp at hx
   have:=h.2 j x hx
   rw [Nat.zero_add]
   simpa [Array.getD_eq_getD_getElem?, Array.getElem?_append_left hj] using this
section
variable {P:Program} {T:Tab} {n0:Nat}
theorem lD {g:FuncId} {gn:FnT} (h:eG P g=some gn):∃ fn,P.funcs[g]? = some fn∧fn.body=some gn.body∧gn.n=fn.ntmps∧gn.res=fn.results.toList:=by
 unfold eG at h
 split at h
 · rename_i fn hf
   split at h
   · rename_i cd hb
     cases hn : (fn.name == "runtime.NumGoroutine") with
     | true=>rw [hn] at h; simp at h
     | false =>
       rw [hn] at h
       simp only [cond_false,Option.some.injEq] at h
       subst h
       exact ⟨fn,hf,hb,rfl,rfl⟩
   · simp at h
 · simp at h
theorem aHJ {g:FuncId} {gn:FnT} (hg:eG P g=some gn) {args:List AV} {H:List aA} {K:AV→List aA→Prop} (hn:args.length≤gn.n) (h:GoodAt P n0 g K [.code gn.body] ⟨aP gn.n args,H⟩):CallOk P n0 g args H K:=by
 refine ⟨by rw [hg]; rfl,fun c w vals ha hm cs=>?_⟩
 obtain ⟨fn,hf,hb,h1,h2⟩:=lD hg
 have henter:Frame.enter P g vals .normal=({ (default:Frame) with fn:=g,kind := .normal }:Frame).at { tmps:=vals ++ Array.replicate (gn.n - vals.size) undef,defers:=[] } [.code gn.body]:=by
  simp [Frame.enter,Frame.at,hf,hb,h1]
 obtain ⟨v,w', fr,hE,hs,hfn,hl⟩:=h c w { tmps:=vals ++ Array.replicate (gn.n - vals.size) undef,defers:=[] } cs ⟨aBQ ha hn,hm,rfl⟩
 refine ⟨.returned v,w', fr,⟨v,rfl,hE⟩,?_,hfn,hl⟩
 rw [henter]
 exact hs
theorem CallOk.mono {g:FuncId} {args:List AV} {H:List aA} {K K' : AV→List aA→Prop} (h:CallOk P n0 g args H K) (hk:∀ v H', K v H' → K' v H'):CallOk P n0 g args H K' :=
 ⟨h.1,fun c w vals ha hm=>(h.2 c w vals ha hm).mono fun e w' ⟨v,he,hE⟩=>⟨v,he,hE.mono hk⟩⟩
theorem qQ {α:Type} {f:α→α→Bool} (hf:∀ x y,f x y=true→x=y):∀ {l r:List α},eqL f l r=true→l=r
 | [],[],_=>rfl
 | [],_ :: _,h=>by simp [eqL] at h
 | _ :: _,[],h=>by simp [eqL] at h
 | x :: l,y :: r,h=>by
   simp only [eqL] at h
   cases hb:f x y with
   | false=>rw [hb] at h; simp at h
   | true =>
     rw [hb] at h
     rw [hf x y hb,qQ hf (l:=l) (r:=r) h]
theorem aSC {a b:Int} (h:t6 a b=true):a=b:=of_decide_eq_true h
theorem aSD {a b:Bool} (h:mX a b=true):a=b:=eq_of_beq h
theorem aHK {a b:ByteArray} (h:t7 a b=true):a=b:=by
 simp only [t7,decide_eq_true_eq] at h
 apply ByteArray.ext
 exact Array.ext' h
mutual
theorem aHL : ∀ {t:CTy} {a b:t.D},eqC t a b=true→a=b
 | .int _,a,b,h=>by
   have h' : t6 a b=true:=by simpa only [eqC] using h
   exact aSC h'
 | .bool,a,b,h=>by
   have h' : mX a b=true:=by simpa only [eqC] using h
   exact aSD h'
 | .str,a,b,h=>aHK (by simpa only [eqC] using h)
 | .slice e,a,b,h=>qQ (fun x y hxy=>aBR (e:=e) hxy) (by simpa only [eqC] using h)
theorem aBR : ∀ {e:ETy} {a b:e.D},eqE e a b=true→a=b
 | .one t,a,b,h=>aHL (t:=t) (by simpa only [eqE] using h)
 | .more t e,a,b,h=>by
   simp only [eqE] at h
   cases hb:eqC t a.1 b.1 with
   | false=>rw [hb] at h; simp at h
   | true =>
     rw [hb] at h
     exact Prod.ext (aHL hb) (aBR (e:=e) h)
end
theorem aHM {e e' : ETy} {l:List e.D} {r:List e'.D} (h:t8 e l (fL e e' r)=true):∃ he:e' = e,l=he ▸ r:=by
 unfold t8 at h
 split at h
 · rename_i q hq
   obtain ⟨he,hr⟩:=iT hq
   exact ⟨he,(qQ (fun x y hxy=>aBR hxy) h).trans hr⟩
 · simp at h
theorem aHN {x y:AV} (h:mY x y=true):x=y:=by
 cases x <;> cases y <;> simp only [mY,Bool.false_eq_true] at h
 · rfl
 · rename_i k n k' n'
   cases hb:decide (k=k') with
   | false=>rw [hb] at h; simp at h
   | true =>
     rw [hb] at h
     have h1:=of_decide_eq_true hb
     have h2:n=n' := of_decide_eq_true h
     rw [h1,h2]
 · have:=eq_of_beq h
   rw [this]
 · rw [aHK h]
 · obtain ⟨he,hl⟩:=aHM h
   subst he
   subst hl
   rfl
 · rw [Nat.eq_of_beq_eq_true h]
 · rename_i i o n j p m
   cases hb:Nat.beq i j with
   | false=>rw [hb] at h; simp at h
   | true =>
     rw [hb] at h
     cases hc:Nat.beq o p with
     | false=>rw [hc] at h; simp at h
     | true =>
       rw [hc] at h
       rw [Nat.eq_of_beq_eq_true hb,Nat.eq_of_beq_eq_true hc,Nat.eq_of_beq_eq_true h]
 · rfl
 · rename_i i o j p
   cases hb:Nat.beq i j with
   | false=>rw [hb] at h; simp at h
   | true =>
     rw [hb] at h
     rw [Nat.eq_of_beq_eq_true hb,Nat.eq_of_beq_eq_true h]
 · rw [Nat.eq_of_beq_eq_true h]
 · rfl
theorem aSE {x y:aA} (h:mZ x y=true):x ≠ .dead→y=x:=by
 intro hx
 cases x with
 | dead=>exact absurd rfl hx
 | typed e l f =>
   cases y <;> simp only [mZ,Bool.false_eq_true] at h
   rename_i e' l' f'
   cases hb:mX f f' with
   | false=>rw [hb] at h; simp at h
   | true =>
     rw [hb] at h
     have h1:f=f' := eq_of_beq hb
     obtain ⟨he,hl⟩:=aHM h
     subst he
     subst hl
     rw [h1]
 | box cs =>
   cases y <;> simp only [mZ,Bool.false_eq_true] at h
   rw [qQ (fun x y hxy=>aHN hxy) h]
theorem aHO : ∀ {H H' : List aA},m6 H H' = true→gY H H'
 | [],H', _,id,hid=>absurd rfl hid
 | x :: H,[],h,id,hid=>by simp [m6] at h
 | x :: H,y :: H', h,id,hid=>by
   have h' : (bif mZ x y then m6 H H' else false)=true:=h
   cases hb:mZ x y with
   | false=>rw [hb] at h'; simp at h'
   | true =>
     rw [hb] at h'
     cases id with
     | zero=>exact aSE hb hid
     | succ n=>exact aHO (H:=H) (H' := H') h' n hid
theorem aSF {H:List aA} {keep:Bool} {K:AV→List aA→Prop} {v:AV} {H' : List aA} (h:aFG H keep K v H'):uK H keep K v H' := by
 cases keep with
 | false=>exact ⟨fun h=>by simp at h,h⟩
 | true =>
   have h' : (bif m6 H H' then K v H' else False):=h
   cases hb:m6 H H' with
   | false=>rw [hb] at h'; exact h'.elim
   | true=>rw [hb] at h'; exact ⟨fun _=>aHO hb,h'⟩
def aSG (P:Program) (T:Tab) (n0:Nat) (callK:cC):Prop :=
 ∀ ops:List Oper,mW ops=true→∀ (c0:Ctx) (w0:World) (st:St) (a:Act) (X:St→Prop) (id:Nat),StR n0 c0 w0 st a→t0 T callK ops X st.env st.H→(Code.region id ops.toArray true).wp P (lC n0 c0 w0 X) a w0
theorem aHP (hT:bC P T) {go:FnT→List Item→St→(AV→List aA→Prop)→Prop} (hgo:∀ g gn,eG P g=some gn→∀ todo st K,go gn todo st K→GoodAt P n0 g K todo st) :
 eK P n0 (qF T go):=by
 intro g args H keep K h
 unfold qF at h
 split at h
 · rename_i gn hg
   have hg' := hT.fn _ _ hg
   cases hb:Nat.ble args.length gn.n with
   | false=>rw [hb] at h; exact h.elim
   | true =>
     rw [hb] at h
     exact (aHJ hg' ((eH _ _).1 hb) (hgo g gn hg' _ _ _ h)).mono fun v H' hk=>aSF hk
 · exact h.elim
end
end
end Go.Proofs.YtehakimmioclkaaGreatDoor.Mach
end
section
set_option linter.unusedSectionVars false
set_option linter.unusedSimpArgs false
set_option linter.unusedVariables false
namespace Go.Proofs.YtehakimmioclkaaGreatDoor.Mach
open Go
section
def Sim (H H' : List aA) (r r' : OpR):Prop:=r = .fail∨∃ g x,r = .ok g x H∧r' = .ok g x H'
theorem bT {H H' : List aA} (g:Bool) (x:AV):Sim H H' (.ok g x H) (.ok g x H') := .inr ⟨g,x,rfl,rfl⟩
theorem bA {H H' : List aA} {r:OpR}:Sim H H' .fail r := .inl rfl
def uM (p:Nat→Prop) (tgt:AV) (H H' : List aA):Prop:=∀ id,p id→(∀ e (xs:List (ETy.D e)) fz,aF H id = .typed e xs fz→∃ xs' fz', aF H' id = .typed e xs' fz' ∧ xs'.length=xs.length∧((∀ j i o,tgt ≠ .elt j i o)→xs' = xs)) ∧
 ∀ cs,aF H id = .box cs→(∀ o,tgt ≠ .ptr id o)→aF H' id = .box cs
def WAg (tgt:AV) (H H' : List aA):Prop:=uM (fun _=>True) tgt H H'
section
variable {p:Nat→Prop} {tgt:AV} {H H' : List aA} (ha:uM p tgt H H')
include ha
theorem lE {id:Nat} (hp:p id) {e:ETy} {xs:List e.D} {fz:Bool} (h:aF H id = .typed e xs fz):∃ xs' fz', aF H' id = .typed e xs' fz' ∧ xs'.length=xs.length∧((∀ j i o,tgt ≠ .elt j i o)→xs' = xs):=(ha id hp).1 e xs fz h
theorem aBS {x:AV} {n:Nat} (hx:∀ id,gK id x=true→p id) (h:lenOf H x=some n):lenOf H' x=some n:=by
 cases x <;> simp only [lenOf] at h ⊢ <;> try exact h
 all_goals
  split at h
  · rename_i ho
    obtain ⟨xs', fz', h1,h2,_⟩:=lE ha (hx _ (Nat.beq_refl _)) ho
    rw [h1]
    simp only
    rw [h2]; exact h
  · simp at h
theorem nG {z:Nat} {x:AV} (hx:∀ id,gK id x=true→p id) (h:cS H z x=true):cS H' z x=true:=by
 cases x <;> simp only [cS] at h ⊢ <;> try exact h
 all_goals
  split at h
  · rename_i ho
    obtain ⟨xs', fz', h1,_⟩:=lE ha (hx _ (Nat.beq_refl _)) ho
    rw [h1]; exact h
  · simp at h
omit ha in
theorem uN {x:Option AV}:Sim H H' (okV H x) (okV H' x):=by
 cases x with
 | none=>exact bA
 | some y=>exact bT _ _
theorem aSH (kd:fT) (op:BinOp) (x y:AV) (hx:∀ id,gK id x=true→p id):Sim H H' (mC kd H op x y) (mC kd H' op x y):=by
 have nil:Sim H H' (pN kd H op x y) (pN kd H' op x y):=by
  unfold pN
  split
  · cases jD x with
    | false=>exact bA
    | true =>
      simp only [cond_true]
      cases hn:lenOf H x with
      | none=>exact bA
      | some n =>
        rw [aBS ha hx hn]
        simp only
        repeat' split
        all_goals first | exact bA | exact bT _ _
  · exact bA
 have raw0:∀ b,Sim H H' (pM kd H op b) (pM kd H' op b):=by
  intro b
  unfold pM
  repeat' split
  all_goals first | exact bA | exact bT _ _
 unfold mC
 repeat' split
 all_goals first | exact bA | exact bT _ _ | exact raw0 _ | exact nil
omit ha in
theorem aSI (op:UnOp) (x:AV):Sim H H' (unR H op x) (unR H' op x):=by
 unfold unR
 split <;> first | exact bA | exact bT _ _
omit ha in
theorem aSJ (T:Tab) (s d:TypeId) (x:AV) (hx:aAZ x=true):Sim H H' (gU T H s d x) (gU T H' s d x):=by
 unfold gU
 split
 · rename_i y hy
   cases y.okay with
   | false=>exact bA
   | true =>
     simp only [cond_true]
     unfold pT
     cases x <;> simp only [aAZ,Bool.false_eq_true] at hx
     · split <;> first | exact bA | exact bT _ _ | (split <;> first | exact bA | exact bT _ _)
     · split <;> first | exact bA | exact bT _ _ | (split <;> first | exact bA | exact bT _ _)
 · exact bA
theorem aHQ (x:AV) (i:Int) (hx:∀ id,gK id x=true→p id):Sim H H' (k4 H x i) (k4 H' x i):=by
 unfold k4
 split
 · exact bT _ _
 · split
   · rename_i ho
     obtain ⟨xs', fz', h1,h2,_⟩:=lE ha (hx _ (Nat.beq_refl _)) ho
     rw [h1]
     simp only
     rw [h2]; exact bT _ _
   · exact bA
 · exact bT _ _
 · exact bA
theorem aSK (al:Nat) (x:AV) (i:Int) (hx:∀ id,gK id x=true→p id):Sim H H' (mH al H x i) (mH al H' x i):=by
 unfold mH
 split
 · split
   · rename_i ho
     obtain ⟨xs', fz', h1,h2,_⟩:=lE ha (hx _ (Nat.beq_refl _)) ho
     rw [h1]
     simp only
     rw [h2]; exact bT _ _
   · exact bA
 · exact bT _ _
 · exact bA
omit ha in
theorem nH {b b' : Bool} {r r' : OpR} (hb:b=true→b' = true) (h:Sim H H' r r'):Sim H H' (bif b then r else .fail) (bif b' then r' else .fail):=by
 cases b with
 | false=>exact bA
 | true=>rw [hb rfl]; exact h
theorem aSL (kd:fT) (z al:Nat) (x i:AV) (hx:∀ id,gK id x=true→p id):Sim H H' (mI kd z al H x i) (mI kd z al H' x i):=by
 unfold mI
 split
 · split
   · exact nH (nG ha hx) (aHQ ha _ _ hx)
   · exact nH (nG ha hx) (aHQ ha _ _ hx)
   · exact nH (nG ha hx) (aSK ha _ _ _ hx)
   · exact bA
 · exact bA
theorem aSM (T:Tab) (t:TypeId) (x:AV) (hr:∀ id,gK id x=true→p id) (hx:qB tgt x=false):Sim H H' (iP T H t x) (iP T H' t x):=by
 unfold iP
 split
 · rename_i id off
   split
   · rename_i cs ho
     have:aF H' id = .box cs:=(ha id (hr _ (Nat.beq_refl _))).2 cs ho fun o he=>by
        rw [he] at hx
        simp [qB,Nat.beq_refl] at hx
     rw [this]; exact uN
   · exact bA
 · rename_i id i off
   split
   · rename_i ho
     obtain ⟨xs', fz', h1,_,h3⟩:=lE ha (hr _ (Nat.beq_refl _)) ho
     have:=h3 fun j i' o' he=>by rw [he] at hx; simp [qB] at hx
     subst this
     rw [h1]; exact uN
   · exact bA
 · exact uN
 · rename_i id
   split
   · rename_i ho
     obtain ⟨xs', fz', h1,_,h3⟩:=lE ha (hr _ (Nat.beq_refl _)) ho
     have:=h3 fun j i' o' he=>by rw [he] at hx; simp [qB] at hx
     subst this
     rw [h1]
     show Sim H H' (kZ T H _ _ _) (kZ T H' _ _ _)
     unfold kZ
     split
     · exact bT _ _
     · exact bA
   · exact bA
 · exact bA
theorem aSN (T:Tab) (t:TypeId) (env:Env) (x:Operand) (lo hi mx:Option Operand) (hx:∀ id,gK id (aD env x)=true→p id):Sim H H' (k7 T t H env x lo hi mx) (k7 T t H' env x lo hi mx):=by
 unfold k7
 split
 · unfold aAK
   split
   · exact bA
   · rename_i n hn
     rw [aBS ha hx hn]
     simp only
     split
     · unfold aAJ
       have hcut:∀ l h:Int,Sim H H' (kW H n l h (aD env x)) (kW H' n l h (aD env x)):=by
        intro l h
        unfold kW
        split <;> first | exact bA | exact bT _ _
       split
       · unfold tL
         split <;> first | exact bA | exact bT _ _
       · exact nH (nG ha hx) (hcut _ _)
       · exact nH (nG ha hx) (hcut _ _)
       · refine nH (nG ha hx) ?_
         unfold tM
         split <;> first | exact bA | exact bT _ _
       · exact bA
     · exact bA
 · exact bA
theorem aSO (T:Tab) (t:TypeId) (x:AV) (f:Nat) (hx:∀ id,gK id x=true→p id):Sim H H' (mM T H t x f) (mM T H' t x f):=by
 unfold mM
 split
 · exact bT _ _
 · split
   · rename_i ho
     obtain ⟨xs', fz', h1,_⟩:=lE ha (hx _ (Nat.beq_refl _)) ho
     rw [h1]; exact bT _ _
   · exact bA
 · exact bT _ _
 · exact bA
omit ha in
theorem aSP (T:Tab) (t:TypeId) (x:AV) (f:Nat):Sim H H' (mL T H t x f) (mL T H' t x f):=by
 unfold mL
 split <;> first | exact bA | exact uN
omit ha in
theorem aSQ (T:Tab) (t:TypeId) (ps:List (Nat × AV)):Sim H H' (mJ T H t ps) (mJ T H' t ps):=by
 unfold mJ
 split
 · rename_i x hx
   have hb:∀ fs,Sim H H' (jH T H x fs ps) (jH T H' x fs ps):=fun fs=>by
    unfold jH
    repeat' split
    all_goals first | exact bA | exact bT _ _
   cases x.fok with
   | false =>
     simp only [cond_false]
     cases x.aok with
     | false=>exact bA
     | true=>exact hb _
   | true=>exact hb _
 · exact bA
theorem aSR (kd:fT) (x:AV) (hx:∀ id,gK id x=true→p id):Sim H H' (jW kd H x) (jW kd H' x):=by
 have row:Sim H H' (kY H x) (kY H' x):=by
  unfold kY
  cases jD x with
  | false=>exact bA
  | true =>
    simp only [cond_true]
    split
    · rename_i n hn
      rw [aBS ha hx hn]
      exact bT _ _
    · exact bA
 unfold jW
 split
 · unfold aAO
   split <;> first | exact bA | exact bT _ _
 · exact row
 · exact row
 · exact bA
omit ha in
theorem aSS (c x y:AV):Sim H H' (mO H c x y) (mO H' c x y):=by
 unfold mO
 split
 · rename_i t
   split
   · exact bT _ _
   · split <;> first | exact bA | exact bT _ _
   · cases t <;> exact bT _ _
 · exact bA
theorem aHR (T:Tab) (env:Env) {op:Op} (hs:fM op=true) (ht:iR tgt env op=false) (hp:∀ y∈op.operands,∀ id,gK id (aD env y)=true→p id):Sim H H' (opR T H env op) (opR T H' env op):=by
 cases op <;> simp only [fM,Bool.false_eq_true] at hs
 case move y=>exact bT _ _
 case assign y=>exact bT _ _
 case binOp op t x y u =>
  show Sim H H' (mE T t H op (aD env x) (aD env y)) (mE T t H' op (aD env x) (aD env y))
  unfold mE
  split
  · split
    · split
      · unfold aAL
        repeat' split
        all_goals first | exact bA | exact bT _ _
      · exact bA
    · exact bA
  · exact aSH ha _ _ _ _ (hp _ (by simp [Op.operands]))
 case unOp=>exact aSI _ _
 case convert=>exact aSJ _ _ _ _ (by simpa [iR] using ht)
 case indexAddr=>exact aSL ha _ _ _ _ _ (hp _ (by simp [Op.operands]))
 case index =>
  show Sim H H' (mK _ H _ _) (mK _ H' _ _)
  unfold mK
  split <;> first | exact bA | exact bT _ _
 case load=>exact aSM ha _ _ _ (hp _ (by simp [Op.operands])) ht
 case slice=>exact aSN ha _ _ _ _ _ _ _ (hp _ (by simp [Op.operands]))
 case field=>exact aSP _ _ _ _
 case fieldAddr=>exact aSO ha _ _ _ _ (hp _ (by simp [Op.operands]))
 case build=>exact aSQ _ _ _
 case makeFunc =>
  show Sim H H' (k6 H _ _ _ _) (k6 H' _ _ _ _)
  unfold k6
  split <;> first | exact bA | exact bT _ _
 case extract =>
  show Sim H H' (mQ H _ _) (mQ H' _ _)
  unfold mQ
  split <;> first | exact bA | exact bT _ _
 case pick=>exact aSS _ _ _
 case nilCheck =>
  show Sim H H' (mP H _) (mP H' _)
  unfold mP
  split <;> first | exact bA | exact bT _ _
 case call cl =>
  obtain ⟨cal,args,ts⟩:=cl
  split at hs
  · rename_i hc
    simp only at hc
    subst hc
    show Sim H H' (match ts.toList with | t :: _=>mF (jW (T.kind t) H) (args.toList.map (aD env)) | [] => .fail) (match ts.toList with | t :: _=>mF (jW (T.kind t) H') (args.toList.map (aD env)) | [] => .fail)
    have hp' : ∀ y∈args.toList,∀ id,gK id (aD env y)=true→p id:=fun y hy=>hp y (by
        simp only [Op.operands,Call.operands] at hy ⊢
        simpa using hy)
    clear hp
    cases ts.toList with
    | nil=>exact bA
    | cons t r =>
      simp only
      revert hp'
      cases args.toList with
      | nil=>intro _; exact bA
      | cons x q =>
        intro hp'
        cases q with
        | nil=>exact aSR ha _ _ (hp' x (by simp))
        | cons y q=>exact bA
  · simp at hs
end
theorem qR {tgt:AV} {H H' : List aA} (ha:WAg tgt H H') (T:Tab) (env:Env) {op:Op} (hs:fM op=true) (ht:iR tgt env op=false):Sim H H' (opR T H env op) (opR T H' env op):=aHR ha T env hs ht fun _ _ _ _=>trivial
theorem aHS (T:Tab) {H:List aA} (env:Env) {op:Op} (hs:fM op=true):opR T H env op = .fail∨∃ g x,opR T H env op = .ok g x H:=by
 have conv:∀ s d x,gU T H s d x = .fail∨∃ g y,gU T H s d x = .ok g y H:=by
  intro s d x
  unfold gU
  split
  · rename_i y _
    cases y.okay with
    | false=>exact .inl rfl
    | true =>
      simp only [cond_true]
      unfold pT
      repeat' split
      all_goals first | exact .inl rfl | exact .inr ⟨_,_,rfl⟩
  · exact .inl rfl
 have load:∀ t x,iP T H t x = .fail∨∃ g y,iP T H t x = .ok g y H:=by
  intro t x
  have h1:∀ o:Option AV,okV H o = .fail∨∃ g y,okV H o = .ok g y H:=fun o=>by
   cases o with
   | none=>exact .inl rfl
   | some y=>exact .inr ⟨_,_,rfl⟩
  unfold iP kZ
  repeat' split
  all_goals first | exact .inl rfl | exact h1 _ | exact .inr ⟨_,_,rfl⟩
 have wag:WAg .undef H H:=fun id _=>⟨fun e xs fz h=>⟨xs,fz,h,rfl,fun _=>rfl⟩,fun cs h _=>h⟩
 by_cases ht:iR .undef env op=false
 · rcases qR wag T env hs ht with h | ⟨g,x,h,_⟩
   · exact .inl h
   · exact .inr ⟨g,x,h⟩
 · cases op <;> first
    | exact (ht rfl).elim
    | exact conv _ _ _
theorem WAg.of_agree {H H' : List aA} (h:gY H H'):WAg .undef H H' := fun id _=>⟨fun e xs fz ho=>⟨xs,fz,by rw [h id (by rw [ho]; simp),ho],rfl,fun _=>rfl⟩,fun cs ho _=>by rw [h id (by rw [ho]; simp),ho]⟩
theorem aST {H H' : List aA} (ha:gY H H') (T:Tab) (env:Env) {op:Op} (hs:fM op=true):Sim H H' (opR T H env op) (opR T H' env op):=by
 by_cases ht:iR .undef env op=false
 · exact qR (WAg.of_agree ha) T env hs ht
 · cases op <;> first
    | exact (ht rfl).elim
    | skip
   rename_i s d x
   show Sim H H' (gU T H s d (aD env x)) (gU T H' s d (aD env x))
   have row:∀ {e:ETy} {l:List e.D},fS H e (aD env x)=some l→fS H' e (aD env x)=some l:=by
    intro e l h
    generalize aD env x=X at *
    cases X <;> simp only [fS] at h ⊢ <;> try exact h
    all_goals
        split at h
        · rename_i ho
          rw [ha _ (by rw [ho]; simp),ho]; exact h
        · simp at h
   unfold gU
   split
   · rename_i y hy
     cases y.okay with
     | false=>exact bA
     | true =>
       simp only [cond_true]
       unfold pT
       split
       · split <;> first | exact bA | exact bT _ _
       · split
         · exact bT _ _
         · exact bT _ _
         · split
           · split
             · rename_i l hl
               rw [row hl]
               exact bT _ _
             · exact bA
           · exact bA
       · split <;> first | exact bA | exact bT _ _
       · exact bA
   · exact bA
theorem aSU {H:List aA} {id k:Nat} {e:ETy} {xs:List e.D} {fz:Bool} (h:aF H k = .typed e xs fz):∃ fz', aF (freeze1 H id) k = .typed e xs fz' := by
 by_cases hk:k=id
 · subst hk
   unfold freeze1
   rw [h]
   simp only
   have hlt:=cU (H:=H) (id:=k) (by rw [h]; simp)
   rw [eJ,if_pos ⟨rfl,hlt⟩]
   exact ⟨true,rfl⟩
 · rw [nB H id k hk]; exact ⟨fz,h⟩
theorem aSV {H:List aA} {id k:Nat} {cs:List AV} (h:aF H k = .box cs):aF (freeze1 H id) k = .box cs:=by
 by_cases hk:k=id
 · subst hk
   unfold freeze1
   rw [h]
   exact h
 · rw [nB H id k hk]; exact h
theorem aBT : ∀ (l:List Nat) {H:List aA} {k:Nat} {e:ETy} {xs:List e.D} {fz:Bool},aF H k = .typed e xs fz→∃ fz', aF (freezeAt H l) k = .typed e xs fz'
 | [],_,_,_,_,fz,h=>⟨fz,h⟩
 | id :: l,H,k,e,xs,fz,h=>by
   obtain ⟨fz', h'⟩:=aSU (id:=id) h
   exact aBT l h'
theorem aBU : ∀ (l:List Nat) {H:List aA} {k:Nat} {cs:List AV},aF H k = .box cs→aF (freezeAt H l) k = .box cs
 | [],_,_,_,h=>h
 | id :: l,_,_,_,h=>aBU l (aSV h)
theorem aSW {T:Tab} {H:List aA} {t:TypeId} {v tgt x:AV} {g:Bool} {H' : List aA} (hp:tX tgt=false) (h:k3 T H t v tgt = .ok g x H'):WAg tgt H H' := by
 unfold k3 at h
 split at h
 · rename_i id off
   split at h
   · rename_i cs ho
     unfold tQ at h
     split at h
     · simp only [OpR.ok.injEq] at h
       obtain ⟨_,_,rfl⟩:=h
       intro k _
       refine ⟨fun e xs fz hk=>⟨xs,fz,?_,rfl,fun _=>rfl⟩,fun ds hk hne=>?_⟩
       · rw [eJ,if_neg (fun hh=>by rw [hh.1,ho] at hk; simp at hk)]; exact hk
       · rw [eJ,if_neg (fun hh=>hne off (by rw [hh.1]))]; exact hk
     · simp at h
   · simp at h
 · rename_i id i off
   split at h
   · rename_i e xs ho
     unfold tR at h
     split at h
     · split at h
       · rename_i q hq
         cases hc:(bM (cellsOf v)).contains id with
         | true=>rw [hc] at h; simp at h
         | false =>
           rw [hc] at h
           simp only [cond_false,OpR.ok.injEq] at h
           obtain ⟨_,_,rfl⟩:=h
           intro k _
           refine ⟨fun e' xs' fz hk=>?_,fun ds hk _=>?_⟩
           · rw [eJ]
             split
             · rename_i hh
               rw [hh.1,ho] at hk
               simp only [aA.typed.injEq] at hk
               obtain ⟨rfl,hxs,_⟩:=hk
               have:=eq_of_heq hxs
               subst this
               exact ⟨_,false,rfl,by simp,fun hne=>absurd rfl (hne id i off)⟩
             · obtain ⟨fz', h'⟩:=aBT (bM (cellsOf v)) hk
               exact ⟨xs', fz', h', rfl,fun _=>rfl⟩
           · rw [eJ]
             split
             · rename_i hh
               rw [hh.1,ho] at hk; simp at hk
             · exact aBU _ hk
       · simp at h
     · simp at h
   · simp at h
 · simp [tX] at hp
 · simp at h
theorem aBV (H:List aA):gY H H:=fun _ _=>rfl
theorem fN (H l:List aA):gY H (H ++ l):=fun id hid=>by
 have hlt:=cU hid
 rw [fF,fF,List.getElem?_append_left hlt]
theorem aSX {T:Tab} {H:List aA} {env:Env} {op:Op} (hs:jI op=true) {g:Bool} {x:AV} {H' : List aA} (h:opR T H env op = .ok g x H'):WAg .undef H H' := by
 cases op <;> simp only [jI,Bool.false_eq_true] at hs
 rename_i t n parts
 have h' : pW T H t n (d9 env parts) = .ok g x H' := h
 unfold pW aAU at h'
 split at h'
 · split at h'
   · simp only [OpR.ok.injEq] at h'
     obtain ⟨_,_,rfl⟩:=h'
     intro id _
     refine ⟨fun e xs fz ho=>?_,fun cs ho _=>?_⟩
     · obtain ⟨fz', h1⟩:=aBT (jX (d9 env parts)) ho
       exact ⟨xs,fz', (fN _ _ id (by rw [h1]; simp)).trans h1,rfl,fun _=>rfl⟩
     · have h1:=aBU (jX (d9 env parts)) ho
       exact (fN _ _ id (by rw [h1]; simp)).trans h1
   · simp at h'
 · simp at h'
theorem aSY {T:Tab} {H:List aA} {env:Env} {op:Op} {a:Operand} (hs:fE op=some a) {g:Bool} {x:AV} {H' : List aA} (h:opR T H env op = .ok g x H'):uM (fun k=>∀ id,tY (aD env a)=some id→k≠id) .undef H H' := by
 have base:∀ (o:Option Nat) (l:List aA),(∀ id,o=some id→tY (aD env a)=some id)→uM (fun k=>∀ id,tY (aD env a)=some id→k≠id) .undef H (jF H o ++ l):=by
  intro o l ho k hk
  have e:aF H k ≠ .dead→aF (jF H o ++ l) k=aF H k:=fun hne=>by
   have h1:aF (jF H o) k=aF H k:=by
        cases o with
        | none=>rfl
        | some id =>
          show aF (c7 H id .dead) k=_
          rw [eJ,if_neg (fun hh=>hk id (ho id rfl) hh.1)]
   rw [fN (jF H o) l k (by rw [h1]; exact hne),h1]
  exact ⟨fun e' xs fz hx=>⟨xs,fz,by rw [e (by rw [hx]; simp),hx],rfl,fun _=>rfl⟩,fun cs hx _=>by rw [e (by rw [hx]; simp),hx]⟩
 cases op <;> simp only [fE] at hs <;> try (exact absurd hs (by simp))
 rename_i cl
 obtain ⟨cal,args,ts⟩:=cl
 simp only at hs
 split at hs
 · rename_i bi hc
   split at hs
   · split at hs
     · rename_i a' r hargs
       simp only [Option.some.injEq] at hs
       subst hs
       have h' : pP T H .append ts.toList (args.toList.map (aD env)) = .ok g x H' := h
       rw [hargs] at h'
       unfold pP at h'
       simp only at h'
       generalize ts.toList=l at h'
       rcases l with _ | ⟨t,_ | ⟨u,_ | ⟨w,q⟩⟩⟩
       · simp at h'
       · simp at h'
       · simp only at h'
         cases hb:Nat.beq t u with
         | false=>rw [hb] at h'; simp at h'
         | true =>
           rw [hb] at h'
           simp only [cond_true,List.map_cons] at h'
           unfold two at h'
           simp only at h'
           split at h'
           · split at h'
             · unfold tN at h'
               split at h'
               · split at h'
                 · unfold aAN at h'
                   split at h'
                   · unfold kX at h'
                     simp only [OpR.ok.injEq] at h'
                     rw [← h'.2.2]
                     exact base none _ fun id hid=>by simp at hid
                   · rename_i hv
                     split at h'
                     · split at h'
                       · unfold kX at h'
                         simp only [OpR.ok.injEq] at h'
                         rw [← h'.2.2]
                         exact base (some _) _ fun id hid=>by simp only [Option.some.injEq] at hid; subst hid; rw [hv]; rfl
                       · simp at h'
                     · simp at h'
                   · rename_i id off n hv
                     cases hb2:Nat.beq off 0 with
                     | false=>rw [hb2] at h'; simp at h'
                     | true =>
                       rw [hb2] at h'
                       simp only [cond_true] at h'
                       split at h'
                       · split at h'
                         · unfold kX at h'
                           simp only [OpR.ok.injEq] at h'
                           rw [← h'.2.2]
                           exact base (some _) _ fun id hid=>by simp only [Option.some.injEq] at hid; subst hid; rw [hv]; rfl
                         · simp at h'
                       · simp at h'
                   · simp at h'
                 · simp at h'
               · simp at h'
             · simp at h'
           · simp at h'
       · simp at h'
     · simp at hs
   · simp at hs
 · simp at hs
theorem aSZ {T:Tab} {H:List aA} {env:Env} {op:Op} (hs:iQ op=true) {g:Bool} {x:AV} {H' : List aA} (h:opR T H env op = .ok g x H'):gY H H' := by
 cases op <;> simp only [iQ,Bool.false_eq_true] at hs
 case alloc t =>
  have h' : pU T H t = .ok g x H' := h
  unfold pU aAT at h'
  split at h'
  · rename_i y hy
    have base:mN H y = .ok g x H' → gY H H' := fun h' => by
        unfold mN at h'
        split at h'
        · simp only [OpR.ok.injEq] at h'
          rw [← h'.2.2]; exact fN _ _
        · simp at h'
    split at h'
    · rename_i p hp
      cases hre:aAR p.2 with
      | true=>rw [hre] at h'; exact base h'
      | false =>
      rw [hre] at h'
      simp only [cond_false] at h'
      cases hz:y.ezok with
      | false=>rw [hz] at h'; simp at h'
      | true =>
        rw [hz] at h'
        simp only [cond_true,OpR.ok.injEq] at h'
        rw [← h'.2.2]; exact fN _ _
    · exact base h'
  · simp at h'
 case box t y =>
  have h' : pV T H t (aD env y) = .ok g x H' := h
  unfold pV k5 at h'
  split at h'
  · split at h'
    · cases hni:aAS (cellsOf (aD env y)) with
      | true =>
        rw [hni] at h'
        simp only [cond_true,OpR.ok.injEq] at h'
        rw [← h'.2.2]; exact fN _ _
      | false =>
      rw [hni] at h'
      simp only [cond_false] at h'
      cases hs:(bM (cellsOf (aD env y))).isEmpty with
      | false =>
        rw [hs] at h'
        simp only [cond_false,OpR.ok.injEq] at h'
        rw [← h'.2.2]; exact fN _ _
      | true =>
        rw [hs] at h'
        simp only [cond_true] at h'
        split at h'
        · simp only [OpR.ok.injEq] at h'
          rw [← h'.2.2]; exact fN _ _
        · simp only [OpR.ok.injEq] at h'
          rw [← h'.2.2]; exact fN _ _
    · simp only [OpR.ok.injEq] at h'
      rw [← h'.2.2]; exact fN _ _
  · simp only [OpR.ok.injEq] at h'
    rw [← h'.2.2]; exact fN _ _
 case makeSlice t y z =>
  have h' : pX T H t (aD env y) (aD env z) = .ok g x H' := h
  unfold pX aAV at h'
  split at h'
  · split at h'
    · split at h'
      · simp only [OpR.ok.injEq] at h'
        rw [← h'.2.2]; exact fN _ _
      · simp at h'
    · simp at h'
  · simp at h'
 case call cl =>
  obtain ⟨cal,args,ts⟩:=cl
  split at hs
  · rename_i f hc
    simp only at hc
    subst hc
    have h' : pZ T H (aD env f) (args.toList.map (aD env)) = .ok g x H' := h
    unfold pZ at h'
    split at h'
    · split at h'
      · simp at h'
      · rename_i k hk
        cases hb:Nat.beq k 1 with
        | false=>rw [hb] at h'; simp at h'
        | true =>
          rw [hb] at h'
          simp only [cond_true] at h'
          unfold two pY at h'
          repeat' split at h'
          all_goals first
            | (simp only [OpR.ok.injEq] at h'; rw [← h'.2.2]; exact aBV _)
            | simp at h'
    · simp at h'
  · simp at hs
end
section
theorem aBW : ∀ (t:fB) (i j:Nat) (x y:AV),i≠j→dU (dU t i x) j y=dU (dU t j y) i x
 | .leaf,_,_,_,_,_=>rfl
 | .node v a b,i,j,x,y,h=>by
   cases i with
   | zero =>
     cases j with
     | zero=>exact absurd rfl h
     | succ j =>
       rw [m7,fV,fV]
       split <;> rw [m7]
   | succ i =>
     cases j with
     | zero =>
       rw [m7,fV,fV]
       split <;> rw [m7]
     | succ j =>
       rw [fV,fV]
       by_cases hi:i % 2=0
       · rw [if_pos hi,fV]
         by_cases hj:j % 2=0
         · rw [if_pos hj,if_pos hj,fV,if_pos hi,aBW a _ _ x y (by omega)]
         · rw [if_neg hj,if_neg hj,fV,if_pos hi]
       · rw [if_neg hi,fV]
         by_cases hj:j % 2=0
         · rw [if_pos hj,if_pos hj,fV,if_neg hi]
         · rw [if_neg hj,if_neg hj,fV,if_neg hi,aBW b _ _ x y (by omega)]
theorem aBX : ∀ (t:fB) (i:Nat) (x:AV),gG t i=x→x ≠ .undef→dU t i x=t
 | .leaf,_,_,_,_=>rfl
 | .node v a b,0,x,h,_=>by
   have:v=x:=h
   rw [m7,this]
 | .node v a b,i+1,x,h,hx=>by
   rw [iS] at h
   rw [fV]
   split at h
   · rename_i hi; rw [if_pos hi,aBX a _ _ h hx]
   · rename_i hi; rw [if_neg hi,aBX b _ _ h hx]
theorem aS0 (e:Env) (i:Nat) (v:AV):c6 e i v=if i<e.lim then ⟨e.lim,dU e.t i v⟩ else e:=by
 by_cases h:i<e.lim
 · rw [t9 _ _ _ h,if_pos h]
 · rw [uA _ _ _ h,if_neg h]
theorem aS1 (e:Env) (i j:Nat) (x y:AV) (h:i≠j):c6 (c6 e i x) j y=c6 (c6 e j y) i x:=by
 simp only [aS0]
 by_cases hi:i<e.lim <;> by_cases hj:j<e.lim <;> simp [hi,hj,aBW _ _ _ _ _ h]
theorem aS2 {e:Env} {i:Nat} {x:AV} (h:c5 e i=x) (hx:x ≠ .undef):c6 e i x=e:=by
 by_cases hi:i<e.lim
 · rw [t9 _ _ _ hi,aBX _ _ _ (by rw [← qG _ _ hi]; exact h) hx]
 · rw [uA _ _ _ hi]
theorem aHT {e:Env} {d i:Nat} {x:AV} (h:i≠d):c5 (c6 e d x) i=c5 e i:=by
 by_cases hd:d<e.lim
 · rw [t9 _ _ _ hd]
   by_cases hi:i<e.lim
   · rw [qG ⟨e.lim,dU e.t d x⟩ _ hi,qG _ _ hi,(aA8 e.t d i x).1 h]
   · rw [qH ⟨e.lim,dU e.t d x⟩ _ hi,qH _ _ hi]
 · rw [uA _ _ _ hd]
theorem aS3 (e:Env) (d d' : Option Tmp) (x y:AV) (h:∀ t,d=some t→d' ≠ some t):b8 (b8 e d x) d' y=b8 (b8 e d' y) d x:=by
 cases d with
 | none=>rfl
 | some t =>
   cases d' with
   | none=>rfl
   | some u=>exact aS1 e t u x y fun he=>h t rfl (by rw [he])
theorem jK {e:Env} {d:Option Tmp} {x:AV} {y:Operand} (h:∀ t,d=some t→y ≠ .tmp t):aD (b8 e d x) y=aD e y:=by
 cases d with
 | none=>rfl
 | some t =>
   cases y with
   | tmp u=>exact aHT fun he=>h t rfl (by rw [he])
   | _=>rfl
theorem aS4 (T:Tab) (H:List aA) {e e' : Env} (op:Op) (h:∀ x∈op.operands,aD e x=aD e' x):opR T H e op=opR T H e' op:=by
 have lst:∀ xs:Array Operand,(∀ x∈xs,aD e x=aD e' x)→xs.toList.map (aD e)=xs.toList.map (aD e'):=fun xs hx=>List.map_congr_left fun x hm=>hx x (by simpa using hm)
 have prt:∀ ps:Array (Nat × Operand),(∀ x∈ps.map (·.2),aD e x=aD e' x)→d9 e ps=d9 e' ps:=fun ps hx=>by
  unfold d9
  exact List.map_congr_left fun p hm=>by rw [hx p.2 (Array.mem_map.2 ⟨p,by simpa using hm,rfl⟩)]
 have opt:∀ x:Option Operand,(∀ y∈x,aD e y=aD e' y)→x.map (aD e)=x.map (aD e'):=fun x hx=>by
  cases x with
  | none=>rfl
  | some y=>simp [hx y rfl]
 cases op with
 | move x=>exact congrArg (mS H) (h x (by simp [Op.operands]))
 | assign x=>exact congrArg (mS H) (h x (by simp [Op.operands]))
 | binOp o t x y u=>simp only [opR]; rw [h x (by simp [Op.operands]),h y (by simp [Op.operands])]
 | unOp o t x=>simp only [opR]; rw [h x (by simp [Op.operands])]
 | convert s d x=>simp only [opR]; rw [h x (by simp [Op.operands])]
 | indexAddr t x y=>simp only [opR]; rw [h x (by simp [Op.operands]),h y (by simp [Op.operands])]
 | index t x y=>simp only [opR]; rw [h x (by simp [Op.operands]),h y (by simp [Op.operands])]
 | load t x=>simp only [opR]; rw [h x (by simp [Op.operands])]
 | store t x y=>simp only [opR]; rw [h x (by simp [Op.operands]),h y (by simp [Op.operands])]
 | slice t x lo hi mx =>
   simp only [opR,k7]
   rw [h x (by simp [Op.operands]),opt lo fun y hy=>h y (by simp [Op.operands,Option.mem_def.1 hy]),opt hi fun y hy=>h y (by simp [Op.operands,Option.mem_def.1 hy])]
 | field t x f=>simp only [opR]; rw [h x (by simp [Op.operands])]
 | fieldAddr t x f=>simp only [opR]; rw [h x (by simp [Op.operands])]
 | alloc t=>rfl
 | box t x=>simp only [opR]; rw [h x (by simp [Op.operands])]
 | build t ps=>simp only [opR]; rw [prt ps fun x hx=>h x (by simpa [Op.operands] using hx)]
 | buildSlice t n ps=>simp only [opR]; rw [prt ps fun x hx=>h x (by simpa [Op.operands] using hx)]
 | makeSlice t x y=>simp only [opR]; rw [h x (by simp [Op.operands]),h y (by simp [Op.operands])]
 | makeFunc f fs cs =>
   simp only [opR,k6]
   rw [lst cs fun x hx=>h x (by simp [Op.operands,hx])]
 | extract x i=>simp only [opR]; rw [h x (by simp [Op.operands])]
 | pick x y z=>simp only [opR]; rw [h x (by simp [Op.operands]),h y (by simp [Op.operands]),h z (by simp [Op.operands])]
 | nilCheck x=>simp only [opR]; rw [h x (by simp [Op.operands])]
 | call c =>
   obtain ⟨cal,args,ts⟩:=c
   simp only [opR]
   rw [lst args fun x hx=>h x (by simp [Op.operands,Call.operands,hx])]
   cases cal with
   | builtin b=>rfl
   | value f=>simp only [mR]; rw [h f (by simp [Op.operands,Call.operands])]
   | invoke r m=>rfl
 | _=>rfl
end
section
noncomputable def iU (all:List Oper) (env:Env) (g:Option (Nat × Bool)):Option Bool:=match g with
 | none=>some true
 | some p=>match nth all p.1 with
   | some o=>match o.dst with
     | some d=>match c5 env d with
       | .bool b=>some (b == p.2)
       | .tup _=>some false
       | _=>none
     | none=>none
   | none=>none
theorem aS5 {all:List Oper} {env:Env} {g:Option (Nat × Bool)} {go skip:Env→Prop}:jY all env g go skip↔(iU all env g=some true∧go env)∨(iU all env g=some false∧skip env):=by
 unfold jY iU
 cases g with
 | none=>simp
 | some p =>
   simp only
   unfold aAW
   cases nth all p.1 with
   | none=>simp
   | some o =>
     simp only
     cases o.dst with
     | none=>simp
     | some d =>
       simp only
       unfold way
       cases hx:c5 env d <;> simp only <;> try (simp; done)
       rename_i b
       have h1:∀ b', b=b' → c6 env d (.bool b')=env:=fun b' hb=>by subst hb; exact aS2 hx (by simp)
       cases p.2 <;> cases b <;> simp [h1]
theorem aHU {all:List Oper} {env:Env} {o:Oper} {d:Option Tmp} {x:AV} (h:∀ t,d=some t→t ∉ o.looksAt all.toArray):iU all (b8 env d x) o.guard=iU all env o.guard:=by
 unfold iU
 cases hg:o.guard with
 | none=>rfl
 | some p =>
   simp only
   cases hn:nth all p.1 with
   | none=>rfl
   | some q =>
     simp only
     cases hd:q.dst with
     | none=>rfl
     | some u =>
       simp only
       have:c5 (b8 env d x) u=c5 env u:=by
        cases d with
        | none=>rfl
        | some t =>
          refine aHT fun he=>h t rfl ?_
          unfold Oper.looksAt
          rw [hg]
          obtain ⟨p1,p2⟩:=p
          rw [k9] at hn
          simp only at hn ⊢
          refine List.mem_append_right _ ?_
          simp [hn,hd,he]
       rw [this]
theorem aHV (T:Tab) (H:List aA) {all:List Oper} {env:Env} {o:Oper} {d:Option Tmp} {x:AV} (h:∀ t,d=some t→t ∉ o.looksAt all.toArray):opR T H (b8 env d x) o.op=opR T H env o.op :=
 aS4 T H o.op fun y hy=>jK fun t ht hyt=>h t ht (by
  subst hyt
  exact List.mem_append_left _ (List.mem_filterMap.2 ⟨.tmp t,by simpa using hy,rfl⟩))
theorem aHW {b:Bool} {p:Prop}:p9 b p↔b=true∧p:=by cases b <;> simp [p9]
theorem nI {T:Tab} {callK:cC} {all:List Oper} {i:Nat} {U:List Nat} {o:Oper} (hi:nth all i=some o) {cont:Env→List aA→Prop} {env:Env} {H:List aA} :
 cN T callK all i U cont env H↔(iU all env o.guard=some true∧iD all U i env o.op=true∧opK callK (qD all i) H (fun v H=>cont (b8 env o.dst v) H) (opR T H env o.op))∨(iU all env o.guard=some false∧cont (b8 env o.dst (.tup [])) H):=by
 unfold cN
 rw [hi]
 simp only [aS5,aHW]
def uO (callK:cC):Prop:=∀ f args H keep (K K' : AV→List aA→Prop),(∀ v H', (keep=true→gY H H')→K v H' → K' v H')→callK f args H keep K→callK f args H keep K'
theorem aHX {op:Op} (h:fM op=true):fU op=none:=by cases op <;> first | rfl | (simp [fM] at h)
theorem aHY {op:Op} (h:fM op=true):fE op=none:=by
 cases op <;> first | rfl | (simp [fM] at h; done) | skip
 rename_i c
 simp only [fM] at h
 unfold fE
 simp only
 split at h
 · rename_i hc; rw [hc]
 · simp at h
theorem aS6 {op:Op} (h:iQ op=true):fE op=none:=by
 cases op <;> first | rfl | (simp [iQ] at h; done) | skip
 rename_i c
 simp only [iQ] at h
 unfold fE
 simp only
 split at h
 · rename_i hc; rw [hc]
 · simp at h
theorem aS7 {op:Op} (h:jI op=true):fE op=none:=by cases op <;> first | rfl | (simp [jI] at h)
theorem aHZ {op:Op} {a:Operand} (h:fE op=some a):fU op=none:=by cases op <;> first | rfl | (simp [fE] at h)
theorem aS8 {op:Op} (h:iQ op=true):fU op=none:=by cases op <;> first | rfl | (simp [iQ] at h)
theorem aS9 {op:Op} (h:jI op=true):fU op=none:=by cases op <;> first | rfl | (simp [jI] at h)
theorem uP {all:List Oper} {U:List Nat} {i:Nat} {env:Env} {op:Op} (h:fU op=none) (h' : fE op=none):iD all U i env op=true:=by unfold iD; rw [h,h']
theorem aH0 {op:Op} {a:Operand} (h:fE op=some a):a∈op.operands:=by
 cases op <;> simp only [fE] at h <;> try (exact absurd h (by simp))
 rename_i c
 obtain ⟨cal,args,ts⟩:=c
 simp only at h
 split at h
 · split at h
   · split at h
     · rename_i a' r hargs
       simp only [Option.some.injEq] at h
       subst h
       have:a' ∈ args.toList:=by rw [hargs]; simp
       simp only [Op.operands,Call.operands]
       simpa using this
     · simp at h
   · simp at h
 · simp at h
theorem aH1 {tgt:AV} {all:List Oper} {env:Env} {o:Oper} {d:Option Tmp} {x:AV} (h:∀ t,d=some t→t ∉ o.looksAt all.toArray):iR tgt (b8 env d x) o.op=iR tgt env o.op:=by
 have key:∀ y∈o.op.operands,aD (b8 env d x) y=aD env y:=fun y hy=>jK fun t ht hyt=>h t ht (by
  subst hyt
  exact List.mem_append_left _ (List.mem_filterMap.2 ⟨.tmp t,by simpa using hy,rfl⟩))
 cases hop:o.op <;> rw [hop] at key <;> simp only [iR]
 · rw [key _ (by simp [Op.operands])]
 · rw [key _ (by simp [Op.operands])]
theorem aH2 {id:Nat} {all:List Oper} {env:Env} {o:Oper} {d:Option Tmp} {x:AV} (h:∀ t,d=some t→t ∉ o.looksAt all.toArray):qE id (b8 env d x) o.op=qE id env o.op:=by
 have key:∀ y∈o.op.operands,aD (b8 env d x) y=aD env y:=fun y hy=>jK fun t ht hyt=>h t ht (by
  subst hyt
  exact List.mem_append_left _ (List.mem_filterMap.2 ⟨.tmp t,by simpa using hy,rfl⟩))
 unfold qE
 have key' : ∀ y∈o.op.operands.toList,aD (b8 env d x) y=aD env y:=fun y hy=>key y (by simpa using hy)
 generalize o.op.operands.toList=l at key'
 induction l with
 | nil=>rfl
 | cons y l ih =>
   rw [List.any_cons,List.any_cons,key' y (by simp),ih fun z hz=>key' z (by simp [hz])]
section
variable {T:Tab} {callK:cC} (hm:uO callK) {all:List Oper}
theorem aTA {i:Nat} {U:List Nat} {x:Oper} (hi:nth all i=some x) (hs:fM x.op=true) {cont:Env→List aA→Prop} {env:Env} {H:List aA} (h:cN T callK all i U cont env H) :
 ∃ v,cont (b8 env x.dst v) H∧∀ (env' : Env) (H' : List aA) (U' : List Nat) (cont' : Env→List aA→Prop),iU all env' x.guard=iU all env x.guard→(∀ H0,opR T H0 env' x.op=opR T H0 env x.op)→Sim H H' (opR T H env x.op) (opR T H' env x.op)→cont' (b8 env' x.dst v) H' → cN T callK all i U' cont' env' H' := by
 rw [nI hi] at h
 rcases h with ⟨hg,_,hk⟩ | ⟨hg,hk⟩
 · rcases aHS T (H:=H) env hs with hf | ⟨g,v,h1⟩
   · rw [hf] at hk; exact hk.elim
   · rw [h1] at hk
     cases g with
     | false=>exact hk.elim
     | true =>
       refine ⟨v,hk,fun env' H' U' cont' hg' ho ha hc=>?_⟩
       rw [nI hi]
       refine .inl ⟨by rw [hg', hg],uP (aHX hs) (aHY hs),?_⟩
       rcases ha with hf | ⟨g', v', h2,h3⟩
       · rw [hf] at h1; simp at h1
       · rw [h1] at h2
         simp only [OpR.ok.injEq] at h2
         obtain ⟨rfl,rfl,_⟩:=h2
         rw [ho,h3]
         exact hc
 · refine ⟨.tup [],hk,fun env' H' U' cont' hg' ho ha hc=>?_⟩
   rw [nI hi]
   exact .inr ⟨by rw [hg', hg],hc⟩
include hm
theorem uQ {i:Nat} {U:List Nat} {cont cont' : Env→List aA→Prop} (hc:∀ e H,cont e H→cont' e H) {env:Env} {H:List aA} (h:cN T callK all i U cont env H):cN T callK all i U cont' env H:=by
 cases hi:nth all i with
 | none=>unfold cN at h; rw [hi] at h; exact h.elim
 | some o =>
   rw [nI hi] at h ⊢
   rcases h with ⟨hg,hst,hk⟩ | ⟨hg,hk⟩
   · refine .inl ⟨hg,hst,?_⟩
     unfold opK at hk ⊢
     split
     · rename_i he; rw [he] at hk; exact hk
     · rename_i g x H' he
       rw [he] at hk
       cases g with
       | false=>exact hk
       | true=>exact hc _ _ hk
     · rename_i f args he
       rw [he] at hk
       exact hm _ _ _ _ _ _ (fun v H' _ hkk=>hc _ _ hkk) hk
   · exact .inr ⟨hg,hc _ _ hk⟩
def Closed (all:List Oper) (U:List Nat):Prop:=∀ k m,k<all.length→k ∉ U→c8 all k m=true→m ∉ U
structure Free (all:List Oper) (i j:Nat) (x y:Oper):Prop where
 hi:nth all i=some x
 hj:nth all j=some y
 hs:fM x.op=true
 hw:fM y.op=true∨(iQ y.op=true∨(jI y.op=true∧mT x.op=false))∨((∃ a,fU y.op=some a)∧∀ d,x.dst=some d→∀ k o,k<all.length→nth all k=some o→d∈o.looksAt all.toArray→k≠i∧c8 all k i=true)∨((∃ a,fE y.op=some a)∧mT x.op=false∧∀ d,x.dst=some d→∀ k o,k<all.length→nth all k=some o→d∈o.looksAt all.toArray→k≠i∧c8 all k i=true)
 keep:qD all j=true
 ap:Oper.apart all.toArray x y=true
 ord:iC all j i=false
 ordT:gJ all all.length j i=false
theorem aH3 {i j:Nat} {U:List Nat} {x y:Oper} (hf:Free all i j x y) (hcl:Closed all U) (hiU:i∈U) (hil:i<all.length)
 {cont:Env→List aA→Prop} {env:Env} {H:List aA} (h:cN T callK all i U (cN T callK all j (U.filter fun k => !Nat.beq k i) cont) env H):cN T callK all j U (cN T callK all i (U.filter fun k => !Nat.beq k j) cont) env H:=by
 obtain ⟨hi,hj,hs,hw,hkeep,hap,hord,hordT⟩:=hf
 obtain ⟨a1,a2,a3⟩:=Oper.apart_spec hap
 obtain ⟨v,h1,h2⟩:=aTA hi hs h
 rw [nI hj] at h1 ⊢
 rw [aHU a1,aHV T H a1] at h1
 have back:∀ (u:AV) (H' : List aA),Sim H H' (opR T H env x.op) (opR T H' env x.op)→cont (b8 (b8 env x.dst v) y.dst u) H' → cN T callK all i (U.filter fun k => !Nat.beq k j) cont (b8 env y.dst u) H' := fun u H' ha hc =>
  h2 _ H' _ cont (aHU a3) (fun H0=>aHV T H0 a3) ha (by rw [← aS3 env x.dst y.dst v u a2]; exact hc)
 have wt:iR .undef env x.op=false→∀ H', gY H H' → Sim H H' (opR T H env x.op) (opR T H' env x.op):=fun ht H' ha=>qR (WAg.of_agree ha) T env hs ht
 have wsim:∀ H', gY H H' → Sim H H' (opR T H env x.op) (opR T H' env x.op):=fun H' ha=>aST ha T env hs
 rcases h1 with ⟨hg,hst,hk⟩ | ⟨hg,hk⟩
 · -- the store's test, without i's yield
   have hst' : iD all U j env y.op=true:=by
    rcases hw with hw | hw | ⟨⟨a,ha⟩,hanti⟩ | ⟨⟨a,ha⟩,_,hanti⟩
    · exact uP (aHX hw) (aHY hw)
    · rcases hw with hw | ⟨hw,_⟩
      · exact uP (aS8 hw) (aS6 hw)
      · exact uP (aS9 hw) (aS7 hw)
    · unfold iD at hst ⊢
      rw [ha] at hst ⊢
      simp only at hst ⊢
      rw [Bool.and_eq_true] at hst ⊢
      have haeP:aD (b8 env x.dst v) a=aD env a:=jK fun t ht hat=>a1 t ht (by
       subst hat
       refine List.mem_append_left _ (List.mem_filterMap.2 ⟨.tmp t,?_,rfl⟩)
       cases hyo:y.op <;> rw [hyo] at ha <;> simp only [fU,Option.some.injEq] at ha <;> first | (simp at ha; done) | (subst ha; simp [Op.operands]))
      refine ⟨by rw [← haeP]; exact hst.1,?_⟩
      replace hst:=hst.2
      rw [List.all_eq_true] at hst ⊢
      intro k hk
      have hkl:k<all.length:=by simpa using hk
      have hold:=hst k hk
      cases hcon:U.contains k with
      | true=>rfl
      | false =>
        have hkU:k ∉ U:=fun hm=>by
         have:U.contains k=true:=by simpa using hm
         rw [this] at hcon; simp at hcon
        have hcon2:(U.filter fun k => !Nat.beq k i).contains k=false:=by
         cases hc2:(U.filter fun k => !Nat.beq k i).contains k with
         | false=>rfl
         | true =>
           have:k∈U.filter fun k => !Nat.beq k i:=by simpa using hc2
           exact absurd (List.mem_filter.1 this).1 hkU
        rw [hcon2] at hold
        simp only [cond_false] at hold ⊢
        cases hio:iC all j k with
        | true=>rfl
        | false =>
          rw [hio] at hold
          simp only [cond_false] at hold ⊢
          cases hnk:nth all k with
          | none=>rfl
          | some o =>
            rw [hnk] at hold
            simp only at hold ⊢
            have hnd:∀ d,x.dst=some d→d ∉ o.looksAt all.toArray:=fun d hd hm=>by
              obtain ⟨_,hdep⟩:=hanti d hd k o hkl hnk hm
              exact hcl k i hkl hkU hdep hiU
            rw [aH1 hnd] at hold
            have hae:aD (b8 env x.dst v) a=aD env a:=jK fun t ht hat=>a1 t ht (by
              subst hat
              refine List.mem_append_left _ (List.mem_filterMap.2 ⟨.tmp t,?_,rfl⟩)
              cases hyo:y.op <;> rw [hyo] at ha <;> simp only [fU,Option.some.injEq] at ha <;> first | (simp at ha; done) | (subst ha; simp [Op.operands]))
            rw [hae] at hold
            exact hold
    · have hns:=aHZ ha
      unfold iD at hst ⊢
      rw [hns,ha] at hst ⊢
      simp only at hst ⊢
      have haeP:aD (b8 env x.dst v) a=aD env a:=jK fun t ht hat=>a1 t ht (by
       subst hat
       exact List.mem_append_left _ (List.mem_filterMap.2 ⟨.tmp t,by simpa using aH0 ha,rfl⟩))
      rw [haeP] at hst
      unfold aA6 at hst ⊢
      split
      · rfl
      · rename_i id hid
        rw [hid] at hst
        simp only at hst
        rw [List.all_eq_true] at hst ⊢
        intro k hk
        have hkl:k<all.length:=by simpa using hk
        have hold:=hst k hk
        cases hcon:U.contains k with
        | true=>rfl
        | false =>
          have hkU:k ∉ U:=fun hm=>by
             have:U.contains k=true:=by simpa using hm
             rw [this] at hcon; simp at hcon
          have hcon2:(U.filter fun k => !Nat.beq k i).contains k=false:=by
             cases hc2:(U.filter fun k => !Nat.beq k i).contains k with
             | false=>rfl
             | true =>
               have:k∈U.filter fun k => !Nat.beq k i:=by simpa using hc2
               exact absurd (List.mem_filter.1 this).1 hkU
          rw [hcon2] at hold
          simp only [cond_false] at hold ⊢
          cases hio:iC all j k with
          | true=>rfl
          | false =>
            rw [hio] at hold
            simp only [cond_false] at hold ⊢
            cases hdt:gJ all all.length j k with
            | true=>rfl
            | false =>
            rw [hdt] at hold
            simp only [cond_false] at hold ⊢
            cases hnk:nth all k with
            | none=>rfl
            | some o =>
              rw [hnk] at hold
              simp only at hold ⊢
              have hnd:∀ d,x.dst=some d→d ∉ o.looksAt all.toArray:=fun d hd hm=>by
                obtain ⟨_,hdep⟩:=hanti d hd k o hkl hnk hm
                exact hcl k i hkl hkU hdep hiU
              rw [aH2 hnd] at hold
              exact hold
   refine .inl ⟨hg,hst', ?_⟩
   unfold opK at hk ⊢
   split
   · rename_i he; rw [he] at hk; exact hk
   · rename_i g u H' he
     rw [he] at hk
     cases g with
     | false=>exact hk
     | true =>
       refine back u H' ?_ hk
       rcases hw with hw | hw | ⟨⟨a,ha⟩,hanti⟩ | ⟨⟨a,ha⟩,hcv,hanti⟩
       · rcases aHS T (H:=H) env hw with hf | ⟨g', v', h3⟩
         · rw [hf] at he; simp at he
         · rw [h3] at he
           simp only [OpR.ok.injEq] at he
           rw [← he.2.2]; exact wsim H (aBV H)
       · rcases hw with hw | ⟨hw,hcv⟩
         · exact wsim H' (aSZ hw he)
         · refine qR (aSX hw he) T env hs ?_
           cases hxo:x.op <;> rw [hxo] at hcv <;> first | rfl | (simp [mT] at hcv)
       · have hst0:=hst
         unfold iD at hst0
         rw [ha] at hst0
         simp only [Bool.and_eq_true] at hst0
         have haeP:aD (b8 env x.dst v) a=aD env a:=jK fun t ht hat=>a1 t ht (by
          subst hat
          refine List.mem_append_left _ (List.mem_filterMap.2 ⟨.tmp t,?_,rfl⟩)
          cases hyo:y.op <;> rw [hyo] at ha <;> simp only [fU,Option.some.injEq] at ha <;> first | (simp at ha; done) | (subst ha; simp [Op.operands]))
         have hpa:tX (aD env a)=false:=by
          have:=hst0.1
          rw [haeP] at this
          simpa using this
         have hwa:WAg (aD env a) H H' := by
          cases hyo:y.op <;> rw [hyo] at ha he <;> simp only [fU,Option.some.injEq] at ha <;> first | (simp at ha; done) | (subst ha; exact aSW hpa he)
         refine qR hwa T env hs ?_
         unfold iD at hst
         rw [ha] at hst
         simp only [Bool.and_eq_true] at hst
         have:=List.all_eq_true.1 hst.2 i (by simpa using hil)
         have hcon2:(U.filter fun k => !Nat.beq k i).contains i=false:=by
          cases hc2:(U.filter fun k => !Nat.beq k i).contains i with
          | false=>rfl
          | true=>simp at hc2
         rw [hcon2,hord] at this
         simp only [cond_false] at this
         rw [hi] at this
         simp only at this
         have hnd:∀ d,x.dst=some d→d ∉ x.looksAt all.toArray:=fun d hd hm=>(hanti d hd i x hil hi hm).1 rfl
         rw [aH1 hnd] at this
         have hae:aD (b8 env x.dst v) a=aD env a:=jK fun t ht hat=>a1 t ht (by
          subst hat
          refine List.mem_append_left _ (List.mem_filterMap.2 ⟨.tmp t,?_,rfl⟩)
          cases hyo:y.op <;> rw [hyo] at ha <;> simp only [fU,Option.some.injEq] at ha <;> first | (simp at ha; done) | (subst ha; simp [Op.operands]))
         rw [hae] at this
         simpa using this
       · have hwa:=aSY ha he
         refine aHR hwa T env hs ?_ ?_
         · cases hxo:x.op <;> rw [hxo] at hcv <;> first | rfl | (simp [mT] at hcv)
         · intro y' hy' id hid id' hid' hee
           subst hee
           have haeP:aD (b8 env x.dst v) a=aD env a:=jK fun t ht hat=>a1 t ht (by
            subst hat
            exact List.mem_append_left _ (List.mem_filterMap.2 ⟨.tmp t,by simpa using aH0 ha,rfl⟩))
           unfold iD at hst
           rw [aHZ ha,ha] at hst
           simp only at hst
           rw [haeP] at hst
           unfold aA6 at hst
           rw [hid'] at hst
           simp only at hst
           have:=List.all_eq_true.1 hst i (by simpa using hil)
           have hcon2:(U.filter fun k => !Nat.beq k i).contains i=false:=by
            cases hc2:(U.filter fun k => !Nat.beq k i).contains i with
            | false=>rfl
            | true=>simp at hc2
           rw [hcon2,hord,hordT] at this
           simp only [cond_false] at this
           rw [hi] at this
           simp only at this
           have hnd:∀ d,x.dst=some d→d ∉ x.looksAt all.toArray:=fun d hd hm=>(hanti d hd i x hil hi hm).1 rfl
           rw [aH2 hnd] at this
           have h2:qE id env x.op=true:=List.any_eq_true.2 ⟨y', by simpa using hy', hid⟩
           rw [h2] at this
           simp at this
   · rename_i f args he
     rw [he] at hk
     exact hm _ _ _ _ _ _ (fun u H' ha hkk=>back u H' (wsim H' (ha hkeep)) hkk) hk
 · exact .inr ⟨hg,back _ H (wsim H (aBV H)) hk⟩
end
theorem aBY {l:List Nat} {p:Nat→Prop} (h:tZ l p):∀ i∈l,p i:=by
 cases l with
 | nil=>exact h.elim
 | cons i r =>
   cases r with
   | nil=>intro k hk; rcases List.mem_singleton.1 hk with rfl; exact h
   | cons j r =>
     have key:∀ (r:List Nat),(List.rec (motive:=fun _=>Prop) (p i) (fun j _ ih=>p j∧ih) r)→p i∧∀ k∈r,p k:=by
        intro r
        induction r with
        | nil=>intro h; exact ⟨h,fun k hk=>by cases hk⟩
        | cons j r ih =>
          intro h
          obtain ⟨h1,h2⟩:=h
          obtain ⟨h3,h4⟩:=ih h2
          exact ⟨h3,fun k hk=>by
           rcases List.mem_cons.1 hk with rfl | hk
           · exact h1
           · exact h4 k hk⟩
     obtain ⟨h1,h2⟩:=key (j :: r) h
     intro k hk
     rcases List.mem_cons.1 hk with rfl | hk
     · exact h1
     · exact h2 k hk
theorem aTB {l:List Nat} {p:Nat→Prop} (hne:l≠[]) (h:∀ i∈l,p i):tZ l p:=by
 cases l with
 | nil=>exact absurd rfl hne
 | cons i r =>
   cases r with
   | nil=>exact h i (by simp)
   | cons j r =>
     have key:∀ (r:List Nat),(∀ k∈r,p k)→(List.rec (motive:=fun _=>Prop) (p i) (fun j _ ih=>p j∧ih) r):=by
        intro r
        induction r with
        | nil=>intro _; exact h i (by simp)
        | cons j r ih=>intro hr; exact ⟨hr j (by simp),ih fun k hk=>hr k (by simp [hk])⟩
     exact key (j :: r) fun k hk=>h k (by simp [hk])
theorem j7 {U:List Nat} {i k:Nat}:k∈without U i↔k∈U∧k≠i:=by
 unfold without
 rw [List.mem_filter]
 constructor
 · rintro ⟨h1,h2⟩
   refine ⟨h1,fun he=>?_⟩
   rw [he,Nat.beq_refl] at h2
   simp at h2
 · rintro ⟨h1,h2⟩
   refine ⟨h1,?_⟩
   cases hb:Nat.beq k i with
   | false=>rfl
   | true=>exact absurd (Nat.eq_of_beq_eq_true hb) h2
theorem aH4 (U:List Nat) (i j:Nat):without (without U i) j=without (without U j) i:=by
 unfold without
 rw [List.filter_filter,List.filter_filter]
 congr 1
 funext k
 exact Bool.and_comm _ _
theorem aH5 {U:List Nat} {i:Nat} (h:i∈U):(without U i).length<U.length:=by
 unfold without
 induction U with
 | nil=>cases h
 | cons x U ih =>
   rw [List.filter_cons]
   split
   · rename_i hx
     rcases List.mem_cons.1 h with rfl | h
     · rw [Nat.beq_refl] at hx; simp at hx
     · simp only [List.length_cons]; have:=ih h; omega
   · simp only [List.length_cons]
     have:=List.length_filter_le (fun k => !Nat.beq k i) U
     omega
def Rdy (all:List Oper) (U:List Nat) (i:Nat):Prop:=i∈U∧∀ k∈U,c8 all i k=false
theorem Rdy.without {all:List Oper} {U:List Nat} {i j:Nat} (h:Rdy all U i) (hne:i≠j):Rdy all (Mach.without U j) i:=⟨j7.2 ⟨h.1,hne⟩,fun k hk=>h.2 k (j7.1 hk).1⟩
theorem Closed.without {all:List Oper} {U:List Nat} {i:Nat} (h:Closed all U) (hr:Rdy all U i):Closed all (Mach.without U i):=fun k m hk hn hd hm=>by
 have hmU:=(j7.1 hm).1
 by_cases hki:k=i
 · subst hki
   rw [hr.2 m hmU] at hd
   simp at hd
 · exact h k m hk (fun hkU=>hn (j7.2 ⟨hkU,hki⟩)) hd hmU
theorem uR {all:List Oper} {U:List Nat} (hcl:Closed all U) {j:Nat} (hj:j∈U):∀ (n i:Nat),(i<all.length∧i ∉ U)∨Rdy all U i→gJ all n i j=false:=by
 have one:∀ i m,((i<all.length∧i ∉ U)∨Rdy all U i)→c8 all i m=true→m ∉ U:=fun i m hi hd hm=>by
  rcases hi with ⟨h1,h2⟩ | hi
  · exact hcl i m h1 h2 hd hm
  · rw [hi.2 m hm] at hd; simp at hd
 have base:∀ i,((i<all.length∧i ∉ U)∨Rdy all U i)→c8 all i j=false:=fun i hi=>by
  cases hd:c8 all i j with
  | false=>rfl
  | true=>exact absurd hj (one i j hi hd)
 intro n
 induction n with
 | zero=>exact base
 | succ n ih =>
   intro i hi
   show (bif c8 all i j then true else (List.range all.length).any fun m=>bif c8 all i m then gJ all n m j else false)=false
   rw [base i hi]
   simp only [cond_false]
   rw [List.any_eq_false]
   intro m hm
   cases hd:c8 all i m with
   | false=>simp
   | true =>
     have hml:m<all.length:=by simpa using hm
     rw [cond_true,ih m (.inl ⟨hml,one i m hi hd⟩)]
     simp
theorem aH6 {all:List Oper} {n i j:Nat} (h:gJ all n i j=false):c8 all i j=false:=by
 cases n with
 | zero=>exact h
 | succ n =>
   have h' : (bif c8 all i j then true else (List.range all.length).any fun m=>bif c8 all i m then gJ all n m j else false)=false:=h
   cases hd:c8 all i j with
   | false=>rfl
   | true=>rw [hd] at h'; simp at h'
theorem qS {all:List Oper} {U:List Nat} {i:Nat}:k8 all U i=true↔∀ k∈U,c8 all i k=false:=by
 unfold k8
 rw [List.all_eq_true]
 constructor
 · intro h k hk; have:=h k hk; simpa using this
 · intro h k hk; rw [h k hk]; rfl
theorem qT {all:List Oper} {U:List Nat} {i:Nat} (h:mU all U=some i):Rdy all U i∧gI all i=true:=by
 unfold mU at h
 have h1:=List.find?_some h
 have h2:=List.mem_of_find?_eq_some h
 cases hs:gI all i with
 | false=>rw [hs] at h1; simp at h1
 | true=>rw [hs] at h1; exact ⟨⟨h2,qS.1 h1⟩,rfl⟩
theorem aH7 {all:List Oper} {U:List Nat} (h:mU all U=none) {i:Nat} (hr:Rdy all U i):gI all i=false:=by
 unfold mU at h
 have:=List.find?_eq_none.1 h i hr.1
 cases hs:gI all i with
 | false=>rfl
 | true =>
   rw [hs] at this
   simp only [cond_true,Bool.not_eq_true] at this
   rw [qS.2 hr.2] at this
   simp at this
section
variable {T:Tab} {callK:cC} (hm:uO callK) {all:List Oper} {K:St→Prop}
theorem nJ {n:Nat} {U:List Nat} {env:Env} {H:List aA} (hU:U≠[]):dV T callK all K (n+1) U env H=(match mU all U with
 | some k=>cN T callK all k U (dV T callK all K n (without U k)) env H
 | none=>tZ (U.filter (k8 all U)) fun k=>cN T callK all k U (dV T callK all K n (without U k)) env H):=by
 cases U with
 | nil=>exact absurd rfl hU
 | cons i U=>rfl
include hm
theorem aTC (hp:∀ i j,i<all.length→j<all.length→i≠j→gJ all all.length i j=false→gJ all all.length j i=false→gI all i=true→∃ x y,Free all i j x y) :
 ∀ (n:Nat) (U:List Nat),U.length≤n+1→(∀ i∈U,i<all.length)→Closed all U →
   (∀ (j:Nat) (env:Env) (H:List aA),Rdy all U j→dV T callK all K (n+1) U env H→cN T callK all j U (dV T callK all K n (without U j)) env H) ∧
   (∀ (i:Nat) (env:Env) (H:List aA),Rdy all U i→gI all i=true→cN T callK all i U (dV T callK all K n (without U i)) env H→dV T callK all K (n+1) U env H):=by
 intro n
 induction n with
 | zero =>
   intro U hlen hlt hcl
   refine ⟨fun j env H hj h=>?_,fun i env H hi hs h=>?_⟩
   · have hU:U≠[]:=fun he=>by rw [he] at hj; cases hj.1
     rw [nJ hU] at h
     have hone:∀ k∈U,k=j:=fun k hk=>by
        cases U with
        | nil=>cases hk
        | cons x U =>
          have:U=[]:=by simpa using hlen
          subst this
          rw [List.mem_singleton] at hk
          have:=hj.1
          rw [List.mem_singleton] at this
          rw [hk,this]
     split at h
     · rename_i k hk
       have:=hone k (qT hk).1.1
       rw [this] at h
       exact h
     · exact aBY h j (List.mem_filter.2 ⟨hj.1,qS.2 hj.2⟩)
   · have hU:U≠[]:=fun he=>by rw [he] at hi; cases hi.1
     rw [nJ hU]
     have hone:∀ k∈U,k=i:=fun k hk=>by
        cases U with
        | nil=>cases hk
        | cons x U =>
          have:U=[]:=by simpa using hlen
          subst this
          rw [List.mem_singleton] at hk
          have:=hi.1
          rw [List.mem_singleton] at this
          rw [hk,this]
     split
     · rename_i k hk
       have:=hone k (qT hk).1.1
       rw [this]
       exact h
     · rename_i hk
       have:=aH7 hk hi
       rw [hs] at this
       simp at this
 | succ n ih =>
   intro U hlen hlt hcl
   have sub:∀ i∈U,(without U i).length≤n+1∧∀ k∈without U i,k<all.length:=fun i hi=>⟨by have:=aH5 hi; omega,fun k hk=>hlt k (j7.1 hk).1⟩
   have cls:∀ i,Rdy all U i→Closed all (without U i):=fun i hr=>hcl.without hr
   refine ⟨fun j env H hj h=>?_,fun i env H hi hs h=>?_⟩
   · have hU:U≠[]:=fun he=>by rw [he] at hj; cases hj.1
     rw [nJ hU] at h
     split at h
     · rename_i i hi
       obtain ⟨hri,hsi⟩:=qT hi
       by_cases hij:i=j
       · rw [← hij]; exact h
       · -- i is taken; j iY first
         have h1:cN T callK all i U (cN T callK all j (without U i) (dV T callK all K n (without (without U i) j))) env H :=
          uQ hm (fun e H hh=>(ih (without U i) (sub i hri.1).1 (sub i hri.1).2 (cls i hri)).1 j e H (hj.without (Ne.symm hij)) hh) h
         obtain ⟨x,y,hfr⟩:=hp i j (hlt i hri.1) (hlt j hj.1) hij (uR hcl hj.1 _ i (.inr hri)) (uR hcl hri.1 _ j (.inr hj)) hsi
         have h2:=aH3 hm hfr hcl hri.1 (hlt i hri.1) h1
         change cN T callK all j U (cN T callK all i (without U j) (dV T callK all K n (without (without U i) j))) env H at h2
         rw [aH4] at h2
         exact uQ hm (fun e H hh=>(ih (without U j) (sub j hj.1).1 (sub j hj.1).2 (cls j hj)).2 i e H (hri.without hij) hsi hh) h2
     · exact aBY h j (List.mem_filter.2 ⟨hj.1,qS.2 hj.2⟩)
   · have hU:U≠[]:=fun he=>by rw [he] at hi; cases hi.1
     rw [nJ hU]
     split
     · rename_i k hk
       obtain ⟨hrk,hsk⟩:=qT hk
       by_cases hik:k=i
       · rw [hik]; exact h
       · have h1:cN T callK all i U (cN T callK all k (without U i) (dV T callK all K n (without (without U i) k))) env H :=
          uQ hm (fun e H hh=>(ih (without U i) (sub i hi.1).1 (sub i hi.1).2 (cls i hi)).1 k e H (hrk.without hik) hh) h
         obtain ⟨x,y,hfr⟩:=hp i k (hlt i hi.1) (hlt k hrk.1) (Ne.symm hik) (uR hcl hrk.1 _ i (.inr hi)) (uR hcl hi.1 _ k (.inr hrk)) hs
         have h2:=aH3 hm hfr hcl hi.1 (hlt i hi.1) h1
         change cN T callK all k U (cN T callK all i (without U k) (dV T callK all K n (without (without U i) k))) env H at h2
         rw [aH4] at h2
         exact uQ hm (fun e H hh=>(ih (without U k) (sub k hrk.1).1 (sub k hrk.1).2 (cls k hrk)).2 i e H (hi.without (Ne.symm hik)) hs hh) h2
     · rename_i hk
       have:=aH7 hk hi
       rw [hs] at this
       simp at this
end
theorem aH8 {all:List Oper} {i k:Nat} {o:Oper} (hi:nth all i=some o):c8 all i k=true↔∃ e∈o.after,Region.binds .any e=true∧e.on=k:=by
 unfold c8
 rw [hi]
 simp only
 unfold aFD
 rw [List.any_eq_true]
 constructor
 · rintro ⟨e,he,hb⟩
   cases h1:Region.binds .any e with
   | false=>rw [h1] at hb; simp at hb
   | true =>
     rw [h1] at hb
     exact ⟨e,by simpa using he,h1,Nat.eq_of_beq_eq_true hb⟩
 · rintro ⟨e,he,h1,rfl⟩
   exact ⟨e,by simpa using he,by rw [h1]; exact Nat.beq_refl _⟩
section
variable {P:Program} {T:Tab} {n0:Nat} {callK:cC}
theorem aTD (hO:qN P T n0) (hC:eK P n0 callK) (hm:uO callK) {c0:Ctx} {w0:World} {K:St→Prop} {all:List Oper} (hE:∀ (i:Nat) (o:Oper),nth all i=some o→∀ e∈o.after,Region.binds .any e=true→e.on<all.length∧e.on≠i)
 (hp:∀ i j,i<all.length→j<all.length→i≠j→gJ all all.length i j=false→gJ all all.length j i=false→gI all i=true→∃ x y,Free all i j x y) :
 ∀ (fuel:Nat) (U:List Nat) (listed:Array Bool) {c:Ctx} {w:World} {env:Env} {H:List aA} {a:Act},listed.size=all.length→(∀ i,i<all.length→(listed.getD i true=false↔i∈U))→(∀ i∈U,i<all.length)→Closed all U→U.length≤fuel→Step1 n0 c0 c w0 w→StR n0 c w ⟨env,H⟩ a →
   dV T callK all K fuel U env H→wpAny P .any all.toArray (lC n0 c0 w0 K) fuel listed a w:=by
 intro fuel
 induction fuel with
 | zero =>
   intro U listed c w env H a hsz hl hlt hcl hlen hs hr h
   have hC0:U=[]:=List.eq_nil_of_length_eq_zero (by omega)
   subst hC0
   refine ⟨?_,rfl,c,⟨env,H⟩,hs,hr,h⟩
   cases hrd:Region.ready .any all.toArray listed with
   | nil=>rfl
   | cons i r =>
     have hmem:i∈Region.ready .any all.toArray listed:=by rw [hrd]; simp
     obtain ⟨h1,o,ho,_⟩:=mem_ready.1 hmem
     have hi:i<all.length:=by
        have:=(Array.getElem?_eq_some_iff.1 ho).1
        simpa using this
     exact absurd ((hl i hi).1 h1) (by simp)
 | succ fuel ih =>
   intro U listed c w env H a hsz hl hlt hcl hlen hs hr h
   have hlisted:∀ k,k∈U→listed.getD k false=false:=by
    intro k hk
    have hk2:=hlt k hk
    have:=(hl k hk2).2 hk
    simp only [Array.getD_eq_getD_getElem?] at this ⊢
    rw [Array.getElem?_eq_getElem (by rw [hsz]; exact hk2)] at this ⊢
    exact this
   refine ⟨fun hrd=>?_,fun i hi=>?_⟩
   · cases hU:U with
     | nil=>rw [hU] at h; exact ⟨rfl,c,⟨env,H⟩,hs,hr,h⟩
     | cons u0 U0 =>
       exfalso
       have hne:U≠[]:=by rw [hU]; simp
       -- something may come
       obtain ⟨i,hri⟩:∃ i,Rdy all U i:=by
        rw [nJ hne] at h
        split at h
        · rename_i k hk; exact ⟨k,(qT hk).1⟩
        · cases hfl:U.filter (k8 all U) with
          | nil=>rw [hfl] at h; exact h.elim
          | cons k r =>
            have:k∈U.filter (k8 all U):=by rw [hfl]; simp
            obtain ⟨h1,h2⟩:=List.mem_filter.1 this
            exact ⟨k,h1,qS.1 h2⟩
       have hilt:=hlt i hri.1
       have hiall:all.toArray[i]? = some all[i]:=by simp [hilt]
       have hn:nth all i=some all[i]:=by rw [k9]; simp [hilt]
       have hmem:i∈Region.ready .any all.toArray listed:=by
        rw [mem_ready]
        refine ⟨(hl i hilt).2 hri.1,all[i],hiall,fun e he hb=>?_⟩
        have hd:c8 all i e.on=true:=(aH8 hn).2 ⟨e,he,hb,rfl⟩
        obtain ⟨hek,hne⟩:=hE i _ hn e he hb
        have hnot:e.on ∉ U:=fun hin=>by rw [hri.2 _ hin] at hd; simp at hd
        have:=mt (hl e.on hek).1 hnot
        simp only [Array.getD_eq_getD_getElem?] at this ⊢
        rw [Array.getElem?_eq_getElem (by rw [hsz]; exact hek)] at this ⊢
        simpa using this
       rw [hrd] at hmem
       cases hmem
   · obtain ⟨h1,o,ho,hdeps⟩:=mem_ready.1 hi
     have hilt:i<all.length:=by
        have:=(Array.getElem?_eq_some_iff.1 ho).1
        simpa using this
     have hn:nth all i=some o:=by rw [k9]; simpa using ho
     have hiC:=(hl i hilt).1 h1
     have hready:Rdy all U i:=by
        refine ⟨hiC,fun k hk=>?_⟩
        cases hb:c8 all i k with
        | false=>rfl
        | true =>
          obtain ⟨e,he,hb1,rfl⟩:=(aH8 hn).1 hb
          have:=hdeps e he hb1
          rw [hlisted _ hk] at this
          simp at this
     have hmv:cN T callK all i U (dV T callK all K fuel (without U i)) env H:=(aTC hm hp fuel U hlen hlt hcl).1 i env H hready h
     have next:∀ {c:Ctx} {w:World} {env:Env} {H:List aA} {a:Act},Step1 n0 c0 c w0 w→StR n0 c w ⟨env,H⟩ a→dV T callK all K fuel (without U i) env H→wpAny P .any all.toArray (lC n0 c0 w0 K) fuel (listed.setIfInBounds i true) a w:=fun hs hr h=>by
        refine ih (without U i) (listed.setIfInBounds i true) (by simpa using hsz) (fun k hk=>?_) (fun k hk=>hlt k (j7.1 hk).1) (hcl.without hready) (by have:=aH5 hiC; omega) hs hr h
        by_cases hki:k=i
        · subst hki
          constructor
          · intro hh
            simp [hsz,hk] at hh
          · intro hh; exact absurd rfl (j7.1 hh).2
        · rw [getD_set_ne true (Ne.symm hki),hl k hk,j7]
          exact ⟨fun h=>⟨h,hki⟩,fun h=>h.1⟩
     unfold wpOp
     simp only [ho]
     rw [show cN T callK all i U (dV T callK all K fuel (without U i)) env H=jY all env o.guard
        (fun env=>p9 (iD all U i env o.op) (opK callK (qD all i) H (fun v H=>dV T callK all K fuel (without U i) (b8 env o.dst v) H) (opR T H env o.op)))
        (fun env=>dV T callK all K fuel (without U i) (b8 env o.dst (.tup [])) H) by unfold cN; rw [hn]] at hmv
     obtain ⟨env', he,hw | hw⟩:=aG6 hr.env hmv
     · obtain ⟨hw,hg⟩:=hw
       have hg:=(aHW.1 hg).2
       rw [if_pos hw]
       refine .inl ?_
       unfold Oper.wp
       unfold opK at hg
       split at hg
       · exact hg.elim
       · rename_i g x H' hop
         cases g with
         | false=>exact hg.elim
         | true =>
           obtain ⟨v,w', c', nx,hrun,hnx,hle,hx,hmm,hb,hst⟩:=hO.ok (o:=o) he hr.mem hop
           rw [hrun]
           have hgoal:=next (a:=a.put o.dst v) (hs.trans ⟨hle,hb,hst⟩) ⟨(he.mono hle hst).put o.dst hx,hmm,by rw [nE]; exact hr.nod⟩ hg
           rcases hnx with rfl | ⟨rfl,rfl⟩
           · exact hgoal
           · exact hgoal
       · rename_i f args hop
         have hcok:=hC _ _ _ _ _ hg
         obtain ⟨vals,hrun,ha⟩:=hO.call (o:=o) he hr.mem hop hcok.1
         rw [hrun]
         refine (hcok.2 c w vals ha hr.mem).mono fun e w' hE=>?_
         obtain ⟨v,rfl,c', x,H', hst,hx,hmm,_,hk⟩:=hE
         exact next (a:=a.put o.dst v) (hs.trans hst) ⟨(he.mono hst.le hst.stab).put o.dst hx,hmm,by rw [nE]; exact hr.nod⟩ hk
     · obtain ⟨hw,hg⟩:=hw
       rw [if_neg (by rw [hw]; exact Bool.false_ne_true)]
       exact next (a:=a.put o.dst undef) hs ⟨he.put o.dst (.tup rfl (fun _=>default) (fun j x hx=>by simp at hx) (fun j x hx=>by simp at hx)),hr.mem,by rw [nE]; exact hr.nod⟩ hg
def nK (P:Program) (n0:Nat):cC:=fun g args H keep K=>CallOk P n0 g args H (uK H keep K)
theorem aTE : eK P n0 (nK P n0):=fun _ _ _ _ _ h=>h
theorem aH9 : uO (nK P n0):=fun f args H keep K K' hk h=>CallOk.mono h fun v H' hh=>⟨hh.1,hk v H' hh.1 hh.2⟩
theorem aIA (hC:eK P n0 callK) {all:List Oper} {i:Nat} {U:List Nat} {cont cont' : Env→List aA→Prop} (hc:∀ e H,cont e H→cont' e H) {env:Env} {H:List aA} (h:cN T callK all i U cont env H):cN T (nK P n0) all i U cont' env H:=by
 cases hi:nth all i with
 | none=>unfold cN at h; rw [hi] at h; exact h.elim
 | some o =>
   rw [nI hi] at h ⊢
   rcases h with ⟨hg,hst,hk⟩ | ⟨hg,hk⟩
   · refine .inl ⟨hg,hst,?_⟩
     unfold opK at hk ⊢
     split
     · rename_i he; rw [he] at hk; exact hk
     · rename_i g x H' he
       rw [he] at hk
       cases g with
       | false=>exact hk
       | true=>exact hc _ _ hk
     · rename_i f args he
       rw [he] at hk
       exact aH9 _ _ _ _ _ _ (fun v H' _ hh=>hc _ _ hh) (hC _ _ _ _ _ hk)
   · exact .inr ⟨hg,hc _ _ hk⟩
theorem aBZ (hC:eK P n0 callK) {all:List Oper} {K:St→Prop}:∀ (n:Nat) (U:List Nat) {env:Env} {H:List aA},dV T callK all K n U env H→dV T (nK P n0) all K n U env H
 | 0,[],_,_,h=>h
 | 0,_ :: _,_,_,h=>h.elim
 | n+1,[],_,_,h=>h
 | n+1,u :: U,env,H,h=>by
   have hne:u :: U≠[]:=by simp
   rw [nJ hne] at h ⊢
   split
   · rename_i k hk
     rw [hk] at h
     exact aIA hC (fun e H hh=>aBZ hC n _ hh) h
   · rename_i hk
     rw [hk] at h
     refine aTB (fun he=>?_) fun k hkm=>aIA hC (fun e H hh=>aBZ hC n _ hh) (aBY h k hkm)
     simp only at h
     rw [he] at h
     exact h
theorem EnvR.drawn {c:Ctx} {w:World} {env:Env} {tmps:Array Value} (h:EnvR c w env tmps):EnvR c { w with drawn:=w.drawn+1 } env tmps:=EnvR.mono (w:=w) (w' := { w with drawn:=w.drawn+1 }) (Ctx.le_refl c) (fun _ _=>rfl) h
theorem uS (hm:P.follows .mixedOrders=true) (hO:qN P T n0) (hC:eK P n0 callK):aSG P T n0 callK:=by
 intro ops hcalm c0 w0 st a X id hr h
 have h1:dV T (nK P n0) ops X ops.length (List.range ops.length) st.env st.H:=aBZ hC _ _ h
 unfold mW at hcalm
 cases hc4:aA5 ops with
 | false=>rw [hc4] at hcalm; simp at hcalm
 | true =>
   rw [hc4] at hcalm
   have hc5:aA4 ops ops.length=true:=hcalm
   refine wp_region_any hm ?_
   have hsz:ops.toArray.size=ops.length:=by simp
   rw [hsz]
   refine aTD (T:=T) (callK:=nK P n0) hO aTE aH9 (fun i o hi e he hb=>?_) (fun i j hi hj hne t1 t2 hs=>?_) ops.length (List.range ops.length) _ (by simp) (fun i hi=>?_) (fun i hi=>by simpa using hi) (fun k m hk hn=>absurd (by simpa using hk) hn) (by simp) (c:=c0) (w:={ w0 with drawn:=w0.drawn+1 }) ⟨Ctx.le_refl _,⟨rfl,rfl,rfl,Nat.le_refl _,fun _ _=>rfl⟩,fun _ _=>rfl⟩ ⟨hr.env.drawn,hr.mem.heap rfl,hr.nod⟩ h1
   · have hil:i<ops.length:=by
        rw [k9] at hi
        exact (List.getElem?_eq_some_iff.1 hi).1
     unfold aA5 at hc4
     have:=List.all_eq_true.1 hc4 i (by simpa using hil)
     rw [hi] at this
     have:=List.all_eq_true.1 this e (by simpa using he)
     rw [hb] at this
     simp only [cond_true] at this
     cases hb2:Nat.blt e.on ops.length with
     | false=>rw [hb2] at this; simp at this
     | true =>
       rw [hb2] at this
       refine ⟨(dW _ _).1 hb2,fun heq=>?_⟩
       rw [heq,Nat.beq_refl] at this
       simp at this
   · have d1:=aH6 t1
     have d2:=aH6 t2
     unfold aA4 at hc5
     have:=List.all_eq_true.1 (List.all_eq_true.1 hc5 i (by simpa using hi)) j (by simpa using hj)
     have hno:iC ops i j=false:=by
        unfold iC
        have hb:Nat.beq i j=false:=by cases hb:Nat.beq i j with | false=>rfl | true=>exact absurd (Nat.eq_of_beq_eq_true hb) hne
        rw [hb,d1,d2]; rfl
     rw [hno,t1,t2] at this
     simp only [cond_false] at this
     replace this:tW ops i j=true:=by
        cases hpk:tW ops i j with
        | true=>rfl
        | false=>rw [hpk] at this; simp at this
     unfold tW at this
     rw [hs] at this
     simp only [cond_true] at this
     cases hb:(bif gI ops j then true else bif aA2 ops j then true else bif aA3 ops j then !qC ops i else bif aA0 ops j then mV ops i else bif aA1 ops j then (bif qC ops i then false else mV ops i) else false) with
     | false=>rw [hb] at this; simp at this
     | true =>
       rw [hb] at this
       simp only [cond_true] at this
       split at this
       · rename_i x y hx hy
         have hne' : Nat.beq j i=false:=by cases hb:Nat.beq j i with | false=>rfl | true=>exact absurd (Nat.eq_of_beq_eq_true hb).symm hne
         refine ⟨x,y,hx,hy,?_,?_,?_,this,by unfold iC; rw [hne', d2,d1]; rfl,t2⟩
         · unfold gI at hs; rw [hx] at hs; exact hs
         · unfold gI aA2 aA3 qC aA0 aA1 at hb
           rw [hy,hx] at hb
           simp only at hb
           cases h6:fM y.op with
           | true=>exact .inl rfl
           | false =>
             rw [h6] at hb
             simp only [cond_false] at hb
             cases h7:iQ y.op with
             | true=>exact .inr (.inl (.inl rfl))
             | false =>
               rw [h7] at hb
               simp only [cond_false] at hb
               cases h7b:jI y.op with
               | true =>
                 rw [h7b] at hb
                 simp only [cond_true,Bool.not_eq_true'] at hb
                 exact .inr (.inl (.inr ⟨rfl,hb⟩))
               | false =>
               rw [h7b] at hb
               simp only [cond_false] at hb
               cases h8:fU y.op with
               | none =>
                 rw [h8] at hb
                 simp only [cond_false] at hb
                 cases h9:fE y.op with
                 | none=>rw [h9] at hb; simp at hb
                 | some a =>
                   rw [h9] at hb
                   simp only [cond_true] at hb
                   cases hcv:mT x.op with
                   | true=>rw [hcv] at hb; simp at hb
                   | false =>
                     rw [hcv] at hb
                     simp only [cond_false] at hb
                     refine .inr (.inr (.inr ⟨⟨a,rfl⟩,rfl,fun d hd k o hk hnk hm=>?_⟩))
                     unfold mV at hb
                     rw [hx] at hb
                     simp only at hb
                     rw [hd] at hb
                     simp only at hb
                     have h9:=List.all_eq_true.1 hb k (by simpa using hk)
                     rw [hnk] at h9
                     simp only at h9
                     have h10:(o.looksAt ops.toArray).contains d=true:=by simpa using hm
                     rw [h10] at h9
                     simp only [cond_true] at h9
                     cases h11:Nat.beq k i with
                     | true=>rw [h11] at h9; simp at h9
                     | false =>
                       rw [h11] at h9
                       exact ⟨fun he=>by rw [he,Nat.beq_refl] at h11; simp at h11,h9⟩
               | some a =>
                 rw [h8] at hb
                 simp only [cond_true] at hb
                 refine .inr (.inr (.inl ⟨⟨a,rfl⟩,fun d hd k o hk hnk hm=>?_⟩))
                 unfold mV at hb
                 rw [hx] at hb
                 simp only at hb
                 rw [hd] at hb
                 simp only at hb
                 have h9:=List.all_eq_true.1 hb k (by simpa using hk)
                 rw [hnk] at h9
                 simp only at h9
                 have h10:(o.looksAt ops.toArray).contains d=true:=by simpa using hm
                 rw [h10] at h9
                 simp only [cond_true] at h9
                 cases h11:Nat.beq k i with
                 | true=>rw [h11] at h9; simp at h9
                 | false =>
                   rw [h11] at h9
                   exact ⟨fun he=>by rw [he,Nat.beq_refl] at h11; simp at h11,h9⟩
         · unfold qD
           rw [List.any_eq_true]
           refine ⟨i,by simpa using hi,?_⟩
           unfold iC
           rw [hne', d1,d2]; rfl
       · simp at this
   · simp [hi]
end
end
section
noncomputable section
def aIB (H:List aA) (id:Nat):Option AV:=match aF H id with
 | .typed e xs _=>some (.imm e xs)
 | _=>none
def aIC (H:List aA) (id off len:Nat):Option AV:=match aF H id with
 | .typed e xs _=>some (.imm e ((xs.drop off).take len))
 | _=>none
def iV (H:List aA):AV→Option AV
 | .int k n=>some (.int k n)
 | .bool b=>some (.bool b)
 | .str s=>some (.str s)
 | .imm e l=>some (.imm e l)
 | .own id=>aIB H id
 | .win id off len=>aIC H id off len
 | .nils=>some .nils
 | .nilp=>some .nilp
 | .undef=>some .undef
 | .fn f []=>some (.fn f [])
 | .raw v=>some (.raw v)
 | _=>none
def aB0 (H:List aA) (l:List AV):Option (List AV):=List.rec (some []) (fun x _ ih=>match iV H x with | some y=>(match ih with | some r=>some (y :: r) | none=>none) | none=>none) l
def plain (H:List aA) (x:AV):Option AV:=match x with
 | .agg cs=>(match aB0 H cs with | some ds=>some (.agg ds) | none=>none)
 | x=>iV H x
def qU (H:List aA) (l:List AV):Option (List AV):=List.rec (some []) (fun x _ ih=>match plain H x with | some y=>(match ih with | some r=>some (y :: r) | none=>none) | none=>none) l
def jL (l:List AV):List Nat:=List.rec [] (fun x _ ih=>bM (cellsOf x) ++ ih) l
def re0 (f:Nat→Nat):AV→AV
 | .own id => .own (f id)
 | x=>x
def re1 (f:Nat→Nat):AV→AV
 | .own id => .own (f id)
 | .agg cs => .agg (cs.map (re0 f))
 | x=>x
def c9 (f:Nat→Nat):AV→AV
 | .tup vs => .tup (vs.map (re1 f))
 | x=>re1 f x
def dK (n:Nat):AV→Bool
 | .int _ _=>true
 | .bool _=>true
 | .str _=>true
 | .own k=>Nat.blt k n
 | .nils=>true
 | .nilp=>true
 | .imm _ _=>true
 | _=>false
def outL0 (n:Nat) (l:List AV):Bool:=List.rec true (fun x _ ih=>bif dK n x then ih else false) l
def dL (n:Nat):AV→Bool
 | .agg cs=>outL0 n cs
 | x=>dK n x
def outL (n:Nat) (l:List AV):Bool:=List.rec true (fun x _ ih=>bif dL n x then ih else false) l
def fG (n:Nat):AV→Bool
 | .tup vs=>outL n vs
 | x=>dL n x
def uT : aA→Bool
 | .typed _ _ _=>true
 | _=>false
def nL (l:List aA):Bool:=List.rec true (fun x _ ih=>bif uT x then ih else false) l
def nM : CTy→Bool
 | .slice _=>false
 | _=>true
def fX : ETy→Bool
 | .one t=>nM t
 | .more t e=>bif nM t then fX e else false
def aID : aA→Bool
 | .typed e _ _=>fX e
 | _=>false
def aIE (l:List aA):Bool:=List.rec true (fun x _ ih=>bif aID x then ih else false) l
def jM : AV→Bool
 | .imm _ _=>false
 | _=>true
def aTF (l:List AV):Bool:=List.rec true (fun x _ ih=>bif jM x then ih else false) l
def iW : AV→Bool
 | .agg cs=>aTF cs
 | x=>jM x
def aTG (l:List AV):Bool:=List.rec true (fun x _ ih=>bif iW x then ih else false) l
def iX : AV→Bool
 | .tup vs=>aTG vs
 | x=>iW x
def gZ (v:AV) (objs:List aA):Bool:=bif iX v then aIE objs else false
def Ren (H' : List aA) (v' v:AV) (objs:List aA):Prop:=∃ ids:List Nat,ids.length=objs.length∧ids.Nodup∧(∀ (k id:Nat),ids[k]? = some id→objs[k]? = some (aF H' id))∧v' = c9 (fun k=>ids.getD k 0) v
def Con (P:Program) (g:FuncId) (args:List AV) (Q:AV→List aA→Prop):Prop:=∀ n0,CallOk P n0 g args [] fun v' H' => ∃ v objs,Q v objs∧fG objs.length v=true∧nL objs=true∧Ren H' v' v objs
def lF (H:List aA) (args:List AV) (v:AV) (objs:List aA):List aA:=(bif gZ v objs then H else freezeAt H (jL args)) ++ objs
end
theorem aTH {l:List AV} {id:Nat}:id∈jL l↔∃ x∈l,id∈bM (cellsOf x):=by
 induction l with
 | nil=>simp [jL]
 | cons y l ih =>
   show id∈bM (cellsOf y) ++ jL l↔_
   rw [List.mem_append,ih]
   simp
section
variable {P:Program} {n0:Nat} {c:Ctx} {H:List aA} {w:World}
def dM (S:Nat→Prop):Ctx:=⟨0,fun _=>default,fun _=>0,S,S⟩
theorem aB1 {e:ETy} {l:List e.D} (hb:ETy.beq e e=true):fL e e l=some l:=by
 unfold fL
 rw [dif_pos hb]
mutual
theorem CTy.beq_self : ∀ t:CTy,CTy.beq t t=true
 | .int k=>by simp [CTy.beq]
 | .bool=>rfl
 | .str=>rfl
 | .slice e=>by simp only [CTy.beq]; exact ETy.beq_self e
theorem ETy.beq_self : ∀ e:ETy,ETy.beq e e=true
 | .one t=>by simp only [ETy.beq]; exact CTy.beq_self t
 | .more t e=>by simp only [ETy.beq,Bool.and_eq_true]; exact ⟨CTy.beq_self t,ETy.beq_self e⟩
end
theorem aB2 (hH:HR n0 c H w) {S:Nat→Prop} (hS:∀ g,c.S g→S g) {x y:AV} {v:Value} (hx:AVR c w x v) (hy:iV H x=some y) (hs:∀ id∈fC x,eU (aF H id)=true→∀ g,blk (c.m id)=some g→S g):AVR (dM S) w y v:=by
 unfold iV at hy
 split at hy <;> try (simp at hy; done)
 · simp only [Option.some.injEq] at hy; subst hy; cases hx; exact .int _ _
 · simp only [Option.some.injEq] at hy; subst hy; cases hx; exact .bool _
 · simp only [Option.some.injEq] at hy; subst hy; cases hx; exact .str _
 · simp only [Option.some.injEq] at hy
   subst hy
   cases hx with
   | imm hc=>exact .imm (CellR.mono hS (fun _ _=>rfl) hc)
 · rename_i id
   unfold aIB at hy
   split at hy
   · rename_i e xs fz ho
     simp only [Option.some.injEq] at hy
     subst hy
     refine .imm (uG hH hx (e:=e) (l:=xs) ?_ hS hs)
     simp only [fS,ho,aB1 (ETy.beq_self e)]
   · simp at hy
 · rename_i id off len
   unfold aIC at hy
   split at hy
   · rename_i e xs fz ho
     simp only [Option.some.injEq] at hy
     subst hy
     refine .imm (uG hH hx (e:=e) ?_ hS hs)
     simp only [fS,ho,aB1 (ETy.beq_self e),Option.map_some]
   · simp at hy
 · simp only [Option.some.injEq] at hy; subst hy; cases hx; exact .nils
 · simp only [Option.some.injEq] at hy; subst hy; cases hx; exact .nilp
 · simp only [Option.some.injEq] at hy; subst hy; exact .undef _
 · simp only [Option.some.injEq] at hy
   subst hy
   cases hx with
   | fn hl u h1 h2=>exact .fn hl u h1 (fun j x hx=>by simp at hx)
 · simp only [Option.some.injEq] at hy; subst hy; cases hx; exact .raw _
theorem aIF : ∀ {l r:List AV},aB0 H l=some r→l.length=r.length∧∀ (j:Nat) (y:AV),r[j]? = some y→∃ x,l[j]? = some x∧iV H x=some y
 | [],r,h=>by
   have:r=[]:=(Option.some.inj h).symm
   subst this
   exact ⟨rfl,fun j y hy=>by simp at hy⟩
 | x :: l,r,h=>by
   have h' : (match iV H x with | some y=>(match aB0 H l with | some r=>some (y :: r) | none=>none) | none=>none)=some r:=h
   split at h'
   · rename_i y hy
     split at h'
     · rename_i r' hr'
       simp only [Option.some.injEq] at h'
       subst h'
       obtain ⟨h1,h2⟩:=aIF hr'
       refine ⟨by simp [h1],fun j z hz=>?_⟩
       cases j with
       | zero=>simp only [List.getElem?_cons_zero,Option.some.injEq] at hz; subst hz; exact ⟨x,rfl,hy⟩
       | succ j=>simpa using h2 j z (by simpa using hz)
     · simp at h'
   · simp at h'
theorem aIG : ∀ {l r:List AV},qU H l=some r→l.length=r.length∧∀ (j:Nat) (y:AV),r[j]? = some y→∃ x,l[j]? = some x∧plain H x=some y
 | [],r,h=>by
   have:r=[]:=(Option.some.inj h).symm
   subst this
   exact ⟨rfl,fun j y hy=>by simp at hy⟩
 | x :: l,r,h=>by
   have h' : (match plain H x with | some y=>(match qU H l with | some r=>some (y :: r) | none=>none) | none=>none)=some r:=h
   split at h'
   · rename_i y hy
     split at h'
     · rename_i r' hr'
       simp only [Option.some.injEq] at h'
       subst h'
       obtain ⟨h1,h2⟩:=aIG hr'
       refine ⟨by simp [h1],fun j z hz=>?_⟩
       cases j with
       | zero=>simp only [List.getElem?_cons_zero,Option.some.injEq] at hz; subst hz; exact ⟨x,rfl,hy⟩
       | succ j=>simpa using h2 j z (by simpa using hz)
     · simp at h'
   · simp at h'
theorem aIH (hH:HR n0 c H w) {S:Nat→Prop} (hS:∀ g,c.S g→S g) {x y:AV} {v:Value} (hx:AVR c w x v) (hy:plain H x=some y) (hs:∀ id∈bM (cellsOf x),eU (aF H id)=true→∀ g,blk (c.m id)=some g→S g):AVR (dM S) w y v:=by
 have one:cellsOf x=[x]→iV H x=some y→AVR (dM S) w y v:=fun hc hp=>aB2 hH hS hx hp fun id hid=>hs id (by rw [hc]; show id∈fC x ++ []; simpa using hid)
 cases x with
 | agg cs =>
   simp only [plain] at hy
   split at hy
   · rename_i ds hds
     simp only [Option.some.injEq] at hy
     subst hy
     obtain ⟨hl,hg⟩:=aIF hds
     cases hx with
     | agg hl2 u h1 h2 =>
       refine .agg (by omega) u (fun j y hy=>?_) (fun j y hy=>?_)
       · obtain ⟨x,hx,_⟩:=hg j y hy
         exact h1 j x hx
       · obtain ⟨x,hx,hp⟩:=hg j y hy
         exact aB2 hH hS (h2 j x hx) hp fun id hid=>hs id (nC.2 ⟨x,List.mem_iff_getElem?.2 ⟨j,hx⟩,hid⟩)
   · simp at hy
 | _=>exact one rfl hy
theorem aII {S S' : Nat→Prop} {t:CTy} (hf:nM t=true) {x:t.D} {v:Value} (h:CellR S w t x v):CellR S' w t x v:=by
 cases t <;> simp only [CellR,nM] at h hf ⊢ <;> first | exact h | (simp at hf)
theorem uU {S S' : Nat→Prop}:∀ {e:ETy},fX e=true→∀ {x:e.D} {vs:List Value},ElemR S w e x vs→ElemR S' w e x vs
 | .one t,hf,x,vs,h=>by
   simp only [ElemR] at h ⊢
   obtain ⟨v,h1,h2⟩:=h
   exact ⟨v,h1,aII hf h2⟩
 | .more t e,hf,x,vs,h=>by
   simp only [ElemR] at h ⊢
   obtain ⟨v,r,h1,h2,h3⟩:=h
   have hf' : (bif nM t then fX e else false)=true:=hf
   cases ht:nM t with
   | false=>rw [ht] at hf'; simp at hf'
   | true =>
     rw [ht] at hf'
     exact ⟨v,r,h1,aII ht h2,uU hf' h3⟩
theorem eM {α:Type} (p:α→Bool):∀ {l:List α},(List.rec (motive:=fun _=>Bool) true (fun x _ ih=>bif p x then ih else false) l)=true→∀ x∈l,p x=true
 | [],_,x,hx=>by cases hx
 | y :: l,h,x,hx=>by
   have h' : (bif p y then (List.rec (motive:=fun _=>Bool) true (fun x _ ih=>bif p x then ih else false) l) else false)=true:=h
   cases hy:p y with
   | false=>rw [hy] at h'; simp at h'
   | true =>
     rw [hy] at h'
     rcases List.mem_cons.1 hx with rfl | hx
     · exact hy
     · exact eM p h' x hx
end
end
section
theorem aB3 (H l:List aA) (id:Nat):aF (H ++ l) id=if id<H.length then aF H id else aF l (id - H.length):=by
 rw [fF,fF,fF]
 by_cases h:id<H.length
 · rw [if_pos h,List.getElem?_append_left h]
 · rw [if_neg h,List.getElem?_append_right (by omega)]
section
variable {P:Program} {n0:Nat} {c:Ctx} {H:List aA} {w:World}
def Ctx.join (cb c1:Ctx) (k:Nat) (ids:List Nat) (n1:Nat):Ctx:=⟨cb.n+k,fun id=>if id<cb.n then cb.m id else c1.m (ids.getD (id - cb.n) 0),fun id=>if id<cb.n then cb.z id else c1.z (ids.getD (id - cb.n) 0),fun g=>cb.S g∨(c1.S g∧n1≤g),cb.S0⟩
theorem uV (cb c1:Ctx) (k:Nat) (ids:List Nat) (n1:Nat):Ctx.le cb (cb.join c1 k ids n1):=⟨Nat.le_add_right _ _,fun id hi=>by simp [Ctx.join,hi],fun id hi=>by simp [Ctx.join,hi],fun g hg => .inl hg,rfl⟩
theorem aB4 {cb c1:Ctx} {Hb H1 objs:List aA} {w' : World} {ids:List Nat} {v:AV} {x' : AV} {v0:Value} (hM:Mem n0 cb Hb w) (hM1:Mem w.heap.size c1 H1 w') (hbel:RowKit.Below w.heap.size w w') (hn0:n0≤w.heap.size)
 (hlen:ids.length=objs.length) (hnd:ids.Nodup) (hob:∀ (k id:Nat),ids[k]? = some id→objs[k]? = some (aF H1 id)) (hty:nL objs=true) (hout:fG objs.length v=true) (hx' : x' = c9 (fun k=>ids.getD k 0) v) (hx:AVR c1 w' x' v0)
 (hS:(∀ g,c1.S g→cb.S g∨w.heap.size≤g)∨gZ v objs=true) :
 AVR (cb.join c1 objs.length ids w.heap.size) w' (c9 (fun k=>Hb.length+k) v) v0∧Mem n0 (cb.join c1 objs.length ids w.heap.size) (Hb ++ objs) w' ∧ ∀ g,cb.S g→w'.heap[g]? = w.heap[g]? := by
 have hcl:=hM.obj.len
 have hSw:∀ g,cb.S g→w'.heap[g]? = w.heap[g]? := fun g hg=>hbel.block g (hM.stab g hg)
 have hle:=uV cb c1 objs.length ids w.heap.size
 -- the new objects
 have hnew:∀ k,k<objs.length→∃ id e xs fz,ids[k]? = some id∧ids.getD k 0=id∧objs[k]? = some (.typed e xs fz)∧aF H1 id = .typed e xs fz∧id<H1.length:=by
  intro k hk
  have hik:ids[k]? = some ids[k]:=List.getElem?_eq_getElem (by omega)
  have ho:=hob k _ hik
  have hmem:aF H1 ids[k]∈objs:=List.mem_iff_getElem?.2 ⟨k,ho⟩
  have ht:=eM uT hty _ hmem
  cases hobj:aF H1 ids[k] with
  | typed e xs fz=>exact ⟨_,e,xs,fz,hik,by rw [List.getD_eq_getElem?_getD,hik]; rfl,by rw [ho,hobj],hobj,cU (by rw [hobj]; simp)⟩
  | box cs=>rw [hobj] at ht; simp [uT] at ht
  | dead=>rw [hobj] at ht; simp [uT] at ht
 have hmk:∀ k,k<objs.length→(cb.join c1 objs.length ids w.heap.size).m (cb.n+k)=c1.m (ids.getD k 0):=fun k hk=>by
  simp only [Ctx.join]
  rw [if_neg (by omega),show cb.n+k - cb.n=k by omega]
 have hzk:∀ k,k<objs.length→(cb.join c1 objs.length ids w.heap.size).z (cb.n+k)=c1.z (ids.getD k 0):=fun k hk=>by
  simp only [Ctx.join]
  rw [if_neg (by omega),show cb.n+k - cb.n=k by omega]
 have hgeS:∀ g,c1.S g→w.heap.size≤g→(cb.join c1 objs.length ids w.heap.size).S g:=fun g h1 h2 => .inr ⟨h1,h2⟩
 -- results
 have one0:∀ (y:AV) (u:Value),dK objs.length y=true→jM y=true∨(∀ g,c1.S g→cb.S g∨w.heap.size≤g)→AVR c1 w' (re0 (fun k=>ids.getD k 0) y) u→AVR (cb.join c1 objs.length ids w.heap.size) w' (re0 (fun k=>Hb.length+k) y) u:=by
  intro y u ho hf h
  cases y <;> simp only [dK,Bool.false_eq_true] at ho <;> simp only [re0] at h ⊢
  · cases h; exact .int _ _
  · cases h; exact .bool _
  · cases h; exact .str _
  · rename_i e l
    rcases hf with hf | hf
    · simp [jM] at hf
    · cases h with
      | imm hc =>
        refine .imm (CellR.mono (S:=c1.S) (w:=w') (fun g hg=>?_) (fun _ _=>rfl) hc)
        rcases hf g hg with h1 | h1
        · exact .inl h1
        · exact .inr ⟨hg,h1⟩
  · rename_i k
    have hk:=(dW _ _).1 ho
    cases h with
    | own hb hm =>
      refine .own (by simp only [Ctx.join]; omega) ?_
      rw [← hcl,hmk k hk]
      exact hm
  · cases h; exact .nils
  · cases h; exact .nilp
 have one:∀ (y:AV) (u:Value),dL objs.length y=true→iW y=true∨(∀ g,c1.S g→cb.S g∨w.heap.size≤g)→AVR c1 w' (re1 (fun k=>ids.getD k 0) y) u→AVR (cb.join c1 objs.length ids w.heap.size) w' (re1 (fun k=>Hb.length+k) y) u:=by
  intro y u ho hf h
  have rest:(∀ cs,y ≠ .agg cs)→AVR (cb.join c1 objs.length ids w.heap.size) w' (re1 (fun k=>Hb.length+k) y) u:=fun hne=>by
   have e1:dL objs.length y=dK objs.length y:=by cases y <;> first | rfl | exact absurd rfl (hne _)
   have e2:∀ f,re1 f y=re0 f y:=by intro f; cases y <;> first | rfl | exact absurd rfl (hne _)
   have e3:iW y=jM y:=by cases y <;> first | rfl | exact absurd rfl (hne _)
   rw [e2] at h ⊢
   exact one0 y u (e1 ▸ ho) (e3 ▸ hf) h
  cases y with
  | agg cs =>
    simp only [re1] at h ⊢
    cases h with
    | agg hl u h1 h2 =>
      refine .agg (by simpa using hl) u (fun j y hy=>?_) (fun j y hy=>?_)
      · rw [List.getElem?_map,Option.map_eq_some_iff] at hy
        obtain ⟨z,hz,rfl⟩:=hy
        exact h1 j (re0 (fun k=>ids.getD k 0) z) (by rw [List.getElem?_map,hz]; rfl)
      · rw [List.getElem?_map,Option.map_eq_some_iff] at hy
        obtain ⟨z,hz,rfl⟩:=hy
        have hzm:z∈cs:=List.mem_iff_getElem?.2 ⟨j,hz⟩
        exact one0 z _ (eM (dK objs.length) ho z hzm) (hf.imp (fun hf=>eM jM hf z hzm) id) (h2 j (re0 (fun k=>ids.getD k 0) z) (by rw [List.getElem?_map,hz]; rfl))
  | _=>exact rest (by intro cs h; cases h)
 have hres:AVR (cb.join c1 objs.length ids w.heap.size) w' (c9 (fun k=>Hb.length+k) v) v0:=by
  have hflat:gZ v objs=true→iX v=true:=fun h=>by
   unfold gZ at h
   cases hn:iX v with
   | true=>rfl
   | false=>rw [hn] at h; simp at h
  rw [hx'] at hx
  have other:(∀ vs,v ≠ .tup vs)→fG objs.length v=dL objs.length v∧iX v=iW v∧∀ f,c9 f v=re1 f v:=by
   intro hne
   cases v <;> first | exact ⟨rfl,rfl,fun _=>rfl⟩ | exact absurd rfl (hne _)
  have rest:(∀ vs,v ≠ .tup vs)→AVR (cb.join c1 objs.length ids w.heap.size) w' (c9 (fun k=>Hb.length+k) v) v0:=by
   intro hne
   obtain ⟨o1,o2,o3⟩:=other hne
   rw [o3]
   rw [o3] at hx
   refine one v _ (o1 ▸ hout) ?_ hx
   rcases hS with hS | hS
   · exact .inr hS
   · exact .inl (o2 ▸ hflat hS)
  cases v with
  | tup vs =>
    simp only [c9] at hx ⊢
    cases hx with
    | tup hl u h1 h2 =>
      rename_i us
      refine .tup (by simpa using hl) u (fun j y hy=>?_) (fun j y hy=>?_)
      · rw [List.getElem?_map,Option.map_eq_some_iff] at hy
        obtain ⟨z,hz,rfl⟩:=hy
        exact h1 j (re1 (fun k=>ids.getD k 0) z) (by rw [List.getElem?_map,hz]; rfl)
      · rw [List.getElem?_map,Option.map_eq_some_iff] at hy
        obtain ⟨z,hz,rfl⟩:=hy
        have hzm:z∈vs:=List.mem_iff_getElem?.2 ⟨j,hz⟩
        refine one z _ (eM (dL objs.length) hout z hzm) ?_ (h2 j (re1 (fun k=>ids.getD k 0) z) (by rw [List.getElem?_map,hz]; rfl))
        rcases hS with hS | hS
        · exact .inr hS
        · exact .inl (eM iW (hflat hS) z hzm)
  | _=>exact rest (by intro vs h; cases h)
 refine ⟨hres,⟨⟨by simp [Ctx.join,hcl],fun id hid=>?_,fun i j g hi hj hne ai aj bi=>?_⟩,?_,fun g hg=>?_,fun g hg hgl=>?_⟩,hSw⟩
 · rw [aB3]
   by_cases h1:id<Hb.length
   · rw [if_pos h1]
     by_cases hal:aV (aF Hb id)=true
     · refine (hM.obj.obj id h1).mono hle (by omega) (fun g hg hgS=>?_) hSw fun g hg=>hbel.block g (hM.obj.lt id g h1 hal hg)
       rcases hgS with hgS | ⟨_,hgS⟩
       · exact hgS
       · have:=hM.obj.lt id g h1 hal hg; omega
     · cases ho:aF Hb id with
       | dead=>trivial
       | typed e xs fz=>rw [ho] at hal; simp [aV] at hal
       | box cs=>rw [ho] at hal; simp [aV] at hal
   · rw [if_neg h1]
     simp only [List.length_append] at hid
     have hk:id - Hb.length<objs.length:=by omega
     obtain ⟨id1,e,xs,fz,p1,p2,p3,p4,p5⟩:=hnew _ hk
     have hid2:id=cb.n+(id - Hb.length):=by omega
     have e1:aF objs (id - Hb.length) = .typed e xs fz:=by rw [fF,p3]; rfl
     rw [e1]
     have hm1:=hmk _ hk
     have hz1:=hzk _ hk
     rw [← hid2,p2] at hm1 hz1
     have hob1:=hM1.obj.obj id1 p5
     rw [p4] at hob1
     obtain ⟨hz,⟨Ty,cells,hown,hrow⟩,hst⟩:=hob1
     refine ⟨hz1.trans hz,⟨Ty,cells,?_,fun i x hx=>?_⟩,fun g hg=>?_⟩
     · rw [hm1]
       refine ⟨hown.1,?_⟩
       rcases hown.2 with hn | ⟨g', cap,cur,a1,a2,a3⟩
       · exact .inl hn
       · exact .inr ⟨g', cap,cur,a1,by omega,a3⟩
     · obtain ⟨vs,h2,h3⟩:=hrow i x hx
       refine ⟨vs,?_,h3⟩
       rcases hS with hS | hS
       · refine ElemR.mono (S:=c1.S) (w:=w') (fun g hg=>?_) (fun _ _=>rfl) h2
         rcases hS g hg with h4 | h4
         · exact .inl h4
         · exact .inr ⟨hg,h4⟩
       · have hfl:aIE objs=true:=by
          unfold gZ at hS
          cases hn:iX v with
          | true=>rw [hn] at hS; exact hS
          | false=>rw [hn] at hS; simp at hS
         have:=eM aID hfl _ (List.mem_iff_getElem?.2 ⟨_,p3⟩)
         exact uU this h2
     · rw [hm1] at hg
       have hge:=hM1.obj.base' p5 (by rw [p4]; rfl) hg
       refine ⟨fun hf => .inr ⟨(hst g hg).1 hf,hge⟩,fun hf hgS=>?_⟩
       rcases hgS with hgS | ⟨hgS,_⟩
       · have:=hM.stab g hgS; omega
       · exact (hst g hg).2 hf hgS
 · simp only [List.length_append] at hi hj
   rw [aB3] at ai aj
   have hold:∀ k,k<Hb.length→(cb.join c1 objs.length ids w.heap.size).m k=cb.m k:=fun k hk=>by simp only [Ctx.join]; rw [if_pos (by omega)]
   have hnewb:∀ k g,¬ k<Hb.length→k<Hb.length+objs.length→blk ((cb.join c1 objs.length ids w.heap.size).m k)=some g→∃ id1,ids[k - Hb.length]? = some id1∧id1<H1.length∧aV (aF H1 id1)=true∧blk (c1.m id1)=some g∧w.heap.size≤g:=by
    intro k g hk1 hk2 hb
    obtain ⟨id1,e,xs,fz,p1,p2,p3,p4,p5⟩:=hnew (k - Hb.length) (by omega)
    have hm1:=hmk (k - Hb.length) (by omega)
    rw [p2,show cb.n+(k - Hb.length)=k by omega] at hm1
    rw [hm1] at hb
    exact ⟨id1,p1,p5,by rw [p4]; rfl,hb,hM1.obj.base' p5 (by rw [p4]; rfl) hb⟩
   by_cases h1:i<Hb.length
   · rw [if_pos h1] at ai
     rw [hold i h1] at bi
     by_cases h2:j<Hb.length
     · rw [if_pos h2] at aj
       rw [hold j h2]
       exact hM.obj.dist i j g h1 h2 hne ai aj bi
     · intro hb
       obtain ⟨_,_,_,_,_,hge⟩:=hnewb j g h2 hj hb
       have:=hM.obj.lt i g h1 ai bi
       omega
   · obtain ⟨id1,q1,q2,q3,q4,q5⟩:=hnewb i g h1 hi bi
     by_cases h2:j<Hb.length
     · rw [if_pos h2] at aj
       rw [hold j h2]
       intro hb
       have:=hM.obj.lt j g h2 aj hb
       omega
     · intro hb
       obtain ⟨id2,r1,r2,r3,r4,r5⟩:=hnewb j g h2 hj hb
       refine hM1.obj.dist id1 id2 g q2 r2 (fun he=>?_) q3 r3 q4 r4
       subst he
       have h3:=List.getElem?_eq_some_iff.1 q1
       have h4:=List.getElem?_eq_some_iff.1 r1
       have:=(List.getElem_inj hnd (h₀:=h3.1) (h₁:=h4.1)).1 (h3.2.trans h4.2.symm)
       omega
 · have:=hM.base; have:=hbel.size; omega
 · rcases hg with hg | ⟨hg,_⟩
   · have:=hM.stab g hg; have:=hbel.size; omega
   · exact hM1.stab g hg
 · rcases hg with hg | ⟨_,hg⟩
   · exact hM.old g hg hgl
   · omega
theorem aIJ {g:FuncId} {args args' : List AV} {Q:AV→List aA→Prop} {K:AV→List aA→Prop} (hcon:Con P g args' Q) (hp:qU H args=some args')
 (hQ:∀ v objs,Q v objs→K (c9 (fun k=>H.length+k) v) (lF H args v objs)):CallOk P n0 g args H K:=by
 refine ⟨(hcon 0).1,fun c w vals ha hm=>?_⟩
 obtain ⟨S,hS1,hS2,hS3⟩:=hm.freezeAt (jL args)
 have hcl:=hm.obj.len
 obtain ⟨hpl,hpg⟩:=aIG hp
 have hm1:Mem w.heap.size (dM S) [] w:=⟨⟨rfl,fun id hid=>by simp at hid,fun i j g hi=>by simp at hi⟩,Nat.le_refl _,fun g hg=>hS2.stab g hg,fun g hg _=>hg⟩
 have ha1:gX (dM S) w args' vals:=by
  refine ⟨by rw [ha.1,hpl],fun j y hy=>?_⟩
  obtain ⟨x,hx,hxy⟩:=hpg j y hy
  exact aIH hm.obj hS1 (ha.2 j x hx) hxy fun id hid=>hS3 id (aTH.2 ⟨x,List.mem_iff_getElem?.2 ⟨j,hx⟩,hid⟩)
 refine ((hcon w.heap.size).2 (dM S) w vals ha1 hm1).mono fun e w' hE=>?_
 obtain ⟨v0,rfl,c1,x', H1,hst,hx,hM1,v,objs,hq,hout,hty,ids,hlen,hnd,hob,hx'⟩:=hE
 refine ⟨v0,rfl,?_⟩
 have hold:∀ g,c1.S g→S g∨w.heap.size≤g:=fun g hg=>by
  by_cases h:g<w.heap.size
  · have:=hM1.old g hg h
    rw [hst.le.S0] at this
    exact .inl this
  · exact .inr (by omega)
 have hk:=hQ v objs hq
 unfold lF at hk
 have hb0:RowKit.Below n0 w w' := hst.below.mono hm.base
 cases hf:gZ v objs with
 | true =>
   rw [hf] at hk
   obtain ⟨r1,r2,r3⟩:=aB4 hm hM1 hst.below hm.base hlen hnd hob hty hout hx' hx (.inr hf)
   exact ⟨_,_,_,⟨uV c c1 _ _ _,hb0,r3⟩,r1,r2,hk⟩
 | false =>
   rw [hf] at hk
   obtain ⟨r1,r2,r3⟩:=aB4 hS2 hM1 hst.below hm.base hlen hnd hob hty hout hx' hx (.inl hold)
   rw [aBI] at r1
   refine ⟨_,_,_,⟨(Ctx.withS_le c hS1).trans (uV (c.withS S) c1 _ _ _),hb0,fun g hg=>r3 g (hS1 g hg)⟩,r1,r2,hk⟩
end
end
section
noncomputable section
def aIK (keep:Bool) (args:List AV) (v:AV) (objs:List aA) (p:Prop):Prop:=match keep with
 | false=>p
 | true=>bif (bif gZ v objs then true else (jL args).isEmpty) then p else False
def uW (args:List AV) (H:List aA) (keep:Bool) (K:AV→List aA→Prop) (v:AV) (objs:List aA):Prop:=aIK keep args v objs (K (c9 (fun k=>H.length+k) v) (lF H args v objs))
structure eN where
 g:FuncId
 args:List AV
 v:AV
 objs:List aA
def qV (L:List eN) (g:FuncId) (args:List AV):Option eN:=List.rec none (fun x _ ih=>bif Nat.beq x.g g then (bif eqL mY x.args args then some x else ih) else ih) L
def uX (L:List eN) (other:cC):cC:=fun g args H keep K=>match qU H args with
 | some ars=>(match qV L g ars with | some x=>uW args H keep K x.v x.objs | none=>other g args H keep K)
 | none=>other g args H keep K
def nN (T:Tab) (L:List eN) (k:Nat):FnT→List Item→St→(AV→List aA→Prop)→Prop :=
 Nat.rec (fun _ _ _ _=>False) (fun _ ih f todo st K=>aH T (uX L (qF T ih)) (jZ fun todo st=>ih f todo st K) (aI T f.res K) 400 todo st) k
def iY (T:Tab) (L:List eN) (k:Nat) (g:FuncId) (args:List AV) (ids:List Nat) (v:AV) (objs:List aA):Prop:=match find T.fn g with
 | some gn=>nN T L k gn [.code gn.body] ⟨aP gn.n args,[]⟩ (fun v' H' => (v', ids.map (aF H'))=(v,objs))
 | none=>False
end
section
variable {P:Program} {T:Tab} {n0:Nat}
theorem aTI {H:List aA} {args:List AV} {v:AV} {objs:List aA} (h:(bif gZ v objs then true else (jL args).isEmpty)=true):gY H (lF H args v objs):=by
 unfold lF
 cases hf:gZ v objs with
 | true=>exact fN _ _
 | false =>
   rw [hf] at h
   have:jL args=[]:=by simpa using h
   rw [this]
   exact fN _ _
theorem aIL {args:List AV} {H:List aA} {keep:Bool} {K:AV→List aA→Prop} {v:AV} {objs:List aA} (h:uW args H keep K v objs):uK H keep K (c9 (fun k=>H.length+k) v) (lF H args v objs):=by
 unfold uW aIK at h
 cases keep with
 | false=>exact ⟨fun h=>by simp at h,h⟩
 | true =>
   simp only at h
   cases hb:(bif gZ v objs then true else (jL args).isEmpty) with
   | false=>rw [hb] at h; exact h.elim
   | true=>rw [hb] at h; exact ⟨fun _=>aTI hb,h⟩
theorem Con.mono {g:FuncId} {args:List AV} {Q Q' : AV→List aA→Prop} (h:Con P g args Q) (hQ:∀ v objs,Q v objs→Q' v objs):Con P g args Q' := fun n0 =>
 (h n0).mono fun v' H' ⟨v,objs,hq,hr⟩=>⟨v,objs,hQ v objs hq,hr⟩
def fY (P:Program) (x:eN):Prop:=Con P x.g x.args fun v objs=>v=x.v∧objs=x.objs
theorem aTJ {L:List eN} {g:FuncId} {args:List AV} {x:eN} (h:qV L g args=some x):x∈L∧x.g=g∧x.args=args:=by
 induction L with
 | nil=>simp [qV] at h
 | cons y L ih =>
   have h' : (bif Nat.beq y.g g then (bif eqL mY y.args args then some y else qV L g args) else qV L g args)=some x:=h
   cases h1:Nat.beq y.g g with
   | false =>
     rw [h1] at h'
     obtain ⟨i1,i2⟩:=ih h'
     exact ⟨List.mem_cons_of_mem _ i1,i2⟩
   | true =>
     rw [h1] at h'
     cases h2:eqL mY y.args args with
     | false =>
       rw [h2] at h'
       obtain ⟨i1,i2⟩:=ih h'
       exact ⟨List.mem_cons_of_mem _ i1,i2⟩
     | true =>
       rw [h2] at h'
       have:=Option.some.inj h'
       subst this
       exact ⟨List.mem_cons_self,Nat.eq_of_beq_eq_true h1,qQ (fun a b hab=>aHN hab) h2⟩
theorem aTK {L:List eN} (hL:∀ x∈L,fY P x) {other:cC} (ho:eK P n0 other):eK P n0 (uX L other):=by
 intro g args H keep K h
 unfold uX at h
 split at h
 · rename_i ars has
   split at h
   · rename_i x hx
     obtain ⟨h1,h2,h3⟩:=aTJ hx
     have hk:=hL x h1
     unfold fY at hk
     rw [h2,h3] at hk
     exact aIJ hk has fun v objs hq=>by
        obtain ⟨rfl,rfl⟩:=hq
        exact aIL h
   · exact ho _ _ _ _ _ h
 · exact ho _ _ _ _ _ h
theorem aIM (hT:bC P T) (hm:P.follows .mixedOrders=true) {L:List eN} (hL:∀ x∈L,fY P x) :
 ∀ (k:Nat) (g:FuncId) (gn:FnT),eG P g=some gn→∀ todo st K,nN T L k gn todo st K→GoodAt P n0 g K todo st
 | 0,_,_,_,_,_,_,h=>h.elim
 | k+1,g,gn,hg,todo,st,K,h=>by
   obtain ⟨fn,hf,hb,h1,h2⟩:=lD hg
   have ih:=aIM hT hm hL k
   have hO:=nF hT n0
   have hC:=aTK (n0:=n0) hL (aHP (n0:=n0) hT (go:=nN T L k) ih)
   have h' : aH T (uX L (qF T (nN T L k))) (jZ fun todo st=>nN T L k gn todo st K) (aI T gn.res K) 400 todo st:=h
   rw [h2] at h'
   refine qP hT hO hC (uS hm hO hC) hf (aG8 hf) (loopK:=jZ fun todo st=>nN T L k gn todo st K) (fun todo st hl=>?_) 400 todo st h'
   unfold jZ at hl
   split at hl
   · exact (ih g gn hg _ _ _ hl).same fun w a cs=>step_inLoop
   · exact hl.elim
theorem aTL (hT:bC P T) (hm:P.follows .mixedOrders=true) {L:List eN} (hL:∀ x∈L,fY P x) {k:Nat} {g:FuncId} {args:List AV} {ids:List Nat} {v v0:AV} {objs:List aA}
 (hc:iY T L k g args ids v0 objs) (hn:(match find T.fn g with | some gn=>Nat.ble args.length gn.n | none=>false)=true) (hv:v0=c9 (fun k=>ids.getD k 0) v) (hnd:decide ids.Nodup=true) (hout:fG ids.length v=true) (hty:nL objs=true):fY P ⟨g,args,v,objs⟩:=by
 intro n0
 unfold iY at hc
 split at hc
 · rename_i gn hgn
   rw [hgn] at hn
   have hg:=hT.fn _ _ hgn
   refine (aHJ hg ((eH _ _).1 hn) (aIM hT hm hL k g gn hg _ _ _ hc)).mono fun v' H' he=>?_
   simp only [Prod.mk.injEq] at he
   obtain ⟨rfl,h2⟩:=he
   have hl:ids.length=objs.length:=by rw [← h2]; simp
   refine ⟨v,objs,⟨rfl,rfl⟩,by rw [← hl]; exact hout,hty,ids,hl,of_decide_eq_true hnd,fun j id hj=>?_,hv⟩
   rw [← h2,List.getElem?_map,hj]; rfl
 · exact hc.elim
end
end
section
def Fin (n0:Nat) (S0:Nat→Prop) (w:World) (K:AV→List aA→Prop) (v:Value) (w' : World):Prop:=∃ c x H', c.S0=S0∧(∀ g,S0 g→c.S g)∧RowKit.Below n0 w w' ∧ (∀ g,S0 g→w'.heap[g]? = w.heap[g]?)∧AVR c w' x v∧Mem n0 c H' w' ∧ K x H'
def aB (P:Program) (n0:Nat) (f:FuncId) (K:AV→List aA→Prop) (todo:List Item) (st:St):Prop :=
 ∀ (c:Ctx) (w:World) (a:Act) (cs:List Frame),StR n0 c w st a→(∀ g,c.S0 g→c.S g)→∃ v w' fr,Fin n0 c.S0 w K v w' ∧
   Steps P (lone (({ (default:Frame) with fn:=f,kind := .normal }:Frame).at a todo) cs w) (lone fr cs w')∧fr.fn=f∧fr.leaving P w' (.returned v)
theorem AVR.re {c c' : Ctx} {w:World} (hn:c'.n=c.n) (hm:c'.m=c.m) (hz:c'.z=c.z) (hS:c'.S=c.S) {x:AV} {v:Value} (h:AVR c w x v):AVR c' w x v:=by
 induction h with
 | undef v=>exact .undef v
 | int k n=>exact .int k n
 | bool b=>exact .bool b
 | str s=>exact .str s
 | imm h=>exact .imm (by rw [hS]; exact h)
 | own hb h=>exact .own (by omega) (by rw [hm]; exact h)
 | win hb h h1 h2 h3 h4=>exact .win (by omega) (by rw [hm]; exact h) h1 h2 (by rw [hz]; exact h3) h4
 | nils=>exact .nils
 | ptr hb h=>exact .ptr (by omega) (by rw [hm]; exact h)
 | elt hb h h0 h1 h2=>rw [← hz]; exact .elt (by omega) (by rw [hm]; exact h) h0 h1 (by rw [hz]; exact h2)
 | parr hb h hk=>exact .parr (by omega) (by rw [hm]; exact h) hk
 | adr hg u h1 h ih=>exact .adr (by rw [hS]; exact hg) u h1 ih
 | nilp=>exact .nilp
 | agg hl u h1 h ih=>exact .agg hl u h1 ih
 | tup hl u h1 h ih=>exact .tup hl u h1 ih
 | fn hl u h1 h ih=>exact .fn hl u h1 ih
 | raw v=>exact .raw v
theorem ObjR.re {n0:Nat} {c c' : Ctx} {w:World} (hn:c'.n=c.n) (hm:c'.m=c.m) (hz:c'.z=c.z) (hS:c'.S=c.S) {id:Nat} {ob:aA} (h:ObjR n0 c w id ob):ObjR n0 c' w id ob:=by
 cases ob with
 | dead=>trivial
 | typed e xs fz =>
   obtain ⟨h1,⟨Ty,cells,h2,h3⟩,h4⟩:=h
   refine ⟨by rw [hz]; exact h1,⟨Ty,cells,by rw [hm]; exact h2,by rw [hS]; exact h3⟩,fun g hg=>?_⟩
   rw [hm] at hg
   rw [hS]
   exact h4 g hg
 | box cs =>
   obtain ⟨g,Ty,arr,h1,h2,h3,h4,h5,h6⟩:=h
   exact ⟨g,Ty,arr,by rw [hm]; exact h1,h2,h3,h4,fun j x hx=>(h5 j x hx).re hn hm hz hS,by rw [hS]; exact h6⟩
theorem HR.re {n0:Nat} {c c' : Ctx} {H:List aA} {w:World} (hn:c'.n=c.n) (hm:c'.m=c.m) (hz:c'.z=c.z) (hS:c'.S=c.S) (h:HR n0 c H w):HR n0 c' H w :=
 ⟨hn.trans h.len,fun id hid=>(h.obj id hid).re hn hm hz hS,fun i j g hi hj hne ai aj bi=>by
  rw [hm] at bi ⊢
  exact h.dist i j g hi hj hne ai aj bi⟩
section
variable {P:Program} {T:Tab} {n0:Nat} {f:FuncId} {K:AV→List aA→Prop}
theorem aTM {fn:Func} (hf:P.funcs[f]? = some fn):IsGood P n0 f fn K (aB P n0 f K) where
 to h c w a cs hr hS:=by
  obtain ⟨todo', st', c', w', a', hg,h1,h2,h3⟩:=h c w a cs hr
  have hS0:=h1.le.S0
  obtain ⟨v,w'', fr,⟨c2,x,H', q1,q2,q3,q4,q5,q6,q7⟩,hst,hfn,hl⟩:=hg c' w' a' cs h2 (fun g hg=>h1.le.S g (hS g (by rw [← hS0]; exact hg)))
  rw [hS0] at q1 q2 q4
  exact ⟨v,w'', fr,⟨c2,x,H', q1,q2,h1.below.trans q3,fun g hg=>(q4 g hg).trans (h1.stab g (hS g hg)),q5,q6,q7⟩,h3.trans hst,hfn,hl⟩
 fin h c w a cs hr hS:=by
  obtain ⟨v,x,todo', h1,h2,h3,h4⟩:=h c w a cs hr
  exact ⟨v,w,_,⟨c,x,_,rfl,hS,RowKit.Below.refl n0 w,fun _ _=>rfl,h3,hr.mem,h4⟩,h1,rfl,rfl,hr.nod,rfl,fn,hf,h2⟩
 un h c w a cs hr hS:=by
  obtain ⟨v,w'', fr,hE,hst,hfn,hl⟩:=h c w a cs hr hS
  exact ⟨v,w'', fr,hE,aBO hst hl,hfn,hl⟩
theorem aIN {g:FuncId} {gn:FnT} (hg:eG P g=some gn) {args:List AV} {Q:AV→List aA→Prop} (hn:Nat.ble args.length gn.n=true)
 (h:∀ n0,aB P n0 g (fun v' H' => ∃ v objs,Q v objs∧fG objs.length v=true∧nL objs=true∧Ren H' v' v objs) [.code gn.body] ⟨aP gn.n args,[]⟩):Con P g args Q:=by
 intro n0
 refine ⟨by rw [hg]; rfl,fun c w vals ha hm cs=>?_⟩
 obtain ⟨fn,hf,hb,h1,h2⟩:=lD hg
 have henter:Frame.enter P g vals .normal=({ (default:Frame) with fn:=g,kind := .normal }:Frame).at { tmps:=vals ++ Array.replicate (gn.n - vals.size) undef,defers:=[] } [.code gn.body]:=by
  simp [Frame.enter,Frame.at,hf,hb,h1]
 let c0:Ctx:=⟨c.n,c.m,c.z,c.S,c.S⟩
 have ha0:gX c0 w args vals:=⟨ha.1,fun j x hx=>AVR.re (c:=c) (c' := c0) rfl rfl rfl rfl (ha.2 j x hx)⟩
 have hm0:Mem n0 c0 [] w:=⟨HR.re (c:=c) (c' := c0) rfl rfl rfl rfl hm.obj,hm.base,hm.stab,fun g hg _=>hg⟩
 obtain ⟨v,w', fr,⟨c2,x,H', q1,q2,q3,q4,q5,q6,q7⟩,hs,hfn,hl⟩:=h n0 c0 w { tmps:=vals ++ Array.replicate (gn.n - vals.size) undef,defers:=[] } cs ⟨aBQ ha0 ((eH _ _).1 hn),hm0,rfl⟩ (fun g hg=>hg)
 have hcn:c.n=0:=hm.obj.len
 refine ⟨.returned v,w', fr,⟨v,rfl,⟨c2.n,c2.m,c2.z,c2.S,c.S0⟩,x,H', ⟨⟨by omega,fun id hid=>by omega,fun id hid=>by omega,fun g hg=>q2 g hg,rfl⟩,q3,fun g hg=>q4 g hg⟩,AVR.re (c:=c2) (c' := ⟨c2.n,c2.m,c2.z,c2.S,c.S0⟩) rfl rfl rfl rfl q5,
  ⟨HR.re (c:=c2) (c' := ⟨c2.n,c2.m,c2.z,c2.S,c.S0⟩) rfl rfl rfl rfl q6.obj,q6.base,q6.stab,fun g hg hlt=>?_⟩,q7⟩,?_,hfn,hl⟩
 · have:=q6.old g hg hlt
   rw [q1] at this
   exact hm.old g this hlt
 · rw [henter]; exact hs
end
noncomputable section
def jN (ρ:List Nat) (id:Nat):Option Nat:=List.rec none (fun x _ ih=>bif Nat.beq x id then some 0 else (match ih with | some k=>some (k+1) | none=>none)) ρ
def aB5 : AV→Bool
 | .int _ _=>true
 | .bool _=>true
 | .str _=>true
 | .imm _ _=>true
 | .nils=>true
 | .nilp=>true
 | .raw _=>true
 | .undef=>true
 | _=>false
def aIO (l:List AV):Bool:=List.rec true (fun x _ ih=>bif aB5 x then ih else false) l
def lG (ρ:List Nat):AV→AV
 | .adr cs=>bif aIO cs then .adr cs else .undef
 | .own id=>(match jN ρ id with | some k => .own k | none => .undef)
 | .win id o n=>(match jN ρ id with | some k => .win k o n | none => .undef)
 | .ptr id o=>(match jN ρ id with | some k => .ptr k o | none => .undef)
 | .elt id i o=>(match jN ρ id with | some k => .elt k i o | none => .undef)
 | .parr id=>(match jN ρ id with | some k => .parr k | none => .undef)
 | .int k n => .int k n
 | .bool b => .bool b
 | .str s => .str s
 | .imm e l => .imm e l
 | .nils => .nils
 | .nilp => .nilp
 | .raw v => .raw v
 | _ => .undef
def inv1 (ρ:List Nat):AV→AV
 | .agg cs => .agg (cs.map (lG ρ))
 | .tup cs => .tup (cs.map (lG ρ))
 | .fn f cs => .fn f (cs.map (lG ρ))
 | x=>lG ρ x
def qW (ρ:List Nat):aA→aA
 | .typed e xs fz => .typed e xs fz
 | .box cs => .box (cs.map (inv1 ρ))
 | .dead => .dead
def aIP : AV→List Nat
 | .own id=>[id]
 | .win id _ _=>[id]
 | .ptr id _=>[id]
 | .elt id _ _=>[id]
 | .parr id=>[id]
 | _=>[]
def aB6 (l:List AV):List Nat:=List.rec [] (fun x _ ih=>aIP x ++ ih) l
def aIQ : AV→List Nat
 | .agg cs=>aB6 cs
 | .tup cs=>aB6 cs
 | .fn _ cs=>aB6 cs
 | x=>aIP x
def iF (l:List Nat) (n:Nat):Bool:=List.rec false (fun x _ ih=>bif Nat.beq x n then true else ih) l
def addL (new:List Nat):List Nat→List Nat:=List.rec (fun l=>l) (fun x _ ih l=>ih (bif iF l x then l else l ++ [x])) new
def aTN : aA→List Nat
 | .box cs=>List.rec [] (fun x _ ih=>aIQ x ++ ih) cs
 | _=>[]
def aTO (env:Env) (L:List Nat):List Nat:=List.rec [] (fun i _ ih=>aIQ (c5 env i) ++ ih) L
def aIR (H:List aA) (l:List Nat):List Nat:=List.rec [] (fun i _ ih=>aTN (aF H i) ++ ih) l
def qX (L:List Nat) (st:St):List Nat:=(fun l0=>(fun l1=>addL (aIR st.H l1) l1) (addL (aIR st.H l0) l0)) (addL (aTO st.env L) [])
def j8 (l:List Nat):Bool:=List.rec true (fun x r ih=>bif iF r x then false else ih) l
def aB7 (n:Nat) (slots:List (Nat × AV)):Env:=List.rec ⟨n,iN (bif Nat.blt n 62 then 6 else bif Nat.blt n 126 then 7 else bif Nat.blt n 254 then 8 else 11)⟩ (fun p _ ih=>c6 ih p.1 p.2) slots
def aS (n:Nat) (slots:List (Nat × AV)) (H:List aA):St:=⟨aB7 n slots,H⟩
def uY (L:List Nat) (st:St) (ρ:List Nat):St:=aS st.env.lim (L.map fun i=>(i,inv1 ρ (c5 st.env i))) (ρ.map fun id=>qW ρ (aF st.H id))
def lH : Code→Nat
 | .region id _ _=>id
 | .seq a _=>lH a
 | .block _ a=>lH a
 | .loop a=>lH a
 | _=>0
def lI (r:Nat):Code→List Item→Option (List Item)
 | .seq a b,k=>(match lI r a (.code b :: k) with | some x=>some x | none=>lI r b k)
 | .cond _ a b,k=>(match lI r a k with | some x=>some x | none=>lI r b k)
 | .block id a,k=>lI r a (.inBlock id :: k)
 | .loop b,k=>bif Nat.beq (lH b) r then some (.inLoop b :: k) else lI r b (.inLoop b :: k)
 | _,_=>none
def aE (gn:FnT) (r:Nat):List Item:=(lI r gn.body []).getD []
def aT (gn:FnT) (r:Nat):List Item:=match aE gn r with
 | .inLoop c :: k => .code c :: .inLoop c :: k
 | l=>l
def aB8 (LT:List (Nat × List Nat)) (G:List Item→St→Prop) (todo:List Item) (st:St):Prop:=match todo with
 | .inLoop c :: r=>(match find LT (lH c) with
   | some L=>(fun ρ=>bif j8 ρ then G (.inLoop c :: r) (uY L st ρ) else False) (qX L st)
   | none=>False)
 | _=>False
end
theorem aTP {ρ:List Nat} {id k:Nat} (h:jN ρ id=some k):ρ[k]? = some id:=by
 induction ρ generalizing k with
 | nil=>simp [jN] at h
 | cons x ρ ih =>
   have h' : (bif Nat.beq x id then some 0 else (match jN ρ id with | some k=>some (k+1) | none=>none))=some k:=h
   cases hb:Nat.beq x id with
   | true =>
     rw [hb] at h'
     have:=Option.some.inj h'
     subst this
     rw [Nat.eq_of_beq_eq_true hb]; rfl
   | false =>
     rw [hb] at h'
     simp only [cond_false] at h'
     split at h'
     · rename_i j hj
       have:=Option.some.inj h'
       subst this
       simpa using ih hj
     · simp at h'
theorem aIS {l:List Nat} {n:Nat} (h:iF l n=false):n ∉ l:=by
 induction l with
 | nil=>simp
 | cons x l ih =>
   have h' : (bif Nat.beq x n then true else iF l n)=false:=h
   cases hb:Nat.beq x n with
   | true=>rw [hb] at h'; simp at h'
   | false =>
     rw [hb] at h'
     intro hm
     rcases List.mem_cons.1 hm with rfl | hm
     · rw [Nat.beq_refl] at hb; simp at hb
     · exact ih h' hm
theorem uZ : ∀ {l:List Nat},j8 l=true→l.Nodup
 | [],_=>List.nodup_nil
 | x :: l,h=>by
   have h' : (bif iF l x then false else j8 l)=true:=h
   cases hb:iF l x with
   | true=>rw [hb] at h'; simp at h'
   | false=>rw [hb] at h'; exact List.nodup_cons.2 ⟨aIS hb,uZ (l:=l) h'⟩
section
variable {P:Program} {T:Tab} {n0:Nat} {f:FuncId} {K:AV→List aA→Prop}
def Ctx.pick (c:Ctx) (ρ:List Nat):Ctx:=⟨ρ.length,fun k=>c.m (ρ.getD k 0),fun k=>c.z (ρ.getD k 0),c.S,c.S0⟩
theorem aIT {c:Ctx} {w:World} {ρ:List Nat} {x:AV} {v:Value} (h:AVR c w x v):AVR (c.pick ρ) w (lG ρ x) v:=by
 have key:∀ {id k:Nat},jN ρ id=some k→k<ρ.length∧ρ.getD k 0=id:=fun hk=>by
  have:=aTP hk
  exact ⟨(List.getElem?_eq_some_iff.1 this).1,by rw [List.getD_eq_getElem?_getD,this]; rfl⟩
 cases h <;> simp only [lG]
 case undef=>exact .undef _
 case int=>exact .int _ _
 case bool=>exact .bool _
 case str=>exact .str _
 case imm h=>exact .imm h
 case own hb hm =>
  split
  · rename_i k hk
    obtain ⟨h1,h2⟩:=key hk
    exact .own h1 (by simp only [Ctx.pick]; rw [h2]; exact hm)
  · exact .undef _
 case win hb hm p1 p2 p3 p4 =>
  split
  · rename_i k hk
    obtain ⟨h1,h2⟩:=key hk
    exact .win h1 (by simp only [Ctx.pick]; rw [h2]; exact hm) p1 p2 (by simp only [Ctx.pick]; rw [h2]; exact p3) p4
  · exact .undef _
 case nils=>exact .nils
 case ptr hb hm =>
  split
  · rename_i k hk
    obtain ⟨h1,h2⟩:=key hk
    exact .ptr h1 (by simp only [Ctx.pick]; rw [h2]; exact hm)
  · exact .undef _
 case elt id off g n k' i hb hm p0 p1 p2 =>
  split
  · rename_i k hk
    obtain ⟨h1,h2⟩:=key hk
    have e1:c.z id=(c.pick ρ).z k:=by simp only [Ctx.pick]; rw [h2]
    rw [e1]
    exact .elt h1 (by simp only [Ctx.pick]; rw [h2]; exact hm) p0 p1 (by rw [← e1]; exact p2)
  · exact .undef _
 case parr hb hm hkk =>
  split
  · rename_i k hk
    obtain ⟨h1,h2⟩:=key hk
    exact .parr h1 (by simp only [Ctx.pick]; rw [h2]; exact hm) hkk
  · exact .undef _
 case adr cs g o hg u h1 h2 =>
  cases hc:aIO cs with
  | false=>exact .undef _
  | true =>
    refine .adr hg u h1 fun j x hx=>?_
    have hx1:=eM aB5 hc x (List.mem_iff_getElem?.2 ⟨j,hx⟩)
    have h3:=h2 j x hx
    generalize u j=uj at h3
    cases h3 <;> simp only [aB5,Bool.false_eq_true] at hx1
    · exact .undef _
    · exact .int _ _
    · exact .bool _
    · exact .str _
    · rename_i h; exact .imm h
    · exact .nils
    · exact .nilp
    · exact .raw _
 case nilp=>exact .nilp
 case agg=>exact .undef _
 case tup=>exact .undef _
 case fn=>exact .undef _
 case raw=>exact .raw _
theorem aB9 {c:Ctx} {w:World} {ρ:List Nat} {x:AV} {v:Value} (h:AVR c w x v):AVR (c.pick ρ) w (inv1 ρ x) v:=by
 have lst:∀ {cs:List AV} {u:Nat→Value},(∀ (j:Nat) (x:AV),cs[j]? = some x→AVR c w x (u j))→∀ (j:Nat) (y:AV),(cs.map (lG ρ))[j]? = some y→∃ x,cs[j]? = some x∧AVR (c.pick ρ) w y (u j):=fun hh j y hy=>by
  rw [List.getElem?_map,Option.map_eq_some_iff] at hy
  obtain ⟨x,hx,rfl⟩:=hy
  exact ⟨x,hx,aIT (hh j x hx)⟩
 cases x with
 | agg cs =>
   cases h with
   | agg hl u h1 h2=>exact .agg (by simpa using hl) u (fun j y hy=>by obtain ⟨x,hx,_⟩:=lst h2 j y hy; exact h1 j x hx) (fun j y hy=>by obtain ⟨x,_,hr⟩:=lst h2 j y hy; exact hr)
 | tup cs =>
   cases h with
   | tup hl u h1 h2=>exact .tup (by simpa using hl) u (fun j y hy=>by obtain ⟨x,hx,_⟩:=lst h2 j y hy; exact h1 j x hx) (fun j y hy=>by obtain ⟨x,_,hr⟩:=lst h2 j y hy; exact hr)
 | fn f cs =>
   cases h with
   | fn hl u h1 h2=>exact .fn (by simpa using hl) u (fun j y hy=>by obtain ⟨x,hx,_⟩:=lst h2 j y hy; exact h1 j x hx) (fun j y hy=>by obtain ⟨x,_,hr⟩:=lst h2 j y hy; exact hr)
 | _=>exact aIT h
theorem aCA {c:Ctx} {w:World} {n:Nat} {tmps:Array Value} (hn:n=tmps.size):∀ (slots:List (Nat × AV)),(∀ p∈slots,AVR c w p.2 (tmps.getD p.1 Go.undef))→EnvR c w (aB7 n slots) tmps
 | [],_=>by
   refine ⟨hn,fun i=>?_⟩
   show AVR c w (c5 ⟨n,iN _⟩ i) _
   unfold c5
   cases Nat.blt i (Env.lim ⟨n,iN (bif Nat.blt n 62 then 6 else bif Nat.blt n 126 then 7 else bif Nat.blt n 254 then 8 else 11)⟩) with
   | false=>exact .undef _
   | true=>simp only [cond_true]; rw [aHH]; exact .undef _
 | p :: slots,h=>by
   show EnvR c w (c6 (aB7 n slots) p.1 p.2) tmps
   exact (aCA hn slots fun q hq=>h q (by simp [hq])).lay p.1 (h p (by simp))
theorem aIU {c:Ctx} {H:List aA} {w:World} (hM:Mem n0 c H w) {ρ:List Nat} (hnd:ρ.Nodup):Mem n0 (c.pick ρ) (ρ.map fun id=>qW ρ (aF H id)) w:=by
 have hget:∀ k,k<ρ.length→aF (ρ.map fun id=>qW ρ (aF H id)) k=qW ρ (aF H (ρ.getD k 0)):=fun k hk=>by
  rw [fF,List.getElem?_map,List.getD_eq_getElem?_getD,List.getElem?_eq_getElem hk]; rfl
 have hal:∀ o:aA,aV (qW ρ o)=aV o:=fun o=>by cases o <;> rfl
 have hlt:∀ id,aV (aF H id)=true→id<H.length:=fun id h=>cU (fun he=>by rw [he] at h; simp [aV] at h)
 refine ⟨⟨by simp [Ctx.pick],fun k hk=>?_,fun i j g hi hj hne ai aj bi=>?_⟩,hM.base,hM.stab,hM.old⟩
 · rw [List.length_map] at hk
   rw [hget k hk]
   by_cases ha:aV (aF H (ρ.getD k 0))=true
   · have hob:=hM.obj.obj _ (hlt _ ha)
     generalize hid:ρ.getD k 0=id at *
     have hmk:(c.pick ρ).m k=c.m id:=by simp only [Ctx.pick]; rw [hid]
     have hzk:(c.pick ρ).z k=c.z id:=by simp only [Ctx.pick]; rw [hid]
     cases ho:aF H id with
     | dead=>trivial
     | typed e xs fz =>
       rw [ho] at hob
       obtain ⟨h1,⟨Ty,cells,h2,h3⟩,h4⟩:=hob
       exact ⟨hzk.trans h1,⟨Ty,cells,by rw [hmk]; exact h2,h3⟩,fun g hg=>by rw [hmk] at hg; exact h4 g hg⟩
     | box cs =>
       rw [ho] at hob
       obtain ⟨g,Ty,arr,h1,h2,h3,h4,h5,h6⟩:=hob
       refine ⟨g,Ty,arr,hmk.trans h1,h2,h3,by simpa using h4,fun j y hy=>?_,h6⟩
       rw [List.getElem?_map,Option.map_eq_some_iff] at hy
       obtain ⟨x,hx,rfl⟩:=hy
       exact aB9 (h5 j x hx)
   · cases ho:aF H (ρ.getD k 0) with
     | dead=>trivial
     | typed e xs fz=>rw [ho] at ha; simp [aV] at ha
     | box cs=>rw [ho] at ha; simp [aV] at ha
 · rw [List.length_map] at hi hj
   rw [hget i hi,hal] at ai
   rw [hget j hj,hal] at aj
   refine hM.obj.dist _ _ g (hlt _ ai) (hlt _ aj) (fun he=>hne ?_) ai aj bi
   rw [List.getD_eq_getElem?_getD,List.getD_eq_getElem?_getD,List.getElem?_eq_getElem hi,List.getElem?_eq_getElem hj] at he
   exact (List.getElem_inj hnd).1 he
theorem aTQ {todo:List Item} {L:List Nat} {st:St} {ρ:List Nat} (hnd:ρ.Nodup) (h:aB P n0 f K todo (uY L st ρ)):aB P n0 f K todo st:=by
 intro c w a cs hr hS
 refine h (c.pick ρ) w a cs ⟨?_,aIU hr.mem hnd,hr.nod⟩ hS
 refine aCA hr.env.lim _ fun p hp=>?_
 obtain ⟨i,_,rfl⟩:=List.mem_map.1 hp
 exact aB9 (hr.env.at_ i)
theorem aTR {LT:List (Nat × List Nat)} {todo:List Item} {st:St} (h:aB8 LT (aB P n0 f K) todo st):aB P n0 f K todo st:=by
 unfold aB8 at h
 split at h
 · split at h
   · rename_i L hL
     cases hb:j8 (qX L st) with
     | false=>rw [hb] at h; exact h.elim
     | true=>rw [hb] at h; exact aTQ (uZ hb) h
   · exact h.elim
 · exact h.elim
theorem aTS {α:Type} (μ:α→Nat) (pre:α→Prop) {todo:List Item} {S:α→St} (h:∀ x,pre x→(∀ y,pre y→μ y<μ x→aB P n0 f K todo (S y))→aB P n0 f K todo (S x)):∀ x,pre x→aB P n0 f K todo (S x):=by
 intro x
 generalize hm:μ x=n
 induction n using Nat.strongRecOn generalizing x with
 | _ n ih=>exact fun hp=>h x hp fun y hy hlt=>ih (μ y) (by omega) y rfl hy
theorem aTT {c:Code} {k:List Item} {st:St} (h:aB P n0 f K (.code c :: .inLoop c :: k) st):aB P n0 f K (.inLoop c :: k) st:=by
 intro c' w a cs hr hS
 obtain ⟨v,w', fr,h1,h2,h3,h4⟩:=h c' w a cs hr hS
 exact ⟨v,w', fr,h1, .head step_inLoop h2,h3,h4⟩
theorem aIV {gn:FnT} {r:Nat} {st:St} (h:aB P n0 f K (aT gn r) st):aB P n0 f K (aE gn r) st:=by
 unfold aT at h
 split at h
 · rename_i c k hc
   rw [hc]
   exact aTT h
 · exact h
end
end
end Go.Proofs.YtehakimmioclkaaGreatDoor.Mach
end
