/- Texts of this session, put together. -/
import Derived.Test.YtehakimmioclkaaGreatDoorRA2
import Derived.RowKit
import Derived.RowKit3
import Derived.Laws.Slices
import Derived.Lib.ConvBytes
import Derived.Laws.Strings
import Derived.Lib.Strings
import Derived.Laws.BytesArg
section
/- . -/
set_option linter.unusedVariables false
set_option linter.unusedSimpArgs false
namespace Go.Proofs.YtehakimmioclkaaGreatDoorW.PrintWords
open Go.RowKit
def rd (xs:List Int) (i:Int):Int:=xs.getD i.toNat 0
def bt (s:ByteArray) (i:Int):Int:=if h:i.toNat<s.size then ((s[i.toNat]'h).toNat:Int) else 0
def bytesOf (s:ByteArray):List Int:=s.data.toList.map fun b=>(b.toNat:Int)
theorem nW (s:ByteArray):s.data.toList.length=s.size:=by rw [Array.length_toList]; rfl
theorem bB (s:ByteArray):(bytesOf s).length=s.size:=by rw [bytesOf,List.length_map,nW]
theorem lN (s:ByteArray) (i:Int):rd (bytesOf s) i=bt s i:=by
 unfold rd bt bytesOf
 split
 · rename_i h
   have h' : i.toNat<s.data.toList.length:=by rw [nW]; exact h
   simp [List.getD_eq_getElem?_getD,List.getElem?_eq_getElem h']
   rfl
 · rename_i h
   have h' : s.data.toList.length≤i.toNat:=by rw [nW]; omega
   simp [List.getD_eq_getElem?_getD,List.getElem?_eq_none h']
def Ev {α:Type} (g:Nat→Option α) (r:α):Prop:=∃ K,∀ k,K≤k→g k=some r
theorem Ev.now {α:Type} (r:α):Ev (fun _=>some r) r:=⟨0,fun _ _=>rfl⟩
theorem Ev.rounds {α:Type} {g:Nat→Option α} {r:α} (h:Ev g r):∃ k,g k=some r:=by
 obtain ⟨K,h⟩:=h
 exact ⟨K,h K (Nat.le_refl _)⟩
theorem Ev.bind {α β:Type} {g:Nat→Option α} {f:Nat→α→Option β} {a:α} {r:β} (h:Ev g a) (k:Ev (fun n=>f n a) r):Ev (fun n=>(g n).bind (f n)) r:=by
 obtain ⟨K,h⟩:=h
 obtain ⟨K', k⟩:=k
 refine ⟨max K K', fun n hn=>?_⟩
 have h1:=h n (by omega)
 have h2:=k n (by omega)
 simp only [h1,Option.bind_some]
 exact h2
theorem Ev.step {α:Type} {g f:Nat→Option α} {r:α} (h:∀ k,g (k+1)=f k) (k:Ev f r):Ev g r:=by
 obtain ⟨K,k⟩:=k
 refine ⟨K+1,fun n hn=>?_⟩
 obtain ⟨m,rfl⟩:∃ m,n=m+1:=⟨n - 1,by omega⟩
 rw [h]
 exact k m (by omega)
abbrev mx (a b:Int):Int:=if a<b then b else a
abbrev mn (a b:Int):Int:=if b<a then b else a
end Go.Proofs.YtehakimmioclkaaGreatDoorW.PrintWords
namespace Go.Proofs.YtehakimmioclkaaGreatDoorW.PrintLast
end Go.Proofs.YtehakimmioclkaaGreatDoorW.PrintLast
namespace Go.Proofs.YtehakimmioclkaaGreatDoorW.PrintMore
end Go.Proofs.YtehakimmioclkaaGreatDoorW.PrintMore
end
section
set_option linter.unusedSimpArgs false
set_option linter.unusedVariables false
namespace Go.Proofs.YtehakimmioclkaaGreatDoor.Lib
open Go Go.Proofs.YtehakimmioclkaaGreatDoor.Mach Go.Proofs.YtehakimmioclkaaGreatDoorW.PrintWords Go.RowKit
section
section
variable {A B:Prop}
theorem aC {p:Prop} {i:Decidable p} (h:p) (a:A):bif decide p then A else B:=by rw [decide_eq_true h]; exact a
theorem aG {p:Prop} {i:Decidable p} (h:¬ p) (b:B):bif decide p then A else B:=by rw [decide_eq_false h]; exact b
theorem aN {a b:Bool} (h:bif a then (bif b then A else B) else B):bif a && b then A else B:=by cases a <;> exact h
theorem aR {a:Bool} (h:bif a then B else A):bif !a then A else B:=by cases a <;> exact h
theorem bK {a b c:Bool} (h:bif a then (bif b then A else B) else (bif c then A else B)):bif (bif a then b else c) then A else B:=by cases a <;> exact h
theorem bQ (a:A):bif true then A else B:=a
theorem bS (a:B):bif false then A else B:=a
theorem aQ {b:Bool} (h:b=true) (a:A):bif b then A else B:=by rw [h]; exact a
theorem aX {b:Bool} (h:¬ b=true) (a:B):bif b then A else B:=by cases b <;> first | exact a | exact absurd rfl h
theorem bH {n m:Nat} (h:n≤m) (a:A):bif n.ble m then A else B:=by rw [(eH _ _).2 h]; exact a
theorem b9 {n m:Nat} (h:n<m) (a:A):bif n.blt m then A else B:=by rw [(dW _ _).2 h]; exact a
theorem cA {n m:Nat} (h:n=m) (a:A):bif n.beq m then A else B:=by subst h; rw [Nat.beq_refl]; exact a
theorem bW {l m:List UInt8} (h:l=m) (a:A):bif l == m then A else B:=by subst h; rw [beq_self_eq_true]; exact a
theorem bX {l m:List UInt8} (h:¬ l=m) (a:B):bif l == m then A else B:=by rw [beq_eq_false_iff_ne.2 h]; exact a
end
theorem bO (x:Int):wrap64 x=IntKind.i64.wrap x:=by rw [IntKind.wrap_i64]; unfold wrap64; omega
theorem cD (x:Int):IntKind.u32.wrap x=x % 4294967296:=by unfold IntKind.wrap; rfl
theorem u8w (x:Int):IntKind.u8.wrap x=x % 256:=by unfold IntKind.wrap; rfl
theorem bV (s:ByteArray) (i:Int):bt s i=((s.data.toList.getD i.toNat 0).toNat:Int):=by
 rw [← lN]
 unfold rd bytesOf
 rw [List.getD_eq_getElem?_getD,List.getElem?_map,List.getD_eq_getElem?_getD]
 cases s.data.toList[i.toNat]? <;> rfl
theorem cE (x y:Int):(x % 4294967296+y) % 4294967296=(x+y) % 4294967296:=by omega
theorem cF (x y:Int):(x+y % 4294967296) % 4294967296=(x+y) % 4294967296:=by omega
theorem cG (x:Int):x % 4294967296 % 256=x % 256:=by omega
theorem cH (x:Int):x % 256 % 4294967296=x % 256:=by omega
theorem cI (x:Int):IntKind.i64.wrap (x % 256)=x % 256:=by rw [IntKind.wrap_i64]; omega
theorem cJ (x:Int):(x % 4294967296).tmod 1000000000=x % 4294967296 % 1000000000:=Int.tmod_eq_emod_of_nonneg (by omega)
theorem cK (x:Int):(x % 4294967296).tdiv 1000000000 % 4294967296=x % 4294967296 / 1000000000:=by rw [Int.tdiv_eq_ediv_of_nonneg (by omega)]; omega
theorem bZ : (ByteArray.mk #[]).toList=([]:List UInt8):=by rw [ByteArray.toList_eq]
theorem cB : (ByteArray.mk #[48]).toList=([48]:List UInt8):=by rw [ByteArray.toList_eq]
theorem jO {Q:Res} {e:ETy} {l:List e.D} {fz:Bool} {id:Nat} {H:List aA} (ho:aF H id = .typed e l fz) (hq:Q (.own 0) [.typed e l fz]):aO Q (.own id) H :=
 ⟨.own 0,[.typed e l fz],hq,rfl,rfl,[id],rfl,by simp,fun k i h=>by
  match k,h with
  | 0,h=>cases h; exact congrArg some ho.symm,rfl⟩
theorem nX {P:Program} {g:FuncId} {args:List AV} {e:ETy} {l:List e.D} {Q:Res} (h:Con P g args fun v o=>v = .own 0∧∃ fz,o=[.typed e l fz]) (hq:Q (.imm e l) []):Con P g args Q :=
 h.sealTo fun v o hv=>by
  obtain ⟨rfl,fz,rfl⟩:=hv
  exact ⟨_,⟨e,l,fz,rfl,rfl⟩,hq⟩
section
variable {f:FuncId} {gn:FnT} (hg:find tab.fn f=some gn) {C:FuncId→List AV→Res→Prop} (hC:∀ g xs Q,C g xs Q→Con Tryz.prog g xs Q) {CH:List (Nat × List Bool × gM)} (hH:∀ g p,find CH g=some p→∀ xs os Q,p.2 xs os Q→fH Tryz.prog g xs os Q)
 {inl:List Nat} {LT:List (Nat × List Nat)} {NT:List (Nat × ETy)} {K:Res} {n0:Nat}
include hg hC hH
theorem aJR {todo:List Item} {st:St} (h:aH tab (eV tab CH C inl 400) (aK LT NT (aB Tryz.prog n0 f K)) (aI tab gn.res K) 400 todo st):aB Tryz.prog n0 f K todo st :=
 aI2 tabOk hmo (aUC tabOk hmo hH hC inl 400) (fnI f gn hg) h
theorem jP {r:Nat} {st:St} (h:aH tab (eV tab CH C inl 400) (aK LT NT (aB Tryz.prog n0 f K)) (aI tab gn.res K) 400 (aT gn r) st):aB Tryz.prog n0 f K (aE gn r) st :=
 aIV (aJR hg hC hH h)
theorem rK {args:List AV} {Q:Res} (hn:Nat.ble args.length gn.n=true)
 (h:∀ n0,aH tab (eV tab CH C inl 400) (aK LT NT (aB Tryz.prog n0 f (aO Q))) (aI tab gn.res (aO Q)) 400 [.code gn.body] ⟨aP gn.n args,[]⟩):Con Tryz.prog f args Q :=
 aIN (fnI f gn hg) hn fun n0=>aJR hg hC hH (h n0)
end
section
variable {f:FuncId} {gn:FnT} (hg:find tab.fn f=some gn) {C:FuncId→List AV→Res→Prop} (hC:∀ g xs Q,C g xs Q→Con Tryz.prog g xs Q)
 {inl:List Nat} {LT:List (Nat × List Nat)} {NT:List (Nat × ETy)} {K:Res} {n0 m:Nat} {hv:Nat→Value × Nat}
include hg hC
theorem aJS {todo:List Item} {st:St} (h:aH tab (aM tab C inl 400) (fI m LT NT (GoodH Tryz.prog n0 f m hv K)) (aI tab gn.res K) 400 todo st):GoodH Tryz.prog n0 f m hv K todo st :=
 aUI tabOk hmo (aCD tabOk hmo hC inl 400) (fnI f gn hg) h
theorem vN {r:Nat} {st:St} (h:aH tab (aM tab C inl 400) (fI m LT NT (GoodH Tryz.prog n0 f m hv K)) (aI tab gn.res K) 400 (aT gn r) st):GoodH Tryz.prog n0 f m hv K (aE gn r) st :=
 aUH (aJS hg hC h)
theorem conW {args:List AV} {os:List aA} {Q:Res} (hn:Nat.ble args.length gn.n=true)
 (h:∀ n0 hv,aH tab (aM tab C inl 400) (fI os.length LT NT (GoodH Tryz.prog n0 f os.length hv (vA os.length Q))) (aI tab gn.res (vA os.length Q)) 400 [.code gn.body] ⟨aP gn.n args,os⟩):fH Tryz.prog f args os Q :=
 aUJ (fnI f gn hg) hn fun n0 hv=>aJS hg hC (h n0 hv)
end
theorem aJT {L:List (Nat × List Bool × gM)} (h:∀ p∈L,∀ xs os Q,p.2.2 xs os Q→fH Tryz.prog p.1 xs os Q):∀ g p,find L g=some p→∀ xs os Q,p.2 xs os Q→fH Tryz.prog g xs os Q :=
 fun g p hp xs os Q hq=>h _ (aI4 hp) xs os Q hq
end
end Go.Proofs.YtehakimmioclkaaGreatDoor.Lib
end
section
set_option linter.unusedVariables false
namespace Go.Proofs.YtehakimmioclkaaGreatDoor.ND
open Go Go.RowKit Go.Proofs.YtehakimmioclkaaGreatDoorW.PrintWords
section
def gp_bytes.f (s:ByteArray):Option (List Int):=if s.size≤9223372036854775807 then some (bytesOf s) else none
mutual
def nat_Check.j0 : Nat→ByteArray→Bool→Option (Int)
 | 0,_,_=>none
 | k+1,x0,x16=>if x16=true then (some 5) else ((gp_bytes.f x0).bind fun t101=>(nat_Check.l0 k x0 t101 (t101.length:Int) 0))
def nat_Check.l0 : Nat→ByteArray→List Int→Int→Int→Option (Int)
 | 0,_,_,_,_=>none
 | k+1,x0,x18,x19,x20=>if x20<x19 then (if 0≤x20 then (if x20<(x18.length:Int) then (if (rd x18 x20)<48 then (some 5) else (if (rd x18 x20) > 57 then (some 5) else (nat_Check.l0 k x0 x18 x19 (wrap64 (x20+1))))) else (none)) else (none)) else (if (x0.size:Int) > 2000 then (some 2) else (some 0))
end
def nat_Check.f (k:Nat) (a0:ByteArray):Option (Int):=if a0.toList=([]:List UInt8) then (nat_Check.j0 k a0 true) else (if 0<(a0.size:Int) then (if (bt a0 0)=48 then (nat_Check.j0 k a0 (decide ((a0.size:Int) > 1))) else (nat_Check.j0 k a0 false)) else (none))
def nat_N_trim.l0 : Nat→List Int→Option (List Int)
 | 0,_=>none
 | k+1,x0=>if (x0.length:Int) > 0 then (if 0≤(wrap64 ((x0.length:Int) - 1)) then (if (wrap64 ((x0.length:Int) - 1))<(x0.length:Int) then (if (rd x0 (wrap64 ((x0.length:Int) - 1)))=0 then (if (wrap64 ((x0.length:Int) - 1))≤(x0.length:Int) then (nat_N_trim.l0 k (x0.take ((wrap64 ((x0.length:Int) - 1)):Int).toNat)) else (none)) else (some x0)) else (none)) else (none)) else (some x0)
def nat_N_trim.f (k:Nat) (l0:List Int):Option (List Int):=nat_N_trim.l0 k l0
mutual
def nat_Read.l0 : Nat→ByteArray→List Int→Int→Option (List Int)
 | 0,_,_,_=>none
 | k+1,x0,x3,x4=>if x4 > 0 then (if 0≤(mx 0 (wrap64 (x4 - 9))) then (if (mx 0 (wrap64 (x4 - 9)))≤x4 then (if x4≤(x0.size:Int) then ((gp_bytes.f (x0.extract ((mx 0 (wrap64 (x4 - 9))):Int).toNat (x4:Int).toNat)).bind fun t112=>(nat_Read.l1 k x0 x3 x4 0 t112 (t112.length:Int) 0)) else (none)) else (none)) else (none)) else ((nat_N_trim.f k x3).bind fun t109=>(some t109))
def nat_Read.l1 : Nat→ByteArray→List Int→Int→Int→List Int→Int→Int→Option (List Int)
 | 0,_,_,_,_,_,_,_=>none
 | k+1,x0,x3,x4,x5,x20,x21,x22=>if x22<x21 then (if 0≤x22 then (if x22<(x20.length:Int) then (nat_Read.l1 k x0 x3 x4 (((x5 * 10)+(((rd x20 x22) - 48) % 256)) % 4294967296) x20 x21 (wrap64 (x22+1))) else (none)) else (none)) else (if x3.length<35184372088832 then (nat_Read.l0 k x0 (x3 ++ [x5]) (wrap64 (x4 - 9))) else (none))
end
def nat_Read.f (k:Nat) (a0:ByteArray):Option (List Int):=nat_Read.l0 k a0 ([]:List Int) (a0.size:Int)
def strings_trimLeftByte.l0 : Nat→ByteArray→Int→Option (ByteArray)
 | 0,_,_=>none
 | k+1,x0,x1=>if (x0.size:Int) > 0 then (if 0<(x0.size:Int) then (if (bt x0 0)=x1 then (if 1≤(x0.size:Int) then (strings_trimLeftByte.l0 k (x0.extract 1 x0.size) x1) else (none)) else (some x0)) else (none)) else (some x0)
def strings_trimLeftByte.f (k:Nat) (a0:ByteArray) (a1:Int):Option (ByteArray):=strings_trimLeftByte.l0 k a0 a1
mutual
def strings_TrimLeft.j0 : Nat→ByteArray→ByteArray→Bool→Option (ByteArray)
 | 0,_,_,_=>none
 | k+1,x0,x1,x12=>if x12=true then (some x0) else (if (x1.size:Int)=1 then (if 0<(x1.size:Int) then (strings_TrimLeft.j1 k x0 x1 (decide ((bt x1 0)<128))) else (none)) else (strings_TrimLeft.j1 k x0 x1 false))
def strings_TrimLeft.j1 : Nat→ByteArray→ByteArray→Bool→Option (ByteArray)
 | 0,_,_,_=>none
 | k+1,x0,x1,x21=>if x21=true then (if 0<(x1.size:Int) then ((strings_trimLeftByte.f k x0 (bt x1 0)).bind fun t127=>(some t127)) else (none)) else (none)
end
def strings_TrimLeft.f (k:Nat) (a0:ByteArray) (a1:ByteArray):Option (ByteArray):=if a0.toList=([]:List UInt8) then (strings_TrimLeft.j0 k a0 a1 true) else (strings_TrimLeft.j0 k a0 a1 (a1.toList == ([]:List UInt8)))
def gp_make0_61.f (m:Int):Option (List Int):=if 0≤m∧m.toNat≤281474976710656 then some [] else none
mutual
def nat_N_Text.l0 : Nat→List Int→List Int→Int→Option (ByteArray)
 | 0,_,_,_=>none
 | k+1,x0,x3,x4=>if x4 ≥ 0 then (if 0≤x4 then (if x4<(x0.length:Int) then (if 9≤281474976710656 then (nat_N_Text.l1 k x0 x3 x4 (rd x0 x4) (List.replicate 9 0) 8) else (none)) else (none)) else (none)) else ((strings_TrimLeft.f k (strOfNums x3) (⟨#[48]⟩:ByteArray)).bind fun t131=>(some t131))
def nat_N_Text.l1 : Nat→List Int→List Int→Int→Int→List Int→Int→Option (ByteArray)
 | 0,_,_,_,_,_,_=>none
 | k+1,x0,x3,x4,x5,x6,x7=>if x7 ≥ 0 then (if 0≤x7 then (if x7<(x6.length:Int) then (nat_N_Text.l1 k x0 x3 x4 ((Int.tdiv x5 10) % 4294967296) (x6.set (x7:Int).toNat ((48+(Int.tmod x5 10)) % 256)) (wrap64 (x7 - 1))) else (none)) else (none)) else (if x3.length+x6.length<140737488355328 then (nat_N_Text.l0 k x0 (x3 ++ x6) (wrap64 (x4 - 1))) else (none))
end
def nat_N_Text.f (k:Nat) (l0:List Int):Option (ByteArray):=if (l0.length:Int)=0 then (some (⟨#[48]⟩:ByteArray)) else ((gp_make0_61.f (wrap64 (9 * (l0.length:Int)))).bind fun t128=>(nat_N_Text.l0 k l0 t128 (wrap64 ((l0.length:Int) - 1))))
def gp_make0_63.f (m:Int):Option (List Int):=if 0≤m∧m.toNat≤70368744177664 then some [] else none
mutual
def nat_N_Add.j0 : Nat→List Int→List Int→Option (List Int)
 | 0,_,_=>none
 | k+1,x0,x1=>(gp_make0_63.f (wrap64 ((x0.length:Int)+1))).bind fun t129=>(nat_N_Add.l0 k x1 t129 0 x0 (x0.length:Int) 0)
def nat_N_Add.l0 : Nat→List Int→List Int→Int→List Int→Int→Int→Option (List Int)
 | 0,_,_,_,_,_,_=>none
 | k+1,x1,x5,x6,x20,x21,x22=>if x22<x21 then (if 0≤x22 then (if x22<(x20.length:Int) then (if x22<(x1.length:Int) then (if x5.length<35184372088832 then (nat_N_Add.l0 k x1 (x5 ++ [((((rd x20 x22)+x6)+(rd x1 x22)) % 4294967296) % 1000000000]) (((((rd x20 x22)+x6)+(rd x1 x22)) % 4294967296) / 1000000000) x20 x21 (wrap64 (x22+1))) else (none)) else (if x5.length<35184372088832 then (nat_N_Add.l0 k x1 (x5 ++ [(((rd x20 x22)+x6) % 4294967296) % 1000000000]) ((((rd x20 x22)+x6) % 4294967296) / 1000000000) x20 x21 (wrap64 (x22+1))) else (none))) else (none)) else (none)) else (if x6 > 0 then (if x5.length<35184372088832 then (some (x5 ++ [x6])) else (none)) else (some x5))
end
def nat_N_Add.f (k:Nat) (l0:List Int) (l1:List Int):Option (List Int):=if (l0.length:Int)<(l1.length:Int) then (nat_N_Add.j0 k l1 l0) else (nat_N_Add.j0 k l0 l1)
def nat_N_Cmp.l0 : Nat→List Int→List Int→Int→Option (Int)
 | 0,_,_,_=>none
 | k+1,x0,x1,x5=>if x5 ≥ 0 then (if 0≤x5 then (if x5<(x0.length:Int) then (if x5<(x1.length:Int) then (if (rd x0 x5)<(rd x1 x5) then (some (-1)) else (if (rd x0 x5) > (rd x1 x5) then (some 1) else (nat_N_Cmp.l0 k x0 x1 (wrap64 (x5 - 1))))) else (none)) else (none)) else (none)) else (some 0)
def nat_N_Cmp.f (k:Nat) (l0:List Int) (l1:List Int):Option (Int):=if (l0.length:Int)=(l1.length:Int) then (nat_N_Cmp.l0 k l0 l1 (wrap64 ((l0.length:Int) - 1))) else (if (l0.length:Int)<(l1.length:Int) then (some (-1)) else (some 1))
def nat_N_Sub.l0 : Nat→List Int→List Int→List Int→Int→Int→Int→Option (List Int)
 | 0,_,_,_,_,_,_=>none
 | k+1,x0,x1,x5,x6,x13,x14=>if x14<x13 then (if 0≤x14 then (if x14<(x0.length:Int) then (if x14<(x1.length:Int) then (if (wrap64 ((wrap64 ((wrap64 (rd x0 x14)) - x6)) - (wrap64 (rd x1 x14))))<0 then (if x14<(x5.length:Int) then (nat_N_Sub.l0 k x0 x1 (x5.set (x14:Int).toNat ((wrap64 ((wrap64 ((wrap64 ((wrap64 (rd x0 x14)) - x6)) - (wrap64 (rd x1 x14))))+1000000000)) % 4294967296)) 1 x13 (wrap64 (x14+1))) else (none)) else (if x14<(x5.length:Int) then (nat_N_Sub.l0 k x0 x1 (x5.set (x14:Int).toNat ((wrap64 ((wrap64 ((wrap64 (rd x0 x14)) - x6)) - (wrap64 (rd x1 x14)))) % 4294967296)) 0 x13 (wrap64 (x14+1))) else (none))) else (if (wrap64 ((wrap64 (rd x0 x14)) - x6))<0 then (if x14<(x5.length:Int) then (nat_N_Sub.l0 k x0 x1 (x5.set (x14:Int).toNat ((wrap64 ((wrap64 ((wrap64 (rd x0 x14)) - x6))+1000000000)) % 4294967296)) 1 x13 (wrap64 (x14+1))) else (none)) else (if x14<(x5.length:Int) then (nat_N_Sub.l0 k x0 x1 (x5.set (x14:Int).toNat ((wrap64 ((wrap64 (rd x0 x14)) - x6)) % 4294967296)) 0 x13 (wrap64 (x14+1))) else (none)))) else (none)) else (none)) else ((nat_N_trim.f k x5).bind fun t162=>(some t162))
def nat_N_Sub.f (k:Nat) (l0:List Int) (l1:List Int):Option (List Int):=if 0≤(l0.length:Int) then (if ((l0.length:Int):Int).toNat≤70368744177664 then (nat_N_Sub.l0 k l0 l1 (List.replicate ((l0.length:Int):Int).toNat 0) 0 (l0.length:Int) 0) else (none)) else (none)
mutual
def nat_N_Mul.l0 : Nat→List Int→List Int→List Int→Int→Int→Option (List Int)
 | 0,_,_,_,_,_=>none
 | k+1,x1,x5,x18,x19,x20=>if x20<x19 then (if 0≤x20 then (if x20<(x18.length:Int) then (nat_N_Mul.l1 k x1 x5 x20 (rd x18 x20) 0 x18 x19 x20 x1 (x1.length:Int) 0) else (none)) else (none)) else ((nat_N_trim.f k x5).bind fun t187=>(some t187))
def nat_N_Mul.l1 : Nat→List Int→List Int→Int→Int→Int→List Int→Int→Int→List Int→Int→Int→Option (List Int)
 | 0,_,_,_,_,_,_,_,_,_,_,_=>none
 | k+1,x1,x5,x6,x7,x8,x18,x19,x20,x25,x26,x27=>if x27<x26 then (if 0≤x27 then (if x27<(x25.length:Int) then (if 0≤(wrap64 (x6+x27)) then (if (wrap64 (x6+x27))<(x5.length:Int) then (nat_N_Mul.l1 k x1 (x5.set ((wrap64 (x6+x27)):Int).toNat ((Int.tmod (IntKind.u64.wrap ((IntKind.u64.wrap ((IntKind.u64.wrap ((IntKind.u64.wrap (x7)) * (IntKind.u64.wrap (rd x25 x27))))+(IntKind.u64.wrap (rd x5 (wrap64 (x6+x27))))))+x8)) 1000000000) % 4294967296)) x6 x7 (IntKind.u64.wrap (Int.tdiv (IntKind.u64.wrap ((IntKind.u64.wrap ((IntKind.u64.wrap ((IntKind.u64.wrap (x7)) * (IntKind.u64.wrap (rd x25 x27))))+(IntKind.u64.wrap (rd x5 (wrap64 (x6+x27))))))+x8)) 1000000000)) x18 x19 x20 x25 x26 (wrap64 (x27+1))) else (none)) else (none)) else (none)) else (none)) else (if 0≤(wrap64 (x6+(x1.length:Int))) then (if (wrap64 (x6+(x1.length:Int)))<(x5.length:Int) then (nat_N_Mul.l0 k x1 (x5.set ((wrap64 (x6+(x1.length:Int))):Int).toNat ((x8) % 4294967296)) x18 x19 (wrap64 (x20+1))) else (none)) else (none))
end
def nat_N_Mul.f (k:Nat) (l0:List Int) (l1:List Int):Option (List Int):=if 0≤(wrap64 ((l0.length:Int)+(l1.length:Int))) then (if (wrap64 ((l0.length:Int)+(l1.length:Int)):Int).toNat≤70368744177664 then (nat_N_Mul.l0 k l1 (List.replicate (wrap64 ((l0.length:Int)+(l1.length:Int)):Int).toNat 0) l0 (l0.length:Int) 0) else (none)) else (none)
def nat_N_short.l0 : Nat→List Int→Int→List Int→Int→Int→Option (List Int × List Int)
 | 0,_,_,_,_,_=>none
 | k+1,x0,x1,x6,x7,x8=>if x8 ≥ 0 then (if 0≤x8 then (if x8<(x0.length:Int) then (if (IntKind.u64.wrap (x1))=0 then (none) else (if x8<(x6.length:Int) then (nat_N_short.l0 k x0 x1 (x6.set (x8:Int).toNat ((IntKind.u64.wrap (Int.tdiv (IntKind.u64.wrap ((IntKind.u64.wrap (x7 * 1000000000))+(IntKind.u64.wrap (rd x0 x8)))) (IntKind.u64.wrap (x1)))) % 4294967296)) (Int.tmod (IntKind.u64.wrap ((IntKind.u64.wrap (x7 * 1000000000))+(IntKind.u64.wrap (rd x0 x8)))) (IntKind.u64.wrap (x1))) (wrap64 (x8 - 1))) else (none))) else (none)) else (none)) else ((nat_N_trim.f k x6).bind fun t212=>((nat_N_trim.f k (([(x7) % 4294967296]:List Int))).bind fun t218=>(some (t212,t218))))
def nat_N_short.f (k:Nat) (l0:List Int) (a1:Int):Option (List Int × List Int):=if 0≤(l0.length:Int) then (if ((l0.length:Int):Int).toNat≤70368744177664 then (nat_N_short.l0 k l0 a1 (List.replicate ((l0.length:Int):Int).toNat 0) 0 (wrap64 ((l0.length:Int) - 1))) else (none)) else (none)
def nat_N_minus.l0 : Nat→List Int→List Int→Int→Int→Int→Int→Int→Option (Bool × List Int)
 | 0,_,_,_,_,_,_,_=>none
 | k+1,x0,x1,x2,x3,x9,x10,x11=>if x11≤(x1.length:Int) then (if x11<(x1.length:Int) then (if 0≤x11 then (if 0≤(wrap64 (x2+x11)) then (if (wrap64 (x2+x11))<(x0.length:Int) then (if (wrap64 ((wrap64 ((wrap64 (rd x0 (wrap64 (x2+x11)))) - (wrap64 (Int.tmod (IntKind.u64.wrap (x10+(IntKind.u64.wrap (x3 * (IntKind.u64.wrap (rd x1 x11)))))) 1000000000)))) - x9))<0 then (nat_N_minus.l0 k (x0.set ((wrap64 (x2+x11)):Int).toNat ((wrap64 ((wrap64 ((wrap64 ((wrap64 (rd x0 (wrap64 (x2+x11)))) - (wrap64 (Int.tmod (IntKind.u64.wrap (x10+(IntKind.u64.wrap (x3 * (IntKind.u64.wrap (rd x1 x11)))))) 1000000000)))) - x9))+1000000000)) % 4294967296)) x1 x2 x3 1 (IntKind.u64.wrap (Int.tdiv (IntKind.u64.wrap (x10+(IntKind.u64.wrap (x3 * (IntKind.u64.wrap (rd x1 x11)))))) 1000000000)) (wrap64 (x11+1))) else (nat_N_minus.l0 k (x0.set ((wrap64 (x2+x11)):Int).toNat ((wrap64 ((wrap64 ((wrap64 (rd x0 (wrap64 (x2+x11)))) - (wrap64 (Int.tmod (IntKind.u64.wrap (x10+(IntKind.u64.wrap (x3 * (IntKind.u64.wrap (rd x1 x11)))))) 1000000000)))) - x9)) % 4294967296)) x1 x2 x3 0 (IntKind.u64.wrap (Int.tdiv (IntKind.u64.wrap (x10+(IntKind.u64.wrap (x3 * (IntKind.u64.wrap (rd x1 x11)))))) 1000000000)) (wrap64 (x11+1)))) else (none)) else (none)) else (none)) else (if 0≤(wrap64 (x2+x11)) then (if (wrap64 (x2+x11))<(x0.length:Int) then (if (wrap64 ((wrap64 ((wrap64 (rd x0 (wrap64 (x2+x11)))) - (wrap64 (Int.tmod x10 1000000000)))) - x9))<0 then (nat_N_minus.l0 k (x0.set ((wrap64 (x2+x11)):Int).toNat ((wrap64 ((wrap64 ((wrap64 ((wrap64 (rd x0 (wrap64 (x2+x11)))) - (wrap64 (Int.tmod x10 1000000000)))) - x9))+1000000000)) % 4294967296)) x1 x2 x3 1 (IntKind.u64.wrap (Int.tdiv x10 1000000000)) (wrap64 (x11+1))) else (nat_N_minus.l0 k (x0.set ((wrap64 (x2+x11)):Int).toNat ((wrap64 ((wrap64 ((wrap64 (rd x0 (wrap64 (x2+x11)))) - (wrap64 (Int.tmod x10 1000000000)))) - x9)) % 4294967296)) x1 x2 x3 0 (IntKind.u64.wrap (Int.tdiv x10 1000000000)) (wrap64 (x11+1)))) else (none)) else (none))) else (some (decide (x9 > 0),x0))
def nat_N_minus.f (k:Nat) (l0:List Int) (l1:List Int) (a2:Int) (a3:Int):Option (Bool × List Int):=nat_N_minus.l0 k l0 l1 a2 a3 0 0 0
def nat_N_plus.l0 : Nat→List Int→List Int→Int→Int→Int→Option (List Int)
 | 0,_,_,_,_,_=>none
 | k+1,x0,x1,x2,x6,x7=>if x7≤(x1.length:Int) then (if 0≤(wrap64 (x2+x7)) then (if (wrap64 (x2+x7))<(x0.length:Int) then (if x7<(x1.length:Int) then (if 0≤x7 then (nat_N_plus.l0 k (x0.set ((wrap64 (x2+x7)):Int).toNat (((((rd x0 (wrap64 (x2+x7)))+x6)+(rd x1 x7)) % 4294967296) % 1000000000)) x1 x2 (((((rd x0 (wrap64 (x2+x7)))+x6)+(rd x1 x7)) % 4294967296) / 1000000000) (wrap64 (x7+1))) else (none)) else (nat_N_plus.l0 k (x0.set ((wrap64 (x2+x7)):Int).toNat ((((rd x0 (wrap64 (x2+x7)))+x6) % 4294967296) % 1000000000)) x1 x2 ((((rd x0 (wrap64 (x2+x7)))+x6) % 4294967296) / 1000000000) (wrap64 (x7+1)))) else (none)) else (none)) else (some x0)
def nat_N_plus.f (k:Nat) (l0:List Int) (l1:List Int) (a2:Int):Option (List Int):=nat_N_plus.l0 k l0 l1 a2 0 0
mutual
def nat_N_Div.l0 : Nat→List Int→Int→List Int→List Int→Option (List Int × List Int)
 | 0,_,_,_,_=>none
 | k+1,x0,x6,x7,x8=>if (x7.length:Int)≤(x0.length:Int) then (if x7.length<35184372088832 then (nat_N_Div.l0 k x0 x6 (x7 ++ [0]) x8) else (none)) else (if 0≤(wrap64 ((x7.length:Int) - (x8.length:Int))) then (if (wrap64 ((x7.length:Int) - (x8.length:Int)):Int).toNat≤70368744177664 then (nat_N_Div.l1 k x6 x7 x8 (x8.length:Int) (List.replicate (wrap64 ((x7.length:Int) - (x8.length:Int)):Int).toNat 0) (wrap64 ((wrap64 ((x7.length:Int) - (x8.length:Int))) - 1))) else (none)) else (none))
def nat_N_Div.l1 : Nat→Int→List Int→List Int→Int→List Int→Int→Option (List Int × List Int)
 | 0,_,_,_,_,_,_=>none
 | k+1,x6,x7,x8,x9,x10,x11=>if x11 ≥ 0 then (if 0≤(wrap64 (x11+x9)) then (if (wrap64 (x11+x9))<(x7.length:Int) then (if 0≤(wrap64 ((wrap64 (x11+x9)) - 1)) then (if (wrap64 ((wrap64 (x11+x9)) - 1))<(x7.length:Int) then (if 0≤(wrap64 (x9 - 1)) then (if (wrap64 (x9 - 1))<(x8.length:Int) then (if (IntKind.u64.wrap (rd x8 (wrap64 (x9 - 1))))=0 then (none) else (nat_N_Div.l2 k x6 x7 x8 x9 x10 x11 (IntKind.u64.wrap (Int.tdiv (IntKind.u64.wrap ((IntKind.u64.wrap ((IntKind.u64.wrap (rd x7 (wrap64 (x11+x9)))) * 1000000000))+(IntKind.u64.wrap (rd x7 (wrap64 ((wrap64 (x11+x9)) - 1)))))) (IntKind.u64.wrap (rd x8 (wrap64 (x9 - 1)))))) (Int.tmod (IntKind.u64.wrap ((IntKind.u64.wrap ((IntKind.u64.wrap (rd x7 (wrap64 (x11+x9)))) * 1000000000))+(IntKind.u64.wrap (rd x7 (wrap64 ((wrap64 (x11+x9)) - 1)))))) (IntKind.u64.wrap (rd x8 (wrap64 (x9 - 1))))))) else (none)) else (none)) else (none)) else (none)) else (none)) else (none)) else ((nat_N_trim.f k x7).bind fun t262=>((nat_N_short.f k t262 x6).bind fun bt265=>((nat_N_trim.f k x10).bind fun t271=>(some (t271,bt265.1)))))
def nat_N_Div.j4 : Nat→Int→List Int→List Int→Int→List Int→Int→Int→Option (List Int × List Int)
 | 0,_,_,_,_,_,_,_=>none
 | k+1,x6,x7,x8,x9,x10,x11,x13=>(nat_N_minus.f k x7 x8 x11 x13).bind fun bt281=>(if bt281.1=true then ((nat_N_plus.f k bt281.2 x8 x11).bind fun t283=>(if 0≤x11 then (if x11<(x10.length:Int) then (nat_N_Div.l1 k x6 t283 x8 x9 (x10.set (x11:Int).toNat ((IntKind.u64.wrap (x13 - 1)) % 4294967296)) (wrap64 (x11 - 1))) else (none)) else (none))) else (if 0≤x11 then (if x11<(x10.length:Int) then (nat_N_Div.l1 k x6 bt281.2 x8 x9 (x10.set (x11:Int).toNat ((x13) % 4294967296)) (wrap64 (x11 - 1))) else (none)) else (none)))
def nat_N_Div.l2 : Nat→Int→List Int→List Int→Int→List Int→Int→Int→Int→Option (List Int × List Int)
 | 0,_,_,_,_,_,_,_,_=>none
 | k+1,x6,x7,x8,x9,x10,x11,x13,x14=>if x13 ≥ 1000000000 then (nat_N_Div.j3 k x6 x7 x8 x9 x10 x11 x13 x14 true) else (if 0≤(wrap64 (x9 - 2)) then (if (wrap64 (x9 - 2))<(x8.length:Int) then (if 0≤(wrap64 ((wrap64 (x11+x9)) - 2)) then (if (wrap64 ((wrap64 (x11+x9)) - 2))<(x7.length:Int) then (nat_N_Div.j3 k x6 x7 x8 x9 x10 x11 x13 x14 (decide ((IntKind.u64.wrap (x13 * (IntKind.u64.wrap (rd x8 (wrap64 (x9 - 2)))))) > (IntKind.u64.wrap ((IntKind.u64.wrap (x14 * 1000000000))+(IntKind.u64.wrap (rd x7 (wrap64 ((wrap64 (x11+x9)) - 2))))))))) else (none)) else (none)) else (none)) else (none))
def nat_N_Div.j3 : Nat→Int→List Int→List Int→Int→List Int→Int→Int→Int→Bool→Option (List Int × List Int)
 | 0,_,_,_,_,_,_,_,_,_=>none
 | k+1,x6,x7,x8,x9,x10,x11,x13,x14,x132=>if x132=true then (if 0≤(wrap64 (x9 - 1)) then (if (wrap64 (x9 - 1))<(x8.length:Int) then (if (IntKind.u64.wrap (x14+(IntKind.u64.wrap (rd x8 (wrap64 (x9 - 1)))))) ≥ 1000000000 then (nat_N_Div.j4 k x6 x7 x8 x9 x10 x11 (IntKind.u64.wrap (x13 - 1))) else (nat_N_Div.l2 k x6 x7 x8 x9 x10 x11 (IntKind.u64.wrap (x13 - 1)) (IntKind.u64.wrap (x14+(IntKind.u64.wrap (rd x8 (wrap64 (x9 - 1)))))))) else (none)) else (none)) else (nat_N_Div.j4 k x6 x7 x8 x9 x10 x11 x13)
end
def nat_N_Div.f (k:Nat) (l0:List Int) (l1:List Int):Option (List Int × List Int):=(nat_N_Cmp.f k l0 l1).bind fun t232=>(if t232<0 then (some (([]:List Int),l0)) else (if (l1.length:Int)=1 then (if 0<(l1.length:Int) then ((nat_N_short.f k l0 (rd l1 0)).bind fun bt234=>(some (bt234.1,bt234.2))) else (none)) else (if 0≤(wrap64 ((l1.length:Int) - 1)) then (if (wrap64 ((l1.length:Int) - 1))<(l1.length:Int) then (if (IntKind.u64.wrap ((IntKind.u64.wrap (rd l1 (wrap64 ((l1.length:Int) - 1))))+1))=0 then (none) else ((nat_N_Mul.f k l0 (([(IntKind.u64.wrap (Int.tdiv (1000000000:Int) (IntKind.u64.wrap ((IntKind.u64.wrap (rd l1 (wrap64 ((l1.length:Int) - 1))))+1)))) % 4294967296]:List Int))).bind fun t244=>(if t244.length<35184372088832 then ((nat_N_Mul.f k l1 (([(IntKind.u64.wrap (Int.tdiv (1000000000:Int) (IntKind.u64.wrap ((IntKind.u64.wrap (rd l1 (wrap64 ((l1.length:Int) - 1))))+1)))) % 4294967296]:List Int))).bind fun t253=>(nat_N_Div.l0 k l0 ((IntKind.u64.wrap (Int.tdiv (1000000000:Int) (IntKind.u64.wrap ((IntKind.u64.wrap (rd l1 (wrap64 ((l1.length:Int) - 1))))+1)))) % 4294967296) (t244 ++ [0]) t253)) else (none)))) else (none)) else (none))))
def nat_N_Gcd.l0 : Nat→List Int→List Int→Option (List Int)
 | 0,_,_=>none
 | k+1,x0,x1=>if (x1.length:Int) > 0 then ((nat_N_Div.f k x0 x1).bind fun bt301=>(nat_N_Gcd.l0 k x1 bt301.2)) else (some x0)
def nat_N_Gcd.f (k:Nat) (l0:List Int) (l1:List Int):Option (List Int):=nat_N_Gcd.l0 k l0 l1
def nat_Of.l0 : Nat→Int→List Int→Option (List Int)
 | 0,_,_=>none
 | k+1,x0,x3=>if x0 > 0 then (if x3.length<35184372088832 then (nat_Of.l0 k (wrap64 (Int.tdiv x0 1000000000)) (x3 ++ [(Int.tmod x0 1000000000) % 4294967296])) else (none)) else (some x3)
def nat_Of.f (k:Nat) (a0:Int):Option (List Int):=nat_Of.l0 k a0 ([]:List Int)
def nat_N_Digits.f (k:Nat) (l0:List Int):Option (Int):=(nat_N_Text.f k l0).bind fun t322=>(some (t322.size:Int))
mutual
def gamehallref2_NatError.l0 : Nat→ByteArray→Int→Option (Int)
 | 0,_,_=>none
 | k+1,x0,x3=>if x3<(x0.size:Int) then (if 0≤x3 then (if (bt x0 x3)<48 then (some 5) else (if (bt x0 x3) > 57 then (some 5) else (gamehallref2_NatError.l0 k x0 (wrap64 (x3+1))))) else (none)) else (if (x0.size:Int) > 1 then (if 0<(x0.size:Int) then (gamehallref2_NatError.j1 k x0 ((bt x0 0) == 48)) else (none)) else (gamehallref2_NatError.j1 k x0 false))
def gamehallref2_NatError.j1 : Nat→ByteArray→Bool→Option (Int)
 | 0,_,_=>none
 | k+1,x0,x30=>if x30=true then (some 5) else (if (x0.size:Int) > 2000 then (some 2) else (some 0))
end
def gamehallref2_NatError.f (k:Nat) (a0:ByteArray):Option (Int):=if (a0.size:Int)=0 then (some 5) else (gamehallref2_NatError.l0 k a0 0)
def gamehallref2_digit.f (a0:ByteArray) (a1:Int):Option (Int):=if a1<(a0.size:Int) then (if 0≤(wrap64 ((wrap64 ((a0.size:Int) - 1)) - a1)) then (if (wrap64 ((wrap64 ((a0.size:Int) - 1)) - a1))<(a0.size:Int) then (some (((bt a0 (wrap64 ((wrap64 ((a0.size:Int) - 1)) - a1))) - 48) % 256)) else (none)) else (none)) else (some 0)
def gamehallref2_strip.l0 : Nat→ByteArray→Option (ByteArray)
 | 0,_=>none
 | k+1,x0=>if (x0.size:Int) > 1 then (if 0<(x0.size:Int) then (if (bt x0 0)=48 then (if 1≤(x0.size:Int) then (gamehallref2_strip.l0 k (x0.extract 1 x0.size)) else (none)) else (some x0)) else (none)) else (some x0)
def gamehallref2_strip.f (k:Nat) (a0:ByteArray):Option (ByteArray):=gamehallref2_strip.l0 k a0
def gamehallref2_text.l0 : Nat→List Int→List Int→List Int→Int→Int→Option (ByteArray)
 | 0,_,_,_,_,_=>none
 | k+1,x0,x3,x9,x10,x11=>if x11<x10 then (if 0≤x11 then (if x11<(x9.length:Int) then (if 0≤(wrap64 ((wrap64 ((x0.length:Int) - 1)) - x11)) then (if (wrap64 ((wrap64 ((x0.length:Int) - 1)) - x11))<(x3.length:Int) then (gamehallref2_text.l0 k x0 (x3.set ((wrap64 ((wrap64 ((x0.length:Int) - 1)) - x11)):Int).toNat ((wrap64 (48+(rd x9 x11))) % 256)) x9 x10 (wrap64 (x11+1))) else (none)) else (none)) else (none)) else (none)) else (if 1+(strOfNums x3).size≤9223372036854775807 then ((gamehallref2_strip.f k ((⟨#[48]⟩:ByteArray) ++ (strOfNums x3))).bind fun t395=>(some t395)) else (none))
def gamehallref2_text.f (k:Nat) (l0:List Int):Option (ByteArray):=if 0≤(l0.length:Int) then (if ((l0.length:Int):Int).toNat≤281474976710656 then (gamehallref2_text.l0 k l0 (List.replicate ((l0.length:Int):Int).toNat 0) l0 (l0.length:Int) 0) else (none)) else (none)
mutual
def gamehallref2_NatAdd.l0 : Nat→ByteArray→ByteArray→List Int→Int→Int→Option (ByteArray)
 | 0,_,_,_,_,_=>none
 | k+1,x0,x1,x5,x6,x7=>if x7<(x0.size:Int) then (gamehallref2_NatAdd.j1 k x0 x1 x5 x6 x7 true) else (if x7<(x1.size:Int) then (gamehallref2_NatAdd.j1 k x0 x1 x5 x6 x7 true) else (gamehallref2_NatAdd.j1 k x0 x1 x5 x6 x7 (decide (x6 > 0))))
def gamehallref2_NatAdd.j1 : Nat→ByteArray→ByteArray→List Int→Int→Int→Bool→Option (ByteArray)
 | 0,_,_,_,_,_,_=>none
 | k+1,x0,x1,x5,x6,x7,x22=>if x22=true then ((gamehallref2_digit.f x0 x7).bind fun t396=>((gamehallref2_digit.f x1 x7).bind fun t397=>(if x5.length<17592186044416 then (gamehallref2_NatAdd.l0 k x0 x1 (x5 ++ [Int.tmod (wrap64 ((wrap64 (t396+t397))+x6)) 10]) (wrap64 (Int.tdiv (wrap64 ((wrap64 (t396+t397))+x6)) 10)) (wrap64 (x7+1))) else (none)))) else ((gamehallref2_text.f k x5).bind fun t401=>(some t401))
end
def gamehallref2_NatAdd.f (k:Nat) (a0:ByteArray) (a1:ByteArray):Option (ByteArray):=gamehallref2_NatAdd.l0 k a0 a1 ([]:List Int) 0 0
def gamehallref2_NatCmp.f (a0:ByteArray) (a1:ByteArray):Option (Int):=if (a0.size:Int)<(a1.size:Int) then (some (-1)) else (if (a0.size:Int) > (a1.size:Int) then (some 1) else (if (Op.bytesLess a0.toList a1.toList)=true then (some (-1)) else (if ((Op.bytesLess a0.toList a1.toList || a0.toList == a1.toList)=true) then (some 0) else (some 1))))
def gamehallref2_NatSub.l0 : Nat→ByteArray→ByteArray→List Int→Int→Int→Int→Option (ByteArray)
 | 0,_,_,_,_,_,_=>none
 | k+1,x0,x1,x5,x6,x10,x11=>if x11<x10 then ((gamehallref2_digit.f x0 x11).bind fun t403=>((gamehallref2_digit.f x1 x11).bind fun t404=>(if (wrap64 ((wrap64 (t403 - t404)) - x6))<0 then (if x5.length<17592186044416 then (gamehallref2_NatSub.l0 k x0 x1 (x5 ++ [wrap64 ((wrap64 ((wrap64 (t403 - t404)) - x6))+10)]) 1 x10 (wrap64 (x11+1))) else (none)) else (if x5.length<17592186044416 then (gamehallref2_NatSub.l0 k x0 x1 (x5 ++ [wrap64 ((wrap64 (t403 - t404)) - x6)]) 0 x10 (wrap64 (x11+1))) else (none))))) else ((gamehallref2_text.f k x5).bind fun t402=>(some t402))
def gamehallref2_NatSub.f (k:Nat) (a0:ByteArray) (a1:ByteArray):Option (ByteArray):=gamehallref2_NatSub.l0 k a0 a1 ([]:List Int) 0 (a0.size:Int) 0
mutual
def gamehallref2_NatMul.l0 : Nat→ByteArray→ByteArray→List Int→Int→Int→Option (ByteArray)
 | 0,_,_,_,_,_=>none
 | k+1,x0,x1,x5,x18,x19=>if x19<x18 then ((gamehallref2_digit.f x0 x19).bind fun t438=>(gamehallref2_NatMul.l1 k x0 x1 x5 x19 t438 x18 x19 (x1.size:Int) 0)) else ((gamehallref2_text.f k x5).bind fun t437=>(some t437))
def gamehallref2_NatMul.l1 : Nat→ByteArray→ByteArray→List Int→Int→Int→Int→Int→Int→Int→Option (ByteArray)
 | 0,_,_,_,_,_,_,_,_,_=>none
 | k+1,x0,x1,x5,x6,x7,x18,x19,x26,x27=>if x27<x26 then (if 0≤(wrap64 (x6+x27)) then (if (wrap64 (x6+x27))<(x5.length:Int) then ((gamehallref2_digit.f x1 x27).bind fun t440=>(gamehallref2_NatMul.l1 k x0 x1 (x5.set ((wrap64 (x6+x27)):Int).toNat (wrap64 ((rd x5 (wrap64 (x6+x27)))+(wrap64 (x7 * t440))))) x6 x7 x18 x19 x26 (wrap64 (x27+1)))) else (none)) else (none)) else (if 0≤(wrap64 ((x5.length:Int) - 1)) then (if (wrap64 ((x5.length:Int) - 1))≤(x5.length:Int) then (gamehallref2_NatMul.l2 k x0 x1 x5 x18 x19 ((x5.take ((wrap64 ((x5.length:Int) - 1)):Int).toNat).length:Int) 0) else (none)) else (none))
def gamehallref2_NatMul.l2 : Nat→ByteArray→ByteArray→List Int→Int→Int→Int→Int→Option (ByteArray)
 | 0,_,_,_,_,_,_,_=>none
 | k+1,x0,x1,x5,x18,x19,x49,x50=>if x50<x49 then (if 0≤x50 then (if x50<(x5.length:Int) then (if (rd x5 x50) > 9 then (if 0≤(wrap64 (x50+1)) then (if (wrap64 (x50+1))<(x5.length:Int) then ((some (x5.set ((wrap64 (x50+1)):Int).toNat (wrap64 ((rd x5 (wrap64 (x50+1)))+(wrap64 (Int.tdiv (rd x5 x50) 10)))):List Int)).bind fun y449=>(gamehallref2_NatMul.l2 k x0 x1 (y449.set (x50:Int).toNat (Int.tmod (rd y449 x50) 10)) x18 x19 x49 (wrap64 (x50+1)))) else (none)) else (none)) else (gamehallref2_NatMul.l2 k x0 x1 x5 x18 x19 x49 (wrap64 (x50+1)))) else (none)) else (none)) else (gamehallref2_NatMul.l0 k x0 x1 x5 x18 (wrap64 (x19+1)))
end
def gamehallref2_NatMul.f (k:Nat) (a0:ByteArray) (a1:ByteArray):Option (ByteArray):=if 0≤(wrap64 ((wrap64 ((a0.size:Int)+(a1.size:Int)))+1)) then (if (wrap64 ((wrap64 ((a0.size:Int)+(a1.size:Int)))+1):Int).toNat≤35184372088832 then (gamehallref2_NatMul.l0 k a0 a1 (List.replicate (wrap64 ((wrap64 ((a0.size:Int)+(a1.size:Int)))+1):Int).toNat 0) (a0.size:Int) 0) else (none)) else (none)
mutual
def gamehallref2_NatDiv.l0 : Nat→ByteArray→ByteArray→ByteArray→ByteArray→Int→Option (ByteArray × ByteArray)
 | 0,_,_,_,_,_=>none
 | k+1,x0,x1,x7,x8,x9=>if x9<(x0.size:Int) then (if 0≤x9 then (if x9≤(wrap64 (x9+1)) then (if (wrap64 (x9+1))≤(x0.size:Int) then (if x8.size+(x0.extract (x9:Int).toNat ((wrap64 (x9+1)):Int).toNat).size≤9223372036854775807 then ((gamehallref2_strip.f k (x8 ++ (x0.extract (x9:Int).toNat ((wrap64 (x9+1)):Int).toNat))).bind fun t454=>(gamehallref2_NatDiv.l1 k x0 x1 x7 t454 x9 48)) else (none)) else (none)) else (none)) else (none)) else (if 1+x7.size≤9223372036854775807 then ((gamehallref2_strip.f k ((⟨#[48]⟩:ByteArray) ++ x7)).bind fun t453=>(some (t453,x8))) else (none))
def gamehallref2_NatDiv.l1 : Nat→ByteArray→ByteArray→ByteArray→ByteArray→Int→Int→Option (ByteArray × ByteArray)
 | 0,_,_,_,_,_,_=>none
 | k+1,x0,x1,x7,x8,x9,x10=>(gamehallref2_NatCmp.f x8 x1).bind fun t455=>(if t455 ≥ 0 then ((gamehallref2_NatSub.f k x8 x1).bind fun t456=>(gamehallref2_NatDiv.l1 k x0 x1 x7 t456 x9 ((x10+1) % 256))) else (if x7.size+(Utf8.encode x10).size≤9223372036854775807 then (gamehallref2_NatDiv.l0 k x0 x1 (x7 ++ (Utf8.encode x10)) x8 (wrap64 (x9+1))) else (none)))
end
def gamehallref2_NatDiv.f (k:Nat) (a0:ByteArray) (a1:ByteArray):Option (ByteArray × ByteArray):=if 0≤(mx 0 (mn (a0.size:Int) (wrap64 ((a1.size:Int) - 1)))) then (if (mx 0 (mn (a0.size:Int) (wrap64 ((a1.size:Int) - 1))))≤(a0.size:Int) then (if 1+(a0.extract 0 ((mx 0 (mn (a0.size:Int) (wrap64 ((a1.size:Int) - 1)))):Int).toNat).size≤9223372036854775807 then ((gamehallref2_strip.f k ((⟨#[48]⟩:ByteArray) ++ (a0.extract 0 ((mx 0 (mn (a0.size:Int) (wrap64 ((a1.size:Int) - 1)))):Int).toNat))).bind fun t452=>(gamehallref2_NatDiv.l0 k a0 a1 (⟨#[]⟩:ByteArray) t452 (mx 0 (mn (a0.size:Int) (wrap64 ((a1.size:Int) - 1)))))) else (none)) else (none)) else (none)
def gamehallref2_NatGcd.l0 : Nat→ByteArray→ByteArray→Option (ByteArray)
 | 0,_,_=>none
 | k+1,x0,x1=>if x1.toList=([48]:List UInt8) then (some x0) else ((gamehallref2_NatDiv.f k x0 x1).bind fun bt457=>(gamehallref2_NatGcd.l0 k x1 bt457.2))
def gamehallref2_NatGcd.f (k:Nat) (a0:ByteArray) (a1:ByteArray):Option (ByteArray):=gamehallref2_NatGcd.l0 k a0 a1
mutual
def gamehallref2_RatInt.l0 : Nat→Int→ByteArray→Option (ByteArray)
 | 0,_,_=>none
 | k+1,x0,x3=>if x0 > 0 then (if 0≤(Int.tmod x0 10) then (if (Int.tmod x0 10)≤(wrap64 ((Int.tmod x0 10)+1)) then (if (wrap64 ((Int.tmod x0 10)+1))≤10 then (if ((⟨#[48,49,50,51,52,53,54,55,56,57]⟩:ByteArray).extract ((Int.tmod x0 10):Int).toNat ((wrap64 ((Int.tmod x0 10)+1)):Int).toNat).size+x3.size≤9223372036854775807 then (gamehallref2_RatInt.l0 k (wrap64 (Int.tdiv x0 10)) (((⟨#[48,49,50,51,52,53,54,55,56,57]⟩:ByteArray).extract ((Int.tmod x0 10):Int).toNat ((wrap64 ((Int.tmod x0 10)+1)):Int).toNat) ++ x3)) else (none)) else (none)) else (none)) else (none)) else (if x3.toList=([]:List UInt8) then (if 0≤(Int.tmod x0 10) then (if (Int.tmod x0 10)≤(wrap64 ((Int.tmod x0 10)+1)) then (if (wrap64 ((Int.tmod x0 10)+1))≤10 then (if ((⟨#[48,49,50,51,52,53,54,55,56,57]⟩:ByteArray).extract ((Int.tmod x0 10):Int).toNat ((wrap64 ((Int.tmod x0 10)+1)):Int).toNat).size+x3.size≤9223372036854775807 then (gamehallref2_RatInt.l0 k (wrap64 (Int.tdiv x0 10)) (((⟨#[48,49,50,51,52,53,54,55,56,57]⟩:ByteArray).extract ((Int.tmod x0 10):Int).toNat ((wrap64 ((Int.tmod x0 10)+1)):Int).toNat) ++ x3)) else (none)) else (none)) else (none)) else (none)) else (some x3))
def gamehallref2_RatInt.f : Nat→Int→Option (ByteArray)
 | 0,_=>none
 | k+1,a0=>if a0 ≥ 0 then (gamehallref2_RatInt.l0 k a0 (⟨#[]⟩:ByteArray)) else (if a0=(-9223372036854775808) then (some (⟨#[45,57,50,50,51,51,55,50,48,51,54,56,53,52,55,55,53,56,48,56]⟩:ByteArray)) else ((gamehallref2_RatInt.f k (wrap64 (-a0))).bind fun t481=>(if 1+t481.size≤9223372036854775807 then (some ((⟨#[45]⟩:ByteArray) ++ t481)) else (none))))
end
end
end Go.Proofs.YtehakimmioclkaaGreatDoor.ND
end
section
set_option linter.unusedSimpArgs false
set_option linter.unusedVariables false
namespace Go.Proofs.YtehakimmioclkaaGreatDoor.Lib
open Go Go.Proofs.YtehakimmioclkaaGreatDoor.Mach Go.Proofs.YtehakimmioclkaaGreatDoor.ND
section
abbrev eW : ETy := .one (.int .u32)
def vW : cR (List Int):=iZ eW
def vU32 : cR Int:=u6 .u32
def vU8 : cR Int:=u6 .u8
def vU64 : cR Int:=u6 .u64
def dG {β:Type} (f:Nat→Option β) (mk:β→AV) (Q:Res):Prop:=∃ k r,f k=some r∧Q (mk r) []
def aJU {β:Type} (o:Option β) (mk:β→AV) (Q:Res):Prop:=∃ r,o=some r∧Q (mk r) []
def isI (n:Int):AV := .int .i64 n
def isN (l:List Int):AV := .imm eW l
def rL (o:aA):Option (List Int):=match o with | .typed e l fz=>(match fz with | false=>fL eW e l | true=>none) | _=>none
def rM (x:AV) (n:Nat):Bool:=match x with | .own k=>Nat.beq k n | _=>false
def vO : gM:=fun xs os Q=>match xs with
 | [x]=>(match os with
   | [o]=>(match rL o with | some l=>bif rM x 0 then (∃ k r,nat_N_trim.f k l=some r∧Q (.own 1) [.dead, .typed eW r false]) else False | none=>False)
   | _=>False)
 | _=>False
def aU0 (s:ByteArray):Res→Prop:=dG (fun k=>nat_Check.f k s) isI
def readN (s:ByteArray):Res→Prop:=dG (fun k=>nat_Read.f k s) isN
def aJV (l:List Int):Res→Prop:=dG (fun k=>nat_N_Text.f k l) .str
def cmpN (l m:List Int):Res→Prop:=dG (fun k=>nat_N_Cmp.f k l m) isI
def addN (l m:List Int):Res→Prop:=dG (fun k=>nat_N_Add.f k l m) isN
def subN (l m:List Int):Res→Prop:=dG (fun k=>nat_N_Sub.f k l m) isN
def mulN (l m:List Int):Res→Prop:=dG (fun k=>nat_N_Mul.f k l m) isN
def mulO (l m:List Int) (Q:Res):Prop:=∃ k r,nat_N_Mul.f k l m=some r∧Q (.own 0) [.typed eW r false]
def aJW (l:List Int) (d:Int):Res→Prop:=dG (fun k=>nat_N_short.f k l d) fun p => .tup [isN p.1,isN p.2]
def divN (l m:List Int):Res→Prop:=dG (fun k=>nat_N_Div.f k l m) fun p => .tup [isN p.1,isN p.2]
def gcdN (l m:List Int):Res→Prop:=dG (fun k=>nat_N_Gcd.f k l m) isN
def ofN (n:Int):Res→Prop:=dG (fun k=>nat_Of.f k n) isN
def aU1 (l:List Int):Res→Prop:=dG (fun k=>nat_N_Digits.f k l) isI
def aJX (s:ByteArray) (c:Int):Res→Prop:=dG (fun k=>strings_trimLeftByte.f k s c) .str
def aJY (s t:ByteArray):Res→Prop:=dG (fun k=>strings_TrimLeft.f k s t) .str
def aU2 (s t:ByteArray) (Q:Res):Prop:=t=⟨#[48]⟩∧aJY s t Q
def aC1 : gM:=fun xs os Q=>match xs with
 | [x,v,k,q]=>(match os with
   | [o]=>(match rL o with | some u=>(match vW.get v with | some v=>(match vI.get k with | some kk=>(match vU64.get q with | some q=>bif rM x 0 then (∃ k r,nat_N_minus.f k u v kk q=some r∧Q (.bool r.1) [.typed eW r.2 false]) else False | none=>False) | none=>False) | none=>False) | none=>False)
   | _=>False)
 | _=>False
def aC2 : gM:=fun xs os Q=>match xs with
 | [x,v,k]=>(match os with
   | [o]=>(match rL o with | some u=>(match vW.get v with | some v=>(match vI.get k with | some kk=>bif rM x 0 then (∃ k r,nat_N_plus.f k u v kk=some r∧Q (.tup []) [.typed eW r false]) else False | none=>False) | none=>False) | none=>False)
   | _=>False)
 | _=>False
abbrev zeroS : ByteArray:=⟨#[48]⟩
def rerrN (s:ByteArray):Res→Prop:=dG (fun k=>gamehallref2_NatError.f k s) isI
def aC3 (s:ByteArray):Res→Prop:=dG (fun k=>gamehallref2_strip.f k s) .str
def aJZ (l:List Int):Res→Prop:=dG (fun k=>gamehallref2_text.f k l) .str
def raddN (s t:ByteArray):Res→Prop:=dG (fun k=>gamehallref2_NatAdd.f k s t) .str
def aJ0 (s t:ByteArray):Res→Prop:=dG (fun k=>gamehallref2_NatSub.f k s t) .str
def rmulN (s t:ByteArray):Res→Prop:=dG (fun k=>gamehallref2_NatMul.f k s t) .str
def aJ1 (s t:ByteArray):Res→Prop:=dG (fun k=>gamehallref2_NatDiv.f k s t) fun p => .tup [.str p.1, .str p.2]
def rgcdN (s t:ByteArray):Res→Prop:=dG (fun k=>gamehallref2_NatGcd.f k s t) .str
def aJ2 (s t:ByteArray):Res→Prop:=aJU (gamehallref2_NatCmp.f s t) isI
def aJ3 (s:ByteArray) (n:Int):Res→Prop:=aJU (gamehallref2_digit.f s n) isI
def rintN (n:Int):Res→Prop:=dG (fun k=>gamehallref2_RatInt.f k n) .str
noncomputable def g6 : List (Nat × List Bool × gM):=[(81,[true],vO)]
noncomputable def nY : List (Nat × List Bool × gM):=[(81,[true],vO),(93,[true,false,false,false],aC1),(94,[true,false,false],aC2)]
noncomputable def aJ4 : FuncId→List AV→Res→Prop:=cV [(96,c2 vS vU8 aJX)]
noncomputable def vR : FuncId→List AV→Res→Prop:=cV [(86,c2 vS vS aU2)]
noncomputable def rN : FuncId→List AV→Res→Prop:=cV [(65,c2 vW vW cmpN),(92,c2 vW vU32 aJW),(61,c2 vW vW mulO)]
noncomputable def vU : FuncId→List AV→Res→Prop:=cV [(83,c2 vW vW divN),(75,c1 vW aJV)]
noncomputable def aC4 : FuncId→List AV→Res→Prop:=cV [(85,c1 vS aC3)]
noncomputable def jQ : FuncId→List AV→Res→Prop:=cV [(69,c2 vS vI aJ3),(70,c1 vL aJZ)]
noncomputable def vV : FuncId→List AV→Res→Prop:=cV [(85,c1 vS aC3),(41,c2 vS vS aJ2),(42,c2 vS vS aJ0)]
noncomputable def aC5 : FuncId→List AV→Res→Prop:=cV [(72,c2 vS vS aJ1)]
def aJ5 (n:Int) (Q:Res):Prop:=0≤n∧rintN n Q
noncomputable def aJ6 : FuncId→List AV→Res→Prop:=cV [(19,c1 vI aJ5)]
end
end Go.Proofs.YtehakimmioclkaaGreatDoor.Lib
end
section
set_option linter.unusedSimpArgs false
set_option linter.unusedVariables false
namespace Go.Proofs.YtehakimmioclkaaGreatDoor.Mach
open Go Go.Proofs.YtehakimmioclkaaGreatDoor Go.Proofs.YtehakimmioclkaaGreatDoor.Lib
section
set_option maxRecDepth 1000000
def vX : List (Nat × List Nat):=[(4,[0,18,19,20])]
def vY : List (Nat × ETy):=[(18,ETy.one (CTy.int IntKind.u8))]
noncomputable def nZ (s:ByteArray) (x0:List Int) (x1 x2:Int):St:=aS 34 [(0,AV.str s),(18,AV.imm (ETy.one (CTy.int IntKind.u8)) x0),(19,AV.int .i64 x1),(20,AV.int .i64 x2)] []
theorem aU3 (s:ByteArray) (n0:Nat) (K:AV→List aA→Prop) :
 aH tab (aM tab bP [] 400) (aK vX vY (aB Tryz.prog n0 100 K)) (aI tab (fnT Tryz.f100).res K) 400 [.code (fnT Tryz.f100).body] ⟨aP (fnT Tryz.f100).n [AV.str s],[]⟩ =
 (bif s.toList == (ByteArray.mk #[]).toList then K (AV.int .i64 5) [] else bif decide (0<(↑s.size:Int)) then bif decide ((↑(s.data.toList.getD 0 0).toNat:Int)=48) then bif bif false then true else bif true then decide ((↑s.size:Int) > 1) else false then K (AV.int .i64 5) [] else bif decide (s.size≤9223372036854775807) then aB Tryz.prog n0 100 K (aE (fnT Tryz.f100) 4) (nZ s (List.map (fun b=>(↑b.toNat:Int)) s.data.toList) (↑(List.map (fun b=>(↑b.toNat:Int)) s.data.toList).length:Int) 0) else False else bif decide (s.size≤9223372036854775807) then aB Tryz.prog n0 100 K (aE (fnT Tryz.f100) 4) (nZ s (List.map (fun b=>(↑b.toNat:Int)) s.data.toList) (↑(List.map (fun b=>(↑b.toNat:Int)) s.data.toList).length:Int) 0) else False else False):=by kernel_rfl
theorem aU4 (s:ByteArray) (x0:List Int) (x1 x2:Int) (n0:Nat) (K:AV→List aA→Prop) :
 aH tab (aM tab bP [] 400) (aK vX vY (aB Tryz.prog n0 100 K)) (aI tab (fnT Tryz.f100).res K) 400 (aT (fnT Tryz.f100) 4) (nZ s x0 x1 x2) =
 (bif decide (x2<x1) then bif decide (0≤x2) && decide (x2<(↑x0.length:Int)) then bif decide (x0.getD x2.toNat 0<48) then K (AV.int .i64 5) [] else bif bif false then true else decide (x0.getD x2.toNat 0 > 57) then K (AV.int .i64 5) [] else aB Tryz.prog n0 100 K (aE (fnT Tryz.f100) 4) (nZ s x0 x1 (IntKind.i64.wrap (x2+1))) else False else bif decide ((↑s.size:Int) > 2000) then K (AV.int .i64 2) [] else K (AV.int .i64 0) []):=by kernel_rfl
def n3 : List (Nat × List Nat):=[(1,[0])]
def n4 : List (Nat × ETy):=[(0,eW)]
noncomputable def aC6 (l x0:List Int):St:=aS 21 [(0,AV.own 0)] [aA.typed eW x0 false]
noncomputable def vZ (l:List Int) (x0 x1:Nat) (x2:List Int):St:=aS 21 [(0,AV.win 0 x0 x1)] [aA.typed eW x2 false]
theorem aU5 (l:List Int) (n0:Nat) (hv:Nat→Value × Nat) (K:AV→List aA→Prop) :
 aH tab (aM tab bP [] 400) (fI 1 n3 n4 (GoodH Tryz.prog n0 81 1 hv K)) (aI tab (fnT Tryz.f81).res K) 400 [.code (fnT Tryz.f81).body] ⟨aP (fnT Tryz.f81).n [AV.own 0],[aA.typed eW l false]⟩ =
 (GoodH Tryz.prog n0 81 1 hv K (aE (fnT Tryz.f81) 1) (aC6 l l)):=by kernel_rfl
theorem aU6 (l x0:List Int) (n0:Nat) (hv:Nat→Value × Nat) (K:AV→List aA→Prop) :
 aH tab (aM tab bP [] 400) (fI 1 n3 n4 (GoodH Tryz.prog n0 81 1 hv K)) (aI tab (fnT Tryz.f81).res K) 400 (aT (fnT Tryz.f81) 1) (aC6 l x0) =
 (bif decide ((↑x0.length:Int) > 0) then bif decide (0≤IntKind.i64.wrap ((↑x0.length:Int) - 1)) && decide (IntKind.i64.wrap ((↑x0.length:Int) - 1)<(↑x0.length:Int)) then bif bif true then decide (x0.getD (IntKind.i64.wrap ((↑x0.length:Int) - 1)).toNat 0=0) else false then bif decide (0≤IntKind.i64.wrap ((↑x0.length:Int) - 1)) && decide (IntKind.i64.wrap ((↑x0.length:Int) - 1)≤(↑x0.length:Int)) then GoodH Tryz.prog n0 81 1 hv K (aE (fnT Tryz.f81) 1) (vZ l 0 ((IntKind.i64.wrap ((↑x0.length:Int) - 1)).toNat - 0) x0) else False else K (AV.own 0) [aA.typed eW x0 false] else False else K (AV.own 0) [aA.typed eW x0 false]):=by kernel_rfl
theorem aU7 (l:List Int) (x0 x1:Nat) (x2:List Int) (n0:Nat) (hv:Nat→Value × Nat) (K:AV→List aA→Prop) :
 aH tab (aM tab bP [] 400) (fI 1 n3 n4 (GoodH Tryz.prog n0 81 1 hv K)) (aI tab (fnT Tryz.f81).res K) 400 (aT (fnT Tryz.f81) 1) (vZ l x0 x1 x2) =
 (bif decide ((↑x1:Int) > 0) then bif decide (0≤IntKind.i64.wrap ((↑x1:Int) - 1)) && decide (IntKind.i64.wrap ((↑x1:Int) - 1)<(↑x1:Int)) then bif bif true then decide (x2.getD ((↑x0:Int)+IntKind.i64.wrap ((↑x1:Int) - 1)).toNat 0=0) else false then bif decide (0≤IntKind.i64.wrap ((↑x1:Int) - 1)) && decide (IntKind.i64.wrap ((↑x1:Int) - 1)≤(↑x1:Int)) then GoodH Tryz.prog n0 81 1 hv K (aE (fnT Tryz.f81) 1) (vZ l (x0+0) ((IntKind.i64.wrap ((↑x1:Int) - 1)).toNat - 0) x2) else False else K (AV.win 0 x0 x1) [aA.typed eW x2 false] else False else K (AV.win 0 x0 x1) [aA.typed eW x2 false]):=by kernel_rfl
def n5 : List (Nat × List Nat):=[(3,[0,3,4]),(7,[0,3,4,5,20,21,22])]
def n6 : List (Nat × ETy):=[(3,eW),(20,ETy.one (CTy.int IntKind.u8))]
noncomputable def v1 (s:ByteArray) (x0:Int) (x1:List Int):St:=aS 39 [(0,AV.str s),(3,AV.own 0),(4,AV.int .i64 x0)] [aA.typed eW x1 false]
noncomputable def v2 (s:ByteArray) (x0 x1:Int) (x2:List Int) (x3 x4:Int) (x5:List Int):St:=aS 39 [(0,AV.str s),(3,AV.own 0),(4,AV.int .i64 x0),(5,AV.int .u32 x1),(20,AV.imm (ETy.one (CTy.int IntKind.u8)) x2),(21,AV.int .i64 x3),(22,AV.int .i64 x4)] [aA.typed eW x5 false]
theorem aU8 (s:ByteArray) (n0:Nat) (K:AV→List aA→Prop) :
 aH tab (eV tab g6 bP [] 400) (aK n5 n6 (aB Tryz.prog n0 91 K)) (aI tab (fnT Tryz.f91).res K) 400 [.code (fnT Tryz.f91).body] ⟨aP (fnT Tryz.f91).n [AV.str s],[]⟩ =
 (aB Tryz.prog n0 91 K (aE (fnT Tryz.f91) 3) (v1 s (↑s.size:Int) [])):=by kernel_rfl
theorem aU9 (s:ByteArray) (x0:Int) (x1:List Int) (n0:Nat) (K:AV→List aA→Prop) :
 aH tab (eV tab g6 bP [] 400) (aK n5 n6 (aB Tryz.prog n0 91 K)) (aI tab (fnT Tryz.f91).res K) 400 (aT (fnT Tryz.f91) 3) (v1 s x0 x1) =
 (bif decide (x0 > 0) then bif decide (0≤if IntKind.i64.wrap (x0 - 9) > 0 then IntKind.i64.wrap (x0 - 9) else 0) && decide ((if IntKind.i64.wrap (x0 - 9) > 0 then IntKind.i64.wrap (x0 - 9) else 0)≤x0) && decide (x0≤(↑s.size:Int)) then bif decide ((s.extract (if IntKind.i64.wrap (x0 - 9) > 0 then IntKind.i64.wrap (x0 - 9) else 0).toNat x0.toNat).size≤9223372036854775807) then aB Tryz.prog n0 91 K (aE (fnT Tryz.f91) 7) (v2 s x0 0 (List.map (fun b=>(↑b.toNat:Int)) (s.extract (if IntKind.i64.wrap (x0 - 9) > 0 then IntKind.i64.wrap (x0 - 9) else 0).toNat x0.toNat).data.toList) (↑(List.map (fun b=>(↑b.toNat:Int)) (s.extract (if IntKind.i64.wrap (x0 - 9) > 0 then IntKind.i64.wrap (x0 - 9) else 0).toNat x0.toNat).data.toList).length:Int) 0 x1) else False else False else ∃ k r,ND.nat_N_trim.f k x1=some r∧K (AV.own 1) [aA.dead,aA.typed eW r false]):=by kernel_rfl
theorem aVA (s:ByteArray) (x0 x1:Int) (x2:List Int) (x3 x4:Int) (x5:List Int) (n0:Nat) (K:AV→List aA→Prop) :
 aH tab (eV tab g6 bP [] 400) (aK n5 n6 (aB Tryz.prog n0 91 K)) (aI tab (fnT Tryz.f91).res K) 400 (aT (fnT Tryz.f91) 7) (v2 s x0 x1 x2 x3 x4 x5) =
 (bif decide (x4<x3) then bif decide (0≤x4) && decide (x4<(↑x2.length:Int)) then aB Tryz.prog n0 91 K (aE (fnT Tryz.f91) 7) (v2 s x0 (IntKind.u32.wrap (IntKind.u32.wrap (x1 * 10)+IntKind.u32.wrap (IntKind.u8.wrap (x2.getD x4.toNat 0 - 48)))) x2 x3 (IntKind.i64.wrap (x4+1)) x5) else False else bif bif (x5.length+[x1].length).ble 9223372036854775807 then ((x5.length+[x1].length) * 4).ble 140737488355328 else false then aB Tryz.prog n0 91 K (aE (fnT Tryz.f91) 3) (v1 s (IntKind.i64.wrap (x0 - 9)) (x5 ++ [x1])) else False):=by kernel_rfl
def v3 : List (Nat × List Nat):=[(1,[0,1])]
def v4 : List (Nat × ETy):=[]
noncomputable def aVB (s:ByteArray) (c:Int):St:=aS 17 [(0,AV.str s),(1,AV.int IntKind.u8 c)] []
noncomputable def aC7 (s:ByteArray) (c:Int) (x0:ByteArray):St:=aS 17 [(0,AV.str x0),(1,AV.int IntKind.u8 c)] []
theorem aVC (s:ByteArray) (c:Int) (n0:Nat) (K:AV→List aA→Prop) :
 aH tab (aM tab bP [] 400) (aK v3 v4 (aB Tryz.prog n0 96 K)) (aI tab (fnT Tryz.f96).res K) 400 [.code (fnT Tryz.f96).body] ⟨aP (fnT Tryz.f96).n [AV.str s,AV.int IntKind.u8 c],[]⟩ =
 (aB Tryz.prog n0 96 K (aE (fnT Tryz.f96) 1) (aVB s c)):=by kernel_rfl
theorem aVD (s:ByteArray) (c:Int) (x0:ByteArray) (n0:Nat) (K:AV→List aA→Prop) :
 aH tab (aM tab bP [] 400) (aK v3 v4 (aB Tryz.prog n0 96 K)) (aI tab (fnT Tryz.f96).res K) 400 (aT (fnT Tryz.f96) 1) (aC7 s c x0) =
 (bif decide ((↑x0.size:Int) > 0) then bif decide (0<(↑x0.size:Int)) then bif bif true then decide ((↑(x0.data.toList.getD 0 0).toNat:Int)=c) else false then bif decide (1≤(↑x0.size:Int)) && decide ((↑x0.size:Int)≤(↑x0.size:Int)) then aB Tryz.prog n0 96 K (aE (fnT Tryz.f96) 1) (aC7 s c (x0.extract 1 (↑x0.size:Int).toNat)) else False else K (AV.str x0) [] else False else K (AV.str x0) []):=by kernel_rfl
def aJ7 : List (Nat × List Nat):=[]
def aJ8 : List (Nat × ETy):=[]
theorem ntl_E (s:ByteArray) (n0:Nat) (K:AV→List aA→Prop) :
 aH tab (aM tab aJ4 [] 400) (aK aJ7 aJ8 (aB Tryz.prog n0 86 K)) (aI tab (fnT Tryz.f86).res K) 400 [.code (fnT Tryz.f86).body] ⟨aP (fnT Tryz.f86).n [AV.str s,AV.str zeroS],[]⟩ =
 (bif s.toList == (ByteArray.mk #[]).toList then K (AV.str s) [] else ∃ k r,ND.strings_trimLeftByte.f k s 48=some r∧K (AV.str r) []):=by kernel_rfl
def n7 : List (Nat × List Nat):=[(5,[0,3,4]),(10,[0,3,4,5,6,7])]
def n8 : List (Nat × ETy):=[(3,ETy.one (CTy.int IntKind.u8))]
noncomputable def v5 (l:List Int) (x0:Int) (x1:List Int):St:=aS 44 [(0,AV.imm eW l),(3,AV.own 0),(4,AV.int .i64 x0)] [aA.typed (ETy.one (CTy.int IntKind.u8)) x1 false]
noncomputable def v6 (l:List Int) (x0 x1 x2:Int) (x3 x4:List Int):St:=aS 44 [(0,AV.imm eW l),(3,AV.own 0),(4,AV.int .i64 x0),(5,AV.int .u32 x1),(6,AV.parr 1),(7,AV.int .i64 x2)] [aA.typed (ETy.one (CTy.int IntKind.u8)) x3 false,aA.typed (ETy.one (CTy.int IntKind.u8)) x4 false]
theorem aVE (l:List Int) (n0:Nat) (K:AV→List aA→Prop) :
 aH tab (aM tab vR [] 400) (aK n7 n8 (aB Tryz.prog n0 75 K)) (aI tab (fnT Tryz.f75).res K) 400 [.code (fnT Tryz.f75).body] ⟨aP (fnT Tryz.f75).n [AV.imm eW l],[]⟩ =
 (bif decide ((↑l.length:Int)=0) then K (AV.str (ByteArray.mk #[48])) [] else bif decide (0≤IntKind.i64.wrap (9 * (↑l.length:Int))) && bif (IntKind.i64.wrap (9 * (↑l.length:Int))).toNat.ble 9223372036854775807 then ((IntKind.i64.wrap (9 * (↑l.length:Int))).toNat * 1).ble 281474976710656 else false then aB Tryz.prog n0 75 K (aE (fnT Tryz.f75) 5) (v5 l (IntKind.i64.wrap ((↑l.length:Int) - 1)) (List.replicate 0 0)) else False):=by kernel_rfl
theorem aVF (l:List Int) (x0:Int) (x1:List Int) (n0:Nat) (K:AV→List aA→Prop) :
 aH tab (aM tab vR [] 400) (aK n7 n8 (aB Tryz.prog n0 75 K)) (aI tab (fnT Tryz.f75).res K) 400 (aT (fnT Tryz.f75) 5) (v5 l x0 x1) =
 (bif decide (x0 ≥ 0) then bif decide (0≤x0) && decide (x0<(↑l.length:Int)) then aB Tryz.prog n0 75 K (aE (fnT Tryz.f75) 10) (v6 l x0 (l.getD x0.toNat 0) 8 x1 (List.replicate 9 0)) else False else ByteArray.mk #[48]=ByteArray.mk #[48]∧∃ k r,ND.strings_TrimLeft.f k (ByteArray.mk (List.map (fun n=>UInt8.ofNat n.toNat) x1).toArray) (ByteArray.mk #[48])=some r∧K (AV.str r) [aA.typed (ETy.one (CTy.int IntKind.u8)) x1 false]):=by kernel_rfl
theorem aVG (l:List Int) (x0 x1 x2:Int) (x3 x4:List Int) (n0:Nat) (K:AV→List aA→Prop) :
 aH tab (aM tab vR [] 400) (aK n7 n8 (aB Tryz.prog n0 75 K)) (aI tab (fnT Tryz.f75).res K) 400 (aT (fnT Tryz.f75) 10) (v6 l x0 x1 x2 x3 x4) =
 (bif decide (x2 ≥ 0) then bif Nat.beq 9 x4.length && (decide (0≤x2) && decide (x2<(↑x4.length:Int))) then aB Tryz.prog n0 75 K (aE (fnT Tryz.f75) 10) (v6 l x0 (IntKind.u32.wrap (x1.tdiv 10)) (IntKind.i64.wrap (x2 - 1)) x3 (x4.set x2.toNat (IntKind.u8.wrap (IntKind.u32.wrap (48+x1.tmod 10))))) else False else bif Nat.beq 9 x4.length && Nat.blt 0 x4.length && (decide (0≤(↑x4.length:Int)) && decide ((↑x4.length:Int)≤(↑x4.length:Int))) then bif bif (x3.length+(List.take ((↑x4.length:Int).toNat - 0) (List.drop 0 x4)).length).ble 9223372036854775807 then ((x3.length+(List.take ((↑x4.length:Int).toNat - 0) (List.drop 0 x4)).length) * 1).ble 140737488355328 else false then aB Tryz.prog n0 75 K (aE (fnT Tryz.f75) 5) (v5 l (IntKind.i64.wrap (x0 - 1)) (x3 ++ List.take ((↑x4.length:Int).toNat - 0) (List.drop 0 x4))) else False else False):=by kernel_rfl
def v7 : List (Nat × List Nat):=[(6,[0,1,5])]
def v8 : List (Nat × ETy):=[]
noncomputable def v9 (l m:List Int) (x0:Int):St:=aS 43 [(0,AV.imm eW l),(1,AV.imm eW m),(5,AV.int .i64 x0)] []
theorem aVH (l m:List Int) (n0:Nat) (K:AV→List aA→Prop) :
 aH tab (aM tab bP [] 400) (aK v7 v8 (aB Tryz.prog n0 65 K)) (aI tab (fnT Tryz.f65).res K) 400 [.code (fnT Tryz.f65).body] ⟨aP (fnT Tryz.f65).n [AV.imm eW l,AV.imm eW m],[]⟩ =
 (bif !decide ((↑l.length:Int)=(↑m.length:Int)) then bif decide ((↑l.length:Int)<(↑m.length:Int)) then K (AV.int .i64 (-1)) [] else K (AV.int .i64 1) [] else aB Tryz.prog n0 65 K (aE (fnT Tryz.f65) 6) (v9 l m (IntKind.i64.wrap ((↑l.length:Int) - 1)))):=by kernel_rfl
theorem aVI (l m:List Int) (x0:Int) (n0:Nat) (K:AV→List aA→Prop) :
 aH tab (aM tab bP [] 400) (aK v7 v8 (aB Tryz.prog n0 65 K)) (aI tab (fnT Tryz.f65).res K) 400 (aT (fnT Tryz.f65) 6) (v9 l m x0) =
 (bif decide (x0 ≥ 0) then bif decide (0≤x0) && decide (x0<(↑l.length:Int)) then bif decide (0≤x0) && decide (x0<(↑m.length:Int)) then bif decide (l.getD x0.toNat 0<m.getD x0.toNat 0) then K (AV.int .i64 (-1)) [] else bif decide (0≤x0) && decide (x0<(↑l.length:Int)) then bif decide (0≤x0) && decide (x0<(↑m.length:Int)) then bif decide (l.getD x0.toNat 0 > m.getD x0.toNat 0) then K (AV.int .i64 1) [] else aB Tryz.prog n0 65 K (aE (fnT Tryz.f65) 6) (v9 l m (IntKind.i64.wrap (x0 - 1))) else False else False else False else False else K (AV.int .i64 0) []):=by kernel_rfl
def wA : List (Nat × List Nat):=[(6,[1,5,6,20,21,22])]
def wB : List (Nat × ETy):=[(1,eW),(5,eW),(20,eW)]
noncomputable def aVJ (l m:List Int) (x0 x1 x2:Int) (x3:List Int):St:=aS 55 [(1,AV.imm eW l),(5,AV.own 0),(6,AV.int .u32 x0),(20,AV.imm eW m),(21,AV.int .i64 x1),(22,AV.int .i64 x2)] [aA.typed eW x3 false]
noncomputable def rO (l m:List Int) (x0 x1 x2:Int) (x3:List Int):St:=aS 55 [(1,AV.imm eW m),(5,AV.own 0),(6,AV.int .u32 x0),(20,AV.imm eW l),(21,AV.int .i64 x1),(22,AV.int .i64 x2)] [aA.typed eW x3 false]
theorem aVK (l m:List Int) (n0:Nat) (K:AV→List aA→Prop) :
 aH tab (aM tab bP [] 400) (aK wA wB (aB Tryz.prog n0 64 K)) (aI tab (fnT Tryz.f64).res K) 400 [.code (fnT Tryz.f64).body] ⟨aP (fnT Tryz.f64).n [AV.imm eW l,AV.imm eW m],[]⟩ =
 (bif decide ((↑l.length:Int)<(↑m.length:Int)) then bif decide (0≤IntKind.i64.wrap ((↑m.length:Int)+1)) && bif (IntKind.i64.wrap ((↑m.length:Int)+1)).toNat.ble 9223372036854775807 then ((IntKind.i64.wrap ((↑m.length:Int)+1)).toNat * 4).ble 281474976710656 else false then aB Tryz.prog n0 64 K (aE (fnT Tryz.f64) 6) (aVJ l m 0 (↑m.length:Int) 0 (List.replicate 0 0)) else False else bif decide (0≤IntKind.i64.wrap ((↑l.length:Int)+1)) && bif (IntKind.i64.wrap ((↑l.length:Int)+1)).toNat.ble 9223372036854775807 then ((IntKind.i64.wrap ((↑l.length:Int)+1)).toNat * 4).ble 281474976710656 else false then aB Tryz.prog n0 64 K (aE (fnT Tryz.f64) 6) (rO l m 0 (↑l.length:Int) 0 (List.replicate 0 0)) else False):=by kernel_rfl
theorem aVL (l m:List Int) (x0 x1 x2:Int) (x3:List Int) (n0:Nat) (K:AV→List aA→Prop) :
 aH tab (aM tab bP [] 400) (aK wA wB (aB Tryz.prog n0 64 K)) (aI tab (fnT Tryz.f64).res K) 400 (aT (fnT Tryz.f64) 6) (rO l m x0 x1 x2 x3) =
 (bif decide (x2<x1) then bif decide (0≤x2) && decide (x2<(↑l.length:Int)) then bif decide (x2<(↑m.length:Int)) then bif decide (0≤x2) && decide (x2<(↑m.length:Int)) then bif bif (x3.length+[(IntKind.u32.wrap (IntKind.u32.wrap (l.getD x2.toNat 0+x0)+m.getD x2.toNat 0)).tmod 1000000000].length).ble 9223372036854775807 then ((x3.length+[(IntKind.u32.wrap (IntKind.u32.wrap (l.getD x2.toNat 0+x0)+m.getD x2.toNat 0)).tmod 1000000000].length) * 4).ble 140737488355328 else false then aB Tryz.prog n0 64 K (aE (fnT Tryz.f64) 6) (rO l m (IntKind.u32.wrap ((IntKind.u32.wrap (IntKind.u32.wrap (l.getD x2.toNat 0+x0)+m.getD x2.toNat 0)).tdiv 1000000000)) x1 (IntKind.i64.wrap (x2+1)) (x3 ++ [(IntKind.u32.wrap (IntKind.u32.wrap (l.getD x2.toNat 0+x0)+m.getD x2.toNat 0)).tmod 1000000000])) else False else False else bif bif (x3.length+[(IntKind.u32.wrap (l.getD x2.toNat 0+x0)).tmod 1000000000].length).ble 9223372036854775807 then ((x3.length+[(IntKind.u32.wrap (l.getD x2.toNat 0+x0)).tmod 1000000000].length) * 4).ble 140737488355328 else false then aB Tryz.prog n0 64 K (aE (fnT Tryz.f64) 6) (rO l m (IntKind.u32.wrap ((IntKind.u32.wrap (l.getD x2.toNat 0+x0)).tdiv 1000000000)) x1 (IntKind.i64.wrap (x2+1)) (x3 ++ [(IntKind.u32.wrap (l.getD x2.toNat 0+x0)).tmod 1000000000])) else False else False else bif decide (x0 > 0) then bif bif (x3.length+[x0].length).ble 9223372036854775807 then ((x3.length+[x0].length) * 4).ble 140737488355328 else false then K (AV.own 2) [aA.dead,aA.typed eW [x0] false,aA.typed eW (x3 ++ [x0]) false] else False else K (AV.own 0) [aA.typed eW x3 false]):=by kernel_rfl
def wC : List (Nat × List Nat):=[(4,[0,1,5,6,13,14])]
def wD : List (Nat × ETy):=[(5,eW)]
noncomputable def lO (l m:List Int) (x0 x1 x2:Int) (x3:List Int):St:=aS 47 [(0,AV.imm eW l),(1,AV.imm eW m),(5,AV.own 0),(6,AV.int .i64 x0),(13,AV.int .i64 x1),(14,AV.int .i64 x2)] [aA.typed eW x3 false]
theorem aVM (l m:List Int) (n0:Nat) (K:AV→List aA→Prop) :
 aH tab (eV tab g6 bP [] 400) (aK wC wD (aB Tryz.prog n0 66 K)) (aI tab (fnT Tryz.f66).res K) 400 [.code (fnT Tryz.f66).body] ⟨aP (fnT Tryz.f66).n [AV.imm eW l,AV.imm eW m],[]⟩ =
 (bif decide (0≤(↑l.length:Int)) && decide ((↑l.length:Int)≤(↑l.length:Int)) && bif (↑l.length:Int).toNat.ble 9223372036854775807 then ((↑l.length:Int).toNat * 4).ble 281474976710656 else false then aB Tryz.prog n0 66 K (aE (fnT Tryz.f66) 4) (lO l m 0 (↑l.length:Int) 0 (List.replicate (↑l.length:Int).toNat 0)) else False):=by kernel_rfl
theorem aVN (l m:List Int) (x0 x1 x2:Int) (x3:List Int) (n0:Nat) (K:AV→List aA→Prop) :
 aH tab (eV tab g6 bP [] 400) (aK wC wD (aB Tryz.prog n0 66 K)) (aI tab (fnT Tryz.f66).res K) 400 (aT (fnT Tryz.f66) 4) (lO l m x0 x1 x2 x3) =
 (bif decide (x2<x1) then bif decide (0≤x2) && decide (x2<(↑l.length:Int)) then bif decide (x2<(↑m.length:Int)) then bif decide (0≤x2) && decide (x2<(↑m.length:Int)) then bif decide (IntKind.i64.wrap (IntKind.i64.wrap (IntKind.i64.wrap (l.getD x2.toNat 0) - x0) - IntKind.i64.wrap (m.getD x2.toNat 0))<0) then bif decide (0≤x2) && decide (x2<(↑x3.length:Int)) then aB Tryz.prog n0 66 K (aE (fnT Tryz.f66) 4) (lO l m 1 x1 (IntKind.i64.wrap (x2+1)) (x3.set x2.toNat (IntKind.u32.wrap (IntKind.i64.wrap (IntKind.i64.wrap (IntKind.i64.wrap (IntKind.i64.wrap (l.getD x2.toNat 0) - x0) - IntKind.i64.wrap (m.getD x2.toNat 0))+1000000000))))) else False else bif decide (0≤x2) && decide (x2<(↑x3.length:Int)) then aB Tryz.prog n0 66 K (aE (fnT Tryz.f66) 4) (lO l m 0 x1 (IntKind.i64.wrap (x2+1)) (x3.set x2.toNat (IntKind.u32.wrap (IntKind.i64.wrap (IntKind.i64.wrap (IntKind.i64.wrap (l.getD x2.toNat 0) - x0) - IntKind.i64.wrap (m.getD x2.toNat 0)))))) else False else False else bif decide (IntKind.i64.wrap (IntKind.i64.wrap (l.getD x2.toNat 0) - x0)<0) then bif decide (0≤x2) && decide (x2<(↑x3.length:Int)) then aB Tryz.prog n0 66 K (aE (fnT Tryz.f66) 4) (lO l m 1 x1 (IntKind.i64.wrap (x2+1)) (x3.set x2.toNat (IntKind.u32.wrap (IntKind.i64.wrap (IntKind.i64.wrap (IntKind.i64.wrap (l.getD x2.toNat 0) - x0)+1000000000))))) else False else bif decide (0≤x2) && decide (x2<(↑x3.length:Int)) then aB Tryz.prog n0 66 K (aE (fnT Tryz.f66) 4) (lO l m 0 x1 (IntKind.i64.wrap (x2+1)) (x3.set x2.toNat (IntKind.u32.wrap (IntKind.i64.wrap (IntKind.i64.wrap (l.getD x2.toNat 0) - x0))))) else False else False else ∃ k r,ND.nat_N_trim.f k x3=some r∧K (AV.own 1) [aA.dead,aA.typed eW r false]):=by kernel_rfl
def n9 : List (Nat × List Nat):=[(3,[1,5,18,19,20]),(7,[1,5,6,7,8,18,19,20,25,26,27])]
def oA : List (Nat × ETy):=[(5,eW),(18,eW),(25,eW)]
noncomputable def wE (l m:List Int) (x0 x1:Int) (x2:List Int):St:=aS 69 [(1,AV.imm eW m),(5,AV.own 0),(18,AV.imm eW l),(19,AV.int .i64 x0),(20,AV.int .i64 x1)] [aA.typed eW x2 false]
noncomputable def wF (l m:List Int) (x0 x1 x2 x3 x4 x5 x6:Int) (x7:List Int):St:=aS 69 [(1,AV.imm eW m),(5,AV.own 0),(6,AV.int .i64 x0),(7,AV.int .u32 x1),(8,AV.int IntKind.u64 x2),(18,AV.imm eW l),(19,AV.int .i64 x3),(20,AV.int .i64 x4),(25,AV.imm eW m),(26,AV.int .i64 x5),(27,AV.int .i64 x6)] [aA.typed eW x7 false]
theorem aVO (l m:List Int) (n0:Nat) (K:AV→List aA→Prop) :
 aH tab (eV tab g6 bP [] 400) (aK n9 oA (aB Tryz.prog n0 61 K)) (aI tab (fnT Tryz.f61).res K) 400 [.code (fnT Tryz.f61).body] ⟨aP (fnT Tryz.f61).n [AV.imm eW l,AV.imm eW m],[]⟩ =
 (bif decide (0≤IntKind.i64.wrap ((↑l.length:Int)+(↑m.length:Int))) && decide (IntKind.i64.wrap ((↑l.length:Int)+(↑m.length:Int))≤IntKind.i64.wrap ((↑l.length:Int)+(↑m.length:Int))) && bif (IntKind.i64.wrap ((↑l.length:Int)+(↑m.length:Int))).toNat.ble 9223372036854775807 then ((IntKind.i64.wrap ((↑l.length:Int)+(↑m.length:Int))).toNat * 4).ble 281474976710656 else false then aB Tryz.prog n0 61 K (aE (fnT Tryz.f61) 3) (wE l m (↑l.length:Int) 0 (List.replicate (IntKind.i64.wrap ((↑l.length:Int)+(↑m.length:Int))).toNat 0)) else False):=by kernel_rfl
theorem aVP (l m:List Int) (x0 x1:Int) (x2:List Int) (n0:Nat) (K:AV→List aA→Prop) :
 aH tab (eV tab g6 bP [] 400) (aK n9 oA (aB Tryz.prog n0 61 K)) (aI tab (fnT Tryz.f61).res K) 400 (aT (fnT Tryz.f61) 3) (wE l m x0 x1 x2) =
 (bif decide (x1<x0) then bif decide (0≤x1) && decide (x1<(↑l.length:Int)) then aB Tryz.prog n0 61 K (aE (fnT Tryz.f61) 7) (wF l m x1 (l.getD x1.toNat 0) 0 x0 x1 (↑m.length:Int) 0 x2) else False else ∃ k r,ND.nat_N_trim.f k x2=some r∧K (AV.own 1) [aA.dead,aA.typed eW r false]):=by kernel_rfl
theorem aVQ (l m:List Int) (x0 x1 x2 x3 x4 x5 x6:Int) (x7:List Int) (n0:Nat) (K:AV→List aA→Prop) :
 aH tab (eV tab g6 bP [] 400) (aK n9 oA (aB Tryz.prog n0 61 K)) (aI tab (fnT Tryz.f61).res K) 400 (aT (fnT Tryz.f61) 7) (wF l m x0 x1 x2 x3 x4 x5 x6 x7) =
 (bif decide (x6<x5) then bif decide (0≤x6) && decide (x6<(↑m.length:Int)) then bif decide (0≤IntKind.i64.wrap (x0+x6)) && decide (IntKind.i64.wrap (x0+x6)<(↑x7.length:Int)) then bif decide (0≤IntKind.i64.wrap (x0+x6)) && decide (IntKind.i64.wrap (x0+x6)<(↑x7.length:Int)) then aB Tryz.prog n0 61 K (aE (fnT Tryz.f61) 7) (wF l m x0 x1 (IntKind.u64.wrap ((IntKind.u64.wrap (IntKind.u64.wrap (IntKind.u64.wrap (IntKind.u64.wrap x1 * IntKind.u64.wrap (m.getD x6.toNat 0))+IntKind.u64.wrap (x7.getD (IntKind.i64.wrap (x0+x6)).toNat 0))+x2)).tdiv 1000000000)) x3 x4 x5 (IntKind.i64.wrap (x6+1)) (x7.set (IntKind.i64.wrap (x0+x6)).toNat (IntKind.u32.wrap ((IntKind.u64.wrap (IntKind.u64.wrap (IntKind.u64.wrap (IntKind.u64.wrap x1 * IntKind.u64.wrap (m.getD x6.toNat 0))+IntKind.u64.wrap (x7.getD (IntKind.i64.wrap (x0+x6)).toNat 0))+x2)).tmod 1000000000)))) else False else False else False else bif decide (0≤IntKind.i64.wrap (x0+(↑m.length:Int))) && decide (IntKind.i64.wrap (x0+(↑m.length:Int))<(↑x7.length:Int)) then aB Tryz.prog n0 61 K (aE (fnT Tryz.f61) 3) (wE l m x3 (IntKind.i64.wrap (x4+1)) (x7.set (IntKind.i64.wrap (x0+(↑m.length:Int))).toNat (IntKind.u32.wrap x2))) else False):=by kernel_rfl
def wG : List (Nat × List Nat):=[(4,[0,1,6,7,8])]
def wH : List (Nat × ETy):=[(6,eW)]
noncomputable def wI (l:List Int) (d x0 x1:Int) (x2:List Int):St:=aS 45 [(0,AV.imm eW l),(1,AV.int .u32 d),(6,AV.own 0),(7,AV.int IntKind.u64 x0),(8,AV.int .i64 x1)] [aA.typed eW x2 false]
theorem aVR (l:List Int) (d:Int) (n0:Nat) (K:AV→List aA→Prop) :
 aH tab (eV tab g6 bP [] 400) (aK wG wH (aB Tryz.prog n0 92 K)) (aI tab (fnT Tryz.f92).res K) 400 [.code (fnT Tryz.f92).body] ⟨aP (fnT Tryz.f92).n [AV.imm eW l,AV.int .u32 d],[]⟩ =
 (bif decide (0≤(↑l.length:Int)) && decide ((↑l.length:Int)≤(↑l.length:Int)) && bif (↑l.length:Int).toNat.ble 9223372036854775807 then ((↑l.length:Int).toNat * 4).ble 281474976710656 else false then aB Tryz.prog n0 92 K (aE (fnT Tryz.f92) 4) (wI l d 0 (IntKind.i64.wrap ((↑l.length:Int) - 1)) (List.replicate (↑l.length:Int).toNat 0)) else False):=by kernel_rfl
theorem aVS (l:List Int) (d x0 x1:Int) (x2:List Int) (n0:Nat) (K:AV→List aA→Prop) :
 aH tab (eV tab g6 bP [] 400) (aK wG wH (aB Tryz.prog n0 92 K)) (aI tab (fnT Tryz.f92).res K) 400 (aT (fnT Tryz.f92) 4) (wI l d x0 x1 x2) =
 (bif decide (x1 ≥ 0) then bif decide (0≤x1) && decide (x1<(↑l.length:Int)) then bif !decide (IntKind.u64.wrap d=0) then bif decide (0≤x1) && decide (x1<(↑x2.length:Int)) then bif !decide (IntKind.u64.wrap d=0) then aB Tryz.prog n0 92 K (aE (fnT Tryz.f92) 4) (wI l d ((IntKind.u64.wrap (IntKind.u64.wrap (x0 * 1000000000)+IntKind.u64.wrap (l.getD x1.toNat 0))).tmod (IntKind.u64.wrap d)) (IntKind.i64.wrap (x1 - 1)) (x2.set x1.toNat (IntKind.u32.wrap (IntKind.u64.wrap ((IntKind.u64.wrap (IntKind.u64.wrap (x0 * 1000000000)+IntKind.u64.wrap (l.getD x1.toNat 0))).tdiv (IntKind.u64.wrap d)))))) else False else False else False else False else ∃ k r,ND.nat_N_trim.f k x2=some r∧∃ k r_1,ND.nat_N_trim.f k [IntKind.u32.wrap x0]=some r_1∧K (AV.tup [AV.own 1,AV.own 3]) [aA.dead,aA.typed eW r false,aA.dead,aA.typed eW r_1 false]):=by kernel_rfl
def wJ : List (Nat × List Nat):=[(4,[0,1,2,3,9,10,11])]
def wK : List (Nat × ETy):=[]
noncomputable def lP (u v:List Int) (kk q x0 x1 x2:Int) (x3:List Int):St:=aS 62 [(0,AV.own 0),(1,AV.imm eW v),(2,AV.int .i64 kk),(3,AV.int IntKind.u64 q),(9,AV.int .i64 x0),(10,AV.int IntKind.u64 x1),(11,AV.int .i64 x2)] [aA.typed eW x3 false]
theorem aVT (u v:List Int) (kk q:Int) (n0:Nat) (hv:Nat→Value × Nat) (K:AV→List aA→Prop) :
 aH tab (aM tab bP [] 400) (fI 1 wJ wK (GoodH Tryz.prog n0 93 1 hv K)) (aI tab (fnT Tryz.f93).res K) 400 [.code (fnT Tryz.f93).body] ⟨aP (fnT Tryz.f93).n [AV.own 0,AV.imm eW v,AV.int .i64 kk,AV.int IntKind.u64 q],[aA.typed eW u false]⟩ =
 (GoodH Tryz.prog n0 93 1 hv K (aE (fnT Tryz.f93) 4) (lP u v kk q 0 0 0 u)):=by kernel_rfl
theorem aVU (u v:List Int) (kk q x0 x1 x2:Int) (x3:List Int) (n0:Nat) (hv:Nat→Value × Nat) (K:AV→List aA→Prop) :
 aH tab (aM tab bP [] 400) (fI 1 wJ wK (GoodH Tryz.prog n0 93 1 hv K)) (aI tab (fnT Tryz.f93).res K) 400 (aT (fnT Tryz.f93) 4) (lP u v kk q x0 x1 x2 x3) =
 (bif decide (x2≤(↑v.length:Int)) then bif decide (x2<(↑v.length:Int)) then bif decide (0≤x2) && decide (x2<(↑v.length:Int)) then bif decide (0≤IntKind.i64.wrap (kk+x2)) && decide (IntKind.i64.wrap (kk+x2)<(↑x3.length:Int)) then bif decide (IntKind.i64.wrap (IntKind.i64.wrap (IntKind.i64.wrap (x3.getD (IntKind.i64.wrap (kk+x2)).toNat 0) - IntKind.i64.wrap ((IntKind.u64.wrap (x1+IntKind.u64.wrap (q * IntKind.u64.wrap (v.getD x2.toNat 0)))).tmod 1000000000)) - x0)<0) then bif decide (0≤IntKind.i64.wrap (kk+x2)) && decide (IntKind.i64.wrap (kk+x2)<(↑x3.length:Int)) then GoodH Tryz.prog n0 93 1 hv K (aE (fnT Tryz.f93) 4) (lP u v kk q 1 (IntKind.u64.wrap ((IntKind.u64.wrap (x1+IntKind.u64.wrap (q * IntKind.u64.wrap (v.getD x2.toNat 0)))).tdiv 1000000000)) (IntKind.i64.wrap (x2+1)) (x3.set (IntKind.i64.wrap (kk+x2)).toNat (IntKind.u32.wrap (IntKind.i64.wrap (IntKind.i64.wrap (IntKind.i64.wrap (IntKind.i64.wrap (x3.getD (IntKind.i64.wrap (kk+x2)).toNat 0) - IntKind.i64.wrap ((IntKind.u64.wrap (x1+IntKind.u64.wrap (q * IntKind.u64.wrap (v.getD x2.toNat 0)))).tmod 1000000000)) - x0)+1000000000))))) else False else bif decide (0≤IntKind.i64.wrap (kk+x2)) && decide (IntKind.i64.wrap (kk+x2)<(↑x3.length:Int)) then GoodH Tryz.prog n0 93 1 hv K (aE (fnT Tryz.f93) 4) (lP u v kk q 0 (IntKind.u64.wrap ((IntKind.u64.wrap (x1+IntKind.u64.wrap (q * IntKind.u64.wrap (v.getD x2.toNat 0)))).tdiv 1000000000)) (IntKind.i64.wrap (x2+1)) (x3.set (IntKind.i64.wrap (kk+x2)).toNat (IntKind.u32.wrap (IntKind.i64.wrap (IntKind.i64.wrap (IntKind.i64.wrap (x3.getD (IntKind.i64.wrap (kk+x2)).toNat 0) - IntKind.i64.wrap ((IntKind.u64.wrap (x1+IntKind.u64.wrap (q * IntKind.u64.wrap (v.getD x2.toNat 0)))).tmod 1000000000)) - x0))))) else False else False else False else bif decide (0≤IntKind.i64.wrap (kk+x2)) && decide (IntKind.i64.wrap (kk+x2)<(↑x3.length:Int)) then bif decide (IntKind.i64.wrap (IntKind.i64.wrap (IntKind.i64.wrap (x3.getD (IntKind.i64.wrap (kk+x2)).toNat 0) - IntKind.i64.wrap (x1.tmod 1000000000)) - x0)<0) then bif decide (0≤IntKind.i64.wrap (kk+x2)) && decide (IntKind.i64.wrap (kk+x2)<(↑x3.length:Int)) then GoodH Tryz.prog n0 93 1 hv K (aE (fnT Tryz.f93) 4) (lP u v kk q 1 (IntKind.u64.wrap (x1.tdiv 1000000000)) (IntKind.i64.wrap (x2+1)) (x3.set (IntKind.i64.wrap (kk+x2)).toNat (IntKind.u32.wrap (IntKind.i64.wrap (IntKind.i64.wrap (IntKind.i64.wrap (IntKind.i64.wrap (x3.getD (IntKind.i64.wrap (kk+x2)).toNat 0) - IntKind.i64.wrap (x1.tmod 1000000000)) - x0)+1000000000))))) else False else bif decide (0≤IntKind.i64.wrap (kk+x2)) && decide (IntKind.i64.wrap (kk+x2)<(↑x3.length:Int)) then GoodH Tryz.prog n0 93 1 hv K (aE (fnT Tryz.f93) 4) (lP u v kk q 0 (IntKind.u64.wrap (x1.tdiv 1000000000)) (IntKind.i64.wrap (x2+1)) (x3.set (IntKind.i64.wrap (kk+x2)).toNat (IntKind.u32.wrap (IntKind.i64.wrap (IntKind.i64.wrap (IntKind.i64.wrap (x3.getD (IntKind.i64.wrap (kk+x2)).toNat 0) - IntKind.i64.wrap (x1.tmod 1000000000)) - x0))))) else False else False else K (AV.bool (decide (x0 > 0))) [aA.typed eW x3 false]):=by kernel_rfl
def wL : List (Nat × List Nat):=[(2,[0,1,2,6,7])]
def wM : List (Nat × ETy):=[]
noncomputable def rP (u v:List Int) (kk x0 x1:Int) (x2:List Int):St:=aS 42 [(0,AV.own 0),(1,AV.imm eW v),(2,AV.int .i64 kk),(6,AV.int .u32 x0),(7,AV.int .i64 x1)] [aA.typed eW x2 false]
theorem aVV (u v:List Int) (kk:Int) (n0:Nat) (hv:Nat→Value × Nat) (K:AV→List aA→Prop) :
 aH tab (aM tab bP [] 400) (fI 1 wL wM (GoodH Tryz.prog n0 94 1 hv K)) (aI tab (fnT Tryz.f94).res K) 400 [.code (fnT Tryz.f94).body] ⟨aP (fnT Tryz.f94).n [AV.own 0,AV.imm eW v,AV.int .i64 kk],[aA.typed eW u false]⟩ =
 (GoodH Tryz.prog n0 94 1 hv K (aE (fnT Tryz.f94) 2) (rP u v kk 0 0 u)):=by kernel_rfl
theorem aVW (u v:List Int) (kk x0 x1:Int) (x2:List Int) (n0:Nat) (hv:Nat→Value × Nat) (K:AV→List aA→Prop) :
 aH tab (aM tab bP [] 400) (fI 1 wL wM (GoodH Tryz.prog n0 94 1 hv K)) (aI tab (fnT Tryz.f94).res K) 400 (aT (fnT Tryz.f94) 2) (rP u v kk x0 x1 x2) =
 (bif decide (x1≤(↑v.length:Int)) then bif decide (0≤IntKind.i64.wrap (kk+x1)) && decide (IntKind.i64.wrap (kk+x1)<(↑x2.length:Int)) then bif decide (x1<(↑v.length:Int)) then bif decide (0≤x1) && decide (x1<(↑v.length:Int)) then bif decide (0≤IntKind.i64.wrap (kk+x1)) && decide (IntKind.i64.wrap (kk+x1)<(↑x2.length:Int)) then GoodH Tryz.prog n0 94 1 hv K (aE (fnT Tryz.f94) 2) (rP u v kk (IntKind.u32.wrap ((IntKind.u32.wrap (IntKind.u32.wrap (x2.getD (IntKind.i64.wrap (kk+x1)).toNat 0+x0)+v.getD x1.toNat 0)).tdiv 1000000000)) (IntKind.i64.wrap (x1+1)) (x2.set (IntKind.i64.wrap (kk+x1)).toNat ((IntKind.u32.wrap (IntKind.u32.wrap (x2.getD (IntKind.i64.wrap (kk+x1)).toNat 0+x0)+v.getD x1.toNat 0)).tmod 1000000000))) else False else False else bif decide (0≤IntKind.i64.wrap (kk+x1)) && decide (IntKind.i64.wrap (kk+x1)<(↑x2.length:Int)) then GoodH Tryz.prog n0 94 1 hv K (aE (fnT Tryz.f94) 2) (rP u v kk (IntKind.u32.wrap ((IntKind.u32.wrap (x2.getD (IntKind.i64.wrap (kk+x1)).toNat 0+x0)).tdiv 1000000000)) (IntKind.i64.wrap (x1+1)) (x2.set (IntKind.i64.wrap (kk+x1)).toNat ((IntKind.u32.wrap (x2.getD (IntKind.i64.wrap (kk+x1)).toNat 0+x0)).tmod 1000000000))) else False else False else K (AV.tup []) [aA.typed eW x2 false]):=by kernel_rfl
def kB : List (Nat × List Nat):=[(7,[0,6,7,8]),(12,[6,7,8,9,10,11]),(16,[6,7,8,9,10,11,13,14])]
def kC : List (Nat × ETy):=[(7,eW),(8,eW),(10,eW)]
noncomputable def wN (l m:List Int) (x0:Int) (x1 x2:List Int):St:=aS 171 [(0,AV.imm eW l),(6,AV.int .u32 x0),(7,AV.own 0),(8,AV.own 1)] [aA.typed eW x1 false,aA.typed eW x2 false]
noncomputable def iG (l m:List Int) (x0 x1 x2:Int) (x3 x4 x5:List Int):St:=aS 171 [(6,AV.int .u32 x0),(7,AV.own 0),(8,AV.own 1),(9,AV.int .i64 x1),(10,AV.own 2),(11,AV.int .i64 x2)] [aA.typed eW x3 false,aA.typed eW x4 false,aA.typed eW x5 false]
noncomputable def rQ (l m:List Int) (x0 x1 x2 x3 x4:Int) (x5 x6 x7:List Int):St:=aS 171 [(6,AV.int .u32 x0),(7,AV.own 0),(8,AV.own 1),(9,AV.int .i64 x1),(10,AV.own 2),(11,AV.int .i64 x2),(13,AV.int IntKind.u64 x3),(14,AV.int IntKind.u64 x4)] [aA.typed eW x5 false,aA.typed eW x6 false,aA.typed eW x7 false]
theorem aVX (l m:List Int) (n0:Nat) (K:AV→List aA→Prop) :
 aH tab (eV tab nY rN [] 400) (aK kB kC (aB Tryz.prog n0 83 K)) (aI tab (fnT Tryz.f83).res K) 400 [.code (fnT Tryz.f83).body] ⟨aP (fnT Tryz.f83).n [AV.imm eW l,AV.imm eW m],[]⟩ =
 (∃ k r,ND.nat_N_Cmp.f k l m=some r∧bif decide (r<0) then K (AV.tup [AV.nils,AV.imm eW l]) [] else bif decide ((↑m.length:Int)=1) then bif decide (0<(↑m.length:Int)) then ∃ k r,ND.nat_N_short.f k l (m.getD 0 0)=some r∧K (AV.tup [AV.imm eW r.1,AV.imm eW r.2]) [] else False else bif decide (0≤IntKind.i64.wrap ((↑m.length:Int) - 1)) && decide (IntKind.i64.wrap ((↑m.length:Int) - 1)<(↑m.length:Int)) then bif !decide (IntKind.u64.wrap (IntKind.u64.wrap (m.getD (IntKind.i64.wrap ((↑m.length:Int) - 1)).toNat 0)+1)=0) then ∃ k r,ND.nat_N_Mul.f k l [IntKind.u32.wrap (IntKind.u64.wrap (Int.tdiv 1000000000 (IntKind.u64.wrap (IntKind.u64.wrap (m.getD (IntKind.i64.wrap ((↑m.length:Int) - 1)).toNat 0)+1))))]=some r∧bif bif (r.length+1).ble 9223372036854775807 then ((r.length+1) * 4).ble 140737488355328 else false then ∃ k r_1,ND.nat_N_Mul.f k m [IntKind.u32.wrap (IntKind.u64.wrap (Int.tdiv 1000000000 (IntKind.u64.wrap (IntKind.u64.wrap (m.getD (IntKind.i64.wrap ((↑m.length:Int) - 1)).toNat 0)+1))))]=some r_1∧aB Tryz.prog n0 83 K (aE (fnT Tryz.f83) 7) (wN l m (IntKind.u32.wrap (IntKind.u64.wrap (Int.tdiv 1000000000 (IntKind.u64.wrap (IntKind.u64.wrap (m.getD (IntKind.i64.wrap ((↑m.length:Int) - 1)).toNat 0)+1))))) (r ++ [0]) r_1) else False else False else False):=by kernel_rfl
theorem aVY (l m:List Int) (x0:Int) (x1 x2:List Int) (n0:Nat) (K:AV→List aA→Prop) :
 aH tab (eV tab nY rN [] 400) (aK kB kC (aB Tryz.prog n0 83 K)) (aI tab (fnT Tryz.f83).res K) 400 (aT (fnT Tryz.f83) 7) (wN l m x0 x1 x2) =
 (bif decide ((↑x1.length:Int)≤(↑l.length:Int)) then bif bif (x1.length+1).ble 9223372036854775807 then ((x1.length+1) * 4).ble 140737488355328 else false then aB Tryz.prog n0 83 K (aE (fnT Tryz.f83) 7) (wN l m x0 (x1 ++ [0]) x2) else False else bif decide (0≤IntKind.i64.wrap ((↑x1.length:Int) - (↑x2.length:Int))) && decide (IntKind.i64.wrap ((↑x1.length:Int) - (↑x2.length:Int))≤IntKind.i64.wrap ((↑x1.length:Int) - (↑x2.length:Int))) && bif (IntKind.i64.wrap ((↑x1.length:Int) - (↑x2.length:Int))).toNat.ble 9223372036854775807 then ((IntKind.i64.wrap ((↑x1.length:Int) - (↑x2.length:Int))).toNat * 4).ble 281474976710656 else false then aB Tryz.prog n0 83 K (aE (fnT Tryz.f83) 12) (iG l m x0 (↑x2.length:Int) (IntKind.i64.wrap (IntKind.i64.wrap ((↑x1.length:Int) - (↑x2.length:Int)) - 1)) x1 x2 (List.replicate (IntKind.i64.wrap ((↑x1.length:Int) - (↑x2.length:Int))).toNat 0)) else False):=by kernel_rfl
theorem aVZ (l m:List Int) (x0 x1 x2:Int) (x3 x4 x5:List Int) (n0:Nat) (K:AV→List aA→Prop) :
 aH tab (eV tab nY rN [] 400) (aK kB kC (aB Tryz.prog n0 83 K)) (aI tab (fnT Tryz.f83).res K) 400 (aT (fnT Tryz.f83) 12) (iG l m x0 x1 x2 x3 x4 x5) =
 (bif decide (x2 ≥ 0) then bif decide (0≤IntKind.i64.wrap (x2+x1)) && decide (IntKind.i64.wrap (x2+x1)<(↑x3.length:Int)) then bif decide (0≤IntKind.i64.wrap (IntKind.i64.wrap (x2+x1) - 1)) && decide (IntKind.i64.wrap (IntKind.i64.wrap (x2+x1) - 1)<(↑x3.length:Int)) then bif decide (0≤IntKind.i64.wrap (x1 - 1)) && decide (IntKind.i64.wrap (x1 - 1)<(↑x4.length:Int)) then bif !decide (IntKind.u64.wrap (x4.getD (IntKind.i64.wrap (x1 - 1)).toNat 0)=0) then bif decide (0≤IntKind.i64.wrap (x1 - 1)) && decide (IntKind.i64.wrap (x1 - 1)<(↑x4.length:Int)) then bif !decide (IntKind.u64.wrap (x4.getD (IntKind.i64.wrap (x1 - 1)).toNat 0)=0) then aB Tryz.prog n0 83 K (aE (fnT Tryz.f83) 16) (rQ l m x0 x1 x2 (IntKind.u64.wrap ((IntKind.u64.wrap (IntKind.u64.wrap (IntKind.u64.wrap (x3.getD (IntKind.i64.wrap (x2+x1)).toNat 0) * 1000000000)+IntKind.u64.wrap (x3.getD (IntKind.i64.wrap (IntKind.i64.wrap (x2+x1) - 1)).toNat 0))).tdiv (IntKind.u64.wrap (x4.getD (IntKind.i64.wrap (x1 - 1)).toNat 0)))) ((IntKind.u64.wrap (IntKind.u64.wrap (IntKind.u64.wrap (x3.getD (IntKind.i64.wrap (x2+x1)).toNat 0) * 1000000000)+IntKind.u64.wrap (x3.getD (IntKind.i64.wrap (IntKind.i64.wrap (x2+x1) - 1)).toNat 0))).tmod (IntKind.u64.wrap (x4.getD (IntKind.i64.wrap (x1 - 1)).toNat 0))) x3 x4 x5) else False else False else False else False else False else False else ∃ k r,ND.nat_N_trim.f k x3=some r∧∃ k r_1,ND.nat_N_short.f k r x0=some r_1∧∃ k r_2,ND.nat_N_trim.f k x5=some r_2∧K (AV.tup [AV.own 4,AV.imm eW r_1.1]) [aA.dead,aA.typed eW x4 false,aA.dead,aA.typed eW r true,aA.typed eW r_2 false]):=by kernel_rfl
theorem aV0 (l m:List Int) (x0 x1 x2 x3 x4:Int) (x5 x6 x7:List Int) (n0:Nat) (K:AV→List aA→Prop) :
 aH tab (eV tab nY rN [] 400) (aK kB kC (aB Tryz.prog n0 83 K)) (aI tab (fnT Tryz.f83).res K) 400 (aT (fnT Tryz.f83) 16) (rQ l m x0 x1 x2 x3 x4 x5 x6 x7) =
 (bif decide (x3 ≥ 1000000000) then bif decide (0≤IntKind.i64.wrap (x1 - 1)) && decide (IntKind.i64.wrap (x1 - 1)<(↑x6.length:Int)) then bif decide (IntKind.u64.wrap (x4+IntKind.u64.wrap (x6.getD (IntKind.i64.wrap (x1 - 1)).toNat 0)) ≥ 1000000000) then ∃ k r,ND.nat_N_minus.f k x5 x6 x2 (IntKind.u64.wrap (x3 - 1))=some r∧bif r.1 then ∃ k r_1,ND.nat_N_plus.f k r.2 x6 x2=some r_1∧bif decide (0≤x2) && decide (x2<(↑x7.length:Int)) then aB Tryz.prog n0 83 K (aE (fnT Tryz.f83) 12) (iG l m x0 x1 (IntKind.i64.wrap (x2 - 1)) r_1 x6 (x7.set x2.toNat (IntKind.u32.wrap (IntKind.u64.wrap (IntKind.u64.wrap (x3 - 1) - 1))))) else False else bif decide (0≤x2) && decide (x2<(↑x7.length:Int)) then aB Tryz.prog n0 83 K (aE (fnT Tryz.f83) 12) (iG l m x0 x1 (IntKind.i64.wrap (x2 - 1)) r.2 x6 (x7.set x2.toNat (IntKind.u32.wrap (IntKind.u64.wrap (x3 - 1))))) else False else aB Tryz.prog n0 83 K (aE (fnT Tryz.f83) 16) (rQ l m x0 x1 x2 (IntKind.u64.wrap (x3 - 1)) (IntKind.u64.wrap (x4+IntKind.u64.wrap (x6.getD (IntKind.i64.wrap (x1 - 1)).toNat 0))) x5 x6 x7) else False else bif decide (0≤IntKind.i64.wrap (x1 - 2)) && decide (IntKind.i64.wrap (x1 - 2)<(↑x6.length:Int)) then bif decide (0≤IntKind.i64.wrap (IntKind.i64.wrap (x2+x1) - 2)) && decide (IntKind.i64.wrap (IntKind.i64.wrap (x2+x1) - 2)<(↑x5.length:Int)) then bif bif false then true else decide (IntKind.u64.wrap (x3 * IntKind.u64.wrap (x6.getD (IntKind.i64.wrap (x1 - 2)).toNat 0)) > IntKind.u64.wrap (IntKind.u64.wrap (x4 * 1000000000)+IntKind.u64.wrap (x5.getD (IntKind.i64.wrap (IntKind.i64.wrap (x2+x1) - 2)).toNat 0))) then bif decide (0≤IntKind.i64.wrap (x1 - 1)) && decide (IntKind.i64.wrap (x1 - 1)<(↑x6.length:Int)) then bif decide (IntKind.u64.wrap (x4+IntKind.u64.wrap (x6.getD (IntKind.i64.wrap (x1 - 1)).toNat 0)) ≥ 1000000000) then ∃ k r,ND.nat_N_minus.f k x5 x6 x2 (IntKind.u64.wrap (x3 - 1))=some r∧bif r.1 then ∃ k r_1,ND.nat_N_plus.f k r.2 x6 x2=some r_1∧bif decide (0≤x2) && decide (x2<(↑x7.length:Int)) then aB Tryz.prog n0 83 K (aE (fnT Tryz.f83) 12) (iG l m x0 x1 (IntKind.i64.wrap (x2 - 1)) r_1 x6 (x7.set x2.toNat (IntKind.u32.wrap (IntKind.u64.wrap (IntKind.u64.wrap (x3 - 1) - 1))))) else False else bif decide (0≤x2) && decide (x2<(↑x7.length:Int)) then aB Tryz.prog n0 83 K (aE (fnT Tryz.f83) 12) (iG l m x0 x1 (IntKind.i64.wrap (x2 - 1)) r.2 x6 (x7.set x2.toNat (IntKind.u32.wrap (IntKind.u64.wrap (x3 - 1))))) else False else aB Tryz.prog n0 83 K (aE (fnT Tryz.f83) 16) (rQ l m x0 x1 x2 (IntKind.u64.wrap (x3 - 1)) (IntKind.u64.wrap (x4+IntKind.u64.wrap (x6.getD (IntKind.i64.wrap (x1 - 1)).toNat 0))) x5 x6 x7) else False else ∃ k r,ND.nat_N_minus.f k x5 x6 x2 x3=some r∧bif r.1 then ∃ k r_1,ND.nat_N_plus.f k r.2 x6 x2=some r_1∧bif decide (0≤x2) && decide (x2<(↑x7.length:Int)) then aB Tryz.prog n0 83 K (aE (fnT Tryz.f83) 12) (iG l m x0 x1 (IntKind.i64.wrap (x2 - 1)) r_1 x6 (x7.set x2.toNat (IntKind.u32.wrap (IntKind.u64.wrap (x3 - 1))))) else False else bif decide (0≤x2) && decide (x2<(↑x7.length:Int)) then aB Tryz.prog n0 83 K (aE (fnT Tryz.f83) 12) (iG l m x0 x1 (IntKind.i64.wrap (x2 - 1)) r.2 x6 (x7.set x2.toNat (IntKind.u32.wrap x3))) else False else False else False):=by kernel_rfl
def wO : List (Nat × List Nat):=[(1,[0,1])]
def wP : List (Nat × ETy):=[(0,eW),(1,eW)]
noncomputable def aV1 (l m:List Int):St:=aS 19 [(0,AV.imm eW l),(1,AV.imm eW m)] []
noncomputable def aC8 (l m x0 x1:List Int):St:=aS 19 [(0,AV.imm eW x0),(1,AV.imm eW x1)] []
theorem aV2 (l m:List Int) (n0:Nat) (K:AV→List aA→Prop) :
 aH tab (aM tab vU [] 400) (aK wO wP (aB Tryz.prog n0 82 K)) (aI tab (fnT Tryz.f82).res K) 400 [.code (fnT Tryz.f82).body] ⟨aP (fnT Tryz.f82).n [AV.imm eW l,AV.imm eW m],[]⟩ =
 (aB Tryz.prog n0 82 K (aE (fnT Tryz.f82) 1) (aV1 l m)):=by kernel_rfl
theorem aV3 (l m x0 x1:List Int) (n0:Nat) (K:AV→List aA→Prop) :
 aH tab (aM tab vU [] 400) (aK wO wP (aB Tryz.prog n0 82 K)) (aI tab (fnT Tryz.f82).res K) 400 (aT (fnT Tryz.f82) 1) (aC8 l m x0 x1) =
 (bif decide ((↑x1.length:Int) > 0) then ∃ k r,ND.nat_N_Div.f k x0 x1=some r∧aB Tryz.prog n0 82 K (aE (fnT Tryz.f82) 1) (aC8 l m x1 r.2) else K (AV.imm eW x0) []):=by kernel_rfl
def wQ : List (Nat × List Nat):=[(2,[0,3])]
def wR : List (Nat × ETy):=[(3,eW)]
noncomputable def aV4 (n:Int) (x0:List Int):St:=aS 15 [(0,AV.int .i64 n),(3,AV.own 0)] [aA.typed eW x0 false]
noncomputable def aC9 (n x0:Int) (x1:List Int):St:=aS 15 [(0,AV.int .i64 x0),(3,AV.own 0)] [aA.typed eW x1 false]
theorem nof_E (n:Int) (n0:Nat) (K:AV→List aA→Prop) :
 aH tab (aM tab bP [] 400) (aK wQ wR (aB Tryz.prog n0 74 K)) (aI tab (fnT Tryz.f74).res K) 400 [.code (fnT Tryz.f74).body] ⟨aP (fnT Tryz.f74).n [AV.int .i64 n],[]⟩ =
 (aB Tryz.prog n0 74 K (aE (fnT Tryz.f74) 2) (aV4 n [])):=by kernel_rfl
theorem aV5 (n x0:Int) (x1:List Int) (n0:Nat) (K:AV→List aA→Prop) :
 aH tab (aM tab bP [] 400) (aK wQ wR (aB Tryz.prog n0 74 K)) (aI tab (fnT Tryz.f74).res K) 400 (aT (fnT Tryz.f74) 2) (aC9 n x0 x1) =
 (bif decide (x0 > 0) then bif bif (x1.length+[IntKind.u32.wrap (x0.tmod 1000000000)].length).ble 9223372036854775807 then ((x1.length+[IntKind.u32.wrap (x0.tmod 1000000000)].length) * 4).ble 140737488355328 else false then aB Tryz.prog n0 74 K (aE (fnT Tryz.f74) 2) (aC9 n (IntKind.i64.wrap (x0.tdiv 1000000000)) (x1 ++ [IntKind.u32.wrap (x0.tmod 1000000000)])) else False else K (AV.own 0) [aA.typed eW x1 false]):=by kernel_rfl
def aJ9 : List (Nat × List Nat):=[]
def aKA : List (Nat × ETy):=[]
theorem aV6 (l:List Int) (n0:Nat) (K:AV→List aA→Prop) :
 aH tab (aM tab vU [] 400) (aK aJ9 aKA (aB Tryz.prog n0 87 K)) (aI tab (fnT Tryz.f87).res K) 400 [.code (fnT Tryz.f87).body] ⟨aP (fnT Tryz.f87).n [AV.imm eW l],[]⟩ =
 (∃ k r,ND.nat_N_Text.f k l=some r∧K (AV.int .i64 (↑r.size:Int)) []):=by kernel_rfl
end
end Go.Proofs.YtehakimmioclkaaGreatDoor.Mach
end
section
set_option linter.unusedSimpArgs false
set_option linter.unusedVariables false
namespace Go.Proofs.YtehakimmioclkaaGreatDoor.Lib
open Go Go.Proofs.YtehakimmioclkaaGreatDoor.Mach Go.Proofs.YtehakimmioclkaaGreatDoor.ND Go.Proofs.YtehakimmioclkaaGreatDoorW.PrintWords Go.RowKit
section
theorem aDA {o:aA} {l:List Int} (h:rL o=some l):o = .typed eW l false:=by
 unfold rL at h
 split at h
 · split at h
   · obtain ⟨he,hr⟩:=iT h
     subst he
     subst hr
     rfl
   · cases h
 · cases h
theorem aDB {x:AV} {n:Nat} (h:rM x n=true):x = .own n:=by
 unfold rM at h
 split at h
 · rw [Nat.eq_of_beq_eq_true h]
 · cases h
theorem aDC {b:Bool} {p:Prop} (h:bif b then p else False):b=true∧p:=by
 cases b with
 | true=>exact ⟨rfl,h⟩
 | false=>exact h.elim
theorem aKB {g:FuncId} {xs ys:List AV} {os:List aA} {Q:Res} (h:fH Tryz.prog g ys os Q) (hl:xs.length=ys.length) (hs:∀ (j:Nat) (y:AV),ys[j]? = some y→∃ x,xs[j]? = some x∧∀ {c:Ctx} {w:World} {v:Value},AVR c w x v→AVR c w y v):fH Tryz.prog g xs os Q:=fun n0 =>
 ⟨(h n0).1,fun c w vals ha hm=>(h n0).2 c w vals ⟨by rw [ha.1,hl],fun j y hy=>by
   obtain ⟨x,hx,hxy⟩:=hs j y hy
   exact hxy (ha.2 j x hx)⟩ hm⟩
theorem aKC {Q:Res} {v:AV} {e:ETy} {l:List e.D} (hf:fX e=true) (hq:Q v [.typed e l false]) (ho:fG 1 v=true) (hn:iX v=true) (hr:c9 (fun k=>[0].getD k 0) v=v):vA 1 Q v [.typed e l false] :=
 Or.inl ⟨v,[.typed e l false],hq,Nat.le_refl _,ho,hn,by simp [lL,u9,hf],[0],rfl,by simp,fun k hk=>by
  obtain rfl:k=0:=by omega
  rfl,fun k id h=>by
  match k,h with
  | 0,h=>cases h; rfl,hr.symm⟩
theorem aKD {Q:Res} {e:ETy} {l:List e.D} (hf:fX e=true) (hq:Q (.own 1) [.dead, .typed e l false]):∃ v objs,Q v objs∧1≤objs.length∧fG objs.length v=true∧iX v=true∧lL 1 objs=true ∧
 ∃ ids:List Nat,ids.length=objs.length∧ids.Nodup∧(∀ k,k<1→ids[k]? = some k)∧(∀ (k id:Nat),ids[k]? = some id→objs[k]? = some (aF [.dead, .typed e l false] id))∧AV.own 1=c9 (fun k=>ids.getD k 0) v :=
 ⟨.own 1,[.dead, .typed e l false],hq,by simp,rfl,rfl,by simp [lL,u9,lK,hf],[0,1],rfl,by simp,fun k hk=>by
  obtain rfl:k=0:=by omega
  rfl,fun k id h=>by
  match k,h with
  | 0,h=>cases h; rfl
  | 1,h=>cases h; rfl,rfl⟩
theorem aV7 {l:List Int} {n0:Nat} {hv:Nat→Value × Nat} {K:Res}:∀ (k:Nat) (x1:Nat) (x2 r:List Int),x1≤x2.length→nat_N_trim.l0 k (x2.take x1)=some r→(∀ n,n≤x2.length→x2.take n=r→K (.win 0 0 n) [.typed eW x2 false]) →
 GoodH Tryz.prog n0 81 1 hv K (aE (fnT Tryz.f81) 1) (vZ l 0 x1 x2):=by
 intro k
 induction k with
 | zero=>intro x1 x2 r hx h hK; cases h
 | succ k ih =>
   intro x1 x2 r hx h hK
   have hl:(x2.take x1).length=x1:=by rw [List.length_take]; omega
   rw [nat_N_trim.l0.eq_2] at h
   refine vN (by kernel_rfl) bR (inl:=[]) (LT:=n3) (NT:=n4) ?_
   rw [aU7]
   simp only [bO,rd,hl] at h
   generalize IntKind.i64.wrap ((x1:Int) - 1)=w at h ⊢
   by_cases h0:(x1:Int) > 0
   · rw [if_pos h0] at h
     refine aC h0 ?_
     by_cases a1:0≤w
     · by_cases a2:w<(x1:Int)
       · rw [if_pos a1,if_pos a2] at h
         refine aN (aC a1 (aC a2 (bK (bQ ?_))))
         have eg:(x2.take x1).getD w.toNat 0=x2.getD (((0:Nat):Int)+w).toNat 0:=by
          rw [List.getD_eq_getElem?_getD,List.getD_eq_getElem?_getD,List.getElem?_take,if_pos (by omega),show (((0:Nat):Int)+w).toNat=w.toNat by omega]
         rw [eg] at h
         by_cases a3:x2.getD (((0:Nat):Int)+w).toNat 0=0
         · rw [if_pos a3,if_pos (by omega),List.take_take,Nat.min_eq_left (by omega)] at h
           refine aC a3 (aN (aC a1 (aC (by omega) ?_)))
           exact ih w.toNat x2 r (by omega) h hK
         · rw [if_neg a3] at h
           exact aG a3 (hK x1 hx (Option.some.inj h))
       · rw [if_pos a1,if_neg a2] at h; cases h
     · rw [if_neg a1] at h; cases h
   · rw [if_neg h0] at h
     exact aG h0 (hK x1 hx (Option.some.inj h))
theorem aV8 {l x2 r:List Int} {n0:Nat} {hv:Nat→Value × Nat} {K:Res} {k:Nat} (h:nat_N_trim.l0 k x2=some r) (hK:∀ n,n≤x2.length→x2.take n=r→K (.win 0 0 n) [.typed eW x2 false]) (hK0:x2=r→K (.own 0) [.typed eW x2 false]) :
 GoodH Tryz.prog n0 81 1 hv K (aE (fnT Tryz.f81) 1) (aC6 l x2):=by
 rcases k with _ | k
 · cases h
 · rw [nat_N_trim.l0.eq_2] at h
   refine vN (by kernel_rfl) bR (inl:=[]) (LT:=n3) (NT:=n4) ?_
   rw [aU6]
   simp only [bO,rd] at h
   generalize IntKind.i64.wrap ((x2.length:Int) - 1)=w at h ⊢
   by_cases h0:(x2.length:Int) > 0
   · rw [if_pos h0] at h
     refine aC h0 ?_
     by_cases a1:0≤w
     · by_cases a2:w<(x2.length:Int)
       · rw [if_pos a1,if_pos a2] at h
         refine aN (aC a1 (aC a2 (bK (bQ ?_))))
         by_cases a3:x2.getD w.toNat 0=0
         · rw [if_pos a3,if_pos (by omega)] at h
           refine aC a3 (aN (aC a1 (aC (by omega) ?_)))
           exact aV7 k w.toNat x2 r (by omega) h hK
         · rw [if_neg a3] at h
           exact aG a3 (hK0 (Option.some.inj h))
       · rw [if_pos a1,if_neg a2] at h; cases h
     · rw [if_neg a1] at h; cases h
   · rw [if_neg h0] at h
     exact aG h0 (hK0 (Option.some.inj h))
theorem aKE {xs:List AV} {os:List aA} {Q:Res} (h:vO xs os Q):fH Tryz.prog 81 xs os Q:=by
 unfold vO at h
 split at h
 · split at h
   · split at h
     · rename_i l hl
       obtain ⟨hx,k,r,hf,hq⟩:=aDC h
       rw [aDB hx,aDA hl]
       refine conW (gn:=fnT Tryz.f81) (by kernel_rfl) bR (inl:=[]) (LT:=n3) (NT:=n4) rfl fun n0 hv=>?_
       show aH _ _ (fI 1 _ _ (GoodH _ _ _ 1 _ _)) _ _ _ _
       rw [aU5]
       refine aV8 (r:=r) hf (fun n hn hr=>?_) (fun hr=>?_)
       · subst hr
         exact Or.inr (Or.inl ⟨0,n,eW,l,rfl,rfl,hn,aKD rfl hq⟩)
       · subst hr
         exact Or.inr (Or.inr ⟨0,eW,l,rfl,rfl,aKD rfl hq⟩)
     · exact h.elim
   · exact h.elim
 · exact h.elim
theorem i3 : ∀ g p,find g6 g=some p→∀ xs os Q,p.2 xs os Q→fH Tryz.prog g xs os Q:=aJT fun p hp=>by
 simp only [g6,List.mem_cons,List.not_mem_nil,or_false] at hp
 subst hp
 exact fun xs os Q h=>aKE h
theorem aV9 {s:ByteArray} {n0:Nat} {K:Res} (r:List Int) (hK:∀ id H,aF H id = .typed eW r false→K (.own id) H):∀ k:Nat,
 (∀ (x3:List Int) (x4:Int),nat_Read.l0 k s x3 x4=some r→aB Tryz.prog n0 91 K (aE (fnT Tryz.f91) 3) (v1 s x4 x3)) ∧
 (∀ (x3:List Int) (x4 x5:Int) (x20:List Int) (x21 x22:Int),nat_Read.l1 k s x3 x4 x5 x20 x21 x22=some r→aB Tryz.prog n0 91 K (aE (fnT Tryz.f91) 7) (v2 s x4 x5 x20 x21 x22 x3)):=by
 intro k
 induction k using Nat.strongRecOn with
 | _ k ih =>
   refine ⟨?_,?_⟩
   · skip
     intro x3 x4 h
     rcases k with _ | k
     · cases h
     have ih0:=ih k (by omega)
     rw [nat_Read.l0.eq_2] at h
     refine jP (by kernel_rfl) bR i3 (inl:=[]) (LT:=n5) (NT:=n6) ?_
     rw [aU9]
     try simp only [bO,rd,bytesOf,gp_bytes.f,gp_make0_61.f,gp_make0_63.f,bV,Option.bind_some,decide_eq_true_eq,Bool.false_eq_true,beq_iff_eq,if_false,if_true,Int.toNat_zero] at h
     try delta strOfNums at h
     try simp only [cD,u8w,cE,cF,cG,cH,cI,cJ,cK,List.length_singleton,List.drop_zero,Nat.sub_zero,Int.toNat_natCast,List.take_length,bZ,cB]
     repeat' first | (split at h) | (rw [Option.bind_eq_some_iff] at h; obtain ⟨t,ht,h⟩:=h; try (with_reducible cases ht))
     all_goals try (with_reducible cases h)
     all_goals repeat' first | (with_reducible first | refine aC (by assumption) ?_ | refine aG (by assumption) ?_ | refine aQ (by assumption) ?_ | refine aX (by assumption) ?_ | refine aN ?_ | refine bQ ?_ | refine bS ?_ | refine bK ?_ | refine aR ?_ | refine bW (by assumption) ?_ | refine bX (by assumption) ?_ | refine aC (by omega) ?_ | refine aG (by omega) ?_ | refine bH (by omega) ?_ | refine cA (by omega) ?_ | refine b9 (by omega) ?_ | exact ih0.1 _ _ (by assumption) | exact ih0.2 _ _ _ _ _ _ (by assumption)) | ((with_reducible refine hK _ _ ?_) <;> rfl) | (with_reducible first | refine And.intro trivial ?_ | refine ⟨_,_,by assumption,?_⟩ | refine ⟨_,by assumption,?_⟩)
   · skip
     intro x3 x4 x5 x20 x21 x22 h
     rcases k with _ | k
     · cases h
     have ih0:=ih k (by omega)
     rw [nat_Read.l1.eq_2] at h
     refine jP (by kernel_rfl) bR i3 (inl:=[]) (LT:=n5) (NT:=n6) ?_
     rw [aVA]
     try simp only [bO,rd,bytesOf,gp_bytes.f,gp_make0_61.f,gp_make0_63.f,bV,Option.bind_some,decide_eq_true_eq,Bool.false_eq_true,beq_iff_eq,if_false,if_true,Int.toNat_zero] at h
     try delta strOfNums at h
     try simp only [cD,u8w,cE,cF,cG,cH,cI,cJ,cK,List.length_singleton,List.drop_zero,Nat.sub_zero,Int.toNat_natCast,List.take_length,bZ,cB]
     repeat' first | (split at h) | (rw [Option.bind_eq_some_iff] at h; obtain ⟨t,ht,h⟩:=h; try (with_reducible cases ht))
     all_goals try (with_reducible cases h)
     all_goals repeat' first | (with_reducible first | refine aC (by assumption) ?_ | refine aG (by assumption) ?_ | refine aQ (by assumption) ?_ | refine aX (by assumption) ?_ | refine aN ?_ | refine bQ ?_ | refine bS ?_ | refine bK ?_ | refine aR ?_ | refine bW (by assumption) ?_ | refine bX (by assumption) ?_ | refine aC (by omega) ?_ | refine aG (by omega) ?_ | refine bH (by omega) ?_ | refine cA (by omega) ?_ | refine b9 (by omega) ?_ | exact ih0.1 _ _ (by assumption) | exact ih0.2 _ _ _ _ _ _ (by assumption)) | ((with_reducible refine hK _ _ ?_) <;> rfl) | (with_reducible first | refine And.intro trivial ?_ | refine ⟨_,_,by assumption,?_⟩ | refine ⟨_,by assumption,?_⟩)
theorem aWA {s:ByteArray} {Q:Res} (h:readN s Q):Con Tryz.prog 91 [.str s] Q:=by
 obtain ⟨k,r,hf,hq⟩:=h
 refine nX (e:=eW) (l:=r) ?_ hq
 refine rK (gn:=fnT Tryz.f91) (by kernel_rfl) bR i3 (inl:=[]) (LT:=n5) (NT:=n6) rfl fun n0=>?_
 rw [aU8]
 exact (aV9 r (fun id H ho=>jO ho ⟨rfl,false,rfl⟩) k).1 _ _ hf
theorem aWB {s:ByteArray} {n0:Nat} {K:Res} (r:ByteArray) (hK:∀ H,K (.str r) H):∀ k:Nat,
 (∀ (x0:ByteArray) (c:Int),strings_trimLeftByte.l0 k x0 c=some r→aB Tryz.prog n0 96 K (aE (fnT Tryz.f96) 1) (aC7 s c x0)):=by
 intro k
 induction k using Nat.strongRecOn with
 | _ k ih =>
   intro x0 c h
   rcases k with _ | k
   · cases h
   have ih0:=ih k (by omega)
   rw [strings_trimLeftByte.l0.eq_2] at h
   refine dY (by kernel_rfl) bR (inl:=[]) (LT:=v3) (NT:=v4) ?_
   rw [aVD]
   try simp only [bO,rd,bytesOf,gp_bytes.f,gp_make0_61.f,gp_make0_63.f,bV,Option.bind_some,decide_eq_true_eq,Bool.false_eq_true,beq_iff_eq,if_false,if_true,Int.toNat_zero] at h
   try delta strOfNums at h
   try simp only [cD,u8w,cE,cF,cG,cH,cI,cJ,cK,List.length_singleton,List.drop_zero,Nat.sub_zero,Int.toNat_natCast,List.take_length,bZ,cB]
   repeat' first | (split at h) | (rw [Option.bind_eq_some_iff] at h; obtain ⟨t,ht,h⟩:=h; try (with_reducible cases ht))
   all_goals try (with_reducible cases h)
   all_goals repeat' first | (with_reducible first | refine aC (by assumption) ?_ | refine aG (by assumption) ?_ | refine aQ (by assumption) ?_ | refine aX (by assumption) ?_ | refine aN ?_ | refine bQ ?_ | refine bS ?_ | refine bK ?_ | refine aR ?_ | refine bW (by assumption) ?_ | refine bX (by assumption) ?_ | refine aC (by omega) ?_ | refine aG (by omega) ?_ | refine bH (by omega) ?_ | refine cA (by omega) ?_ | refine b9 (by omega) ?_ | exact ih0 _ _ (by assumption) | exact hK _ | refine And.intro trivial ?_ | refine ⟨_,_,by assumption,?_⟩ | refine ⟨_,by assumption,?_⟩)
theorem aWC {s:ByteArray} {c:Int} {Q:Res} (h:aJX s c Q):Con Tryz.prog 96 [.str s, .int .u8 c] Q:=by
 obtain ⟨k,r,hf,hq⟩:=h
 refine aU (gn:=fnT Tryz.f96) (by kernel_rfl) bR (inl:=[]) (LT:=v3) (NT:=v4) rfl fun n0=>?_
 rw [aVC]
 exact aWB (s:=s) r (fun H=>bI hq rfl rfl) k s c hf
theorem aWD : ∀ g xs Q,aJ4 g xs Q→Con Tryz.prog g xs Q:=dA fun p hp=>by
 simp only [List.mem_cons,List.not_mem_nil,or_false] at hp
 subst hp
 exact aZ fun _ _ _ h=>aWC h
theorem aWE {s:ByteArray} {Q:Res} (h:aJY s zeroS Q):Con Tryz.prog 86 [.str s, .str zeroS] Q:=by
 obtain ⟨k,r,hf,hq⟩:=h
 have z:zeroS.toList=[48]:=cB
 have z1:(bt zeroS 0)=48:=by decide +kernel
 have z2:zeroS.size=1:=rfl
 refine aU (gn:=fnT Tryz.f86) (by kernel_rfl) aWD (inl:=[]) (LT:=aJ7) (NT:=aJ8) rfl fun n0=>?_
 rw [ntl_E,bZ]
 unfold strings_TrimLeft.f at hf
 dsimp only at hf
 rcases k with _ | k
 · split at hf <;> cases hf
 · rw [strings_TrimLeft.j0.eq_2,strings_TrimLeft.j0.eq_2] at hf
   split at hf
   · rename_i hs
     simp only [if_true] at hf
     cases hf
     exact bW hs (bI hq rfl rfl)
   · rename_i hs
     refine bX hs ?_
     rw [if_neg (by rw [z]; decide),if_pos (by rw [z2]; rfl),if_pos (by rw [z2]; decide),z1] at hf
     rcases k with _ | k
     · cases hf
     · rw [strings_TrimLeft.j1.eq_2,if_pos (by decide),if_pos (by rw [z2]; decide),z1,Option.bind_eq_some_iff] at hf
       obtain ⟨t,ht,hf⟩:=hf
       cases hf
       exact ⟨_,_,ht,bI hq rfl rfl⟩
theorem aDD : ∀ g xs Q,vR g xs Q→Con Tryz.prog g xs Q:=dA fun p hp=>by
 simp only [List.mem_cons,List.not_mem_nil,or_false] at hp
 subst hp
 exact aZ fun a b _ h=>by
  obtain ⟨h0,h⟩:=h
  subst h0
  exact aWE h
theorem aWF {l:List Int} {n0:Nat} {K:Res} (r:ByteArray) (hK:∀ H,K (.str r) H):∀ k:Nat,
 (∀ (x3:List Int) (x4:Int),nat_N_Text.l0 k l x3 x4=some r→aB Tryz.prog n0 75 K (aE (fnT Tryz.f75) 5) (v5 l x4 x3)) ∧
 (∀ (x3:List Int) (x4 x5:Int) (x6:List Int) (x7:Int),x6.length=9→nat_N_Text.l1 k l x3 x4 x5 x6 x7=some r→aB Tryz.prog n0 75 K (aE (fnT Tryz.f75) 10) (v6 l x4 x5 x7 x3 x6)):=by
 intro k
 induction k using Nat.strongRecOn with
 | _ k ih =>
   refine ⟨?_,?_⟩
   · skip
     intro x3 x4 h
     rcases k with _ | k
     · cases h
     have ih0:=ih k (by omega)
     rw [nat_N_Text.l0.eq_2] at h
     refine dY (by kernel_rfl) aDD (inl:=[]) (LT:=n7) (NT:=n8) ?_
     rw [aVF]
     try simp only [bO,rd,bytesOf,gp_bytes.f,gp_make0_61.f,gp_make0_63.f,bV,Option.bind_some,decide_eq_true_eq,Bool.false_eq_true,beq_iff_eq,if_false,if_true,Int.toNat_zero] at h
     try delta strOfNums at h
     try simp only [cD,u8w,cE,cF,cG,cH,cI,cJ,cK,List.length_singleton,List.drop_zero,Nat.sub_zero,Int.toNat_natCast,List.take_length,bZ,cB]
     repeat' first | (split at h) | (rw [Option.bind_eq_some_iff] at h; obtain ⟨t,ht,h⟩:=h; try (with_reducible cases ht))
     all_goals try (with_reducible cases h)
     all_goals repeat' first | (with_reducible first | refine aC (by assumption) ?_ | refine aG (by assumption) ?_ | refine aQ (by assumption) ?_ | refine aX (by assumption) ?_ | refine aN ?_ | refine bQ ?_ | refine bS ?_ | refine bK ?_ | refine aR ?_ | refine bW (by assumption) ?_ | refine bX (by assumption) ?_ | refine aC (by omega) ?_ | refine aG (by omega) ?_ | refine bH (by omega) ?_ | refine cA (by omega) ?_ | refine b9 (by omega) ?_ | exact ih0.1 _ _ (by assumption)) | (with_reducible exact ih0.2 _ _ _ _ _ (by first | assumption | (rw [List.length_set]; assumption) | rfl | simp) (by assumption)) | (with_reducible first | exact hK _ | refine And.intro trivial ?_ | refine ⟨_,_,by assumption,?_⟩ | refine ⟨_,by assumption,?_⟩)
   · skip
     intro x3 x4 x5 x6 x7 hy h
     rcases k with _ | k
     · cases h
     have ih0:=ih k (by omega)
     rw [nat_N_Text.l1.eq_2] at h
     refine dY (by kernel_rfl) aDD (inl:=[]) (LT:=n7) (NT:=n8) ?_
     rw [aVG]
     try simp only [bO,rd,bytesOf,gp_bytes.f,gp_make0_61.f,gp_make0_63.f,bV,Option.bind_some,decide_eq_true_eq,Bool.false_eq_true,beq_iff_eq,if_false,if_true,Int.toNat_zero] at h
     try delta strOfNums at h
     try simp only [cD,u8w,cE,cF,cG,cH,cI,cJ,cK,List.length_singleton,List.drop_zero,Nat.sub_zero,Int.toNat_natCast,List.take_length,bZ,cB]
     repeat' first | (split at h) | (rw [Option.bind_eq_some_iff] at h; obtain ⟨t,ht,h⟩:=h; try (with_reducible cases ht))
     all_goals try (with_reducible cases h)
     all_goals repeat' first | (with_reducible first | refine aC (by assumption) ?_ | refine aG (by assumption) ?_ | refine aQ (by assumption) ?_ | refine aX (by assumption) ?_ | refine aN ?_ | refine bQ ?_ | refine bS ?_ | refine bK ?_ | refine aR ?_ | refine bW (by assumption) ?_ | refine bX (by assumption) ?_ | refine aC (by omega) ?_ | refine aG (by omega) ?_ | refine bH (by omega) ?_ | refine cA (by omega) ?_ | refine b9 (by omega) ?_ | exact ih0.1 _ _ (by assumption)) | (with_reducible exact ih0.2 _ _ _ _ _ (by first | assumption | (rw [List.length_set]; assumption) | rfl | simp) (by assumption)) | (with_reducible first | exact hK _ | refine And.intro trivial ?_ | refine ⟨_,_,by assumption,?_⟩ | refine ⟨_,by assumption,?_⟩)
theorem aKF {l:List Int} {Q:Res} (h:aJV l Q):Con Tryz.prog 75 [.imm eW l] Q:=by
 obtain ⟨k,r,hf,hq⟩:=h
 have hK:∀ H,aO Q (.str r) H:=fun H=>bI hq rfl rfl
 refine aU (gn:=fnT Tryz.f75) (by kernel_rfl) aDD (inl:=[]) (LT:=n7) (NT:=n8) rfl fun n0=>?_
 rw [aVE]
 unfold nat_N_Text.f at hf
 dsimp only at hf
 simp only [bO,gp_make0_61.f] at hf
 split at hf
 · rename_i h0
   cases hf
   exact aC h0 (hK _)
 · rename_i h0
   refine aG h0 ?_
   split at hf
   · rename_i h1
     refine aN (aC h1.1 (bK (bH (by omega) (bH (by omega) ?_))))
     exact (aWF r hK k).1 _ _ hf
   · cases hf
theorem aWG {l m:List Int} {n0:Nat} {K:Res} (r:Int) (hK:∀ H,K (.int .i64 r) H):∀ k:Nat,
 (∀ (x5:Int),nat_N_Cmp.l0 k l m x5=some r→aB Tryz.prog n0 65 K (aE (fnT Tryz.f65) 6) (v9 l m x5)):=by
 intro k
 induction k using Nat.strongRecOn with
 | _ k ih =>
   intro x5 h
   rcases k with _ | k
   · cases h
   have ih0:=ih k (by omega)
   rw [nat_N_Cmp.l0.eq_2] at h
   refine dY (by kernel_rfl) bR (inl:=[]) (LT:=v7) (NT:=v8) ?_
   rw [aVI]
   try simp only [bO,rd,bytesOf,gp_bytes.f,gp_make0_61.f,gp_make0_63.f,bV,Option.bind_some,decide_eq_true_eq,Bool.false_eq_true,beq_iff_eq,if_false,if_true,Int.toNat_zero] at h
   try delta strOfNums at h
   try simp only [cD,u8w,cE,cF,cG,cH,cI,cJ,cK,List.length_singleton,List.drop_zero,Nat.sub_zero,Int.toNat_natCast,List.take_length,bZ,cB]
   repeat' first | (split at h) | (rw [Option.bind_eq_some_iff] at h; obtain ⟨t,ht,h⟩:=h; try (with_reducible cases ht))
   all_goals try (with_reducible cases h)
   all_goals repeat' first | (with_reducible first | refine aC (by assumption) ?_ | refine aG (by assumption) ?_ | refine aQ (by assumption) ?_ | refine aX (by assumption) ?_ | refine aN ?_ | refine bQ ?_ | refine bS ?_ | refine bK ?_ | refine aR ?_ | refine bW (by assumption) ?_ | refine bX (by assumption) ?_ | refine aC (by omega) ?_ | refine aG (by omega) ?_ | refine bH (by omega) ?_ | refine cA (by omega) ?_ | refine b9 (by omega) ?_ | exact ih0 _ (by assumption) | exact hK _ | refine And.intro trivial ?_ | refine ⟨_,_,by assumption,?_⟩ | refine ⟨_,by assumption,?_⟩)
theorem aKG {l m:List Int} {Q:Res} (h:cmpN l m Q):Con Tryz.prog 65 [.imm eW l, .imm eW m] Q:=by
 obtain ⟨k,r,hf,hq⟩:=h
 have hK:∀ H,aO Q (.int .i64 r) H:=fun H=>bI hq rfl rfl
 refine aU (gn:=fnT Tryz.f65) (by kernel_rfl) bR (inl:=[]) (LT:=v7) (NT:=v8) rfl fun n0=>?_
 rw [aVH]
 unfold nat_N_Cmp.f at hf
 dsimp only at hf
 simp only [bO] at hf
 refine aR ?_
 split at hf
 · rename_i h0
   exact aC h0 (aWG r hK k _ hf)
 · rename_i h0
   refine aG h0 ?_
   split at hf
   · rename_i h1; cases hf; exact aC h1 (hK _)
   · rename_i h1; cases hf; exact aG h1 (hK _)
theorem aKH {l m:List Int} {n0:Nat} {K:Res} (r:List Int) (hK:∀ id H,aF H id = .typed eW r false→K (.own id) H):∀ k:Nat,
 (∀ (x5:List Int) (x6 x21 x22:Int),nat_N_Add.l0 k m x5 x6 l x21 x22=some r→aB Tryz.prog n0 64 K (aE (fnT Tryz.f64) 6) (rO l m x6 x21 x22 x5)):=by
 intro k
 induction k using Nat.strongRecOn with
 | _ k ih =>
   intro x5 x6 x21 x22 h
   rcases k with _ | k
   · cases h
   have ih0:=ih k (by omega)
   rw [nat_N_Add.l0.eq_2] at h
   refine dY (by kernel_rfl) bR (inl:=[]) (LT:=wA) (NT:=wB) ?_
   rw [aVL]
   try simp only [bO,rd,bytesOf,gp_bytes.f,gp_make0_61.f,gp_make0_63.f,bV,Option.bind_some,decide_eq_true_eq,Bool.false_eq_true,beq_iff_eq,if_false,if_true,Int.toNat_zero] at h
   try delta strOfNums at h
   try simp only [cD,u8w,cE,cF,cG,cH,cI,cJ,cK,List.length_singleton,List.drop_zero,Nat.sub_zero,Int.toNat_natCast,List.take_length,bZ,cB]
   repeat' first | (split at h) | (rw [Option.bind_eq_some_iff] at h; obtain ⟨t,ht,h⟩:=h; try (with_reducible cases ht))
   all_goals try (with_reducible cases h)
   all_goals repeat' first | (with_reducible first | refine aC (by assumption) ?_ | refine aG (by assumption) ?_ | refine aQ (by assumption) ?_ | refine aX (by assumption) ?_ | refine aN ?_ | refine bQ ?_ | refine bS ?_ | refine bK ?_ | refine aR ?_ | refine bW (by assumption) ?_ | refine bX (by assumption) ?_ | refine aC (by omega) ?_ | refine aG (by omega) ?_ | refine bH (by omega) ?_ | refine cA (by omega) ?_ | refine b9 (by omega) ?_ | exact ih0 _ _ _ _ (by assumption)) | ((with_reducible refine hK _ _ ?_) <;> rfl) | (with_reducible first | refine And.intro trivial ?_ | refine ⟨_,_,by assumption,?_⟩ | refine ⟨_,by assumption,?_⟩)
theorem aWH {l m:List Int} {Q:Res} (h:addN l m Q):Con Tryz.prog 64 [.imm eW l, .imm eW m] Q:=by
 obtain ⟨k,r,hf,hq⟩:=h
 refine nX (e:=eW) (l:=r) ?_ hq
 refine aU (gn:=fnT Tryz.f64) (by kernel_rfl) bR (inl:=[]) (LT:=wA) (NT:=wB) rfl fun n0=>?_
 rw [aVK]
 have hK:∀ id H,aF H id = .typed eW r false→aO (fun v o=>v = .own 0∧∃ fz,o=[.typed eW r fz]) (.own id) H:=fun id H ho=>jO ho ⟨rfl,false,rfl⟩
 unfold nat_N_Add.f at hf
 dsimp only at hf
 rcases k with _ | k
 · split at hf <;> cases hf
 · rw [nat_N_Add.j0.eq_2,nat_N_Add.j0.eq_2] at hf
   simp only [bO,gp_make0_63.f] at hf
   split at hf
   · rename_i h0
     refine aC h0 ?_
     split at hf
     · rename_i h1
       refine aN (aC h1.1 (bK (bH (by omega) (bH (by omega) ?_))))
       exact aKH (l:=m) (m:=l) r hK k _ _ _ _ hf
     · cases hf
   · rename_i h0
     refine aG h0 ?_
     split at hf
     · rename_i h1
       refine aN (aC h1.1 (bK (bH (by omega) (bH (by omega) ?_))))
       exact aKH r hK k _ _ _ _ hf
     · cases hf
theorem aWI {l m:List Int} {n0:Nat} {K:Res} (r:List Int) (hK:∀ id H,aF H id = .typed eW r false→K (.own id) H):∀ k:Nat,
 (∀ (x5:List Int) (x6 x13 x14:Int),nat_N_Sub.l0 k l m x5 x6 x13 x14=some r→aB Tryz.prog n0 66 K (aE (fnT Tryz.f66) 4) (lO l m x6 x13 x14 x5)):=by
 intro k
 induction k using Nat.strongRecOn with
 | _ k ih =>
   intro x5 x6 x13 x14 h
   rcases k with _ | k
   · cases h
   have ih0:=ih k (by omega)
   rw [nat_N_Sub.l0.eq_2] at h
   refine jP (by kernel_rfl) bR i3 (inl:=[]) (LT:=wC) (NT:=wD) ?_
   rw [aVN]
   try simp only [bO,rd,bytesOf,gp_bytes.f,gp_make0_61.f,gp_make0_63.f,bV,Option.bind_some,decide_eq_true_eq,Bool.false_eq_true,beq_iff_eq,if_false,if_true,Int.toNat_zero] at h
   try delta strOfNums at h
   try simp only [cD,u8w,cE,cF,cG,cH,cI,cJ,cK,List.length_singleton,List.drop_zero,Nat.sub_zero,Int.toNat_natCast,List.take_length,bZ,cB]
   repeat' first | (split at h) | (rw [Option.bind_eq_some_iff] at h; obtain ⟨t,ht,h⟩:=h; try (with_reducible cases ht))
   all_goals try (with_reducible cases h)
   all_goals repeat' first | (with_reducible first | refine aC (by assumption) ?_ | refine aG (by assumption) ?_ | refine aQ (by assumption) ?_ | refine aX (by assumption) ?_ | refine aN ?_ | refine bQ ?_ | refine bS ?_ | refine bK ?_ | refine aR ?_ | refine bW (by assumption) ?_ | refine bX (by assumption) ?_ | refine aC (by omega) ?_ | refine aG (by omega) ?_ | refine bH (by omega) ?_ | refine cA (by omega) ?_ | refine b9 (by omega) ?_ | exact ih0 _ _ _ _ (by assumption)) | ((with_reducible refine hK _ _ ?_) <;> rfl) | (with_reducible first | refine And.intro trivial ?_ | refine ⟨_,_,by assumption,?_⟩ | refine ⟨_,by assumption,?_⟩)
theorem aWJ {l m:List Int} {Q:Res} (h:subN l m Q):Con Tryz.prog 66 [.imm eW l, .imm eW m] Q:=by
 obtain ⟨k,r,hf,hq⟩:=h
 refine nX (e:=eW) (l:=r) ?_ hq
 refine rK (gn:=fnT Tryz.f66) (by kernel_rfl) bR i3 (inl:=[]) (LT:=wC) (NT:=wD) rfl fun n0=>?_
 rw [aVM]
 unfold nat_N_Sub.f at hf
 dsimp only at hf
 split at hf
 · split at hf
   · rename_i h0 h1
     refine aN (aN (aC h0 (aC (Int.le_refl _) (bK (bH (by omega) (bH (by omega) ?_))))))
     exact aWI r (fun id H ho=>jO ho ⟨rfl,false,rfl⟩) k _ _ _ _ hf
   · cases hf
 · cases hf
theorem aWK {l m:List Int} {n0:Nat} {K:Res} (r:List Int) (hK:∀ id H,aF H id = .typed eW r false→K (.own id) H):∀ k:Nat,
 (∀ (x5:List Int) (x19 x20:Int),nat_N_Mul.l0 k m x5 l x19 x20=some r→aB Tryz.prog n0 61 K (aE (fnT Tryz.f61) 3) (wE l m x19 x20 x5)) ∧
 (∀ (x5:List Int) (x6 x7 x8 x19 x20 x26 x27:Int),nat_N_Mul.l1 k m x5 x6 x7 x8 l x19 x20 m x26 x27=some r→aB Tryz.prog n0 61 K (aE (fnT Tryz.f61) 7) (wF l m x6 x7 x8 x19 x20 x26 x27 x5)):=by
 intro k
 induction k using Nat.strongRecOn with
 | _ k ih =>
   refine ⟨?_,?_⟩
   · skip
     intro x5 x19 x20 h
     rcases k with _ | k
     · cases h
     have ih0:=ih k (by omega)
     rw [nat_N_Mul.l0.eq_2] at h
     refine jP (by kernel_rfl) bR i3 (inl:=[]) (LT:=n9) (NT:=oA) ?_
     rw [aVP]
     try simp only [bO,rd,bytesOf,gp_bytes.f,gp_make0_61.f,gp_make0_63.f,bV,Option.bind_some,decide_eq_true_eq,Bool.false_eq_true,beq_iff_eq,if_false,if_true,Int.toNat_zero] at h
     try delta strOfNums at h
     try simp only [cD,u8w,cE,cF,cG,cH,cI,cJ,cK,List.length_singleton,List.drop_zero,Nat.sub_zero,Int.toNat_natCast,List.take_length,bZ,cB]
     repeat' first | (split at h) | (rw [Option.bind_eq_some_iff] at h; obtain ⟨t,ht,h⟩:=h; try (with_reducible cases ht))
     all_goals try (with_reducible cases h)
     all_goals repeat' first | (with_reducible first | refine aC (by assumption) ?_ | refine aG (by assumption) ?_ | refine aQ (by assumption) ?_ | refine aX (by assumption) ?_ | refine aN ?_ | refine bQ ?_ | refine bS ?_ | refine bK ?_ | refine aR ?_ | refine bW (by assumption) ?_ | refine bX (by assumption) ?_ | refine aC (by omega) ?_ | refine aG (by omega) ?_ | refine bH (by omega) ?_ | refine cA (by omega) ?_ | refine b9 (by omega) ?_ | exact ih0.1 _ _ _ (by assumption) | exact ih0.2 _ _ _ _ _ _ _ _ (by assumption)) | ((with_reducible refine hK _ _ ?_) <;> rfl) | (with_reducible first | refine And.intro trivial ?_ | refine ⟨_,_,by assumption,?_⟩ | refine ⟨_,by assumption,?_⟩)
   · skip
     intro x5 x6 x7 x8 x19 x20 x26 x27 h
     rcases k with _ | k
     · cases h
     have ih0:=ih k (by omega)
     rw [nat_N_Mul.l1.eq_2] at h
     refine jP (by kernel_rfl) bR i3 (inl:=[]) (LT:=n9) (NT:=oA) ?_
     rw [aVQ]
     try simp only [bO,rd,bytesOf,gp_bytes.f,gp_make0_61.f,gp_make0_63.f,bV,Option.bind_some,decide_eq_true_eq,Bool.false_eq_true,beq_iff_eq,if_false,if_true,Int.toNat_zero] at h
     try delta strOfNums at h
     try simp only [cD,u8w,cE,cF,cG,cH,cI,cJ,cK,List.length_singleton,List.drop_zero,Nat.sub_zero,Int.toNat_natCast,List.take_length,bZ,cB]
     repeat' first | (split at h) | (rw [Option.bind_eq_some_iff] at h; obtain ⟨t,ht,h⟩:=h; try (with_reducible cases ht))
     all_goals try (with_reducible cases h)
     all_goals repeat' first | (with_reducible first | refine aC (by assumption) ?_ | refine aG (by assumption) ?_ | refine aQ (by assumption) ?_ | refine aX (by assumption) ?_ | refine aN ?_ | refine bQ ?_ | refine bS ?_ | refine bK ?_ | refine aR ?_ | refine bW (by assumption) ?_ | refine bX (by assumption) ?_ | refine aC (by omega) ?_ | refine aG (by omega) ?_ | refine bH (by omega) ?_ | refine cA (by omega) ?_ | refine b9 (by omega) ?_ | exact ih0.1 _ _ _ (by assumption) | exact ih0.2 _ _ _ _ _ _ _ _ (by assumption)) | ((with_reducible refine hK _ _ ?_) <;> rfl) | (with_reducible first | refine And.intro trivial ?_ | refine ⟨_,_,by assumption,?_⟩ | refine ⟨_,by assumption,?_⟩)
theorem aKI {l m r:List Int} {k:Nat} {Q:Res} (hf:nat_N_Mul.f k l m=some r) (hq:Q (.own 0) [.typed eW r false]):Con Tryz.prog 61 [.imm eW l, .imm eW m] Q:=by
 refine rK (gn:=fnT Tryz.f61) (by kernel_rfl) bR i3 (inl:=[]) (LT:=n9) (NT:=oA) rfl fun n0=>?_
 rw [aVO]
 unfold nat_N_Mul.f at hf
 simp only [bO] at hf
 split at hf
 · split at hf
   · rename_i h0 h1
     refine aN (aN (aC h0 (aC (Int.le_refl _) (bK (bH (by omega) (bH (by omega) ?_))))))
     exact (aWK r (fun id H ho=>jO ho hq) k).1 _ _ _ hf
   · cases hf
 · cases hf
theorem aWL {l m:List Int} {Q:Res} (h:mulN l m Q):Con Tryz.prog 61 [.imm eW l, .imm eW m] Q:=by
 obtain ⟨k,r,hf,hq⟩:=h
 exact nX (e:=eW) (l:=r) (aKI hf ⟨rfl,false,rfl⟩) hq
theorem aWM {l m:List Int} {Q:Res} (h:mulO l m Q):Con Tryz.prog 61 [.imm eW l, .imm eW m] Q:=by
 obtain ⟨k,r,hf,hq⟩:=h
 exact aKI hf hq
theorem aWN {l:List Int} {d:Int} {n0:Nat} {K:Res} (r:List Int × List Int) (hK:∀ id1 id2 H,id1≠id2→aF H id1 = .typed eW r.1 false→aF H id2 = .typed eW r.2 false→K (.tup [.own id1, .own id2]) H):∀ k:Nat,
 (∀ (x6:List Int) (x7 x8:Int),nat_N_short.l0 k l d x6 x7 x8=some r→aB Tryz.prog n0 92 K (aE (fnT Tryz.f92) 4) (wI l d x7 x8 x6)):=by
 intro k
 induction k using Nat.strongRecOn with
 | _ k ih =>
   intro x6 x7 x8 h
   rcases k with _ | k
   · cases h
   have ih0:=ih k (by omega)
   rw [nat_N_short.l0.eq_2] at h
   refine jP (by kernel_rfl) bR i3 (inl:=[]) (LT:=wG) (NT:=wH) ?_
   rw [aVS]
   try simp only [bO,rd,bytesOf,gp_bytes.f,gp_make0_61.f,gp_make0_63.f,bV,Option.bind_some,decide_eq_true_eq,Bool.false_eq_true,beq_iff_eq,if_false,if_true,Int.toNat_zero] at h
   try delta strOfNums at h
   try simp only [cD,u8w,cE,cF,cG,cH,cI,cJ,cK,List.length_singleton,List.drop_zero,Nat.sub_zero,Int.toNat_natCast,List.take_length,bZ,cB]
   repeat' first | (split at h) | (rw [Option.bind_eq_some_iff] at h; obtain ⟨t,ht,h⟩:=h; try (with_reducible cases ht))
   all_goals try (with_reducible cases h)
   all_goals repeat' first | (with_reducible first | refine aC (by assumption) ?_ | refine aG (by assumption) ?_ | refine aQ (by assumption) ?_ | refine aX (by assumption) ?_ | refine aN ?_ | refine bQ ?_ | refine bS ?_ | refine bK ?_ | refine aR ?_ | refine bW (by assumption) ?_ | refine bX (by assumption) ?_ | refine aC (by omega) ?_ | refine aG (by omega) ?_ | refine bH (by omega) ?_ | refine cA (by omega) ?_ | refine b9 (by omega) ?_ | exact ih0 _ _ _ (by assumption)) | ((with_reducible refine hK _ _ _ (by decide) ?_ ?_) <;> rfl) | (with_reducible first | refine And.intro trivial ?_ | refine ⟨_,_,by assumption,?_⟩ | refine ⟨_,by assumption,?_⟩)
theorem aWO {l:List Int} {d:Int} {Q:Res} (h:aJW l d Q):Con Tryz.prog 92 [.imm eW l, .int .u32 d] Q:=by
 obtain ⟨k,r,hf,hq⟩:=h
 refine Con.sealTo (Q:=fun v o=>v = .tup [.own 0, .own 1]∧o=[.typed eW r.1 false, .typed eW r.2 false]) ?_ fun v o hv=>?_
 · refine rK (gn:=fnT Tryz.f92) (by kernel_rfl) bR i3 (inl:=[]) (LT:=wG) (NT:=wH) rfl fun n0=>?_
   rw [aVR]
   unfold nat_N_short.f at hf
   dsimp only at hf
   simp only [bO] at hf
   split at hf
   · split at hf
     · rename_i h0 h1
       refine aN (aN (aC h0 (aC (Int.le_refl _) (bK (bH (by omega) (bH (by omega) ?_))))))
       exact aWN r (fun id1 id2 H hne h1 h2=>⟨.tup [.own 0, .own 1],[.typed eW r.1 false, .typed eW r.2 false],⟨rfl,rfl⟩,rfl,rfl,[id1,id2],rfl,by simp [hne],fun k i h=>by
        match k,h with
        | 0,h=>cases h; exact congrArg some h1.symm
        | 1,h=>cases h; exact congrArg some h2.symm,rfl⟩) k _ _ _ hf
     · cases hf
   · cases hf
 · obtain ⟨rfl,rfl⟩:=hv
   exact ⟨_,⟨_,rfl, .cons ⟨_,_,_,rfl,rfl⟩ (.cons ⟨_,_,_,rfl,rfl⟩ .nil)⟩,hq⟩
theorem aWP {u v:List Int} {kk q:Int} {n0:Nat} {hv:Nat→Value × Nat} {K:Res} (r:Bool × List Int) (hK:K (.bool r.1) [.typed eW r.2 false]):∀ k:Nat,
 (∀ (x0:List Int) (x9 x10 x11:Int),nat_N_minus.l0 k x0 v kk q x9 x10 x11=some r→GoodH Tryz.prog n0 93 1 hv K (aE (fnT Tryz.f93) 4) (lP u v kk q x9 x10 x11 x0)):=by
 intro k
 induction k using Nat.strongRecOn with
 | _ k ih =>
   intro x0 x9 x10 x11 h
   rcases k with _ | k
   · cases h
   have ih0:=ih k (by omega)
   rw [nat_N_minus.l0.eq_2] at h
   refine vN (by kernel_rfl) bR (inl:=[]) (LT:=wJ) (NT:=wK) ?_
   rw [aVU]
   try simp only [bO,rd,bytesOf,gp_bytes.f,gp_make0_61.f,gp_make0_63.f,bV,Option.bind_some,decide_eq_true_eq,Bool.false_eq_true,beq_iff_eq,if_false,if_true,Int.toNat_zero] at h
   try delta strOfNums at h
   try simp only [cD,u8w,cE,cF,cG,cH,cI,cJ,cK,List.length_singleton,List.drop_zero,Nat.sub_zero,Int.toNat_natCast,List.take_length,bZ,cB]
   repeat' first | (split at h) | (rw [Option.bind_eq_some_iff] at h; obtain ⟨t,ht,h⟩:=h; try (with_reducible cases ht))
   all_goals try (with_reducible cases h)
   all_goals repeat' first | (with_reducible first | refine aC (by assumption) ?_ | refine aG (by assumption) ?_ | refine aQ (by assumption) ?_ | refine aX (by assumption) ?_ | refine aN ?_ | refine bQ ?_ | refine bS ?_ | refine bK ?_ | refine aR ?_ | refine bW (by assumption) ?_ | refine bX (by assumption) ?_ | refine aC (by omega) ?_ | refine aG (by omega) ?_ | refine bH (by omega) ?_ | refine cA (by omega) ?_ | refine b9 (by omega) ?_ | exact ih0 _ _ _ _ (by assumption) | exact hK | refine And.intro trivial ?_ | refine ⟨_,_,by assumption,?_⟩ | refine ⟨_,by assumption,?_⟩)
theorem aWQ {xs:List AV} {os:List aA} {Q:Res} (h:aC1 xs os Q):fH Tryz.prog 93 xs os Q:=by
 unfold aC1 at h
 split at h
 · split at h
   · split at h
     · rename_i u hu
       split at h
       · rename_i v hv
         split at h
         · rename_i kk hkk
           split at h
           · rename_i q hq0
             obtain ⟨hx,k,r,hf,hq⟩:=aDC h
             rw [aDB hx,aDA hu]
             refine aKB (ys:=[.own 0, .imm eW v, .int .i64 kk, .int .u64 q]) ?_ rfl fun j y hy=>?_
             · refine conW (gn:=fnT Tryz.f93) (by kernel_rfl) bR (inl:=[]) (LT:=wJ) (NT:=wK) rfl fun n0 hv=>?_
               show aH _ _ (fI 1 _ _ (GoodH _ _ _ 1 _ _)) _ _ _ _
               rw [aVT]
               exact aWP (u:=u) r (aKC rfl hq rfl rfl rfl) k _ _ _ _ hf
             · match j,hy with
               | 0,hy=>cases hy; exact ⟨_,rfl,fun h=>h⟩
               | 1,hy=>cases hy; exact ⟨_,rfl,fun h=>vW.ok hv h⟩
               | 2,hy=>cases hy; exact ⟨_,rfl,fun h=>vI.ok hkk h⟩
               | 3,hy=>cases hy; exact ⟨_,rfl,fun h=>vU64.ok hq0 h⟩
           · exact h.elim
         · exact h.elim
       · exact h.elim
     · exact h.elim
   · exact h.elim
 · exact h.elim
theorem aWR {u v:List Int} {kk:Int} {n0:Nat} {hv:Nat→Value × Nat} {K:Res} (r:List Int) (hK:K (.tup []) [.typed eW r false]):∀ k:Nat,
 (∀ (x0:List Int) (x6 x7:Int),nat_N_plus.l0 k x0 v kk x6 x7=some r→GoodH Tryz.prog n0 94 1 hv K (aE (fnT Tryz.f94) 2) (rP u v kk x6 x7 x0)):=by
 intro k
 induction k using Nat.strongRecOn with
 | _ k ih =>
   intro x0 x6 x7 h
   rcases k with _ | k
   · cases h
   have ih0:=ih k (by omega)
   rw [nat_N_plus.l0.eq_2] at h
   refine vN (by kernel_rfl) bR (inl:=[]) (LT:=wL) (NT:=wM) ?_
   rw [aVW]
   try simp only [bO,rd,bytesOf,gp_bytes.f,gp_make0_61.f,gp_make0_63.f,bV,Option.bind_some,decide_eq_true_eq,Bool.false_eq_true,beq_iff_eq,if_false,if_true,Int.toNat_zero] at h
   try delta strOfNums at h
   try simp only [cD,u8w,cE,cF,cG,cH,cI,cJ,cK,List.length_singleton,List.drop_zero,Nat.sub_zero,Int.toNat_natCast,List.take_length,bZ,cB]
   repeat' first | (split at h) | (rw [Option.bind_eq_some_iff] at h; obtain ⟨t,ht,h⟩:=h; try (with_reducible cases ht))
   all_goals try (with_reducible cases h)
   all_goals repeat' first | (with_reducible first | refine aC (by assumption) ?_ | refine aG (by assumption) ?_ | refine aQ (by assumption) ?_ | refine aX (by assumption) ?_ | refine aN ?_ | refine bQ ?_ | refine bS ?_ | refine bK ?_ | refine aR ?_ | refine bW (by assumption) ?_ | refine bX (by assumption) ?_ | refine aC (by omega) ?_ | refine aG (by omega) ?_ | refine bH (by omega) ?_ | refine cA (by omega) ?_ | refine b9 (by omega) ?_ | exact ih0 _ _ _ (by assumption) | exact hK | refine And.intro trivial ?_ | refine ⟨_,_,by assumption,?_⟩ | refine ⟨_,by assumption,?_⟩)
theorem aWS {xs:List AV} {os:List aA} {Q:Res} (h:aC2 xs os Q):fH Tryz.prog 94 xs os Q:=by
 unfold aC2 at h
 split at h
 · split at h
   · split at h
     · rename_i u hu
       split at h
       · rename_i v hv
         split at h
         · rename_i kk hkk
           obtain ⟨hx,k,r,hf,hq⟩:=aDC h
           rw [aDB hx,aDA hu]
           refine aKB (ys:=[.own 0, .imm eW v, .int .i64 kk]) ?_ rfl fun j y hy=>?_
           · refine conW (gn:=fnT Tryz.f94) (by kernel_rfl) bR (inl:=[]) (LT:=wL) (NT:=wM) rfl fun n0 hv=>?_
             show aH _ _ (fI 1 _ _ (GoodH _ _ _ 1 _ _)) _ _ _ _
             rw [aVV]
             exact aWR (u:=u) r (aKC rfl hq rfl rfl rfl) k _ _ _ hf
           · match j,hy with
             | 0,hy=>cases hy; exact ⟨_,rfl,fun h=>h⟩
             | 1,hy=>cases hy; exact ⟨_,rfl,fun h=>vW.ok hv h⟩
             | 2,hy=>cases hy; exact ⟨_,rfl,fun h=>vI.ok hkk h⟩
         · exact h.elim
       · exact h.elim
     · exact h.elim
   · exact h.elim
 · exact h.elim
theorem wS : ∀ g p,find nY g=some p→∀ xs os Q,p.2 xs os Q→fH Tryz.prog g xs os Q:=aJT fun p hp=>by
 simp only [nY,List.mem_cons,List.not_mem_nil,or_false] at hp
 rcases hp with rfl | rfl | rfl
 · exact fun xs os Q h=>aKE h
 · exact fun xs os Q h=>aWQ h
 · exact fun xs os Q h=>aWS h
theorem wT : ∀ g xs Q,rN g xs Q→Con Tryz.prog g xs Q:=dA fun p hp=>by
 simp only [List.mem_cons,List.not_mem_nil,or_false] at hp
 rcases hp with rfl | rfl | rfl
 · exact aZ fun _ _ _ h=>aKG h
 · exact aZ fun _ _ _ h=>aWO h
 · exact aZ fun _ _ _ h=>aWM h
theorem nof_w {n:Int} {n0:Nat} {K:Res} (r:List Int) (hK:∀ id H,aF H id = .typed eW r false→K (.own id) H):∀ k:Nat,
 (∀ (x0:Int) (x3:List Int),nat_Of.l0 k x0 x3=some r→aB Tryz.prog n0 74 K (aE (fnT Tryz.f74) 2) (aC9 n x0 x3)):=by
 intro k
 induction k using Nat.strongRecOn with
 | _ k ih =>
   intro x0 x3 h
   rcases k with _ | k
   · cases h
   have ih0:=ih k (by omega)
   rw [nat_Of.l0.eq_2] at h
   refine dY (by kernel_rfl) bR (inl:=[]) (LT:=wQ) (NT:=wR) ?_
   rw [aV5]
   try simp only [bO,rd,bytesOf,gp_bytes.f,gp_make0_61.f,gp_make0_63.f,bV,Option.bind_some,decide_eq_true_eq,Bool.false_eq_true,beq_iff_eq,if_false,if_true,Int.toNat_zero] at h
   try delta strOfNums at h
   try simp only [cD,u8w,cE,cF,cG,cH,cI,cJ,cK,List.length_singleton,List.drop_zero,Nat.sub_zero,Int.toNat_natCast,List.take_length,bZ,cB]
   repeat' first | (split at h) | (rw [Option.bind_eq_some_iff] at h; obtain ⟨t,ht,h⟩:=h; try (with_reducible cases ht))
   all_goals try (with_reducible cases h)
   all_goals repeat' first | (with_reducible first | refine aC (by assumption) ?_ | refine aG (by assumption) ?_ | refine aQ (by assumption) ?_ | refine aX (by assumption) ?_ | refine aN ?_ | refine bQ ?_ | refine bS ?_ | refine bK ?_ | refine aR ?_ | refine bW (by assumption) ?_ | refine bX (by assumption) ?_ | refine aC (by omega) ?_ | refine aG (by omega) ?_ | refine bH (by omega) ?_ | refine cA (by omega) ?_ | refine b9 (by omega) ?_ | exact ih0 _ _ (by assumption)) | ((with_reducible refine hK _ _ ?_) <;> rfl) | (with_reducible first | refine And.intro trivial ?_ | refine ⟨_,_,by assumption,?_⟩ | refine ⟨_,by assumption,?_⟩)
theorem aWT {n:Int} {Q:Res} (h:ofN n Q):Con Tryz.prog 74 [.int .i64 n] Q:=by
 obtain ⟨k,r,hf,hq⟩:=h
 refine nX (e:=eW) (l:=r) ?_ hq
 refine aU (gn:=fnT Tryz.f74) (by kernel_rfl) bR (inl:=[]) (LT:=wQ) (NT:=wR) rfl fun n0=>?_
 rw [nof_E]
 exact nof_w (n:=n) r (fun id H ho=>jO ho ⟨rfl,false,rfl⟩) k _ _ hf
theorem aWU {s:ByteArray} {n0:Nat} {K:Res} (r:Int) (hK:∀ H,K (.int .i64 r) H):∀ k:Nat,
 (∀ (x18:List Int) (x19 x20:Int),nat_Check.l0 k s x18 x19 x20=some r→aB Tryz.prog n0 100 K (aE (fnT Tryz.f100) 4) (nZ s x18 x19 x20)):=by
 intro k
 induction k using Nat.strongRecOn with
 | _ k ih =>
   intro x18 x19 x20 h
   rcases k with _ | k
   · cases h
   have ih0:=ih k (by omega)
   rw [nat_Check.l0.eq_2] at h
   refine dY (by kernel_rfl) bR (inl:=[]) (LT:=vX) (NT:=vY) ?_
   rw [aU4]
   try simp only [bO,rd,bytesOf,gp_bytes.f,gp_make0_61.f,gp_make0_63.f,bV,Option.bind_some,decide_eq_true_eq,Bool.false_eq_true,beq_iff_eq,if_false,if_true,Int.toNat_zero] at h
   try delta strOfNums at h
   try simp only [cD,u8w,cE,cF,cG,cH,cI,cJ,cK,List.length_singleton,List.drop_zero,Nat.sub_zero,Int.toNat_natCast,List.take_length,bZ,cB]
   repeat' first | (split at h) | (rw [Option.bind_eq_some_iff] at h; obtain ⟨t,ht,h⟩:=h; try (with_reducible cases ht))
   all_goals try (with_reducible cases h)
   all_goals repeat' first | (with_reducible first | refine aC (by assumption) ?_ | refine aG (by assumption) ?_ | refine aQ (by assumption) ?_ | refine aX (by assumption) ?_ | refine aN ?_ | refine bQ ?_ | refine bS ?_ | refine bK ?_ | refine aR ?_ | refine bW (by assumption) ?_ | refine bX (by assumption) ?_ | refine aC (by omega) ?_ | refine aG (by omega) ?_ | refine bH (by omega) ?_ | refine cA (by omega) ?_ | refine b9 (by omega) ?_ | exact ih0 _ _ _ (by assumption) | exact hK _ | refine And.intro trivial ?_ | refine ⟨_,_,by assumption,?_⟩ | refine ⟨_,by assumption,?_⟩)
theorem aWV {s:ByteArray} {Q:Res} (h:aU0 s Q):Con Tryz.prog 100 [.str s] Q:=by
 obtain ⟨k,r,hf,hq⟩:=h
 have hK:∀ H,aO Q (.int .i64 r) H:=fun H=>bI hq rfl rfl
 refine aU (gn:=fnT Tryz.f100) (by kernel_rfl) bR (inl:=[]) (LT:=vX) (NT:=vY) rfl fun n0=>?_
 rw [aU3,bZ]
 have go:∀ {k:Nat},nat_Check.j0 k s false=some r→bif decide (s.size≤9223372036854775807) then aB Tryz.prog n0 100 (aO Q) (aE (fnT Tryz.f100) 4) (nZ s (List.map (fun b=>(b.toNat:Int)) s.data.toList) ((List.map (fun b=>(b.toNat:Int)) s.data.toList).length:Int) 0) else False:=by
  intro k h
  rcases k with _ | k
  · cases h
  · rw [nat_Check.j0.eq_2,if_neg (by decide)] at h
    simp only [gp_bytes.f] at h
    split at h
    · rename_i h0
      exact aC h0 (aWU r hK k _ _ _ h)
    · cases h
 unfold nat_Check.f at hf
 dsimp only at hf
 rw [bV] at hf
 split at hf
 · rename_i h0
   rcases k with _ | k
   · cases hf
   · rw [nat_Check.j0.eq_2,if_pos rfl] at hf
     cases hf
     exact bW h0 (hK _)
 · rename_i h0
   refine bX h0 ?_
   split at hf
   · rename_i h1
     refine aC h1 ?_
     split at hf
     · rename_i h2
       refine aC h2 (bK (bS (bK (bQ ?_))))
       by_cases h3:(s.size:Int) > 1
       · rw [decide_eq_true h3] at hf
         refine aC h3 ?_
         rcases k with _ | k
         · cases hf
         · rw [nat_Check.j0.eq_2,if_pos rfl] at hf
           cases hf
           exact hK _
       · rw [decide_eq_false h3] at hf
         exact aG h3 (go hf)
     · rename_i h2
       exact aG h2 (go hf)
   · cases hf
theorem aWW {l m:List Int} {n0:Nat} {K:Res} (r:List Int × List Int) (hK:∀ id H,aF H id = .typed eW r.1 false→K (.tup [.own id, .imm eW r.2]) H):∀ k:Nat,
 (∀ (x6:Int) (x7 x8:List Int),nat_N_Div.l0 k l x6 x7 x8=some r→aB Tryz.prog n0 83 K (aE (fnT Tryz.f83) 7) (wN l m x6 x7 x8)) ∧
 (∀ (x6:Int) (x7 x8:List Int) (x9:Int) (x10:List Int) (x11:Int),nat_N_Div.l1 k x6 x7 x8 x9 x10 x11=some r→aB Tryz.prog n0 83 K (aE (fnT Tryz.f83) 12) (iG l m x6 x9 x11 x7 x8 x10)) ∧
 (∀ (x6:Int) (x7 x8:List Int) (x9:Int) (x10:List Int) (x11 x13 x14:Int),nat_N_Div.l2 k x6 x7 x8 x9 x10 x11 x13 x14=some r→aB Tryz.prog n0 83 K (aE (fnT Tryz.f83) 16) (rQ l m x6 x9 x11 x13 x14 x7 x8 x10)):=by
 intro k
 induction k using Nat.strongRecOn with
 | _ k ih =>
   refine ⟨?_,?_,?_⟩
   · intro x6 x7 x8 h
     rcases k with _ | k
     · cases h
     have ih0:=ih k (by omega)
     rw [nat_N_Div.l0.eq_2] at h
     refine jP (by kernel_rfl) wT wS (inl:=[]) (LT:=kB) (NT:=kC) ?_
     rw [aVY]
     try simp only [bO,rd,bytesOf,gp_bytes.f,gp_make0_61.f,gp_make0_63.f,bV,Option.bind_some,decide_eq_true_eq,Bool.false_eq_true,beq_iff_eq,if_false,if_true,Int.toNat_zero] at h
     try delta strOfNums at h
     try simp only [cD,u8w,cE,cF,cG,cH,cI,cJ,cK,List.length_singleton,List.drop_zero,Nat.sub_zero,Int.toNat_natCast,List.take_length,bZ,cB]
     repeat' first | (split at h) | (rw [Option.bind_eq_some_iff] at h; obtain ⟨t,ht,h⟩:=h; try (with_reducible cases ht))
     all_goals try (with_reducible cases h)
     all_goals repeat' first | (with_reducible first | refine aC (by assumption) ?_ | refine aG (by assumption) ?_ | refine aQ (by assumption) ?_ | refine aX (by assumption) ?_ | refine aN ?_ | refine bQ ?_ | refine bS ?_ | refine bK ?_ | refine aR ?_ | refine bW (by assumption) ?_ | refine bX (by assumption) ?_ | refine aC (by omega) ?_ | refine aG (by omega) ?_ | refine bH (by omega) ?_ | refine cA (by omega) ?_ | refine b9 (by omega) ?_ | exact ih0.1 _ _ _ (by assumption) | exact ih0.2.1 _ _ _ _ _ _ (by assumption) | refine And.intro trivial ?_ | refine ⟨_,_,by assumption,?_⟩ | refine ⟨_,by assumption,?_⟩)
   · intro x6 x7 x8 x9 x10 x11 h
     rcases k with _ | k
     · cases h
     have ih0:=ih k (by omega)
     rw [nat_N_Div.l1.eq_2] at h
     refine jP (by kernel_rfl) wT wS (inl:=[]) (LT:=kB) (NT:=kC) ?_
     rw [aVZ]
     try simp only [bO,rd,bytesOf,gp_bytes.f,gp_make0_61.f,gp_make0_63.f,bV,Option.bind_some,decide_eq_true_eq,Bool.false_eq_true,beq_iff_eq,if_false,if_true,Int.toNat_zero] at h
     try delta strOfNums at h
     try simp only [cD,u8w,cE,cF,cG,cH,cI,cJ,cK,List.length_singleton,List.drop_zero,Nat.sub_zero,Int.toNat_natCast,List.take_length,bZ,cB]
     repeat' first | (split at h) | (rw [Option.bind_eq_some_iff] at h; obtain ⟨t,ht,h⟩:=h; try (with_reducible cases ht))
     all_goals try (with_reducible cases h)
     all_goals repeat' first | (with_reducible first | refine aC (by assumption) ?_ | refine aG (by assumption) ?_ | refine aQ (by assumption) ?_ | refine aX (by assumption) ?_ | refine aN ?_ | refine bQ ?_ | refine bS ?_ | refine bK ?_ | refine aR ?_ | refine bW (by assumption) ?_ | refine bX (by assumption) ?_ | refine aC (by omega) ?_ | refine aG (by omega) ?_ | refine bH (by omega) ?_ | refine cA (by omega) ?_ | refine b9 (by omega) ?_ | exact ih0.2.2 _ _ _ _ _ _ _ _ (by assumption)) | (exact hK _ _ rfl) | (with_reducible first | refine And.intro trivial ?_ | refine ⟨_,_,by assumption,?_⟩ | refine ⟨_,by assumption,?_⟩)
   · intro x6 x7 x8 x9 x10 x11 x13 x14 h
     rcases k with _ | k
     · cases h
     have j4:∀ (k' : Nat) (x13:Int),k' ≤ k→nat_N_Div.j4 k' x6 x7 x8 x9 x10 x11 x13=some r→∃ k r1,nat_N_minus.f k x7 x8 x11 x13=some r1∧bif r1.1 then (∃ k r2,nat_N_plus.f k r1.2 x8 x11=some r2∧bif decide (0≤x11) && decide (x11<(x10.length:Int)) then
           aB Tryz.prog n0 83 K (aE (fnT Tryz.f83) 12) (iG l m x6 x9 (IntKind.i64.wrap (x11 - 1)) r2 x8 (x10.set x11.toNat (IntKind.u64.wrap (x13 - 1) % 4294967296))) else False)
      else bif decide (0≤x11) && decide (x11<(x10.length:Int)) then
           aB Tryz.prog n0 83 K (aE (fnT Tryz.f83) 12) (iG l m x6 x9 (IntKind.i64.wrap (x11 - 1)) r1.2 x8 (x10.set x11.toNat (x13 % 4294967296))) else False:=by
       intro k' x13 hk h
       rcases k' with _ | k'
       · cases h
       have ih0:=ih k' (by omega)
       rw [nat_N_Div.j4.eq_2] at h
       try simp only [bO,rd,bytesOf,gp_bytes.f,gp_make0_61.f,gp_make0_63.f,bV,Option.bind_some,decide_eq_true_eq,Bool.false_eq_true,beq_iff_eq,if_false,if_true,Int.toNat_zero] at h
       try delta strOfNums at h
       try simp only [cD,u8w,cE,cF,cG,cH,cI,cJ,cK,List.length_singleton,List.drop_zero,Nat.sub_zero,Int.toNat_natCast,List.take_length,bZ,cB]
       repeat' first | (split at h) | (rw [Option.bind_eq_some_iff] at h; obtain ⟨t,ht,h⟩:=h; try (with_reducible cases ht))
       all_goals try (with_reducible cases h)
       all_goals repeat' first | (with_reducible first | refine aC (by assumption) ?_ | refine aG (by assumption) ?_ | refine aQ (by assumption) ?_ | refine aX (by assumption) ?_ | refine aN ?_ | refine bQ ?_ | refine bS ?_ | refine bK ?_ | refine aR ?_ | refine bW (by assumption) ?_ | refine bX (by assumption) ?_ | refine aC (by omega) ?_ | refine aG (by omega) ?_ | refine bH (by omega) ?_ | refine cA (by omega) ?_ | refine b9 (by omega) ?_ | exact ih0.2.1 _ _ _ _ _ _ (by assumption) | refine And.intro trivial ?_ | refine ⟨_,_,by assumption,?_⟩ | refine ⟨_,by assumption,?_⟩)
     rw [nat_N_Div.l2.eq_2] at h
     refine jP (by kernel_rfl) wT wS (inl:=[]) (LT:=kB) (NT:=kC) ?_
     rw [aV0]
     try simp only [bO,rd,bytesOf,gp_bytes.f,gp_make0_61.f,gp_make0_63.f,bV,Option.bind_some,decide_eq_true_eq,Bool.false_eq_true,beq_iff_eq,if_false,if_true,Int.toNat_zero] at h
     try simp only [cD,u8w,cE,cF,cG,cH,cI,cJ,cK,List.length_singleton,List.drop_zero,Nat.sub_zero,Int.toNat_natCast,List.take_length,bZ,cB]
     repeat' first | (split at h) | (rw [Option.bind_eq_some_iff] at h; obtain ⟨t,ht,h⟩:=h; try (with_reducible cases ht))
     all_goals try (with_reducible cases h)
     all_goals rcases k with _ | k
     all_goals try (cases h; done)
     all_goals rw [nat_N_Div.j3.eq_2] at h
     all_goals try simp only [bO,rd,bytesOf,gp_bytes.f,gp_make0_61.f,gp_make0_63.f,bV,Option.bind_some,decide_eq_true_eq,Bool.false_eq_true,beq_iff_eq,if_false,if_true,Int.toNat_zero] at h
     all_goals repeat' first | (split at h) | (rw [Option.bind_eq_some_iff] at h; obtain ⟨t,ht,h⟩:=h; try (with_reducible cases ht))
     all_goals try (with_reducible cases h)
     all_goals repeat' first | (with_reducible first | refine aC (by assumption) ?_ | refine aG (by assumption) ?_ | refine aQ (by assumption) ?_ | refine aX (by assumption) ?_ | refine aN ?_ | refine bQ ?_ | refine bS ?_ | refine bK ?_ | refine aR ?_ | refine bW (by assumption) ?_ | refine bX (by assumption) ?_ | refine aC (by omega) ?_ | refine aG (by omega) ?_ | refine bH (by omega) ?_ | refine cA (by omega) ?_ | refine b9 (by omega) ?_ | exact (ih k (by omega)).2.2 _ _ _ _ _ _ _ _ (by assumption) | exact j4 k _ (by omega) (by assumption) | refine And.intro trivial ?_ | refine ⟨_,_,by assumption,?_⟩ | refine ⟨_,by assumption,?_⟩)
theorem aKJ {l m:List Int} {Q:Res} (h:divN l m Q):Con Tryz.prog 83 [.imm eW l, .imm eW m] Q:=by
 obtain ⟨k,r,h,hq⟩:=h
 refine Con.sealTo (Q:=fun v o=>(v = .tup [.own 0, .imm eW r.2]∧o=[.typed eW r.1 false])∨v = .tup [.imm eW r.1, .imm eW r.2]∨(r.1=[]∧v = .tup [.nils, .imm eW r.2])) ?_ fun v o hv=>?_
 · refine rK (gn:=fnT Tryz.f83) (by kernel_rfl) wT wS (inl:=[]) (LT:=kB) (NT:=kC) rfl fun n0=>?_
   generalize hKK:aO (fun v o=>(v = .tup [.own 0, .imm eW r.2]∧o=[.typed eW r.1 false])∨v = .tup [.imm eW r.1, .imm eW r.2]∨(r.1=[]∧v = .tup [.nils, .imm eW r.2]))=K
   have hA:∀ id H,aF H id = .typed eW r.1 false→K (.tup [.own id, .imm eW r.2]) H:=fun id H ho=>by
    rw [← hKK]
    exact ⟨.tup [.own 0, .imm eW r.2],[.typed eW r.1 false],Or.inl ⟨rfl,rfl⟩,rfl,rfl,[id],rfl,by simp,fun k i h=>by
        match k,h with
        | 0,h=>cases h; exact congrArg some ho.symm,rfl⟩
   have hB:∀ H,K (.tup [.imm eW r.1, .imm eW r.2]) H:=fun H=>by
    rw [← hKK]
    exact bI (Or.inr (Or.inl rfl)) rfl rfl
   have hC:r.1=[]→∀ H,K (.tup [.nils, .imm eW r.2]) H:=fun h0 H=>by
    rw [← hKK]
    exact bI (Or.inr (Or.inr ⟨h0,rfl⟩)) rfl rfl
   clear hKK hq
   rw [aVX]
   unfold nat_N_Div.f at h
   dsimp only at h
   try simp only [bO,rd,bytesOf,gp_bytes.f,gp_make0_61.f,gp_make0_63.f,bV,Option.bind_some,decide_eq_true_eq,Bool.false_eq_true,beq_iff_eq,if_false,if_true,Int.toNat_zero] at h
   try delta strOfNums at h
   try simp only [cD,u8w,cE,cF,cG,cH,cI,cJ,cK,List.length_singleton,List.drop_zero,Nat.sub_zero,Int.toNat_natCast,List.take_length,bZ,cB]
   repeat' first | (split at h) | (rw [Option.bind_eq_some_iff] at h; obtain ⟨t,ht,h⟩:=h; try (with_reducible cases ht))
   all_goals try (with_reducible cases h)
   all_goals repeat' first | (with_reducible first | refine aC (by assumption) ?_ | refine aG (by assumption) ?_ | refine aQ (by assumption) ?_ | refine aX (by assumption) ?_ | refine aN ?_ | refine bQ ?_ | refine bS ?_ | refine bK ?_ | refine aR ?_ | refine bW (by assumption) ?_ | refine bX (by assumption) ?_ | refine aC (by omega) ?_ | refine aG (by omega) ?_ | refine bH (by omega) ?_ | refine cA (by omega) ?_ | refine b9 (by omega) ?_ | exact (aWW r hA k).1 _ _ _ (by assumption)) | (exact hC rfl _) | (exact hB _) | (with_reducible first | refine And.intro trivial ?_ | refine ⟨_,_,by assumption,?_⟩ | refine ⟨_,by assumption,?_⟩)
 · rcases hv with ⟨rfl,rfl⟩ | rfl | ⟨h0,rfl⟩
   · exact ⟨_,⟨_,rfl, .cons ⟨_,_,_,rfl,rfl⟩ (.cons rfl .nil)⟩,hq⟩
   · exact ⟨_,⟨_,rfl, .cons rfl (.cons rfl .nil)⟩,hq⟩
   · refine ⟨_,⟨_,rfl, .cons (Or.inr ⟨eW,rfl⟩) (.cons rfl .nil)⟩,?_⟩
     have:=hq
     simp only [isN,h0] at this
     exact this
theorem aDE : ∀ g xs Q,vU g xs Q→Con Tryz.prog g xs Q:=dA fun p hp=>by
 simp only [List.mem_cons,List.not_mem_nil,or_false] at hp
 rcases hp with rfl | rfl
 · exact aZ fun _ _ _ h=>aKJ h
 · exact bD fun _ _ h=>aKF h
theorem aWX {l m:List Int} {n0:Nat} {K:Res} (r:List Int) (hK:∀ H,K (.imm eW r) H):∀ (k:Nat) (x0 x1:List Int),nat_N_Gcd.l0 k x0 x1=some r→aB Tryz.prog n0 82 K (aE (fnT Tryz.f82) 1) (aC8 l m x0 x1):=by
 intro k
 induction k with
 | zero=>intro x0 x1 h; cases h
 | succ k ih =>
   intro x0 x1 h
   rw [nat_N_Gcd.l0.eq_2] at h
   refine dY (by kernel_rfl) aDE (inl:=[]) (LT:=wO) (NT:=wP) ?_
   rw [aV3]
   try simp only [bO,rd,bytesOf,gp_bytes.f,gp_make0_61.f,gp_make0_63.f,bV,Option.bind_some,decide_eq_true_eq,Bool.false_eq_true,beq_iff_eq,if_false,if_true,Int.toNat_zero] at h
   try delta strOfNums at h
   try simp only [cD,u8w,cE,cF,cG,cH,cI,cJ,cK,List.length_singleton,List.drop_zero,Nat.sub_zero,Int.toNat_natCast,List.take_length,bZ,cB]
   repeat' first | (split at h) | (rw [Option.bind_eq_some_iff] at h; obtain ⟨t,ht,h⟩:=h; try (with_reducible cases ht))
   all_goals try (with_reducible cases h)
   all_goals repeat' first | (with_reducible first | refine aC (by assumption) ?_ | refine aG (by assumption) ?_ | refine aQ (by assumption) ?_ | refine aX (by assumption) ?_ | refine aN ?_ | refine bQ ?_ | refine bS ?_ | refine bK ?_ | refine aR ?_ | refine bW (by assumption) ?_ | refine bX (by assumption) ?_ | refine aC (by omega) ?_ | refine aG (by omega) ?_ | refine bH (by omega) ?_ | refine cA (by omega) ?_ | refine b9 (by omega) ?_ | exact ih _ _ (by assumption)) | (exact hK _) | (with_reducible first | refine And.intro trivial ?_ | refine ⟨_,_,by assumption,?_⟩ | refine ⟨_,by assumption,?_⟩)
theorem aWY {l m:List Int} {Q:Res} (h:gcdN l m Q):Con Tryz.prog 82 [.imm eW l, .imm eW m] Q:=by
 obtain ⟨k,r,hf,hq⟩:=h
 refine aU (gn:=fnT Tryz.f82) (by kernel_rfl) aDE (inl:=[]) (LT:=wO) (NT:=wP) rfl fun n0=>?_
 rw [aV2]
 exact aWX (l:=l) (m:=m) r (fun H=>bI hq rfl rfl) k l m hf
theorem aWZ {l:List Int} {Q:Res} (h:aU1 l Q):Con Tryz.prog 87 [.imm eW l] Q:=by
 obtain ⟨k,r,h,hq⟩:=h
 refine aU (gn:=fnT Tryz.f87) (by kernel_rfl) aDE (inl:=[]) (LT:=aJ9) (NT:=aKA) rfl fun n0=>?_
 rw [aV6]
 unfold nat_N_Digits.f at h
 dsimp only at h
 rw [Option.bind_eq_some_iff] at h
 obtain ⟨t,ht,h⟩:=h
 cases h
 exact ⟨_,_,ht,bI hq rfl rfl⟩
end
end Go.Proofs.YtehakimmioclkaaGreatDoor.Lib
end
section
set_option linter.unusedSimpArgs false
set_option linter.unusedVariables false
namespace Go.Proofs.YtehakimmioclkaaGreatDoor.Mach
open Go Go.Proofs.YtehakimmioclkaaGreatDoor Go.Proofs.YtehakimmioclkaaGreatDoor.Lib
section
set_option maxRecDepth 1000000
def wU : List (Nat × List Nat):=[(4,[0,3])]
def wV : List (Nat × ETy):=[]
noncomputable def wW (s:ByteArray) (x0:Int):St:=aS 34 [(0,AV.str s),(3,AV.int .i64 x0)] []
theorem aW0 (s:ByteArray) (n0:Nat) (K:AV→List aA→Prop) :
 aH tab (aM tab bP [] 400) (aK wU wV (aB Tryz.prog n0 103 K)) (aI tab (fnT Tryz.f103).res K) 400 [.code (fnT Tryz.f103).body] ⟨aP (fnT Tryz.f103).n [AV.str s],[]⟩ =
 (bif decide ((↑s.size:Int)=0) then K (AV.int .i64 5) [] else aB Tryz.prog n0 103 K (aE (fnT Tryz.f103) 4) (wW s 0)):=by kernel_rfl
theorem aW1 (s:ByteArray) (x0:Int) (n0:Nat) (K:AV→List aA→Prop) :
 aH tab (aM tab bP [] 400) (aK wU wV (aB Tryz.prog n0 103 K)) (aI tab (fnT Tryz.f103).res K) 400 (aT (fnT Tryz.f103) 4) (wW s x0) =
 (bif decide (x0<(↑s.size:Int)) then bif decide (0≤x0) && decide (x0<(↑s.size:Int)) then bif decide ((↑(s.data.toList.getD x0.toNat 0).toNat:Int)<48) then K (AV.int .i64 5) [] else bif decide (0≤x0) && decide (x0<(↑s.size:Int)) then bif bif false then true else decide ((↑(s.data.toList.getD x0.toNat 0).toNat:Int) > 57) then K (AV.int .i64 5) [] else aB Tryz.prog n0 103 K (aE (fnT Tryz.f103) 4) (wW s (IntKind.i64.wrap (x0+1))) else False else False else bif decide ((↑s.size:Int) > 1) then bif decide (0<(↑s.size:Int)) then bif bif true then decide ((↑(s.data.toList.getD 0 0).toNat:Int)=48) else false then K (AV.int .i64 5) [] else bif decide ((↑s.size:Int) > 2000) then K (AV.int .i64 2) [] else K (AV.int .i64 0) [] else False else bif decide ((↑s.size:Int) > 2000) then K (AV.int .i64 2) [] else K (AV.int .i64 0) []):=by kernel_rfl
def wX : List (Nat × List Nat):=[(1,[0])]
def wY : List (Nat × ETy):=[]
noncomputable def aW2 (s:ByteArray):St:=aS 14 [(0,AV.str s)] []
noncomputable def aDF (s x0:ByteArray):St:=aS 14 [(0,AV.str x0)] []
theorem aW3 (s:ByteArray) (n0:Nat) (K:AV→List aA→Prop) :
 aH tab (aM tab bP [] 400) (aK wX wY (aB Tryz.prog n0 85 K)) (aI tab (fnT Tryz.f85).res K) 400 [.code (fnT Tryz.f85).body] ⟨aP (fnT Tryz.f85).n [AV.str s],[]⟩ =
 (aB Tryz.prog n0 85 K (aE (fnT Tryz.f85) 1) (aW2 s)):=by kernel_rfl
theorem aW4 (s x0:ByteArray) (n0:Nat) (K:AV→List aA→Prop) :
 aH tab (aM tab bP [] 400) (aK wX wY (aB Tryz.prog n0 85 K)) (aI tab (fnT Tryz.f85).res K) 400 (aT (fnT Tryz.f85) 1) (aDF s x0) =
 (bif decide ((↑x0.size:Int) > 1) then bif decide (0<(↑x0.size:Int)) then bif bif true then decide ((↑(x0.data.toList.getD 0 0).toNat:Int)=48) else false then bif decide (1≤(↑x0.size:Int)) && decide ((↑x0.size:Int)≤(↑x0.size:Int)) then aB Tryz.prog n0 85 K (aE (fnT Tryz.f85) 1) (aDF s (x0.extract 1 (↑x0.size:Int).toNat)) else False else K (AV.str x0) [] else False else K (AV.str x0) []):=by kernel_rfl
def aKK : List (Nat × List Nat):=[]
def aKL : List (Nat × ETy):=[]
theorem aW5 (s:ByteArray) (k:Int) (n0:Nat) (K:AV→List aA→Prop) :
 aH tab (aM tab bP [] 400) (aK aKK aKL (aB Tryz.prog n0 69 K)) (aI tab (fnT Tryz.f69).res K) 400 [.code (fnT Tryz.f69).body] ⟨aP (fnT Tryz.f69).n [AV.str s,AV.int .i64 k],[]⟩ =
 (bif decide (k<(↑s.size:Int)) then bif decide (0≤IntKind.i64.wrap (IntKind.i64.wrap ((↑s.size:Int) - 1) - k)) && decide (IntKind.i64.wrap (IntKind.i64.wrap ((↑s.size:Int) - 1) - k)<(↑s.size:Int)) then K (AV.int .i64 (IntKind.i64.wrap (IntKind.u8.wrap ((↑(s.data.toList.getD (IntKind.i64.wrap (IntKind.i64.wrap ((↑s.size:Int) - 1) - k)).toNat 0).toNat:Int) - 48)))) [] else False else K (AV.int .i64 0) []):=by kernel_rfl
def wZ : List (Nat × List Nat):=[(3,[0,3,9,10,11])]
def w4 : List (Nat × ETy):=[(3,ETy.one (CTy.int IntKind.u8)),(9,eI)]
noncomputable def w5 (l:List Int) (x0 x1:Int) (x2:List Int):St:=aS 31 [(0,AV.imm eI l),(3,AV.own 0),(9,AV.imm eI l),(10,AV.int .i64 x0),(11,AV.int .i64 x1)] [aA.typed (ETy.one (CTy.int IntKind.u8)) x2 false]
theorem aW6 (l:List Int) (n0:Nat) (K:AV→List aA→Prop) :
 aH tab (aM tab aC4 [] 400) (aK wZ w4 (aB Tryz.prog n0 70 K)) (aI tab (fnT Tryz.f70).res K) 400 [.code (fnT Tryz.f70).body] ⟨aP (fnT Tryz.f70).n [AV.imm eI l],[]⟩ =
 (bif decide (0≤(↑l.length:Int)) && decide ((↑l.length:Int)≤(↑l.length:Int)) && bif (↑l.length:Int).toNat.ble 9223372036854775807 then ((↑l.length:Int).toNat * 1).ble 281474976710656 else false then aB Tryz.prog n0 70 K (aE (fnT Tryz.f70) 3) (w5 l (↑l.length:Int) 0 (List.replicate (↑l.length:Int).toNat 0)) else False):=by kernel_rfl
theorem aW7 (l:List Int) (x0 x1:Int) (x2:List Int) (n0:Nat) (K:AV→List aA→Prop) :
 aH tab (aM tab aC4 [] 400) (aK wZ w4 (aB Tryz.prog n0 70 K)) (aI tab (fnT Tryz.f70).res K) 400 (aT (fnT Tryz.f70) 3) (w5 l x0 x1 x2) =
 (bif decide (x1<x0) then bif decide (0≤x1) && decide (x1<(↑l.length:Int)) then bif decide (0≤IntKind.i64.wrap (IntKind.i64.wrap ((↑l.length:Int) - 1) - x1)) && decide (IntKind.i64.wrap (IntKind.i64.wrap ((↑l.length:Int) - 1) - x1)<(↑x2.length:Int)) then aB Tryz.prog n0 70 K (aE (fnT Tryz.f70) 3) (w5 l x0 (IntKind.i64.wrap (x1+1)) (x2.set (IntKind.i64.wrap (IntKind.i64.wrap ((↑l.length:Int) - 1) - x1)).toNat (IntKind.u8.wrap (IntKind.i64.wrap (48+l.getD x1.toNat 0))))) else False else False else bif decide (1+(ByteArray.mk (List.map (fun n=>UInt8.ofNat n.toNat) x2).toArray).size≤9223372036854775807) then ∃ k r,ND.gamehallref2_strip.f k (ByteArray.mk #[48] ++ ByteArray.mk (List.map (fun n=>UInt8.ofNat n.toNat) x2).toArray)=some r∧K (AV.str r) [aA.typed (ETy.one (CTy.int IntKind.u8)) x2 false] else False):=by kernel_rfl
def w6 : List (Nat × List Nat):=[(4,[0,1,5,6,7])]
def w7 : List (Nat × ETy):=[(5,eI)]
noncomputable def oB (a b:ByteArray) (x0 x1:Int) (x2:List Int):St:=aS 43 [(0,AV.str a),(1,AV.str b),(5,AV.own 0),(6,AV.int .i64 x0),(7,AV.int .i64 x1)] [aA.typed eI x2 false]
theorem aW8 (a b:ByteArray) (n0:Nat) (K:AV→List aA→Prop) :
 aH tab (aM tab jQ [] 400) (aK w6 w7 (aB Tryz.prog n0 40 K)) (aI tab (fnT Tryz.f40).res K) 400 [.code (fnT Tryz.f40).body] ⟨aP (fnT Tryz.f40).n [AV.str a,AV.str b],[]⟩ =
 (aB Tryz.prog n0 40 K (aE (fnT Tryz.f40) 4) (oB a b 0 0 [])):=by kernel_rfl
theorem aW9 (a b:ByteArray) (x0 x1:Int) (x2:List Int) (n0:Nat) (K:AV→List aA→Prop) :
 aH tab (aM tab jQ [] 400) (aK w6 w7 (aB Tryz.prog n0 40 K)) (aI tab (fnT Tryz.f40).res K) 400 (aT (fnT Tryz.f40) 4) (oB a b x0 x1 x2) =
 (bif decide (x1<(↑a.size:Int)) then ∃ r,ND.gamehallref2_digit.f a x1=some r∧∃ r_1,ND.gamehallref2_digit.f b x1=some r_1∧bif bif (x2.length+[(IntKind.i64.wrap (IntKind.i64.wrap (r+r_1)+x0)).tmod 10].length).ble 9223372036854775807 then ((x2.length+[(IntKind.i64.wrap (IntKind.i64.wrap (r+r_1)+x0)).tmod 10].length) * 8).ble 140737488355328 else false then aB Tryz.prog n0 40 K (aE (fnT Tryz.f40) 4) (oB a b (IntKind.i64.wrap ((IntKind.i64.wrap (IntKind.i64.wrap (r+r_1)+x0)).tdiv 10)) (IntKind.i64.wrap (x1+1)) (x2 ++ [(IntKind.i64.wrap (IntKind.i64.wrap (r+r_1)+x0)).tmod 10])) else False else bif bif false then true else decide (x1<(↑b.size:Int)) then ∃ r,ND.gamehallref2_digit.f a x1=some r∧∃ r_1,ND.gamehallref2_digit.f b x1=some r_1∧bif bif (x2.length+[(IntKind.i64.wrap (IntKind.i64.wrap (r+r_1)+x0)).tmod 10].length).ble 9223372036854775807 then ((x2.length+[(IntKind.i64.wrap (IntKind.i64.wrap (r+r_1)+x0)).tmod 10].length) * 8).ble 140737488355328 else false then aB Tryz.prog n0 40 K (aE (fnT Tryz.f40) 4) (oB a b (IntKind.i64.wrap ((IntKind.i64.wrap (IntKind.i64.wrap (r+r_1)+x0)).tdiv 10)) (IntKind.i64.wrap (x1+1)) (x2 ++ [(IntKind.i64.wrap (IntKind.i64.wrap (r+r_1)+x0)).tmod 10])) else False else bif bif false then true else decide (x0 > 0) then ∃ r,ND.gamehallref2_digit.f a x1=some r∧∃ r_1,ND.gamehallref2_digit.f b x1=some r_1∧bif bif (x2.length+[(IntKind.i64.wrap (IntKind.i64.wrap (r+r_1)+x0)).tmod 10].length).ble 9223372036854775807 then ((x2.length+[(IntKind.i64.wrap (IntKind.i64.wrap (r+r_1)+x0)).tmod 10].length) * 8).ble 140737488355328 else false then aB Tryz.prog n0 40 K (aE (fnT Tryz.f40) 4) (oB a b (IntKind.i64.wrap ((IntKind.i64.wrap (IntKind.i64.wrap (r+r_1)+x0)).tdiv 10)) (IntKind.i64.wrap (x1+1)) (x2 ++ [(IntKind.i64.wrap (IntKind.i64.wrap (r+r_1)+x0)).tmod 10])) else False else ∃ k r,ND.gamehallref2_text.f k x2=some r∧K (AV.str r) [aA.typed eI x2 false]):=by kernel_rfl
def w8 : List (Nat × List Nat):=[(4,[0,1,5,6,10,11])]
def w9 : List (Nat × ETy):=[(5,eI)]
noncomputable def rR (a b:ByteArray) (x0 x1 x2:Int) (x3:List Int):St:=aS 34 [(0,AV.str a),(1,AV.str b),(5,AV.own 0),(6,AV.int .i64 x0),(10,AV.int .i64 x1),(11,AV.int .i64 x2)] [aA.typed eI x3 false]
theorem aXA (a b:ByteArray) (n0:Nat) (K:AV→List aA→Prop) :
 aH tab (aM tab jQ [] 400) (aK w8 w9 (aB Tryz.prog n0 42 K)) (aI tab (fnT Tryz.f42).res K) 400 [.code (fnT Tryz.f42).body] ⟨aP (fnT Tryz.f42).n [AV.str a,AV.str b],[]⟩ =
 (aB Tryz.prog n0 42 K (aE (fnT Tryz.f42) 4) (rR a b 0 (↑a.size:Int) 0 [])):=by kernel_rfl
theorem aXB (a b:ByteArray) (x0 x1 x2:Int) (x3:List Int) (n0:Nat) (K:AV→List aA→Prop) :
 aH tab (aM tab jQ [] 400) (aK w8 w9 (aB Tryz.prog n0 42 K)) (aI tab (fnT Tryz.f42).res K) 400 (aT (fnT Tryz.f42) 4) (rR a b x0 x1 x2 x3) =
 (bif decide (x2<x1) then ∃ r,ND.gamehallref2_digit.f a x2=some r∧∃ r_1,ND.gamehallref2_digit.f b x2=some r_1∧bif decide (IntKind.i64.wrap (IntKind.i64.wrap (r - r_1) - x0)<0) then bif bif (x3.length+[IntKind.i64.wrap (IntKind.i64.wrap (IntKind.i64.wrap (r - r_1) - x0)+10)].length).ble 9223372036854775807 then ((x3.length+[IntKind.i64.wrap (IntKind.i64.wrap (IntKind.i64.wrap (r - r_1) - x0)+10)].length) * 8).ble 140737488355328 else false then aB Tryz.prog n0 42 K (aE (fnT Tryz.f42) 4) (rR a b 1 x1 (IntKind.i64.wrap (x2+1)) (x3 ++ [IntKind.i64.wrap (IntKind.i64.wrap (IntKind.i64.wrap (r - r_1) - x0)+10)])) else False else bif bif (x3.length+[IntKind.i64.wrap (IntKind.i64.wrap (r - r_1) - x0)].length).ble 9223372036854775807 then ((x3.length+[IntKind.i64.wrap (IntKind.i64.wrap (r - r_1) - x0)].length) * 8).ble 140737488355328 else false then aB Tryz.prog n0 42 K (aE (fnT Tryz.f42) 4) (rR a b 0 x1 (IntKind.i64.wrap (x2+1)) (x3 ++ [IntKind.i64.wrap (IntKind.i64.wrap (r - r_1) - x0)])) else False else ∃ k r,ND.gamehallref2_text.f k x3=some r∧K (AV.str r) [aA.typed eI x3 false]):=by kernel_rfl
def kD : List (Nat × List Nat):=[(3,[0,1,5,18,19]),(7,[0,1,5,6,7,18,19,26,27]),(12,[0,1,5,18,19,49,50])]
def kE : List (Nat × ETy):=[(5,eI)]
noncomputable def xA (a b:ByteArray) (x0 x1:Int) (x2:List Int):St:=aS 80 [(0,AV.str a),(1,AV.str b),(5,AV.own 0),(18,AV.int .i64 x0),(19,AV.int .i64 x1)] [aA.typed eI x2 false]
noncomputable def xB (a b:ByteArray) (x0 x1 x2 x3 x4 x5:Int) (x6:List Int):St:=aS 80 [(0,AV.str a),(1,AV.str b),(5,AV.own 0),(6,AV.int .i64 x0),(7,AV.int .i64 x1),(18,AV.int .i64 x2),(19,AV.int .i64 x3),(26,AV.int .i64 x4),(27,AV.int .i64 x5)] [aA.typed eI x6 false]
noncomputable def rS (a b:ByteArray) (x0 x1 x2 x3:Int) (x4:List Int):St:=aS 80 [(0,AV.str a),(1,AV.str b),(5,AV.own 0),(18,AV.int .i64 x0),(19,AV.int .i64 x1),(49,AV.int .i64 x2),(50,AV.int .i64 x3)] [aA.typed eI x4 false]
theorem aXC (a b:ByteArray) (n0:Nat) (K:AV→List aA→Prop) :
 aH tab (aM tab jQ [] 400) (aK kD kE (aB Tryz.prog n0 38 K)) (aI tab (fnT Tryz.f38).res K) 400 [.code (fnT Tryz.f38).body] ⟨aP (fnT Tryz.f38).n [AV.str a,AV.str b],[]⟩ =
 (bif decide (0≤IntKind.i64.wrap (IntKind.i64.wrap ((↑a.size:Int)+(↑b.size:Int))+1)) && decide (IntKind.i64.wrap (IntKind.i64.wrap ((↑a.size:Int)+(↑b.size:Int))+1)≤IntKind.i64.wrap (IntKind.i64.wrap ((↑a.size:Int)+(↑b.size:Int))+1)) && bif (IntKind.i64.wrap (IntKind.i64.wrap ((↑a.size:Int)+(↑b.size:Int))+1)).toNat.ble 9223372036854775807 then ((IntKind.i64.wrap (IntKind.i64.wrap ((↑a.size:Int)+(↑b.size:Int))+1)).toNat * 8).ble 281474976710656 else false then aB Tryz.prog n0 38 K (aE (fnT Tryz.f38) 3) (xA a b (↑a.size:Int) 0 (List.replicate (IntKind.i64.wrap (IntKind.i64.wrap ((↑a.size:Int)+(↑b.size:Int))+1)).toNat 0)) else False):=by kernel_rfl
theorem aXD (a b:ByteArray) (x0 x1:Int) (x2:List Int) (n0:Nat) (K:AV→List aA→Prop) :
 aH tab (aM tab jQ [] 400) (aK kD kE (aB Tryz.prog n0 38 K)) (aI tab (fnT Tryz.f38).res K) 400 (aT (fnT Tryz.f38) 3) (xA a b x0 x1 x2) =
 (bif decide (x1<x0) then ∃ r,ND.gamehallref2_digit.f a x1=some r∧aB Tryz.prog n0 38 K (aE (fnT Tryz.f38) 7) (xB a b x1 r x0 x1 (↑b.size:Int) 0 x2) else ∃ k r,ND.gamehallref2_text.f k x2=some r∧K (AV.str r) [aA.typed eI x2 false]):=by kernel_rfl
theorem aXE (a b:ByteArray) (x0 x1 x2 x3 x4 x5:Int) (x6:List Int) (n0:Nat) (K:AV→List aA→Prop) :
 aH tab (aM tab jQ [] 400) (aK kD kE (aB Tryz.prog n0 38 K)) (aI tab (fnT Tryz.f38).res K) 400 (aT (fnT Tryz.f38) 7) (xB a b x0 x1 x2 x3 x4 x5 x6) =
 (bif decide (x5<x4) then bif decide (0≤IntKind.i64.wrap (x0+x5)) && decide (IntKind.i64.wrap (x0+x5)<(↑x6.length:Int)) then ∃ r,ND.gamehallref2_digit.f b x5=some r∧bif decide (0≤IntKind.i64.wrap (x0+x5)) && decide (IntKind.i64.wrap (x0+x5)<(↑x6.length:Int)) then aB Tryz.prog n0 38 K (aE (fnT Tryz.f38) 7) (xB a b x0 x1 x2 x3 x4 (IntKind.i64.wrap (x5+1)) (x6.set (IntKind.i64.wrap (x0+x5)).toNat (IntKind.i64.wrap (x6.getD (IntKind.i64.wrap (x0+x5)).toNat 0+IntKind.i64.wrap (x1 * r))))) else False else False else bif decide (0≤IntKind.i64.wrap ((↑x6.length:Int) - 1)) && decide (IntKind.i64.wrap ((↑x6.length:Int) - 1)≤(↑x6.length:Int)) then aB Tryz.prog n0 38 K (aE (fnT Tryz.f38) 12) (rS a b x2 x3 (↑((IntKind.i64.wrap ((↑x6.length:Int) - 1)).toNat - 0):Int) 0 x6) else False):=by kernel_rfl
theorem aXF (a b:ByteArray) (x0 x1 x2 x3:Int) (x4:List Int) (n0:Nat) (K:AV→List aA→Prop) :
 aH tab (aM tab jQ [] 400) (aK kD kE (aB Tryz.prog n0 38 K)) (aI tab (fnT Tryz.f38).res K) 400 (aT (fnT Tryz.f38) 12) (rS a b x0 x1 x2 x3 x4) =
 (bif decide (x3<x2) then bif decide (0≤x3) && decide (x3<(↑x4.length:Int)) then bif decide (x4.getD x3.toNat 0 > 9) then bif decide (0≤IntKind.i64.wrap (x3+1)) && decide (IntKind.i64.wrap (x3+1)<(↑x4.length:Int)) then bif decide (0≤x3) && decide (x3<(↑x4.length:Int)) then bif decide (0≤IntKind.i64.wrap (x3+1)) && decide (IntKind.i64.wrap (x3+1)<(↑x4.length:Int)) then bif decide (0≤x3) && decide (x3<(↑(x4.set (IntKind.i64.wrap (x3+1)).toNat (IntKind.i64.wrap (x4.getD (IntKind.i64.wrap (x3+1)).toNat 0+IntKind.i64.wrap (Int.tdiv (x4.getD x3.toNat 0) 10)))).length:Int)) then bif decide (0≤x3) && decide (x3<(↑(x4.set (IntKind.i64.wrap (x3+1)).toNat (IntKind.i64.wrap (x4.getD (IntKind.i64.wrap (x3+1)).toNat 0+IntKind.i64.wrap (Int.tdiv (x4.getD x3.toNat 0) 10)))).length:Int)) then aB Tryz.prog n0 38 K (aE (fnT Tryz.f38) 12) (rS a b x0 x1 x2 (IntKind.i64.wrap (x3+1)) ((x4.set (IntKind.i64.wrap (x3+1)).toNat (IntKind.i64.wrap (x4.getD (IntKind.i64.wrap (x3+1)).toNat 0+IntKind.i64.wrap (Int.tdiv (x4.getD x3.toNat 0) 10)))).set x3.toNat (Int.tmod ((x4.set (IntKind.i64.wrap (x3+1)).toNat (IntKind.i64.wrap (x4.getD (IntKind.i64.wrap (x3+1)).toNat 0+IntKind.i64.wrap (Int.tdiv (x4.getD x3.toNat 0) 10)))).getD x3.toNat 0) 10))) else False else False else False else False else False else aB Tryz.prog n0 38 K (aE (fnT Tryz.f38) 12) (rS a b x0 x1 x2 (IntKind.i64.wrap (x3+1)) x4) else False else aB Tryz.prog n0 38 K (aE (fnT Tryz.f38) 3) (xA a b x0 (IntKind.i64.wrap (x1+1)) x4)):=by kernel_rfl
def oC : List (Nat × List Nat):=[(4,[0,1,7,8,9]),(8,[0,1,7,8,9,10])]
def oD : List (Nat × ETy):=[]
noncomputable def xC (a b x0 x1:ByteArray) (x2:Int):St:=aS 55 [(0,AV.str a),(1,AV.str b),(7,AV.str x0),(8,AV.str x1),(9,AV.int .i64 x2)] []
noncomputable def xD (a b x0 x1:ByteArray) (x2 x3:Int):St:=aS 55 [(0,AV.str a),(1,AV.str b),(7,AV.str x0),(8,AV.str x1),(9,AV.int .i64 x2),(10,AV.int IntKind.u8 x3)] []
theorem aXG (a b:ByteArray) (n0:Nat) (K:AV→List aA→Prop) :
 aH tab (aM tab vV [] 400) (aK oC oD (aB Tryz.prog n0 72 K)) (aI tab (fnT Tryz.f72).res K) 400 [.code (fnT Tryz.f72).body] ⟨aP (fnT Tryz.f72).n [AV.str a,AV.str b],[]⟩ =
 (bif decide (0≤if (if IntKind.i64.wrap ((↑b.size:Int) - 1)<(↑a.size:Int) then IntKind.i64.wrap ((↑b.size:Int) - 1) else (↑a.size:Int)) > 0 then if IntKind.i64.wrap ((↑b.size:Int) - 1)<(↑a.size:Int) then IntKind.i64.wrap ((↑b.size:Int) - 1) else (↑a.size:Int) else 0) && decide ((if (if IntKind.i64.wrap ((↑b.size:Int) - 1)<(↑a.size:Int) then IntKind.i64.wrap ((↑b.size:Int) - 1) else (↑a.size:Int)) > 0 then if IntKind.i64.wrap ((↑b.size:Int) - 1)<(↑a.size:Int) then IntKind.i64.wrap ((↑b.size:Int) - 1) else (↑a.size:Int) else 0)≤(↑a.size:Int)) then bif decide (1+(a.extract 0 (if (if IntKind.i64.wrap ((↑b.size:Int) - 1)<(↑a.size:Int) then IntKind.i64.wrap ((↑b.size:Int) - 1) else (↑a.size:Int)) > 0 then if IntKind.i64.wrap ((↑b.size:Int) - 1)<(↑a.size:Int) then IntKind.i64.wrap ((↑b.size:Int) - 1) else (↑a.size:Int) else 0).toNat).size≤9223372036854775807) then ∃ k r,ND.gamehallref2_strip.f k (ByteArray.mk #[48] ++ a.extract 0 (if (if IntKind.i64.wrap ((↑b.size:Int) - 1)<(↑a.size:Int) then IntKind.i64.wrap ((↑b.size:Int) - 1) else (↑a.size:Int)) > 0 then if IntKind.i64.wrap ((↑b.size:Int) - 1)<(↑a.size:Int) then IntKind.i64.wrap ((↑b.size:Int) - 1) else (↑a.size:Int) else 0).toNat)=some r∧aB Tryz.prog n0 72 K (aE (fnT Tryz.f72) 4) (xC a b (ByteArray.mk #[]) r (if (if IntKind.i64.wrap ((↑b.size:Int) - 1)<(↑a.size:Int) then IntKind.i64.wrap ((↑b.size:Int) - 1) else (↑a.size:Int)) > 0 then if IntKind.i64.wrap ((↑b.size:Int) - 1)<(↑a.size:Int) then IntKind.i64.wrap ((↑b.size:Int) - 1) else (↑a.size:Int) else 0)) else False else False):=by kernel_rfl
theorem aXH (a b x0 x1:ByteArray) (x2:Int) (n0:Nat) (K:AV→List aA→Prop) :
 aH tab (aM tab vV [] 400) (aK oC oD (aB Tryz.prog n0 72 K)) (aI tab (fnT Tryz.f72).res K) 400 (aT (fnT Tryz.f72) 4) (xC a b x0 x1 x2) =
 (bif decide (x2<(↑a.size:Int)) then bif decide (0≤x2) && decide (x2≤IntKind.i64.wrap (x2+1)) && decide (IntKind.i64.wrap (x2+1)≤(↑a.size:Int)) then bif decide (x1.size+(a.extract x2.toNat (IntKind.i64.wrap (x2+1)).toNat).size≤9223372036854775807) then ∃ k r,ND.gamehallref2_strip.f k (x1 ++ a.extract x2.toNat (IntKind.i64.wrap (x2+1)).toNat)=some r∧aB Tryz.prog n0 72 K (aE (fnT Tryz.f72) 8) (xD a b x0 r x2 48) else False else False else bif decide (1+x0.size≤9223372036854775807) then ∃ k r,ND.gamehallref2_strip.f k (ByteArray.mk #[48] ++ x0)=some r∧K (AV.tup [AV.str r,AV.str x1]) [] else False):=by kernel_rfl
theorem aXI (a b x0 x1:ByteArray) (x2 x3:Int) (n0:Nat) (K:AV→List aA→Prop) :
 aH tab (aM tab vV [] 400) (aK oC oD (aB Tryz.prog n0 72 K)) (aI tab (fnT Tryz.f72).res K) 400 (aT (fnT Tryz.f72) 8) (xD a b x0 x1 x2 x3) =
 (∃ r,ND.gamehallref2_NatCmp.f x1 b=some r∧bif decide (r ≥ 0) then ∃ k r,ND.gamehallref2_NatSub.f k x1 b=some r∧aB Tryz.prog n0 72 K (aE (fnT Tryz.f72) 8) (xD a b x0 r x2 (IntKind.u8.wrap (x3+1))) else bif decide (x0.size+(Utf8.encode x3).size≤9223372036854775807) then aB Tryz.prog n0 72 K (aE (fnT Tryz.f72) 4) (xC a b (x0 ++ Utf8.encode x3) x1 (IntKind.i64.wrap (x2+1))) else False):=by kernel_rfl
def xE : List (Nat × List Nat):=[(1,[0,1])]
def xF : List (Nat × ETy):=[]
noncomputable def aXJ (a b:ByteArray):St:=aS 18 [(0,AV.str a),(1,AV.str b)] []
noncomputable def aDG (a b x0 x1:ByteArray):St:=aS 18 [(0,AV.str x0),(1,AV.str x1)] []
theorem aXK (a b:ByteArray) (n0:Nat) (K:AV→List aA→Prop) :
 aH tab (aM tab aC5 [] 400) (aK xE xF (aB Tryz.prog n0 71 K)) (aI tab (fnT Tryz.f71).res K) 400 [.code (fnT Tryz.f71).body] ⟨aP (fnT Tryz.f71).n [AV.str a,AV.str b],[]⟩ =
 (aB Tryz.prog n0 71 K (aE (fnT Tryz.f71) 1) (aXJ a b)):=by kernel_rfl
theorem aXL (a b x0 x1:ByteArray) (n0:Nat) (K:AV→List aA→Prop) :
 aH tab (aM tab aC5 [] 400) (aK xE xF (aB Tryz.prog n0 71 K)) (aI tab (fnT Tryz.f71).res K) 400 (aT (fnT Tryz.f71) 1) (aDG a b x0 x1) =
 (bif !x1.toList == (ByteArray.mk #[48]).toList then ∃ k r,ND.gamehallref2_NatDiv.f k x0 x1=some r∧aB Tryz.prog n0 71 K (aE (fnT Tryz.f71) 1) (aDG a b x1 r.2) else K (AV.str x0) []):=by kernel_rfl
def aKM : List (Nat × List Nat):=[]
def aKN : List (Nat × ETy):=[]
theorem aXM (a b:ByteArray) (n0:Nat) (K:AV→List aA→Prop) :
 aH tab (aM tab bP [] 400) (aK aKM aKN (aB Tryz.prog n0 41 K)) (aI tab (fnT Tryz.f41).res K) 400 [.code (fnT Tryz.f41).body] ⟨aP (fnT Tryz.f41).n [AV.str a,AV.str b],[]⟩ =
 (bif decide ((↑a.size:Int)<(↑b.size:Int)) then K (AV.int .i64 (-1)) [] else bif decide ((↑a.size:Int) > (↑b.size:Int)) then K (AV.int .i64 1) [] else bif Op.bytesLess a.toList b.toList then K (AV.int .i64 (-1)) [] else bif !(Op.bytesLess a.toList b.toList || a.toList == b.toList) then K (AV.int .i64 1) [] else K (AV.int .i64 0) []):=by kernel_rfl
def xG : List (Nat × List Nat):=[(3,[0,3])]
def xH : List (Nat × ETy):=[]
noncomputable def aXN (n:Int) (x0:ByteArray):St:=aS 29 [(0,AV.int .i64 n),(3,AV.str x0)] []
noncomputable def xI (n x0:Int) (x1:ByteArray):St:=aS 29 [(0,AV.int .i64 x0),(3,AV.str x1)] []
theorem aXO (n:Int) (n0:Nat) (K:AV→List aA→Prop) :
 aH tab (aM tab bP [] 400) (aK xG xH (aB Tryz.prog n0 19 K)) (aI tab (fnT Tryz.f19).res K) 400 [.code (fnT Tryz.f19).body] ⟨aP (fnT Tryz.f19).n [AV.int .i64 n],[]⟩ =
 (bif decide (n ≥ 0) then aB Tryz.prog n0 19 K (aE (fnT Tryz.f19) 3) (aXN n (ByteArray.mk #[])) else bif decide (n = -9223372036854775808) then K (AV.str (ByteArray.mk #[45,57,50,50,51,51,55,50,48,51,54,56,53,52,55,55,53,56,48,56])) [] else False):=by kernel_rfl
theorem aXP (n x0:Int) (x1:ByteArray) (n0:Nat) (K:AV→List aA→Prop) :
 aH tab (aM tab bP [] 400) (aK xG xH (aB Tryz.prog n0 19 K)) (aI tab (fnT Tryz.f19).res K) 400 (aT (fnT Tryz.f19) 3) (xI n x0 x1) =
 (bif decide (x0 > 0) then bif decide (0≤x0.tmod 10) && decide (x0.tmod 10≤IntKind.i64.wrap (x0.tmod 10+1)) && decide (IntKind.i64.wrap (x0.tmod 10+1)≤10) then bif decide (((ByteArray.mk #[48,49,50,51,52,53,54,55,56,57]).extract (x0.tmod 10).toNat (IntKind.i64.wrap (x0.tmod 10+1)).toNat).size+x1.size≤9223372036854775807) then aB Tryz.prog n0 19 K (aE (fnT Tryz.f19) 3) (xI n (IntKind.i64.wrap (x0.tdiv 10)) ((ByteArray.mk #[48,49,50,51,52,53,54,55,56,57]).extract (x0.tmod 10).toNat (IntKind.i64.wrap (x0.tmod 10+1)).toNat ++ x1)) else False else False else bif bif false then true else x1.toList == (ByteArray.mk #[]).toList then bif decide (0≤x0.tmod 10) && decide (x0.tmod 10≤IntKind.i64.wrap (x0.tmod 10+1)) && decide (IntKind.i64.wrap (x0.tmod 10+1)≤10) then bif decide (((ByteArray.mk #[48,49,50,51,52,53,54,55,56,57]).extract (x0.tmod 10).toNat (IntKind.i64.wrap (x0.tmod 10+1)).toNat).size+x1.size≤9223372036854775807) then aB Tryz.prog n0 19 K (aE (fnT Tryz.f19) 3) (xI n (IntKind.i64.wrap (x0.tdiv 10)) ((ByteArray.mk #[48,49,50,51,52,53,54,55,56,57]).extract (x0.tmod 10).toNat (IntKind.i64.wrap (x0.tmod 10+1)).toNat ++ x1)) else False else False else K (AV.str x1) []):=by kernel_rfl
def aKO : List (Nat × List Nat):=[(3,[0,3])]
def aKP : List (Nat × ETy):=[]
noncomputable def aXQ (n:Int) (x0:ByteArray):St:=aS 29 [(0,AV.int .i64 n),(3,AV.str x0)] []
theorem aXR (n:Int) (n0:Nat) (K:AV→List aA→Prop) :
 aH tab (aM tab aJ6 [] 400) (aK aKO aKP (aB Tryz.prog n0 19 K)) (aI tab (fnT Tryz.f19).res K) 400 [.code (fnT Tryz.f19).body] ⟨aP (fnT Tryz.f19).n [AV.int .i64 n],[]⟩ =
 (bif decide (n ≥ 0) then aB Tryz.prog n0 19 K (aE (fnT Tryz.f19) 3) (aXQ n (ByteArray.mk #[])) else bif decide (n = -9223372036854775808) then K (AV.str (ByteArray.mk #[45,57,50,50,51,51,55,50,48,51,54,56,53,52,55,55,53,56,48,56])) [] else 0≤IntKind.i64.wrap (0 - n)∧∃ k r,ND.gamehallref2_RatInt.f k (IntKind.i64.wrap (0 - n))=some r∧bif decide (1+r.size≤9223372036854775807) then K (AV.str (ByteArray.mk #[45] ++ r)) [] else False):=by kernel_rfl
end
end Go.Proofs.YtehakimmioclkaaGreatDoor.Mach
end
section
set_option linter.unusedSimpArgs false
set_option linter.unusedVariables false
namespace Go.Proofs.YtehakimmioclkaaGreatDoor.Lib
open Go Go.Proofs.YtehakimmioclkaaGreatDoor.Mach Go.Proofs.YtehakimmioclkaaGreatDoor.ND Go.Proofs.YtehakimmioclkaaGreatDoorW.PrintWords Go.RowKit
section
theorem aDH {x:List Int} {n:Nat} (h:n≤x.length):((List.take n x).length:Int)=(n:Int):=by rw [List.length_take,Nat.min_eq_left h]
theorem aXS {s:ByteArray} {n0:Nat} {K:Res} (r:ByteArray) (hK:∀ H,K (.str r) H):∀ k:Nat,
 (∀ (x0:ByteArray),gamehallref2_strip.l0 k x0=some r→aB Tryz.prog n0 85 K (aE (fnT Tryz.f85) 1) (aDF s x0)):=by
 intro k
 induction k using Nat.strongRecOn with
 | _ k ih =>
   intro x0 h
   rcases k with _ | k
   · cases h
   have ih0:=ih k (by omega)
   rw [gamehallref2_strip.l0.eq_2] at h
   refine dY (by kernel_rfl) bR (inl:=[]) (LT:=wX) (NT:=wY) ?_
   rw [aW4]
   try simp only [bO,rd,bytesOf,gp_bytes.f,gp_make0_61.f,gp_make0_63.f,bV,Option.bind_some,decide_eq_true_eq,Bool.false_eq_true,beq_iff_eq,if_false,if_true,Int.toNat_zero] at h
   try delta strOfNums at h
   try simp only [cD,u8w,cE,cF,cG,cH,cI,cJ,cK,List.length_singleton,List.drop_zero,Nat.sub_zero,Int.toNat_natCast,List.take_length,bZ,cB]
   repeat' first | (split at h) | (rw [Option.bind_eq_some_iff] at h; obtain ⟨t,ht,h⟩:=h; try (with_reducible cases ht))
   all_goals try (with_reducible cases h)
   all_goals repeat' first | (with_reducible first | refine aC (by assumption) ?_ | refine aG (by assumption) ?_ | refine aQ (by assumption) ?_ | refine aX (by assumption) ?_ | refine aN ?_ | refine bQ ?_ | refine bS ?_ | refine bK ?_ | refine aR ?_ | refine bW (by assumption) ?_ | refine bX (by assumption) ?_ | refine aC (by omega) ?_ | refine aG (by omega) ?_ | refine bH (by omega) ?_ | refine cA (by omega) ?_ | refine b9 (by omega) ?_ | exact ih0 _ (by assumption) | exact hK _ | refine And.intro trivial ?_ | refine ⟨_,_,by assumption,?_⟩ | refine ⟨_,by assumption,?_⟩)
theorem aKQ {s:ByteArray} {Q:Res} (h:aC3 s Q):Con Tryz.prog 85 [.str s] Q:=by
 obtain ⟨k,r,hf,hq⟩:=h
 refine aU (gn:=fnT Tryz.f85) (by kernel_rfl) bR (inl:=[]) (LT:=wX) (NT:=wY) rfl fun n0=>?_
 rw [aW3]
 exact aXS (s:=s) r (fun H=>bI hq rfl rfl) k s hf
theorem aKR : ∀ g xs Q,aC4 g xs Q→Con Tryz.prog g xs Q:=dA fun p hp=>by
 simp only [List.mem_cons,List.not_mem_nil,or_false] at hp
 subst hp
 exact bD fun _ _ h=>aKQ h
theorem aXT {s:ByteArray} {n:Int} {Q:Res} (h:aJ3 s n Q):Con Tryz.prog 69 [.str s, .int .i64 n] Q:=by
 obtain ⟨r,h,hq⟩:=h
 have hK:∀ H,aO Q (.int .i64 r) H:=fun H=>bI hq rfl rfl
 refine aU (gn:=fnT Tryz.f69) (by kernel_rfl) bR (inl:=[]) (LT:=aKK) (NT:=aKL) rfl fun n0=>?_
 unfold gamehallref2_digit.f at h
 rw [aW5]
 try simp only [bO,rd,bytesOf,gp_bytes.f,gp_make0_61.f,gp_make0_63.f,bV,Option.bind_some,decide_eq_true_eq,Bool.false_eq_true,beq_iff_eq,if_false,if_true,Int.toNat_zero] at h
 try delta strOfNums at h
 try simp only [cD,u8w,cE,cF,cG,cH,cI,cJ,cK,List.length_singleton,List.drop_zero,Nat.sub_zero,Int.toNat_natCast,List.take_length,bZ,cB]
 repeat' first | (split at h) | (rw [Option.bind_eq_some_iff] at h; obtain ⟨t,ht,h⟩:=h; try (with_reducible cases ht))
 all_goals try (with_reducible cases h)
 all_goals repeat' first | (with_reducible first | refine aC (by assumption) ?_ | refine aG (by assumption) ?_ | refine aQ (by assumption) ?_ | refine aX (by assumption) ?_ | refine aN ?_ | refine bQ ?_ | refine bS ?_ | refine bK ?_ | refine aR ?_ | refine bW (by assumption) ?_ | refine bX (by assumption) ?_ | refine aC (by omega) ?_ | refine aG (by omega) ?_ | refine bH (by omega) ?_ | refine cA (by omega) ?_ | refine b9 (by omega) ?_ | exact hK _ | refine And.intro trivial ?_ | refine ⟨_,_,by assumption,?_⟩ | refine ⟨_,by assumption,?_⟩)
theorem aKS {a b:ByteArray} {Q:Res} (h:aJ2 a b Q):Con Tryz.prog 41 [.str a, .str b] Q:=by
 obtain ⟨r,h,hq⟩:=h
 have hK:∀ H,aO Q (.int .i64 r) H:=fun H=>bI hq rfl rfl
 refine aU (gn:=fnT Tryz.f41) (by kernel_rfl) bR (inl:=[]) (LT:=aKM) (NT:=aKN) rfl fun n0=>?_
 unfold gamehallref2_NatCmp.f at h
 rw [aXM]
 repeat' (split at h)
 all_goals try (with_reducible cases h)
 all_goals repeat' first | (with_reducible first | refine aC (by assumption) ?_ | refine aG (by assumption) ?_ | refine aQ (by assumption) ?_ | refine aX (by assumption) ?_ | refine aN ?_ | refine bQ ?_ | refine bS ?_ | refine bK ?_ | refine aR ?_ | refine bW (by assumption) ?_ | refine bX (by assumption) ?_ | refine aC (by omega) ?_ | refine aG (by omega) ?_ | refine bH (by omega) ?_ | refine cA (by omega) ?_ | refine b9 (by omega) ?_ | exact hK _ | refine And.intro trivial ?_ | refine ⟨_,_,by assumption,?_⟩ | refine ⟨_,by assumption,?_⟩)
theorem aXU {l:List Int} {n0:Nat} {K:Res} (r:ByteArray) (hK:∀ H,K (.str r) H):∀ k:Nat,
 (∀ (x3:List Int) (x10 x11:Int),gamehallref2_text.l0 k l x3 l x10 x11=some r→aB Tryz.prog n0 70 K (aE (fnT Tryz.f70) 3) (w5 l x10 x11 x3)):=by
 intro k
 induction k using Nat.strongRecOn with
 | _ k ih =>
   intro x3 x10 x11 h
   rcases k with _ | k
   · cases h
   have ih0:=ih k (by omega)
   rw [gamehallref2_text.l0.eq_2] at h
   refine dY (by kernel_rfl) aKR (inl:=[]) (LT:=wZ) (NT:=w4) ?_
   rw [aW7]
   try simp only [bO,rd,bytesOf,gp_bytes.f,gp_make0_61.f,gp_make0_63.f,bV,Option.bind_some,decide_eq_true_eq,Bool.false_eq_true,beq_iff_eq,if_false,if_true,Int.toNat_zero] at h
   try delta strOfNums at h
   try simp only [cD,u8w,cE,cF,cG,cH,cI,cJ,cK,List.length_singleton,List.drop_zero,Nat.sub_zero,Int.toNat_natCast,List.take_length,bZ,cB]
   repeat' first | (split at h) | (rw [Option.bind_eq_some_iff] at h; obtain ⟨t,ht,h⟩:=h; try (with_reducible cases ht))
   all_goals try (with_reducible cases h)
   all_goals repeat' first | (with_reducible first | refine aC (by assumption) ?_ | refine aG (by assumption) ?_ | refine aQ (by assumption) ?_ | refine aX (by assumption) ?_ | refine aN ?_ | refine bQ ?_ | refine bS ?_ | refine bK ?_ | refine aR ?_ | refine bW (by assumption) ?_ | refine bX (by assumption) ?_ | refine aC (by omega) ?_ | refine aG (by omega) ?_ | refine bH (by omega) ?_ | refine cA (by omega) ?_ | refine b9 (by omega) ?_ | exact ih0 _ _ _ (by assumption) | exact hK _ | refine And.intro trivial ?_ | refine ⟨_,_,by assumption,?_⟩ | refine ⟨_,by assumption,?_⟩)
theorem aXV {l:List Int} {Q:Res} (h:aJZ l Q):Con Tryz.prog 70 [.imm eI l] Q:=by
 obtain ⟨k,r,hf,hq⟩:=h
 refine aU (gn:=fnT Tryz.f70) (by kernel_rfl) aKR (inl:=[]) (LT:=wZ) (NT:=w4) rfl fun n0=>?_
 rw [aW6]
 unfold gamehallref2_text.f at hf
 dsimp only at hf
 split at hf
 · split at hf
   · rename_i h0 h1
     refine aN (aN (aC h0 (aC (Int.le_refl _) (bK (bH (by omega) (bH (by omega) ?_))))))
     exact aXU r (fun H=>bI hq rfl rfl) k _ _ _ hf
   · cases hf
 · cases hf
theorem kF : ∀ g xs Q,jQ g xs Q→Con Tryz.prog g xs Q:=dA fun p hp=>by
 simp only [List.mem_cons,List.not_mem_nil,or_false] at hp
 rcases hp with rfl | rfl
 · exact aZ fun _ _ _ h=>aXT h
 · exact bD fun _ _ h=>aXV h
theorem aXW {a b:ByteArray} {n0:Nat} {K:Res} (r:ByteArray) (hK:∀ H,K (.str r) H):∀ (k:Nat) (x5:List Int) (x6 x7:Int),gamehallref2_NatAdd.l0 k a b x5 x6 x7=some r→aB Tryz.prog n0 40 K (aE (fnT Tryz.f40) 4) (oB a b x6 x7 x5):=by
 intro k
 induction k using Nat.strongRecOn with
 | _ k ih =>
   intro x5 x6 x7 h
   rcases k with _ | k
   · cases h
   rw [gamehallref2_NatAdd.l0.eq_2] at h
   refine dY (by kernel_rfl) kF (inl:=[]) (LT:=w6) (NT:=w7) ?_
   rw [aW9]
   try simp only [bO,rd,bytesOf,gp_bytes.f,gp_make0_61.f,gp_make0_63.f,bV,Option.bind_some,decide_eq_true_eq,Bool.false_eq_true,beq_iff_eq,if_false,if_true,Int.toNat_zero] at h
   try simp only [cD,u8w,cE,cF,cG,cH,cI,cJ,cK,List.length_singleton,List.drop_zero,Nat.sub_zero,Int.toNat_natCast,List.take_length,bZ,cB]
   repeat' first | (split at h) | (rw [Option.bind_eq_some_iff] at h; obtain ⟨t,ht,h⟩:=h; try (with_reducible cases ht))
   all_goals try (with_reducible cases h)
   all_goals rcases k with _ | k
   all_goals try (cases h; done)
   all_goals rw [gamehallref2_NatAdd.j1.eq_2] at h
   all_goals try simp only [bO,rd,bytesOf,gp_bytes.f,gp_make0_61.f,gp_make0_63.f,bV,Option.bind_some,decide_eq_true_eq,Bool.false_eq_true,beq_iff_eq,if_false,if_true,Int.toNat_zero] at h
   all_goals repeat' first | (split at h) | (rw [Option.bind_eq_some_iff] at h; obtain ⟨t,ht,h⟩:=h; try (with_reducible cases ht))
   all_goals try (with_reducible cases h)
   all_goals repeat' first | (with_reducible first | refine aC (by assumption) ?_ | refine aG (by assumption) ?_ | refine aQ (by assumption) ?_ | refine aX (by assumption) ?_ | refine aN ?_ | refine bQ ?_ | refine bS ?_ | refine bK ?_ | refine aR ?_ | refine bW (by assumption) ?_ | refine bX (by assumption) ?_ | refine aC (by omega) ?_ | refine aG (by omega) ?_ | refine bH (by omega) ?_ | refine cA (by omega) ?_ | refine b9 (by omega) ?_ | exact ih k (by omega) _ _ _ (by assumption) | exact hK _ | refine And.intro trivial ?_ | refine ⟨_,_,by assumption,?_⟩ | refine ⟨_,by assumption,?_⟩)
theorem aXX {a b:ByteArray} {Q:Res} (h:raddN a b Q):Con Tryz.prog 40 [.str a, .str b] Q:=by
 obtain ⟨k,r,hf,hq⟩:=h
 refine aU (gn:=fnT Tryz.f40) (by kernel_rfl) kF (inl:=[]) (LT:=w6) (NT:=w7) rfl fun n0=>?_
 rw [aW8]
 exact aXW r (fun H=>bI hq rfl rfl) k _ _ _ hf
theorem aXY {a b:ByteArray} {n0:Nat} {K:Res} (r:ByteArray) (hK:∀ H,K (.str r) H):∀ k:Nat,
 (∀ (x5:List Int) (x6 x10 x11:Int),gamehallref2_NatSub.l0 k a b x5 x6 x10 x11=some r→aB Tryz.prog n0 42 K (aE (fnT Tryz.f42) 4) (rR a b x6 x10 x11 x5)):=by
 intro k
 induction k using Nat.strongRecOn with
 | _ k ih =>
   intro x5 x6 x10 x11 h
   rcases k with _ | k
   · cases h
   have ih0:=ih k (by omega)
   rw [gamehallref2_NatSub.l0.eq_2] at h
   refine dY (by kernel_rfl) kF (inl:=[]) (LT:=w8) (NT:=w9) ?_
   rw [aXB]
   try simp only [bO,rd,bytesOf,gp_bytes.f,gp_make0_61.f,gp_make0_63.f,bV,Option.bind_some,decide_eq_true_eq,Bool.false_eq_true,beq_iff_eq,if_false,if_true,Int.toNat_zero] at h
   try delta strOfNums at h
   try simp only [cD,u8w,cE,cF,cG,cH,cI,cJ,cK,List.length_singleton,List.drop_zero,Nat.sub_zero,Int.toNat_natCast,List.take_length,bZ,cB]
   repeat' first | (split at h) | (rw [Option.bind_eq_some_iff] at h; obtain ⟨t,ht,h⟩:=h; try (with_reducible cases ht))
   all_goals try (with_reducible cases h)
   all_goals repeat' first | (with_reducible first | refine aC (by assumption) ?_ | refine aG (by assumption) ?_ | refine aQ (by assumption) ?_ | refine aX (by assumption) ?_ | refine aN ?_ | refine bQ ?_ | refine bS ?_ | refine bK ?_ | refine aR ?_ | refine bW (by assumption) ?_ | refine bX (by assumption) ?_ | refine aC (by omega) ?_ | refine aG (by omega) ?_ | refine bH (by omega) ?_ | refine cA (by omega) ?_ | refine b9 (by omega) ?_ | exact ih0 _ _ _ _ (by assumption) | exact hK _ | refine And.intro trivial ?_ | refine ⟨_,_,by assumption,?_⟩ | refine ⟨_,by assumption,?_⟩)
theorem aKT {a b:ByteArray} {Q:Res} (h:aJ0 a b Q):Con Tryz.prog 42 [.str a, .str b] Q:=by
 obtain ⟨k,r,hf,hq⟩:=h
 refine aU (gn:=fnT Tryz.f42) (by kernel_rfl) kF (inl:=[]) (LT:=w8) (NT:=w9) rfl fun n0=>?_
 rw [aXA]
 exact aXY r (fun H=>bI hq rfl rfl) k _ _ _ _ hf
theorem aDI : ∀ g xs Q,vV g xs Q→Con Tryz.prog g xs Q:=dA fun p hp=>by
 simp only [List.mem_cons,List.not_mem_nil,or_false] at hp
 rcases hp with rfl | rfl | rfl
 · exact bD fun _ _ h=>aKQ h
 · exact aZ fun _ _ _ h=>aKS h
 · exact aZ fun _ _ _ h=>aKT h
theorem aXZ {a b:ByteArray} {n0:Nat} {K:Res} (r:ByteArray) (hK:∀ H,K (.str r) H):∀ k:Nat,
 (∀ (x5:List Int) (x18 x19:Int),gamehallref2_NatMul.l0 k a b x5 x18 x19=some r→aB Tryz.prog n0 38 K (aE (fnT Tryz.f38) 3) (xA a b x18 x19 x5)) ∧
 (∀ (x5:List Int) (x6 x7 x18 x19 x26 x27:Int),gamehallref2_NatMul.l1 k a b x5 x6 x7 x18 x19 x26 x27=some r→aB Tryz.prog n0 38 K (aE (fnT Tryz.f38) 7) (xB a b x6 x7 x18 x19 x26 x27 x5)) ∧
 (∀ (x5:List Int) (x18 x19 x49 x50:Int),gamehallref2_NatMul.l2 k a b x5 x18 x19 x49 x50=some r→aB Tryz.prog n0 38 K (aE (fnT Tryz.f38) 12) (rS a b x18 x19 x49 x50 x5)):=by
 intro k
 induction k using Nat.strongRecOn with
 | _ k ih =>
   refine ⟨?_,?_,?_⟩
   · skip
     intro x5 x18 x19 h
     rcases k with _ | k
     · cases h
     have ih0:=ih k (by omega)
     rw [gamehallref2_NatMul.l0.eq_2] at h
     refine dY (by kernel_rfl) kF (inl:=[]) (LT:=kD) (NT:=kE) ?_
     rw [aXD]
     try simp only [bO,rd,bytesOf,gp_bytes.f,gp_make0_61.f,gp_make0_63.f,bV,Option.bind_some,decide_eq_true_eq,Bool.false_eq_true,beq_iff_eq,if_false,if_true,Int.toNat_zero] at h
     try delta strOfNums at h
     try simp only [cD,u8w,cE,cF,cG,cH,cI,cJ,cK,List.length_singleton,List.drop_zero,Nat.sub_zero,Int.toNat_natCast,List.take_length,bZ,cB,List.length_set]
     repeat' first | (split at h) | (rw [Option.bind_eq_some_iff] at h; obtain ⟨t,ht,h⟩:=h; try (with_reducible cases ht))
     all_goals try (with_reducible cases h)
     all_goals try rw [aDH (by omega)] at h
     all_goals repeat' first | (with_reducible first | refine aC (by assumption) ?_ | refine aG (by assumption) ?_ | refine aQ (by assumption) ?_ | refine aX (by assumption) ?_ | refine aN ?_ | refine bQ ?_ | refine bS ?_ | refine bK ?_ | refine aR ?_ | refine bW (by assumption) ?_ | refine bX (by assumption) ?_ | refine aC (by omega) ?_ | refine aG (by omega) ?_ | refine bH (by omega) ?_ | refine cA (by omega) ?_ | refine b9 (by omega) ?_ | exact ih0.1 _ _ _ (by assumption) | exact ih0.2.1 _ _ _ _ _ _ _ (by assumption) | exact ih0.2.2 _ _ _ _ _ (by assumption) | exact hK _ | refine And.intro trivial ?_ | refine ⟨_,_,by assumption,?_⟩ | refine ⟨_,by assumption,?_⟩)
   · skip
     intro x5 x6 x7 x18 x19 x26 x27 h
     rcases k with _ | k
     · cases h
     have ih0:=ih k (by omega)
     rw [gamehallref2_NatMul.l1.eq_2] at h
     refine dY (by kernel_rfl) kF (inl:=[]) (LT:=kD) (NT:=kE) ?_
     rw [aXE]
     try simp only [bO,rd,bytesOf,gp_bytes.f,gp_make0_61.f,gp_make0_63.f,bV,Option.bind_some,decide_eq_true_eq,Bool.false_eq_true,beq_iff_eq,if_false,if_true,Int.toNat_zero] at h
     try delta strOfNums at h
     try simp only [cD,u8w,cE,cF,cG,cH,cI,cJ,cK,List.length_singleton,List.drop_zero,Nat.sub_zero,Int.toNat_natCast,List.take_length,bZ,cB,List.length_set]
     repeat' first | (split at h) | (rw [Option.bind_eq_some_iff] at h; obtain ⟨t,ht,h⟩:=h; try (with_reducible cases ht))
     all_goals try (with_reducible cases h)
     all_goals try rw [aDH (by omega)] at h
     all_goals repeat' first | (with_reducible first | refine aC (by assumption) ?_ | refine aG (by assumption) ?_ | refine aQ (by assumption) ?_ | refine aX (by assumption) ?_ | refine aN ?_ | refine bQ ?_ | refine bS ?_ | refine bK ?_ | refine aR ?_ | refine bW (by assumption) ?_ | refine bX (by assumption) ?_ | refine aC (by omega) ?_ | refine aG (by omega) ?_ | refine bH (by omega) ?_ | refine cA (by omega) ?_ | refine b9 (by omega) ?_ | exact ih0.1 _ _ _ (by assumption) | exact ih0.2.1 _ _ _ _ _ _ _ (by assumption) | exact ih0.2.2 _ _ _ _ _ (by assumption) | exact hK _ | refine And.intro trivial ?_ | refine ⟨_,_,by assumption,?_⟩ | refine ⟨_,by assumption,?_⟩)
   · skip
     intro x5 x18 x19 x49 x50 h
     rcases k with _ | k
     · cases h
     have ih0:=ih k (by omega)
     rw [gamehallref2_NatMul.l2.eq_2] at h
     refine dY (by kernel_rfl) kF (inl:=[]) (LT:=kD) (NT:=kE) ?_
     rw [aXF]
     try simp only [bO,rd,bytesOf,gp_bytes.f,gp_make0_61.f,gp_make0_63.f,bV,Option.bind_some,decide_eq_true_eq,Bool.false_eq_true,beq_iff_eq,if_false,if_true,Int.toNat_zero] at h
     try delta strOfNums at h
     try simp only [cD,u8w,cE,cF,cG,cH,cI,cJ,cK,List.length_singleton,List.drop_zero,Nat.sub_zero,Int.toNat_natCast,List.take_length,bZ,cB,List.length_set]
     repeat' first | (split at h) | (rw [Option.bind_eq_some_iff] at h; obtain ⟨t,ht,h⟩:=h; try (with_reducible cases ht))
     all_goals try (with_reducible cases h)
     all_goals try rw [aDH (by omega)] at h
     all_goals repeat' first | (with_reducible first | refine aC (by assumption) ?_ | refine aG (by assumption) ?_ | refine aQ (by assumption) ?_ | refine aX (by assumption) ?_ | refine aN ?_ | refine bQ ?_ | refine bS ?_ | refine bK ?_ | refine aR ?_ | refine bW (by assumption) ?_ | refine bX (by assumption) ?_ | refine aC (by omega) ?_ | refine aG (by omega) ?_ | refine bH (by omega) ?_ | refine cA (by omega) ?_ | refine b9 (by omega) ?_ | exact ih0.1 _ _ _ (by assumption) | exact ih0.2.1 _ _ _ _ _ _ _ (by assumption) | exact ih0.2.2 _ _ _ _ _ (by assumption) | exact hK _ | refine And.intro trivial ?_ | refine ⟨_,_,by assumption,?_⟩ | refine ⟨_,by assumption,?_⟩)
theorem aX0 {a b:ByteArray} {Q:Res} (h:rmulN a b Q):Con Tryz.prog 38 [.str a, .str b] Q:=by
 obtain ⟨k,r,hf,hq⟩:=h
 refine aU (gn:=fnT Tryz.f38) (by kernel_rfl) kF (inl:=[]) (LT:=kD) (NT:=kE) rfl fun n0=>?_
 rw [aXC]
 unfold gamehallref2_NatMul.f at hf
 simp only [bO] at hf
 split at hf
 · split at hf
   · rename_i h0 h1
     refine aN (aN (aC h0 (aC (Int.le_refl _) (bK (bH (by omega) (bH (by omega) ?_))))))
     exact (aXZ r (fun H=>bI hq rfl rfl) k).1 _ _ _ hf
   · cases hf
 · cases hf
theorem aX1 {a b:ByteArray} {n0:Nat} {K:Res} (r:ByteArray × ByteArray) (hK:∀ H,K (.tup [.str r.1, .str r.2]) H):∀ k:Nat,
 (∀ (x7 x8:ByteArray) (x9:Int),gamehallref2_NatDiv.l0 k a b x7 x8 x9=some r→aB Tryz.prog n0 72 K (aE (fnT Tryz.f72) 4) (xC a b x7 x8 x9)) ∧
 (∀ (x7 x8:ByteArray) (x9 x10:Int),gamehallref2_NatDiv.l1 k a b x7 x8 x9 x10=some r→aB Tryz.prog n0 72 K (aE (fnT Tryz.f72) 8) (xD a b x7 x8 x9 x10)):=by
 intro k
 induction k using Nat.strongRecOn with
 | _ k ih =>
   refine ⟨?_,?_⟩
   · skip
     intro x7 x8 x9 h
     rcases k with _ | k
     · cases h
     have ih0:=ih k (by omega)
     rw [gamehallref2_NatDiv.l0.eq_2] at h
     refine dY (by kernel_rfl) aDI (inl:=[]) (LT:=oC) (NT:=oD) ?_
     rw [aXH]
     try simp only [bO,rd,bytesOf,gp_bytes.f,gp_make0_61.f,gp_make0_63.f,bV,Option.bind_some,decide_eq_true_eq,Bool.false_eq_true,beq_iff_eq,if_false,if_true,Int.toNat_zero] at h
     try delta strOfNums at h
     try simp only [cD,u8w,cE,cF,cG,cH,cI,cJ,cK,List.length_singleton,List.drop_zero,Nat.sub_zero,Int.toNat_natCast,List.take_length,bZ,cB]
     repeat' first | (split at h) | (rw [Option.bind_eq_some_iff] at h; obtain ⟨t,ht,h⟩:=h; try (with_reducible cases ht))
     all_goals try (with_reducible cases h)
     all_goals repeat' first | (with_reducible first | refine aC (by assumption) ?_ | refine aG (by assumption) ?_ | refine aQ (by assumption) ?_ | refine aX (by assumption) ?_ | refine aN ?_ | refine bQ ?_ | refine bS ?_ | refine bK ?_ | refine aR ?_ | refine bW (by assumption) ?_ | refine bX (by assumption) ?_ | refine aC (by omega) ?_ | refine aG (by omega) ?_ | refine bH (by omega) ?_ | refine cA (by omega) ?_ | refine b9 (by omega) ?_ | exact ih0.1 _ _ _ (by assumption) | exact ih0.2 _ _ _ _ (by assumption) | exact hK _ | refine And.intro trivial ?_ | refine ⟨_,_,by assumption,?_⟩ | refine ⟨_,by assumption,?_⟩)
   · skip
     intro x7 x8 x9 x10 h
     rcases k with _ | k
     · cases h
     have ih0:=ih k (by omega)
     rw [gamehallref2_NatDiv.l1.eq_2] at h
     refine dY (by kernel_rfl) aDI (inl:=[]) (LT:=oC) (NT:=oD) ?_
     rw [aXI]
     try simp only [bO,rd,bytesOf,gp_bytes.f,gp_make0_61.f,gp_make0_63.f,bV,Option.bind_some,decide_eq_true_eq,Bool.false_eq_true,beq_iff_eq,if_false,if_true,Int.toNat_zero] at h
     try delta strOfNums at h
     try simp only [cD,u8w,cE,cF,cG,cH,cI,cJ,cK,List.length_singleton,List.drop_zero,Nat.sub_zero,Int.toNat_natCast,List.take_length,bZ,cB]
     repeat' first | (split at h) | (rw [Option.bind_eq_some_iff] at h; obtain ⟨t,ht,h⟩:=h; try (with_reducible cases ht))
     all_goals try (with_reducible cases h)
     all_goals repeat' first | (with_reducible first | refine aC (by assumption) ?_ | refine aG (by assumption) ?_ | refine aQ (by assumption) ?_ | refine aX (by assumption) ?_ | refine aN ?_ | refine bQ ?_ | refine bS ?_ | refine bK ?_ | refine aR ?_ | refine bW (by assumption) ?_ | refine bX (by assumption) ?_ | refine aC (by omega) ?_ | refine aG (by omega) ?_ | refine bH (by omega) ?_ | refine cA (by omega) ?_ | refine b9 (by omega) ?_ | exact ih0.1 _ _ _ (by assumption) | exact ih0.2 _ _ _ _ (by assumption) | exact hK _ | refine And.intro trivial ?_ | refine ⟨_,_,by assumption,?_⟩ | refine ⟨_,by assumption,?_⟩)
theorem aKU {a b:ByteArray} {Q:Res} (h:aJ1 a b Q):Con Tryz.prog 72 [.str a, .str b] Q:=by
 obtain ⟨k,r,h,hq⟩:=h
 have hK:∀ H,aO Q (.tup [.str r.1, .str r.2]) H:=fun H=>bI hq rfl rfl
 refine aU (gn:=fnT Tryz.f72) (by kernel_rfl) aDI (inl:=[]) (LT:=oC) (NT:=oD) rfl fun n0=>?_
 unfold gamehallref2_NatDiv.f at h
 dsimp only at h
 rw [aXG]
 try simp only [bO,rd,bytesOf,gp_bytes.f,gp_make0_61.f,gp_make0_63.f,bV,Option.bind_some,decide_eq_true_eq,Bool.false_eq_true,beq_iff_eq,if_false,if_true,Int.toNat_zero] at h
 try delta strOfNums at h
 try simp only [cD,u8w,cE,cF,cG,cH,cI,cJ,cK,List.length_singleton,List.drop_zero,Nat.sub_zero,Int.toNat_natCast,List.take_length,bZ,cB]
 repeat' first | (split at h) | (rw [Option.bind_eq_some_iff] at h; obtain ⟨t,ht,h⟩:=h; try (with_reducible cases ht))
 all_goals try (with_reducible cases h)
 all_goals repeat' first | (with_reducible first | refine aC (by assumption) ?_ | refine aG (by assumption) ?_ | refine aQ (by assumption) ?_ | refine aX (by assumption) ?_ | refine aN ?_ | refine bQ ?_ | refine bS ?_ | refine bK ?_ | refine aR ?_ | refine bW (by assumption) ?_ | refine bX (by assumption) ?_ | refine aC (by omega) ?_ | refine aG (by omega) ?_ | refine bH (by omega) ?_ | refine cA (by omega) ?_ | refine b9 (by omega) ?_ | exact (aX1 r hK k).1 _ _ _ (by assumption) | refine And.intro trivial ?_ | refine ⟨_,_,by assumption,?_⟩ | refine ⟨_,by assumption,?_⟩)
theorem aKV : ∀ g xs Q,aC5 g xs Q→Con Tryz.prog g xs Q:=dA fun p hp=>by
 simp only [List.mem_cons,List.not_mem_nil,or_false] at hp
 subst hp
 exact aZ fun _ _ _ h=>aKU h
theorem aX2 {a b:ByteArray} {n0:Nat} {K:Res} (r:ByteArray) (hK:∀ H,K (.str r) H):∀ k:Nat,
 (∀ (x0 x1:ByteArray),gamehallref2_NatGcd.l0 k x0 x1=some r→aB Tryz.prog n0 71 K (aE (fnT Tryz.f71) 1) (aDG a b x0 x1)):=by
 intro k
 induction k using Nat.strongRecOn with
 | _ k ih =>
   intro x0 x1 h
   rcases k with _ | k
   · cases h
   have ih0:=ih k (by omega)
   rw [gamehallref2_NatGcd.l0.eq_2] at h
   refine dY (by kernel_rfl) aKV (inl:=[]) (LT:=xE) (NT:=xF) ?_
   rw [aXL]
   try simp only [bO,rd,bytesOf,gp_bytes.f,gp_make0_61.f,gp_make0_63.f,bV,Option.bind_some,decide_eq_true_eq,Bool.false_eq_true,beq_iff_eq,if_false,if_true,Int.toNat_zero] at h
   try delta strOfNums at h
   try simp only [cD,u8w,cE,cF,cG,cH,cI,cJ,cK,List.length_singleton,List.drop_zero,Nat.sub_zero,Int.toNat_natCast,List.take_length,bZ,cB]
   repeat' first | (split at h) | (rw [Option.bind_eq_some_iff] at h; obtain ⟨t,ht,h⟩:=h; try (with_reducible cases ht))
   all_goals try (with_reducible cases h)
   all_goals repeat' first | (with_reducible first | refine aC (by assumption) ?_ | refine aG (by assumption) ?_ | refine aQ (by assumption) ?_ | refine aX (by assumption) ?_ | refine aN ?_ | refine bQ ?_ | refine bS ?_ | refine bK ?_ | refine aR ?_ | refine bW (by assumption) ?_ | refine bX (by assumption) ?_ | refine aC (by omega) ?_ | refine aG (by omega) ?_ | refine bH (by omega) ?_ | refine cA (by omega) ?_ | refine b9 (by omega) ?_ | exact ih0 _ _ (by assumption) | exact hK _ | refine And.intro trivial ?_ | refine ⟨_,_,by assumption,?_⟩ | refine ⟨_,by assumption,?_⟩)
theorem aX3 {a b:ByteArray} {Q:Res} (h:rgcdN a b Q):Con Tryz.prog 71 [.str a, .str b] Q:=by
 obtain ⟨k,r,hf,hq⟩:=h
 refine aU (gn:=fnT Tryz.f71) (by kernel_rfl) aKV (inl:=[]) (LT:=xE) (NT:=xF) rfl fun n0=>?_
 rw [aXK]
 exact aX2 (a:=a) (b:=b) r (fun H=>bI hq rfl rfl) k a b hf
theorem aX4 {n:Int} {n0:Nat} {K:Res} (r:ByteArray) (hK:∀ H,K (.str r) H):∀ k:Nat,
 (∀ (x0:Int) (x3:ByteArray),gamehallref2_RatInt.l0 k x0 x3=some r→aB Tryz.prog n0 19 K (aE (fnT Tryz.f19) 3) (xI n x0 x3)):=by
 intro k
 induction k using Nat.strongRecOn with
 | _ k ih =>
   intro x0 x3 h
   rcases k with _ | k
   · cases h
   have ih0:=ih k (by omega)
   rw [gamehallref2_RatInt.l0.eq_2] at h
   refine dY (by kernel_rfl) bR (inl:=[]) (LT:=xG) (NT:=xH) ?_
   rw [aXP]
   try simp only [bO,rd,bytesOf,gp_bytes.f,gp_make0_61.f,gp_make0_63.f,bV,Option.bind_some,decide_eq_true_eq,Bool.false_eq_true,beq_iff_eq,if_false,if_true,Int.toNat_zero] at h
   try delta strOfNums at h
   try simp only [cD,u8w,cE,cF,cG,cH,cI,cJ,cK,List.length_singleton,List.drop_zero,Nat.sub_zero,Int.toNat_natCast,List.take_length,bZ,cB]
   repeat' first | (split at h) | (rw [Option.bind_eq_some_iff] at h; obtain ⟨t,ht,h⟩:=h; try (with_reducible cases ht))
   all_goals try (with_reducible cases h)
   all_goals repeat' first | (with_reducible first | refine aC (by assumption) ?_ | refine aG (by assumption) ?_ | refine aQ (by assumption) ?_ | refine aX (by assumption) ?_ | refine aN ?_ | refine bQ ?_ | refine bS ?_ | refine bK ?_ | refine aR ?_ | refine bW (by assumption) ?_ | refine bX (by assumption) ?_ | refine aC (by omega) ?_ | refine aG (by omega) ?_ | refine bH (by omega) ?_ | refine cA (by omega) ?_ | refine b9 (by omega) ?_ | exact ih0 _ _ (by assumption) | exact hK _ | refine And.intro trivial ?_ | refine ⟨_,_,by assumption,?_⟩ | refine ⟨_,by assumption,?_⟩)
theorem aKW {n:Int} {Q:Res} (h:aJ5 n Q):Con Tryz.prog 19 [.int .i64 n] Q:=by
 obtain ⟨h0,k,r,hf,hq⟩:=h
 have hK:∀ H,aO Q (.str r) H:=fun H=>bI hq rfl rfl
 refine aU (gn:=fnT Tryz.f19) (by kernel_rfl) bR (inl:=[]) (LT:=xG) (NT:=xH) rfl fun n0=>?_
 rw [aXO]
 refine aC h0 ?_
 rcases k with _ | k
 · cases hf
 dsimp only at hf
 rw [gamehallref2_RatInt.f.eq_2,if_pos h0] at hf
 exact aX4 (n:=n) r hK k _ _ hf
theorem aX5 : ∀ g xs Q,aJ6 g xs Q→Con Tryz.prog g xs Q:=dA fun p hp=>by
 simp only [List.mem_cons,List.not_mem_nil,or_false] at hp
 subst hp
 exact bD fun _ _ h=>aKW h
theorem aX6 {s:ByteArray} {n0:Nat} {K:Res} (r:Int) (hK:∀ H,K (.int .i64 r) H):∀ (k:Nat) (x3:Int),gamehallref2_NatError.l0 k s x3=some r→aB Tryz.prog n0 103 K (aE (fnT Tryz.f103) 4) (wW s x3):=by
 intro k
 induction k using Nat.strongRecOn with
 | _ k ih =>
   intro x3 h
   rcases k with _ | k
   · cases h
   rw [gamehallref2_NatError.l0.eq_2] at h
   refine dY (by kernel_rfl) bR (inl:=[]) (LT:=wU) (NT:=wV) ?_
   rw [aW1]
   have j1:∀ b,gamehallref2_NatError.j1 k s b=some r→(b=true∧r=5)∨(b=false∧r=if (s.size:Int) > 2000 then 2 else 0):=by
     intro b h
     rcases k with _ | k
     · cases h
     rw [gamehallref2_NatError.j1.eq_2] at h
     cases b with
     | true=>rw [if_pos rfl] at h; exact Or.inl ⟨rfl,(Option.some.inj h).symm⟩
     | false =>
       rw [if_neg (by decide)] at h
       refine Or.inr ⟨rfl,?_⟩
       split at h
       · rename_i h0; rw [if_pos h0]; exact (Option.some.inj h).symm
       · rename_i h0; rw [if_neg h0]; exact (Option.some.inj h).symm
   have fin:(r=if (s.size:Int) > 2000 then 2 else 0)→∀ H,bif decide ((s.size:Int) > 2000) then K (.int .i64 2) H else K (.int .i64 0) H:=fun hr H=>by
     by_cases h0:(s.size:Int) > 2000
     · rw [if_pos h0] at hr; subst hr; exact aC h0 (hK _)
     · rw [if_neg h0] at hr; subst hr; exact aG h0 (hK _)
   simp only [bO,bV,Int.toNat_zero] at h
   split at h
   · rename_i h0
     refine aC h0 ?_
     split at h
     · rename_i h1
       refine aN (aC h1 (aC h0 ?_))
       split at h
       · rename_i h2; cases h; exact aC h2 (hK _)
       · rename_i h2
         refine aG h2 (aN (aC h1 (aC h0 (bK (bS ?_)))))
         split at h
         · rename_i h3; cases h; exact aC h3 (hK _)
         · rename_i h3; exact aG h3 (ih k (by omega) _ h)
     · cases h
   · rename_i h0
     refine aG h0 ?_
     split at h
     · rename_i h1
       refine aC h1 ?_
       split at h
       · rename_i h2
         refine aC h2 (bK (bQ ?_))
         rcases j1 _ h with ⟨hb,hr⟩ | ⟨hb,hr⟩
         · have hb' := eq_of_beq hb
           subst hr
           exact aC hb' (hK _)
         · have hb' : ¬ ((s.data.toList.getD 0 0).toNat:Int)=48:=fun e=>by
            have:(((s.data.toList.getD 0 0).toNat:Int) == 48)=true:=beq_iff_eq.2 e
            rw [this] at hb
            cases hb
           exact aG hb' (fin hr _)
       · cases h
     · rename_i h1
       rcases j1 _ h with ⟨hb,hr⟩ | ⟨hb,hr⟩
       · cases hb
       · exact aG h1 (fin hr _)
theorem aX7 {s:ByteArray} {Q:Res} (h:rerrN s Q):Con Tryz.prog 103 [.str s] Q:=by
 obtain ⟨k,r,hf,hq⟩:=h
 have hK:∀ H,aO Q (.int .i64 r) H:=fun H=>bI hq rfl rfl
 refine aU (gn:=fnT Tryz.f103) (by kernel_rfl) bR (inl:=[]) (LT:=wU) (NT:=wV) rfl fun n0=>?_
 rw [aW0]
 unfold gamehallref2_NatError.f at hf
 dsimp only at hf
 split at hf
 · rename_i h0; cases hf; exact aC h0 (hK _)
 · rename_i h0; exact aG h0 (aX6 r hK k _ hf)
end
end Go.Proofs.YtehakimmioclkaaGreatDoor.Lib
end
section
namespace Go.Proofs.YtehakimmioclkaaGreatDoor.Aid
open Go.RowKit Go.Proofs.YtehakimmioclkaaGreatDoorW.PrintWords
section
section
variable {α β:Type} {f g:Nat→Option α} {r:α} {c:Prop} [Decidable c]
theorem Ev.yes (h:c) (k:Ev f r):Ev (fun n=>if c then f n else g n) r:=by
 simpa [h] using k
theorem Ev.no (h:¬ c) (k:Ev g r):Ev (fun n=>if c then f n else g n) r:=by
 simpa [h] using k
theorem Ev.ite (h1:c→Ev f r) (h2:¬ c→Ev g r):Ev (fun n=>if c then f n else g n) r:=by
 by_cases h:c
 · exact Ev.yes h (h1 h)
 · exact Ev.no h (h2 h)
theorem Ev.now' {a b:α} (h:a=b):Ev (fun _=>some a) b:=by subst h; exact Ev.now _
theorem Ev.bind1 {g:Nat→Option β} {f:Nat→β→Option α} {a:β} (h:Ev g a) (k:Ev (fun n=>f n a) r):Ev (fun n=>(g n).bind fun x=>f n x) r:=Ev.bind h k
theorem Ev.some_bind {f:Nat→β→Option α} {a:β} (k:Ev (fun n=>f n a) r):Ev (fun n=>(some a).bind fun x=>f n x) r:=k
theorem Ev.opt_bind {o:Option β} {f:Nat→β→Option α} {a:β} (h:o=some a) (k:Ev (fun n=>f n a) r):Ev (fun n=>o.bind fun x=>f n x) r:=by subst h; exact k
end
theorem w64 {i:Int} (h0 : -9223372036854775808≤i) (h1:i<9223372036854775808):wrap64 i=i:=by unfold wrap64; omega
theorem dZ {j:Nat} (h:j<1000000000000000):wrap64 ((j:Int)+1)=((j+1:Nat):Int):=by rw [w64] <;> omega
theorem g7 (l:List Int) (j:Nat) (h:j<l.length):rd l (j:Int)=l[j]:=by simp [rd,h]
theorem eO (l:List Int) (j:Nat) (h:j<l.length):l.drop j=rd l (j:Int) :: l.drop (j+1):=by
 rw [g7 l j h]; exact List.drop_eq_getElem_cons h
theorem xJ (l:List Int) (j:Nat) (h:j<l.length):rd l (j:Int)∈l:=by
 rw [g7 l j h]; exact List.getElem_mem h
end
end Go.Proofs.YtehakimmioclkaaGreatDoor.Aid
end
section
set_option linter.unusedSimpArgs false
set_option linter.unusedVariables false
namespace Go.Proofs.YtehakimmioclkaaGreatDoor.Pure
open Go.RowKit Go.Proofs.YtehakimmioclkaaGreatDoor.ND Go.Proofs.YtehakimmioclkaaGreatDoorW.PrintWords Go.Proofs.YtehakimmioclkaaGreatDoorW.PrintLast Go.Proofs.YtehakimmioclkaaGreatDoor.Aid
section
def g8 (s:ByteArray):Int:=if (s.size:Int) > 2000 then 2 else 0
def dH : List Int→Int→Int
 | [],e=>e
 | c :: r,e=>if c<48 then 5 else if c > 57 then 5 else dH r e
def natErr (s:ByteArray):Int:=if s.size=0 then 5 else dH (bytesOf s) (if 1<s.size∧bt s 0=48 then 5 else g8 s)
theorem aKX : ∀ l,dH l 5=5
 | []=>rfl
 | c :: r=>by simp [dH,aKX r]
theorem aKY (s:ByteArray) (h:s.size≤9223372036854775807):gp_bytes.f s=some (bytesOf s):=by unfold gp_bytes.f; rw [if_pos h]
theorem rT (s:ByteArray):s.toList=([]:List UInt8)↔s.size=0:=by
 have h1:s.toList.length=s.size:=by rw [ByteArray.toList_eq,nW]
 constructor
 · intro h
   rw [h] at h1
   simpa using h1.symm
 · intro h
   exact List.eq_nil_of_length_eq_zero (by omega)
theorem aX8 (s:ByteArray) (hs:s.size≤1000000000000000) (d:Nat):∀ j,j+d=s.size→Ev (fun k=>nat_Check.l0 k s (bytesOf s) (s.size:Int) (j:Int)) (dH ((bytesOf s).drop j) (g8 s)):=by
 have hl:=bB s
 induction d with
 | zero =>
   intro j hj
   refine Ev.step (fun k=>nat_Check.l0.eq_2 _ _ _ _ k) ?_
   refine Ev.no (by omega) ?_
   rw [show j=(bytesOf s).length by omega,List.drop_length]
   exact Ev.ite (fun h=>Ev.now' (by simp [dH,g8,h])) (fun h=>Ev.now' (by simp [dH,g8,h]))
 | succ d ih =>
   intro j hj
   have hlt:j<(bytesOf s).length:=by omega
   refine Ev.step (fun k=>nat_Check.l0.eq_2 _ _ _ _ k) ?_
   refine Ev.yes (by omega) (Ev.yes (by omega) (Ev.yes (by omega) ?_))
   rw [eO _ j hlt]
   refine Ev.ite (fun h=>Ev.now' (by simp [dH,h])) (fun h1=>Ev.ite (fun h=>Ev.now' (by simp only [dH]; rw [if_neg h1,if_pos h])) (fun h2=>?_))
   rw [dZ (by omega),show ∀ e,dH (rd (bytesOf s) ↑j :: List.drop (j+1) (bytesOf s)) e=dH (List.drop (j+1) (bytesOf s)) e from fun e=>by simp only [dH]; rw [if_neg h1,if_neg h2]]
   exact ih (j+1) (by omega)
theorem aX9 (s:ByteArray) (hs:s.size≤1000000000000000):Ev (fun k=>nat_Check.f k s) (natErr s):=by
 have hl:=bB s
 unfold nat_Check.f natErr
 have j0t:Ev (fun k=>nat_Check.j0 k s true) 5:=by
  refine Ev.step (fun k=>nat_Check.j0.eq_2 _ _ k) ?_
  exact Ev.yes rfl (Ev.now _)
 have j0f:Ev (fun k=>nat_Check.j0 k s false) (dH (bytesOf s) (g8 s)):=by
  refine Ev.step (fun k=>nat_Check.j0.eq_2 _ _ k) ?_
  refine Ev.no (by simp) (Ev.opt_bind (aKY s (by omega)) ?_)
  rw [hl]
  exact aX8 s hs s.size 0 (by omega)
 refine Ev.ite (fun h=>?_) (fun h=>?_)
 · rw [if_pos ((rT s).1 h)]
   exact j0t
 · have h0:¬ s.size=0:=fun z=>h ((rT s).2 z)
   rw [if_neg h0]
   refine Ev.yes (by omega) (Ev.ite (fun h1=>?_) (fun h1=>?_))
   · by_cases h2:(s.size:Int) > 1
     · rw [show decide ((s.size:Int) > 1)=true by simpa using h2,if_pos ⟨by omega,h1⟩,aKX]
       exact j0t
     · rw [show decide ((s.size:Int) > 1)=false by simpa using h2,if_neg (by omega)]
       exact j0f
   · rw [if_neg (fun z=>h1 z.2)]
     exact j0f
theorem aYA (s:ByteArray) (hs:s.size≤1000000000000000) (d:Nat):∀ j,j+d=s.size→Ev (fun k=>gamehallref2_NatError.l0 k s (j:Int)) (dH ((bytesOf s).drop j) (if 1<s.size∧bt s 0=48 then 5 else g8 s)):=by
 have hl:=bB s
 induction d with
 | zero =>
   intro j hj
   refine Ev.step (fun k=>gamehallref2_NatError.l0.eq_2 _ _ k) ?_
   refine Ev.no (by omega) ?_
   rw [show j=(bytesOf s).length by omega,List.drop_length]
   have j1f:Ev (fun k=>gamehallref2_NatError.j1 k s false) (g8 s):=by
    refine Ev.step (fun k=>gamehallref2_NatError.j1.eq_2 _ _ k) ?_
    exact Ev.no (by simp) (Ev.ite (fun h=>Ev.now' (by simp [g8,h])) (fun h=>Ev.now' (by simp [g8,h])))
   refine Ev.ite (fun h=>Ev.yes (by omega) ?_) (fun h=>?_)
   · simp only [dH]
     by_cases h2:bt s 0=48
     · rw [if_pos ⟨by omega,h2⟩,h2]
       refine Ev.step (fun k=>gamehallref2_NatError.j1.eq_2 _ _ k) ?_
       exact Ev.yes (by simp) (Ev.now _)
     · rw [if_neg (fun z=>h2 z.2),show (bt s 0 == 48)=false by simpa using h2]
       exact j1f
   · simp only [dH]
     rw [if_neg (by omega)]
     exact j1f
 | succ d ih =>
   intro j hj
   have hlt:j<(bytesOf s).length:=by omega
   refine Ev.step (fun k=>gamehallref2_NatError.l0.eq_2 _ _ k) ?_
   refine Ev.yes (by omega) (Ev.yes (by omega) ?_)
   rw [eO _ j hlt,← lN]
   refine Ev.ite (fun h=>Ev.now' (by simp [dH,h])) (fun h1=>Ev.ite (fun h=>Ev.now' (by simp only [dH]; rw [if_neg h1,if_pos h])) (fun h2=>?_))
   rw [dZ (by omega),show ∀ e,dH (rd (bytesOf s) ↑j :: List.drop (j+1) (bytesOf s)) e=dH (List.drop (j+1) (bytesOf s)) e from fun e=>by simp only [dH]; rw [if_neg h1,if_neg h2]]
   exact ih (j+1) (by omega)
theorem aYB (s:ByteArray) (hs:s.size≤1000000000000000):Ev (fun k=>gamehallref2_NatError.f k s) (natErr s):=by
 unfold gamehallref2_NatError.f natErr
 refine Ev.ite (fun h=>?_) (fun h=>?_)
 · rw [if_pos (by omega)]; exact Ev.now _
 · rw [if_neg (by omega)]; exact aYA s hs s.size 0 (by omega)
end
end Go.Proofs.YtehakimmioclkaaGreatDoor.Pure
end
section
set_option linter.unusedSimpArgs false
set_option linter.unusedVariables false
namespace Go.Proofs.YtehakimmioclkaaGreatDoor.NatVal
open Go.RowKit Go.Proofs.YtehakimmioclkaaGreatDoorW.PrintWords Go.Proofs.YtehakimmioclkaaGreatDoor.Aid
section
def val (b:Int):List Int→Int
 | []=>0
 | x :: r=>x+b * val b r
def ok (b:Int) (l:List Int):Prop:=∀ x∈l,0≤x∧x<b
def d0 (l:List Int):Prop:=∀ h:l≠[],l.getLast h≠0
theorem eC (b:Int):ok b []:=by simp [ok]
theorem fJ {b x:Int} {r:List Int}:ok b (x :: r)↔(0≤x∧x<b)∧ok b r:=by simp [ok]
theorem jR {b:Int} {l r:List Int}:ok b (l ++ r)↔ok b l∧ok b r:=by
 simp only [ok,List.mem_append]
 constructor
 · intro h; exact ⟨fun x hx=>h x (.inl hx),fun x hx=>h x (.inr hx)⟩
 · rintro ⟨h1,h2⟩ x (hx | hx)
   · exact h1 x hx
   · exact h2 x hx
theorem cT {b:Int} {l:List Int} (h:ok b l) (j:Nat) (hj:j<l.length):0≤rd l (j:Int)∧rd l (j:Int)<b:=h _ (xJ l j hj)
theorem cW {b:Int} (hb:0≤b):∀ {l:List Int},ok b l→0≤val b l
 | [],_=>by simp [val]
 | x :: r,h=>by
   obtain ⟨h1,h2⟩:=fJ.1 h
   have:=cW hb h2
   have h3:0≤b * val b r:=Int.mul_nonneg hb this
   simp only [val]; omega
theorem dN {b:Int} (hb:0<b):∀ {l:List Int},ok b l→val b l<b ^ l.length
 | [],_=>by simp [val]
 | x :: r,h=>by
   obtain ⟨h1,h2⟩:=fJ.1 h
   have h3:=dN hb h2
   have h4:b * (val b r+1)≤b * b ^ r.length:=Int.mul_le_mul_of_nonneg_left (by omega) (by omega)
   rw [Int.mul_add,Int.mul_one] at h4
   rw [List.length_cons,Int.pow_succ,Int.mul_comm (b ^ r.length) b]
   simp only [val]; omega
theorem i4 {b:Int}:∀ (l r:List Int),val b (l ++ r)=val b l+b ^ l.length * val b r
 | [],r=>by simp [val]
 | x :: l,r=>by
   rw [List.cons_append,List.length_cons]
   simp only [val]
   rw [i4 l r,Int.mul_add,← Int.mul_assoc,Int.pow_succ,Int.mul_comm (b ^ l.length) b]
   omega
theorem eE {b:Int} (l:List Int) (x:Int):val b (l ++ [x])=val b l+b ^ l.length * x:=by
 rw [i4]; simp [val]
theorem aKZ {b:Int} (l:List Int) (n:Nat):val b (l ++ List.replicate n 0)=val b l:=by
 rw [i4]
 have:∀ n,val b (List.replicate n 0)=0:=by
  intro n
  induction n with
  | zero=>rfl
  | succ n ih=>rw [List.replicate_succ]; simp only [val]; rw [ih]; simp
 rw [this]; simp
theorem xK {b:Int} (hb:0<b):∀ {l r:List Int},ok b l→ok b r→l.length=r.length→val b l=val b r→l=r
 | [],[],_,_,_,_=>rfl
 | [],_ :: _,_,_,h,_=>by simp at h
 | _ :: _,[],_,_,h,_=>by simp at h
 | x :: l,y :: r,h1,h2,hl,hv=>by
   obtain ⟨a1,a2⟩:=fJ.1 h1
   obtain ⟨b1,b2⟩:=fJ.1 h2
   simp only [val] at hv
   have e1:(x+b * val b l) % b=x:=by rw [Int.add_mul_emod_self_left]; exact Int.emod_eq_of_lt a1.1 a1.2
   have e2:(y+b * val b r) % b=y:=by rw [Int.add_mul_emod_self_left]; exact Int.emod_eq_of_lt b1.1 b1.2
   have hxy:x=y:=by rw [← e1,← e2,hv]
   subst hxy
   have hm:b * val b l=b * val b r:=by omega
   have hm' : val b l=val b r:=Int.eq_of_mul_eq_mul_left (by omega) hm
   rw [xK hb a2 b2 (by simpa using hl) hm']
theorem e6 {b:Int} (hb:1≤b) {m n:Nat} (h:m≤n):b ^ m≤b ^ n:=by
 obtain ⟨k,rfl⟩:=Nat.exists_eq_add_of_le h
 have h1:0<b ^ m:=Int.pow_pos (by omega)
 have h2:0<b ^ k:=Int.pow_pos (by omega)
 rw [Int.pow_add]
 have:=Int.mul_le_mul_of_nonneg_left (show (1:Int)≤b ^ k by omega) (show 0≤b ^ m by omega)
 omega
theorem oE : d0 []:=fun h=>absurd rfl h
theorem hR {b:Int} (hb:1<b) {l:List Int} (h:ok b l) (ht:d0 l) (hl:l≠[]):b ^ (l.length - 1)≤val b l:=by
 have e:=List.dropLast_concat_getLast hl
 have hx:=ht hl
 have hlen:l.length - 1=l.dropLast.length:=by simp
 have hok:=h
 rw [← e] at hok
 obtain ⟨h1,h2⟩:=jR.1 hok
 have h3:=h2 (l.getLast hl) (by simp)
 have hp:0<b ^ l.dropLast.length:=Int.pow_pos (by omega)
 have h4:val b l=val b l.dropLast+b ^ l.dropLast.length * l.getLast hl:=by rw [← eE,e]
 have h5:=cW (by omega) h1
 have h6:b ^ l.dropLast.length * 1≤b ^ l.dropLast.length * l.getLast hl:=Int.mul_le_mul_of_nonneg_left (by omega) (by omega)
 rw [hlen]; omega
theorem xL {b:Int} (hb:1<b) {l r:List Int} (h:ok b l) (ht:d0 l) (h' : ok b r) (hv:val b l≤val b r):l.length≤r.length:=by
 by_cases hl:l=[]
 · subst hl; simp
 · have h1:=hR hb h ht hl
   have h2:=dN (by omega) h'
   by_cases hle:l.length≤r.length
   · exact hle
   · have h3:b ^ r.length≤b ^ (l.length - 1):=e6 (by omega) (by omega)
     omega
theorem aK0 {b:Int} (hb:1<b) {l r:List Int} (h:ok b l) (ht:d0 l) (h' : ok b r) (ht' : d0 r) (hv:val b l=val b r):l=r :=
 xK (by omega) h h' (Nat.le_antisymm (xL hb h ht h' (by omega)) (xL hb h' ht' h (by omega))) hv
end
end Go.Proofs.YtehakimmioclkaaGreatDoor.NatVal
end
