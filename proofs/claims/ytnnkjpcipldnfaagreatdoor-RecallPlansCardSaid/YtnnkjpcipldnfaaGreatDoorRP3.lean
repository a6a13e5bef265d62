/- Texts of this session, put together. -/
import Derived.Test.YtnnkjpcipldnfaaGreatDoorRP2
import Derived.RowKit
import Derived.RowKit3
import Derived.Laws.Slices
import Derived.Lib.ConvBytes
import Derived.Laws.Strings
import Derived.Lib.Strings
import Derived.Laws.BytesArg
section
/- . -/
set_option linter.unusedVariables false
set_option linter.unusedSimpArgs false
namespace Go.Proofs.YtnnkjpcipldnfaaGreatDoorW.PrintWords
open Go.RowKit
def rd (xs:List Int) (i:Int):Int:=xs.getD i.toNat 0
def bt (s:ByteArray) (i:Int):Int:=if h:i.toNat<s.size then ((s[i.toNat]'h).toNat:Int) else 0
def bytesOf (s:ByteArray):List Int:=s.data.toList.map fun b=>(b.toNat:Int)
theorem data_length (s:ByteArray):s.data.toList.length=s.size:=by rw [Array.length_toList]; rfl
theorem bytesOf_length (s:ByteArray):(bytesOf s).length=s.size:=by rw [bytesOf,List.length_map,data_length]
theorem rd_bytesOf (s:ByteArray) (i:Int):rd (bytesOf s) i=bt s i:=by
 unfold rd bt bytesOf
 split
 · rename_i h
   have h' : i.toNat<s.data.toList.length:=by rw [data_length]; exact h
   simp [List.getD_eq_getElem?_getD,List.getElem?_eq_getElem h']
   rfl
 · rename_i h
   have h' : s.data.toList.length≤i.toNat:=by rw [data_length]; omega
   simp [List.getD_eq_getElem?_getD,List.getElem?_eq_none h']
def Ev {α:Type} (g:Nat→Option α) (r:α):Prop:=∃ K,∀ k,K≤k→g k=some r
theorem Ev.now {α:Type} (r:α):Ev (fun _=>some r) r:=⟨0,fun _ _=>rfl⟩
theorem Ev.rounds {α:Type} {g:Nat→Option α} {r:α} (h:Ev g r):∃ k,g k=some r:=by
 obtain ⟨K,h⟩:=h
 exact ⟨K,h K (Nat.le_refl _)⟩
theorem Ev.bind {α β:Type} {g:Nat→Option α} {f:Nat→α→Option β} {a:α} {r:β} (h:Ev g a) (k:Ev (fun n=>f n a) r):Ev (fun n=>(g n).bind (f n)) r:=by
 obtain ⟨K,h⟩:=h
 obtain ⟨K', k⟩:=k
 refine ⟨max K K', fun n hn=>?_⟩
 have h1:=h n (by omega)
 have h2:=k n (by omega)
 simp only [h1,Option.bind_some]
 exact h2
theorem Ev.step {α:Type} {g f:Nat→Option α} {r:α} (h:∀ k,g (k+1)=f k) (k:Ev f r):Ev g r:=by
 obtain ⟨K,k⟩:=k
 refine ⟨K+1,fun n hn=>?_⟩
 obtain ⟨m,rfl⟩:∃ m,n=m+1:=⟨n - 1,by omega⟩
 rw [h]
 exact k m (by omega)
abbrev mx (a b:Int):Int:=if a<b then b else a
abbrev mn (a b:Int):Int:=if b<a then b else a
end Go.Proofs.YtnnkjpcipldnfaaGreatDoorW.PrintWords
namespace Go.Proofs.YtnnkjpcipldnfaaGreatDoorW.PrintLast
end Go.Proofs.YtnnkjpcipldnfaaGreatDoorW.PrintLast
namespace Go.Proofs.YtnnkjpcipldnfaaGreatDoorW.PrintMore
end Go.Proofs.YtnnkjpcipldnfaaGreatDoorW.PrintMore
end
section
set_option linter.unusedSimpArgs false
set_option linter.unusedVariables false
namespace Go.Proofs.YtnnkjpcipldnfaaGreatDoor.Lib
open Go Go.Proofs.YtnnkjpcipldnfaaGreatDoor.Mach Go.Proofs.YtnnkjpcipldnfaaGreatDoorW.PrintWords Go.RowKit
section
section
variable {A B:Prop}
theorem bif_pos {p:Prop} {i:Decidable p} (h:p) (a:A):bif decide p then A else B:=by rw [decide_eq_true h]; exact a
theorem bif_neg {p:Prop} {i:Decidable p} (h:¬ p) (b:B):bif decide p then A else B:=by rw [decide_eq_false h]; exact b
theorem bif_and {a b:Bool} (h:bif a then (bif b then A else B) else B):bif a && b then A else B:=by cases a <;> exact h
theorem bif_not {a:Bool} (h:bif a then B else A):bif !a then A else B:=by cases a <;> exact h
theorem bif_cc {a b c:Bool} (h:bif a then (bif b then A else B) else (bif c then A else B)):bif (bif a then b else c) then A else B:=by cases a <;> exact h
theorem bif_tt (a:A):bif true then A else B:=a
theorem bif_ff (a:B):bif false then A else B:=a
theorem bif_t {b:Bool} (h:b=true) (a:A):bif b then A else B:=by rw [h]; exact a
theorem bif_f {b:Bool} (h:¬ b=true) (a:B):bif b then A else B:=by cases b <;> first | exact a | exact absurd rfl h
theorem bif_ble {n m:Nat} (h:n≤m) (a:A):bif n.ble m then A else B:=by rw [(ble_iff _ _).2 h]; exact a
theorem bif_blt {n m:Nat} (h:n<m) (a:A):bif n.blt m then A else B:=by rw [(blt_iff _ _).2 h]; exact a
theorem bif_beq {n m:Nat} (h:n=m) (a:A):bif n.beq m then A else B:=by subst h; rw [Nat.beq_refl]; exact a
theorem bif_eqL {l m:List UInt8} (h:l=m) (a:A):bif l == m then A else B:=by subst h; rw [beq_self_eq_true]; exact a
theorem bif_neL {l m:List UInt8} (h:¬ l=m) (a:B):bif l == m then A else B:=by rw [beq_eq_false_iff_ne.2 h]; exact a
end
theorem w64i (x:Int):wrap64 x=IntKind.i64.wrap x:=by rw [IntKind.wrap_i64]; unfold wrap64; omega
theorem u32w (x:Int):IntKind.u32.wrap x=x % 4294967296:=by unfold IntKind.wrap; rfl
theorem u8w (x:Int):IntKind.u8.wrap x=x % 256:=by unfold IntKind.wrap; rfl
theorem bt_get (s:ByteArray) (i:Int):bt s i=((s.data.toList.getD i.toNat 0).toNat:Int):=by
 rw [← rd_bytesOf]
 unfold rd bytesOf
 rw [List.getD_eq_getElem?_getD,List.getElem?_map,List.getD_eq_getElem?_getD]
 cases s.data.toList[i.toNat]? <;> rfl
theorem emod1 (x y:Int):(x % 4294967296+y) % 4294967296=(x+y) % 4294967296:=by omega
theorem emod2 (x y:Int):(x+y % 4294967296) % 4294967296=(x+y) % 4294967296:=by omega
theorem emod3 (x:Int):x % 4294967296 % 256=x % 256:=by omega
theorem emod4 (x:Int):x % 256 % 4294967296=x % 256:=by omega
theorem emod5 (x:Int):IntKind.i64.wrap (x % 256)=x % 256:=by rw [IntKind.wrap_i64]; omega
theorem tmodN (x:Int):(x % 4294967296).tmod 1000000000=x % 4294967296 % 1000000000:=Int.tmod_eq_emod_of_nonneg (by omega)
theorem tdivN (x:Int):(x % 4294967296).tdiv 1000000000 % 4294967296=x % 4294967296 / 1000000000:=by rw [Int.tdiv_eq_ediv_of_nonneg (by omega)]; omega
theorem listE : (ByteArray.mk #[]).toList=([]:List UInt8):=by rw [ByteArray.toList_eq]
theorem list48 : (ByteArray.mk #[48]).toList=([48]:List UInt8):=by rw [ByteArray.toList_eq]
theorem res_own {Q:Res} {e:ETy} {l:List e.D} {fz:Bool} {id:Nat} {H:List HObj} (ho:objAt H id = .typed e l fz) (hq:Q (.own 0) [.typed e l fz]):resK Q (.own id) H :=
 ⟨.own 0,[.typed e l fz],hq,rfl,rfl,[id],rfl,by simp,fun k i h=>by
  match k,h with
  | 0,h=>cases h; exact congrArg some ho.symm,rfl⟩
theorem con_imm {P:Program} {g:FuncId} {args:List AV} {e:ETy} {l:List e.D} {Q:Res} (h:Con P g args fun v o=>v = .own 0∧∃ fz,o=[.typed e l fz]) (hq:Q (.imm e l) []):Con P g args Q :=
 h.sealTo fun v o hv=>by
  obtain ⟨rfl,fz,rfl⟩:=hv
  exact ⟨_,⟨e,l,fz,rfl,rfl⟩,hq⟩
section
variable {f:FuncId} {gn:FnT} (hg:find tab.fn f=some gn) {C:FuncId→List AV→Res→Prop} (hC:∀ g xs Q,C g xs Q→Con Tryz.prog g xs Q) {CH:List (Nat × List Bool × HCtr)} (hH:∀ g p,find CH g=some p→∀ xs os Q,p.2 xs os Q→ConH Tryz.prog g xs os Q)
 {inl:List Nat} {LT:List (Nat × List Nat)} {NT:List (Nat × ETy)} {K:Res} {n0:Nat}
include hg hC hH
theorem goodHN {todo:List Item} {st:St} (h:execN tab (mixH tab CH C inl 400) (maskN LT NT (GoodL Tryz.prog n0 f K)) (finK tab gn.res K) 400 todo st):GoodL Tryz.prog n0 f K todo st :=
 good_ofN tabOk hmo (mixH_ok tabOk hmo hH hC inl 400) (fnI f gn hg) h
theorem roundHN {r:Nat} {st:St} (h:execN tab (mixH tab CH C inl 400) (maskN LT NT (GoodL Tryz.prog n0 f K)) (finK tab gn.res K) 400 (roundAt gn r) st):GoodL Tryz.prog n0 f K (headAt gn r) st :=
 round_ok (goodHN hg hC hH h)
theorem conHN {args:List AV} {Q:Res} (hn:Nat.ble args.length gn.n=true)
 (h:∀ n0,execN tab (mixH tab CH C inl 400) (maskN LT NT (GoodL Tryz.prog n0 f (resK Q))) (finK tab gn.res (resK Q)) 400 [.code gn.body] ⟨initEnv gn.n args,[]⟩):Con Tryz.prog f args Q :=
 con_of (fnI f gn hg) hn fun n0=>goodHN hg hC hH (h n0)
end
section
variable {f:FuncId} {gn:FnT} (hg:find tab.fn f=some gn) {C:FuncId→List AV→Res→Prop} (hC:∀ g xs Q,C g xs Q→Con Tryz.prog g xs Q)
 {inl:List Nat} {LT:List (Nat × List Nat)} {NT:List (Nat × ETy)} {K:Res} {n0 m:Nat} {hv:Nat→Value × Nat}
include hg hC
theorem goodW {todo:List Item} {st:St} (h:execN tab (mixE tab C inl 400) (maskH m LT NT (GoodH Tryz.prog n0 f m hv K)) (finK tab gn.res K) 400 todo st):GoodH Tryz.prog n0 f m hv K todo st :=
 good_ofH tabOk hmo (mixE_ok tabOk hmo hC inl 400) (fnI f gn hg) h
theorem roundW {r:Nat} {st:St} (h:execN tab (mixE tab C inl 400) (maskH m LT NT (GoodH Tryz.prog n0 f m hv K)) (finK tab gn.res K) 400 (roundAt gn r) st):GoodH Tryz.prog n0 f m hv K (headAt gn r) st :=
 round_okH (goodW hg hC h)
theorem conW {args:List AV} {os:List HObj} {Q:Res} (hn:Nat.ble args.length gn.n=true)
 (h:∀ n0 hv,execN tab (mixE tab C inl 400) (maskH os.length LT NT (GoodH Tryz.prog n0 f os.length hv (resH os.length Q))) (finK tab gn.res (resH os.length Q)) 400 [.code gn.body] ⟨initEnv gn.n args,os⟩):ConH Tryz.prog f args os Q :=
 conH_of (fnI f gn hg) hn fun n0 hv=>goodW hg hC (h n0 hv)
end
theorem hands_ok {L:List (Nat × List Bool × HCtr)} (h:∀ p∈L,∀ xs os Q,p.2.2 xs os Q→ConH Tryz.prog p.1 xs os Q):∀ g p,find L g=some p→∀ xs os Q,p.2 xs os Q→ConH Tryz.prog g xs os Q :=
 fun g p hp xs os Q hq=>h _ (find_mem hp) xs os Q hq
end
end Go.Proofs.YtnnkjpcipldnfaaGreatDoor.Lib
end
section
set_option linter.unusedVariables false
namespace Go.Proofs.YtnnkjpcipldnfaaGreatDoor.ND
open Go Go.RowKit Go.Proofs.YtnnkjpcipldnfaaGreatDoorW.PrintWords
section
def gp_bytes.f (s:ByteArray):Option (List Int):=if s.size≤9223372036854775807 then some (bytesOf s) else none
mutual
def nat_Check.j0 : Nat→ByteArray→Bool→Option (Int)
 | 0,_,_=>none
 | k+1,x0,x16=>if x16=true then (some 5) else ((gp_bytes.f x0).bind fun t101=>(nat_Check.l0 k x0 t101 (t101.length:Int) 0))
def nat_Check.l0 : Nat→ByteArray→List Int→Int→Int→Option (Int)
 | 0,_,_,_,_=>none
 | k+1,x0,x18,x19,x20=>if x20<x19 then (if 0≤x20 then (if x20<(x18.length:Int) then (if (rd x18 x20)<48 then (some 5) else (if (rd x18 x20) > 57 then (some 5) else (nat_Check.l0 k x0 x18 x19 (wrap64 (x20+1))))) else (none)) else (none)) else (if (x0.size:Int) > 2000 then (some 2) else (some 0))
end
def nat_Check.f (k:Nat) (a0:ByteArray):Option (Int):=if a0.toList=([]:List UInt8) then (nat_Check.j0 k a0 true) else (if 0<(a0.size:Int) then (if (bt a0 0)=48 then (nat_Check.j0 k a0 (decide ((a0.size:Int) > 1))) else (nat_Check.j0 k a0 false)) else (none))
def nat_N_trim.l0 : Nat→List Int→Option (List Int)
 | 0,_=>none
 | k+1,x0=>if (x0.length:Int) > 0 then (if 0≤(wrap64 ((x0.length:Int) - 1)) then (if (wrap64 ((x0.length:Int) - 1))<(x0.length:Int) then (if (rd x0 (wrap64 ((x0.length:Int) - 1)))=0 then (if (wrap64 ((x0.length:Int) - 1))≤(x0.length:Int) then (nat_N_trim.l0 k (x0.take ((wrap64 ((x0.length:Int) - 1)):Int).toNat)) else (none)) else (some x0)) else (none)) else (none)) else (some x0)
def nat_N_trim.f (k:Nat) (l0:List Int):Option (List Int):=nat_N_trim.l0 k l0
mutual
def nat_Read.l0 : Nat→ByteArray→List Int→Int→Option (List Int)
 | 0,_,_,_=>none
 | k+1,x0,x3,x4=>if x4 > 0 then (if 0≤(mx 0 (wrap64 (x4 - 9))) then (if (mx 0 (wrap64 (x4 - 9)))≤x4 then (if x4≤(x0.size:Int) then ((gp_bytes.f (x0.extract ((mx 0 (wrap64 (x4 - 9))):Int).toNat (x4:Int).toNat)).bind fun t112=>(nat_Read.l1 k x0 x3 x4 0 t112 (t112.length:Int) 0)) else (none)) else (none)) else (none)) else ((nat_N_trim.f k x3).bind fun t109=>(some t109))
def nat_Read.l1 : Nat→ByteArray→List Int→Int→Int→List Int→Int→Int→Option (List Int)
 | 0,_,_,_,_,_,_,_=>none
 | k+1,x0,x3,x4,x5,x20,x21,x22=>if x22<x21 then (if 0≤x22 then (if x22<(x20.length:Int) then (nat_Read.l1 k x0 x3 x4 (((x5 * 10)+(((rd x20 x22) - 48) % 256)) % 4294967296) x20 x21 (wrap64 (x22+1))) else (none)) else (none)) else (if x3.length<35184372088832 then (nat_Read.l0 k x0 (x3 ++ [x5]) (wrap64 (x4 - 9))) else (none))
end
def nat_Read.f (k:Nat) (a0:ByteArray):Option (List Int):=nat_Read.l0 k a0 ([]:List Int) (a0.size:Int)
def strings_trimLeftByte.l0 : Nat→ByteArray→Int→Option (ByteArray)
 | 0,_,_=>none
 | k+1,x0,x1=>if (x0.size:Int) > 0 then (if 0<(x0.size:Int) then (if (bt x0 0)=x1 then (if 1≤(x0.size:Int) then (strings_trimLeftByte.l0 k (x0.extract 1 x0.size) x1) else (none)) else (some x0)) else (none)) else (some x0)
def strings_trimLeftByte.f (k:Nat) (a0:ByteArray) (a1:Int):Option (ByteArray):=strings_trimLeftByte.l0 k a0 a1
mutual
def strings_TrimLeft.j0 : Nat→ByteArray→ByteArray→Bool→Option (ByteArray)
 | 0,_,_,_=>none
 | k+1,x0,x1,x12=>if x12=true then (some x0) else (if (x1.size:Int)=1 then (if 0<(x1.size:Int) then (strings_TrimLeft.j1 k x0 x1 (decide ((bt x1 0)<128))) else (none)) else (strings_TrimLeft.j1 k x0 x1 false))
def strings_TrimLeft.j1 : Nat→ByteArray→ByteArray→Bool→Option (ByteArray)
 | 0,_,_,_=>none
 | k+1,x0,x1,x21=>if x21=true then (if 0<(x1.size:Int) then ((strings_trimLeftByte.f k x0 (bt x1 0)).bind fun t127=>(some t127)) else (none)) else (none)
end
def strings_TrimLeft.f (k:Nat) (a0:ByteArray) (a1:ByteArray):Option (ByteArray):=if a0.toList=([]:List UInt8) then (strings_TrimLeft.j0 k a0 a1 true) else (strings_TrimLeft.j0 k a0 a1 (a1.toList == ([]:List UInt8)))
def gp_make0_61.f (m:Int):Option (List Int):=if 0≤m∧m.toNat≤281474976710656 then some [] else none
mutual
def nat_N_Text.l0 : Nat→List Int→List Int→Int→Option (ByteArray)
 | 0,_,_,_=>none
 | k+1,x0,x3,x4=>if x4 ≥ 0 then (if 0≤x4 then (if x4<(x0.length:Int) then (if 9≤281474976710656 then (nat_N_Text.l1 k x0 x3 x4 (rd x0 x4) (List.replicate 9 0) 8) else (none)) else (none)) else (none)) else ((strings_TrimLeft.f k (strOfNums x3) (⟨#[48]⟩:ByteArray)).bind fun t131=>(some t131))
def nat_N_Text.l1 : Nat→List Int→List Int→Int→Int→List Int→Int→Option (ByteArray)
 | 0,_,_,_,_,_,_=>none
 | k+1,x0,x3,x4,x5,x6,x7=>if x7 ≥ 0 then (if 0≤x7 then (if x7<(x6.length:Int) then (nat_N_Text.l1 k x0 x3 x4 ((Int.tdiv x5 10) % 4294967296) (x6.set (x7:Int).toNat ((48+(Int.tmod x5 10)) % 256)) (wrap64 (x7 - 1))) else (none)) else (none)) else (if x3.length+x6.length<140737488355328 then (nat_N_Text.l0 k x0 (x3 ++ x6) (wrap64 (x4 - 1))) else (none))
end
def nat_N_Text.f (k:Nat) (l0:List Int):Option (ByteArray):=if (l0.length:Int)=0 then (some (⟨#[48]⟩:ByteArray)) else ((gp_make0_61.f (wrap64 (9 * (l0.length:Int)))).bind fun t128=>(nat_N_Text.l0 k l0 t128 (wrap64 ((l0.length:Int) - 1))))
def gp_make0_63.f (m:Int):Option (List Int):=if 0≤m∧m.toNat≤70368744177664 then some [] else none
mutual
def nat_N_Add.j0 : Nat→List Int→List Int→Option (List Int)
 | 0,_,_=>none
 | k+1,x0,x1=>(gp_make0_63.f (wrap64 ((x0.length:Int)+1))).bind fun t129=>(nat_N_Add.l0 k x1 t129 0 x0 (x0.length:Int) 0)
def nat_N_Add.l0 : Nat→List Int→List Int→Int→List Int→Int→Int→Option (List Int)
 | 0,_,_,_,_,_,_=>none
 | k+1,x1,x5,x6,x20,x21,x22=>if x22<x21 then (if 0≤x22 then (if x22<(x20.length:Int) then (if x22<(x1.length:Int) then (if x5.length<35184372088832 then (nat_N_Add.l0 k x1 (x5 ++ [((((rd x20 x22)+x6)+(rd x1 x22)) % 4294967296) % 1000000000]) (((((rd x20 x22)+x6)+(rd x1 x22)) % 4294967296) / 1000000000) x20 x21 (wrap64 (x22+1))) else (none)) else (if x5.length<35184372088832 then (nat_N_Add.l0 k x1 (x5 ++ [(((rd x20 x22)+x6) % 4294967296) % 1000000000]) ((((rd x20 x22)+x6) % 4294967296) / 1000000000) x20 x21 (wrap64 (x22+1))) else (none))) else (none)) else (none)) else (if x6 > 0 then (if x5.length<35184372088832 then (some (x5 ++ [x6])) else (none)) else (some x5))
end
def nat_N_Add.f (k:Nat) (l0:List Int) (l1:List Int):Option (List Int):=if (l0.length:Int)<(l1.length:Int) then (nat_N_Add.j0 k l1 l0) else (nat_N_Add.j0 k l0 l1)
def nat_N_Cmp.l0 : Nat→List Int→List Int→Int→Option (Int)
 | 0,_,_,_=>none
 | k+1,x0,x1,x5=>if x5 ≥ 0 then (if 0≤x5 then (if x5<(x0.length:Int) then (if x5<(x1.length:Int) then (if (rd x0 x5)<(rd x1 x5) then (some (-1)) else (if (rd x0 x5) > (rd x1 x5) then (some 1) else (nat_N_Cmp.l0 k x0 x1 (wrap64 (x5 - 1))))) else (none)) else (none)) else (none)) else (some 0)
def nat_N_Cmp.f (k:Nat) (l0:List Int) (l1:List Int):Option (Int):=if (l0.length:Int)=(l1.length:Int) then (nat_N_Cmp.l0 k l0 l1 (wrap64 ((l0.length:Int) - 1))) else (if (l0.length:Int)<(l1.length:Int) then (some (-1)) else (some 1))
def nat_N_Sub.l0 : Nat→List Int→List Int→List Int→Int→Int→Int→Option (List Int)
 | 0,_,_,_,_,_,_=>none
 | k+1,x0,x1,x5,x6,x13,x14=>if x14<x13 then (if 0≤x14 then (if x14<(x0.length:Int) then (if x14<(x1.length:Int) then (if (wrap64 ((wrap64 ((wrap64 (rd x0 x14)) - x6)) - (wrap64 (rd x1 x14))))<0 then (if x14<(x5.length:Int) then (nat_N_Sub.l0 k x0 x1 (x5.set (x14:Int).toNat ((wrap64 ((wrap64 ((wrap64 ((wrap64 (rd x0 x14)) - x6)) - (wrap64 (rd x1 x14))))+1000000000)) % 4294967296)) 1 x13 (wrap64 (x14+1))) else (none)) else (if x14<(x5.length:Int) then (nat_N_Sub.l0 k x0 x1 (x5.set (x14:Int).toNat ((wrap64 ((wrap64 ((wrap64 (rd x0 x14)) - x6)) - (wrap64 (rd x1 x14)))) % 4294967296)) 0 x13 (wrap64 (x14+1))) else (none))) else (if (wrap64 ((wrap64 (rd x0 x14)) - x6))<0 then (if x14<(x5.length:Int) then (nat_N_Sub.l0 k x0 x1 (x5.set (x14:Int).toNat ((wrap64 ((wrap64 ((wrap64 (rd x0 x14)) - x6))+1000000000)) % 4294967296)) 1 x13 (wrap64 (x14+1))) else (none)) else (if x14<(x5.length:Int) then (nat_N_Sub.l0 k x0 x1 (x5.set (x14:Int).toNat ((wrap64 ((wrap64 (rd x0 x14)) - x6)) % 4294967296)) 0 x13 (wrap64 (x14+1))) else (none)))) else (none)) else (none)) else ((nat_N_trim.f k x5).bind fun t162=>(some t162))
def nat_N_Sub.f (k:Nat) (l0:List Int) (l1:List Int):Option (List Int):=if 0≤(l0.length:Int) then (if ((l0.length:Int):Int).toNat≤70368744177664 then (nat_N_Sub.l0 k l0 l1 (List.replicate ((l0.length:Int):Int).toNat 0) 0 (l0.length:Int) 0) else (none)) else (none)
mutual
def nat_N_Mul.l0 : Nat→List Int→List Int→List Int→Int→Int→Option (List Int)
 | 0,_,_,_,_,_=>none
 | k+1,x1,x5,x18,x19,x20=>if x20<x19 then (if 0≤x20 then (if x20<(x18.length:Int) then (nat_N_Mul.l1 k x1 x5 x20 (rd x18 x20) 0 x18 x19 x20 x1 (x1.length:Int) 0) else (none)) else (none)) else ((nat_N_trim.f k x5).bind fun t187=>(some t187))
def nat_N_Mul.l1 : Nat→List Int→List Int→Int→Int→Int→List Int→Int→Int→List Int→Int→Int→Option (List Int)
 | 0,_,_,_,_,_,_,_,_,_,_,_=>none
 | k+1,x1,x5,x6,x7,x8,x18,x19,x20,x25,x26,x27=>if x27<x26 then (if 0≤x27 then (if x27<(x25.length:Int) then (if 0≤(wrap64 (x6+x27)) then (if (wrap64 (x6+x27))<(x5.length:Int) then (nat_N_Mul.l1 k x1 (x5.set ((wrap64 (x6+x27)):Int).toNat ((Int.tmod (IntKind.u64.wrap ((IntKind.u64.wrap ((IntKind.u64.wrap ((IntKind.u64.wrap (x7)) * (IntKind.u64.wrap (rd x25 x27))))+(IntKind.u64.wrap (rd x5 (wrap64 (x6+x27))))))+x8)) 1000000000) % 4294967296)) x6 x7 (IntKind.u64.wrap (Int.tdiv (IntKind.u64.wrap ((IntKind.u64.wrap ((IntKind.u64.wrap ((IntKind.u64.wrap (x7)) * (IntKind.u64.wrap (rd x25 x27))))+(IntKind.u64.wrap (rd x5 (wrap64 (x6+x27))))))+x8)) 1000000000)) x18 x19 x20 x25 x26 (wrap64 (x27+1))) else (none)) else (none)) else (none)) else (none)) else (if 0≤(wrap64 (x6+(x1.length:Int))) then (if (wrap64 (x6+(x1.length:Int)))<(x5.length:Int) then (nat_N_Mul.l0 k x1 (x5.set ((wrap64 (x6+(x1.length:Int))):Int).toNat ((x8) % 4294967296)) x18 x19 (wrap64 (x20+1))) else (none)) else (none))
end
def nat_N_Mul.f (k:Nat) (l0:List Int) (l1:List Int):Option (List Int):=if 0≤(wrap64 ((l0.length:Int)+(l1.length:Int))) then (if (wrap64 ((l0.length:Int)+(l1.length:Int)):Int).toNat≤70368744177664 then (nat_N_Mul.l0 k l1 (List.replicate (wrap64 ((l0.length:Int)+(l1.length:Int)):Int).toNat 0) l0 (l0.length:Int) 0) else (none)) else (none)
def nat_N_short.l0 : Nat→List Int→Int→List Int→Int→Int→Option (List Int × List Int)
 | 0,_,_,_,_,_=>none
 | k+1,x0,x1,x6,x7,x8=>if x8 ≥ 0 then (if 0≤x8 then (if x8<(x0.length:Int) then (if (IntKind.u64.wrap (x1))=0 then (none) else (if x8<(x6.length:Int) then (nat_N_short.l0 k x0 x1 (x6.set (x8:Int).toNat ((IntKind.u64.wrap (Int.tdiv (IntKind.u64.wrap ((IntKind.u64.wrap (x7 * 1000000000))+(IntKind.u64.wrap (rd x0 x8)))) (IntKind.u64.wrap (x1)))) % 4294967296)) (Int.tmod (IntKind.u64.wrap ((IntKind.u64.wrap (x7 * 1000000000))+(IntKind.u64.wrap (rd x0 x8)))) (IntKind.u64.wrap (x1))) (wrap64 (x8 - 1))) else (none))) else (none)) else (none)) else ((nat_N_trim.f k x6).bind fun t212=>((nat_N_trim.f k (([(x7) % 4294967296]:List Int))).bind fun t218=>(some (t212,t218))))
def nat_N_short.f (k:Nat) (l0:List Int) (a1:Int):Option (List Int × List Int):=if 0≤(l0.length:Int) then (if ((l0.length:Int):Int).toNat≤70368744177664 then (nat_N_short.l0 k l0 a1 (List.replicate ((l0.length:Int):Int).toNat 0) 0 (wrap64 ((l0.length:Int) - 1))) else (none)) else (none)
def nat_N_minus.l0 : Nat→List Int→List Int→Int→Int→Int→Int→Int→Option (Bool × List Int)
 | 0,_,_,_,_,_,_,_=>none
 | k+1,x0,x1,x2,x3,x9,x10,x11=>if x11≤(x1.length:Int) then (if x11<(x1.length:Int) then (if 0≤x11 then (if 0≤(wrap64 (x2+x11)) then (if (wrap64 (x2+x11))<(x0.length:Int) then (if (wrap64 ((wrap64 ((wrap64 (rd x0 (wrap64 (x2+x11)))) - (wrap64 (Int.tmod (IntKind.u64.wrap (x10+(IntKind.u64.wrap (x3 * (IntKind.u64.wrap (rd x1 x11)))))) 1000000000)))) - x9))<0 then (nat_N_minus.l0 k (x0.set ((wrap64 (x2+x11)):Int).toNat ((wrap64 ((wrap64 ((wrap64 ((wrap64 (rd x0 (wrap64 (x2+x11)))) - (wrap64 (Int.tmod (IntKind.u64.wrap (x10+(IntKind.u64.wrap (x3 * (IntKind.u64.wrap (rd x1 x11)))))) 1000000000)))) - x9))+1000000000)) % 4294967296)) x1 x2 x3 1 (IntKind.u64.wrap (Int.tdiv (IntKind.u64.wrap (x10+(IntKind.u64.wrap (x3 * (IntKind.u64.wrap (rd x1 x11)))))) 1000000000)) (wrap64 (x11+1))) else (nat_N_minus.l0 k (x0.set ((wrap64 (x2+x11)):Int).toNat ((wrap64 ((wrap64 ((wrap64 (rd x0 (wrap64 (x2+x11)))) - (wrap64 (Int.tmod (IntKind.u64.wrap (x10+(IntKind.u64.wrap (x3 * (IntKind.u64.wrap (rd x1 x11)))))) 1000000000)))) - x9)) % 4294967296)) x1 x2 x3 0 (IntKind.u64.wrap (Int.tdiv (IntKind.u64.wrap (x10+(IntKind.u64.wrap (x3 * (IntKind.u64.wrap (rd x1 x11)))))) 1000000000)) (wrap64 (x11+1)))) else (none)) else (none)) else (none)) else (if 0≤(wrap64 (x2+x11)) then (if (wrap64 (x2+x11))<(x0.length:Int) then (if (wrap64 ((wrap64 ((wrap64 (rd x0 (wrap64 (x2+x11)))) - (wrap64 (Int.tmod x10 1000000000)))) - x9))<0 then (nat_N_minus.l0 k (x0.set ((wrap64 (x2+x11)):Int).toNat ((wrap64 ((wrap64 ((wrap64 ((wrap64 (rd x0 (wrap64 (x2+x11)))) - (wrap64 (Int.tmod x10 1000000000)))) - x9))+1000000000)) % 4294967296)) x1 x2 x3 1 (IntKind.u64.wrap (Int.tdiv x10 1000000000)) (wrap64 (x11+1))) else (nat_N_minus.l0 k (x0.set ((wrap64 (x2+x11)):Int).toNat ((wrap64 ((wrap64 ((wrap64 (rd x0 (wrap64 (x2+x11)))) - (wrap64 (Int.tmod x10 1000000000)))) - x9)) % 4294967296)) x1 x2 x3 0 (IntKind.u64.wrap (Int.tdiv x10 1000000000)) (wrap64 (x11+1)))) else (none)) else (none))) else (some (decide (x9 > 0),x0))
def nat_N_minus.f (k:Nat) (l0:List Int) (l1:List Int) (a2:Int) (a3:Int):Option (Bool × List Int):=nat_N_minus.l0 k l0 l1 a2 a3 0 0 0
def nat_N_plus.l0 : Nat→List Int→List Int→Int→Int→Int→Option (List Int)
 | 0,_,_,_,_,_=>none
 | k+1,x0,x1,x2,x6,x7=>if x7≤(x1.length:Int) then (if 0≤(wrap64 (x2+x7)) then (if (wrap64 (x2+x7))<(x0.length:Int) then (if x7<(x1.length:Int) then (if 0≤x7 then (nat_N_plus.l0 k (x0.set ((wrap64 (x2+x7)):Int).toNat (((((rd x0 (wrap64 (x2+x7)))+x6)+(rd x1 x7)) % 4294967296) % 1000000000)) x1 x2 (((((rd x0 (wrap64 (x2+x7)))+x6)+(rd x1 x7)) % 4294967296) / 1000000000) (wrap64 (x7+1))) else (none)) else (nat_N_plus.l0 k (x0.set ((wrap64 (x2+x7)):Int).toNat ((((rd x0 (wrap64 (x2+x7)))+x6) % 4294967296) % 1000000000)) x1 x2 ((((rd x0 (wrap64 (x2+x7)))+x6) % 4294967296) / 1000000000) (wrap64 (x7+1)))) else (none)) else (none)) else (some x0)
def nat_N_plus.f (k:Nat) (l0:List Int) (l1:List Int) (a2:Int):Option (List Int):=nat_N_plus.l0 k l0 l1 a2 0 0
mutual
def nat_N_Div.l0 : Nat→List Int→Int→List Int→List Int→Option (List Int × List Int)
 | 0,_,_,_,_=>none
 | k+1,x0,x6,x7,x8=>if (x7.length:Int)≤(x0.length:Int) then (if x7.length<35184372088832 then (nat_N_Div.l0 k x0 x6 (x7 ++ [0]) x8) else (none)) else (if 0≤(wrap64 ((x7.length:Int) - (x8.length:Int))) then (if (wrap64 ((x7.length:Int) - (x8.length:Int)):Int).toNat≤70368744177664 then (nat_N_Div.l1 k x6 x7 x8 (x8.length:Int) (List.replicate (wrap64 ((x7.length:Int) - (x8.length:Int)):Int).toNat 0) (wrap64 ((wrap64 ((x7.length:Int) - (x8.length:Int))) - 1))) else (none)) else (none))
def nat_N_Div.l1 : Nat→Int→List Int→List Int→Int→List Int→Int→Option (List Int × List Int)
 | 0,_,_,_,_,_,_=>none
 | k+1,x6,x7,x8,x9,x10,x11=>if x11 ≥ 0 then (if 0≤(wrap64 (x11+x9)) then (if (wrap64 (x11+x9))<(x7.length:Int) then (if 0≤(wrap64 ((wrap64 (x11+x9)) - 1)) then (if (wrap64 ((wrap64 (x11+x9)) - 1))<(x7.length:Int) then (if 0≤(wrap64 (x9 - 1)) then (if (wrap64 (x9 - 1))<(x8.length:Int) then (if (IntKind.u64.wrap (rd x8 (wrap64 (x9 - 1))))=0 then (none) else (nat_N_Div.l2 k x6 x7 x8 x9 x10 x11 (IntKind.u64.wrap (Int.tdiv (IntKind.u64.wrap ((IntKind.u64.wrap ((IntKind.u64.wrap (rd x7 (wrap64 (x11+x9)))) * 1000000000))+(IntKind.u64.wrap (rd x7 (wrap64 ((wrap64 (x11+x9)) - 1)))))) (IntKind.u64.wrap (rd x8 (wrap64 (x9 - 1)))))) (Int.tmod (IntKind.u64.wrap ((IntKind.u64.wrap ((IntKind.u64.wrap (rd x7 (wrap64 (x11+x9)))) * 1000000000))+(IntKind.u64.wrap (rd x7 (wrap64 ((wrap64 (x11+x9)) - 1)))))) (IntKind.u64.wrap (rd x8 (wrap64 (x9 - 1))))))) else (none)) else (none)) else (none)) else (none)) else (none)) else (none)) else ((nat_N_trim.f k x7).bind fun t262=>((nat_N_short.f k t262 x6).bind fun bt265=>((nat_N_trim.f k x10).bind fun t271=>(some (t271,bt265.1)))))
def nat_N_Div.j4 : Nat→Int→List Int→List Int→Int→List Int→Int→Int→Option (List Int × List Int)
 | 0,_,_,_,_,_,_,_=>none
 | k+1,x6,x7,x8,x9,x10,x11,x13=>(nat_N_minus.f k x7 x8 x11 x13).bind fun bt281=>(if bt281.1=true then ((nat_N_plus.f k bt281.2 x8 x11).bind fun t283=>(if 0≤x11 then (if x11<(x10.length:Int) then (nat_N_Div.l1 k x6 t283 x8 x9 (x10.set (x11:Int).toNat ((IntKind.u64.wrap (x13 - 1)) % 4294967296)) (wrap64 (x11 - 1))) else (none)) else (none))) else (if 0≤x11 then (if x11<(x10.length:Int) then (nat_N_Div.l1 k x6 bt281.2 x8 x9 (x10.set (x11:Int).toNat ((x13) % 4294967296)) (wrap64 (x11 - 1))) else (none)) else (none)))
def nat_N_Div.l2 : Nat→Int→List Int→List Int→Int→List Int→Int→Int→Int→Option (List Int × List Int)
 | 0,_,_,_,_,_,_,_,_=>none
 | k+1,x6,x7,x8,x9,x10,x11,x13,x14=>if x13 ≥ 1000000000 then (nat_N_Div.j3 k x6 x7 x8 x9 x10 x11 x13 x14 true) else (if 0≤(wrap64 (x9 - 2)) then (if (wrap64 (x9 - 2))<(x8.length:Int) then (if 0≤(wrap64 ((wrap64 (x11+x9)) - 2)) then (if (wrap64 ((wrap64 (x11+x9)) - 2))<(x7.length:Int) then (nat_N_Div.j3 k x6 x7 x8 x9 x10 x11 x13 x14 (decide ((IntKind.u64.wrap (x13 * (IntKind.u64.wrap (rd x8 (wrap64 (x9 - 2)))))) > (IntKind.u64.wrap ((IntKind.u64.wrap (x14 * 1000000000))+(IntKind.u64.wrap (rd x7 (wrap64 ((wrap64 (x11+x9)) - 2))))))))) else (none)) else (none)) else (none)) else (none))
def nat_N_Div.j3 : Nat→Int→List Int→List Int→Int→List Int→Int→Int→Int→Bool→Option (List Int × List Int)
 | 0,_,_,_,_,_,_,_,_,_=>none
 | k+1,x6,x7,x8,x9,x10,x11,x13,x14,x132=>if x132=true then (if 0≤(wrap64 (x9 - 1)) then (if (wrap64 (x9 - 1))<(x8.length:Int) then (if (IntKind.u64.wrap (x14+(IntKind.u64.wrap (rd x8 (wrap64 (x9 - 1)))))) ≥ 1000000000 then (nat_N_Div.j4 k x6 x7 x8 x9 x10 x11 (IntKind.u64.wrap (x13 - 1))) else (nat_N_Div.l2 k x6 x7 x8 x9 x10 x11 (IntKind.u64.wrap (x13 - 1)) (IntKind.u64.wrap (x14+(IntKind.u64.wrap (rd x8 (wrap64 (x9 - 1)))))))) else (none)) else (none)) else (nat_N_Div.j4 k x6 x7 x8 x9 x10 x11 x13)
end
def nat_N_Div.f (k:Nat) (l0:List Int) (l1:List Int):Option (List Int × List Int):=(nat_N_Cmp.f k l0 l1).bind fun t232=>(if t232<0 then (some (([]:List Int),l0)) else (if (l1.length:Int)=1 then (if 0<(l1.length:Int) then ((nat_N_short.f k l0 (rd l1 0)).bind fun bt234=>(some (bt234.1,bt234.2))) else (none)) else (if 0≤(wrap64 ((l1.length:Int) - 1)) then (if (wrap64 ((l1.length:Int) - 1))<(l1.length:Int) then (if (IntKind.u64.wrap ((IntKind.u64.wrap (rd l1 (wrap64 ((l1.length:Int) - 1))))+1))=0 then (none) else ((nat_N_Mul.f k l0 (([(IntKind.u64.wrap (Int.tdiv (1000000000:Int) (IntKind.u64.wrap ((IntKind.u64.wrap (rd l1 (wrap64 ((l1.length:Int) - 1))))+1)))) % 4294967296]:List Int))).bind fun t244=>(if t244.length<35184372088832 then ((nat_N_Mul.f k l1 (([(IntKind.u64.wrap (Int.tdiv (1000000000:Int) (IntKind.u64.wrap ((IntKind.u64.wrap (rd l1 (wrap64 ((l1.length:Int) - 1))))+1)))) % 4294967296]:List Int))).bind fun t253=>(nat_N_Div.l0 k l0 ((IntKind.u64.wrap (Int.tdiv (1000000000:Int) (IntKind.u64.wrap ((IntKind.u64.wrap (rd l1 (wrap64 ((l1.length:Int) - 1))))+1)))) % 4294967296) (t244 ++ [0]) t253)) else (none)))) else (none)) else (none))))
def nat_N_Gcd.l0 : Nat→List Int→List Int→Option (List Int)
 | 0,_,_=>none
 | k+1,x0,x1=>if (x1.length:Int) > 0 then ((nat_N_Div.f k x0 x1).bind fun bt301=>(nat_N_Gcd.l0 k x1 bt301.2)) else (some x0)
def nat_N_Gcd.f (k:Nat) (l0:List Int) (l1:List Int):Option (List Int):=nat_N_Gcd.l0 k l0 l1
def nat_Of.l0 : Nat→Int→List Int→Option (List Int)
 | 0,_,_=>none
 | k+1,x0,x3=>if x0 > 0 then (if x3.length<35184372088832 then (nat_Of.l0 k (wrap64 (Int.tdiv x0 1000000000)) (x3 ++ [(Int.tmod x0 1000000000) % 4294967296])) else (none)) else (some x3)
def nat_Of.f (k:Nat) (a0:Int):Option (List Int):=nat_Of.l0 k a0 ([]:List Int)
def nat_N_Digits.f (k:Nat) (l0:List Int):Option (Int):=(nat_N_Text.f k l0).bind fun t322=>(some (t322.size:Int))
mutual
def gamehallref2_NatError.l0 : Nat→ByteArray→Int→Option (Int)
 | 0,_,_=>none
 | k+1,x0,x3=>if x3<(x0.size:Int) then (if 0≤x3 then (if (bt x0 x3)<48 then (some 5) else (if (bt x0 x3) > 57 then (some 5) else (gamehallref2_NatError.l0 k x0 (wrap64 (x3+1))))) else (none)) else (if (x0.size:Int) > 1 then (if 0<(x0.size:Int) then (gamehallref2_NatError.j1 k x0 ((bt x0 0) == 48)) else (none)) else (gamehallref2_NatError.j1 k x0 false))
def gamehallref2_NatError.j1 : Nat→ByteArray→Bool→Option (Int)
 | 0,_,_=>none
 | k+1,x0,x30=>if x30=true then (some 5) else (if (x0.size:Int) > 2000 then (some 2) else (some 0))
end
def gamehallref2_NatError.f (k:Nat) (a0:ByteArray):Option (Int):=if (a0.size:Int)=0 then (some 5) else (gamehallref2_NatError.l0 k a0 0)
def gamehallref2_digit.f (a0:ByteArray) (a1:Int):Option (Int):=if a1<(a0.size:Int) then (if 0≤(wrap64 ((wrap64 ((a0.size:Int) - 1)) - a1)) then (if (wrap64 ((wrap64 ((a0.size:Int) - 1)) - a1))<(a0.size:Int) then (some (((bt a0 (wrap64 ((wrap64 ((a0.size:Int) - 1)) - a1))) - 48) % 256)) else (none)) else (none)) else (some 0)
def gamehallref2_strip.l0 : Nat→ByteArray→Option (ByteArray)
 | 0,_=>none
 | k+1,x0=>if (x0.size:Int) > 1 then (if 0<(x0.size:Int) then (if (bt x0 0)=48 then (if 1≤(x0.size:Int) then (gamehallref2_strip.l0 k (x0.extract 1 x0.size)) else (none)) else (some x0)) else (none)) else (some x0)
def gamehallref2_strip.f (k:Nat) (a0:ByteArray):Option (ByteArray):=gamehallref2_strip.l0 k a0
def gamehallref2_text.l0 : Nat→List Int→List Int→List Int→Int→Int→Option (ByteArray)
 | 0,_,_,_,_,_=>none
 | k+1,x0,x3,x9,x10,x11=>if x11<x10 then (if 0≤x11 then (if x11<(x9.length:Int) then (if 0≤(wrap64 ((wrap64 ((x0.length:Int) - 1)) - x11)) then (if (wrap64 ((wrap64 ((x0.length:Int) - 1)) - x11))<(x3.length:Int) then (gamehallref2_text.l0 k x0 (x3.set ((wrap64 ((wrap64 ((x0.length:Int) - 1)) - x11)):Int).toNat ((wrap64 (48+(rd x9 x11))) % 256)) x9 x10 (wrap64 (x11+1))) else (none)) else (none)) else (none)) else (none)) else (if 1+(strOfNums x3).size≤9223372036854775807 then ((gamehallref2_strip.f k ((⟨#[48]⟩:ByteArray) ++ (strOfNums x3))).bind fun t395=>(some t395)) else (none))
def gamehallref2_text.f (k:Nat) (l0:List Int):Option (ByteArray):=if 0≤(l0.length:Int) then (if ((l0.length:Int):Int).toNat≤281474976710656 then (gamehallref2_text.l0 k l0 (List.replicate ((l0.length:Int):Int).toNat 0) l0 (l0.length:Int) 0) else (none)) else (none)
mutual
def gamehallref2_NatAdd.l0 : Nat→ByteArray→ByteArray→List Int→Int→Int→Option (ByteArray)
 | 0,_,_,_,_,_=>none
 | k+1,x0,x1,x5,x6,x7=>if x7<(x0.size:Int) then (gamehallref2_NatAdd.j1 k x0 x1 x5 x6 x7 true) else (if x7<(x1.size:Int) then (gamehallref2_NatAdd.j1 k x0 x1 x5 x6 x7 true) else (gamehallref2_NatAdd.j1 k x0 x1 x5 x6 x7 (decide (x6 > 0))))
def gamehallref2_NatAdd.j1 : Nat→ByteArray→ByteArray→List Int→Int→Int→Bool→Option (ByteArray)
 | 0,_,_,_,_,_,_=>none
 | k+1,x0,x1,x5,x6,x7,x22=>if x22=true then ((gamehallref2_digit.f x0 x7).bind fun t396=>((gamehallref2_digit.f x1 x7).bind fun t397=>(if x5.length<17592186044416 then (gamehallref2_NatAdd.l0 k x0 x1 (x5 ++ [Int.tmod (wrap64 ((wrap64 (t396+t397))+x6)) 10]) (wrap64 (Int.tdiv (wrap64 ((wrap64 (t396+t397))+x6)) 10)) (wrap64 (x7+1))) else (none)))) else ((gamehallref2_text.f k x5).bind fun t401=>(some t401))
end
def gamehallref2_NatAdd.f (k:Nat) (a0:ByteArray) (a1:ByteArray):Option (ByteArray):=gamehallref2_NatAdd.l0 k a0 a1 ([]:List Int) 0 0
def gamehallref2_NatCmp.f (a0:ByteArray) (a1:ByteArray):Option (Int):=if (a0.size:Int)<(a1.size:Int) then (some (-1)) else (if (a0.size:Int) > (a1.size:Int) then (some 1) else (if (Op.bytesLess a0.toList a1.toList)=true then (some (-1)) else (if ((Op.bytesLess a0.toList a1.toList || a0.toList == a1.toList)=true) then (some 0) else (some 1))))
def gamehallref2_NatSub.l0 : Nat→ByteArray→ByteArray→List Int→Int→Int→Int→Option (ByteArray)
 | 0,_,_,_,_,_,_=>none
 | k+1,x0,x1,x5,x6,x10,x11=>if x11<x10 then ((gamehallref2_digit.f x0 x11).bind fun t403=>((gamehallref2_digit.f x1 x11).bind fun t404=>(if (wrap64 ((wrap64 (t403 - t404)) - x6))<0 then (if x5.length<17592186044416 then (gamehallref2_NatSub.l0 k x0 x1 (x5 ++ [wrap64 ((wrap64 ((wrap64 (t403 - t404)) - x6))+10)]) 1 x10 (wrap64 (x11+1))) else (none)) else (if x5.length<17592186044416 then (gamehallref2_NatSub.l0 k x0 x1 (x5 ++ [wrap64 ((wrap64 (t403 - t404)) - x6)]) 0 x10 (wrap64 (x11+1))) else (none))))) else ((gamehallref2_text.f k x5).bind fun t402=>(some t402))
def gamehallref2_NatSub.f (k:Nat) (a0:ByteArray) (a1:ByteArray):Option (ByteArray):=gamehallref2_NatSub.l0 k a0 a1 ([]:List Int) 0 (a0.size:Int) 0
mutual
def gamehallref2_NatMul.l0 : Nat→ByteArray→ByteArray→List Int→Int→Int→Option (ByteArray)
 | 0,_,_,_,_,_=>none
 | k+1,x0,x1,x5,x18,x19=>if x19<x18 then ((gamehallref2_digit.f x0 x19).bind fun t438=>(gamehallref2_NatMul.l1 k x0 x1 x5 x19 t438 x18 x19 (x1.size:Int) 0)) else ((gamehallref2_text.f k x5).bind fun t437=>(some t437))
def gamehallref2_NatMul.l1 : Nat→ByteArray→ByteArray→List Int→Int→Int→Int→Int→Int→Int→Option (ByteArray)
 | 0,_,_,_,_,_,_,_,_,_=>none
 | k+1,x0,x1,x5,x6,x7,x18,x19,x26,x27=>if x27<x26 then (if 0≤(wrap64 (x6+x27)) then (if (wrap64 (x6+x27))<(x5.length:Int) then ((gamehallref2_digit.f x1 x27).bind fun t440=>(gamehallref2_NatMul.l1 k x0 x1 (x5.set ((wrap64 (x6+x27)):Int).toNat (wrap64 ((rd x5 (wrap64 (x6+x27)))+(wrap64 (x7 * t440))))) x6 x7 x18 x19 x26 (wrap64 (x27+1)))) else (none)) else (none)) else (if 0≤(wrap64 ((x5.length:Int) - 1)) then (if (wrap64 ((x5.length:Int) - 1))≤(x5.length:Int) then (gamehallref2_NatMul.l2 k x0 x1 x5 x18 x19 ((x5.take ((wrap64 ((x5.length:Int) - 1)):Int).toNat).length:Int) 0) else (none)) else (none))
def gamehallref2_NatMul.l2 : Nat→ByteArray→ByteArray→List Int→Int→Int→Int→Int→Option (ByteArray)
 | 0,_,_,_,_,_,_,_=>none
 | k+1,x0,x1,x5,x18,x19,x49,x50=>if x50<x49 then (if 0≤x50 then (if x50<(x5.length:Int) then (if (rd x5 x50) > 9 then (if 0≤(wrap64 (x50+1)) then (if (wrap64 (x50+1))<(x5.length:Int) then ((some (x5.set ((wrap64 (x50+1)):Int).toNat (wrap64 ((rd x5 (wrap64 (x50+1)))+(wrap64 (Int.tdiv (rd x5 x50) 10)))):List Int)).bind fun y449=>(gamehallref2_NatMul.l2 k x0 x1 (y449.set (x50:Int).toNat (Int.tmod (rd y449 x50) 10)) x18 x19 x49 (wrap64 (x50+1)))) else (none)) else (none)) else (gamehallref2_NatMul.l2 k x0 x1 x5 x18 x19 x49 (wrap64 (x50+1)))) else (none)) else (none)) else (gamehallref2_NatMul.l0 k x0 x1 x5 x18 (wrap64 (x19+1)))
end
def gamehallref2_NatMul.f (k:Nat) (a0:ByteArray) (a1:ByteArray):Option (ByteArray):=if 0≤(wrap64 ((wrap64 ((a0.size:Int)+(a1.size:Int)))+1)) then (if (wrap64 ((wrap64 ((a0.size:Int)+(a1.size:Int)))+1):Int).toNat≤35184372088832 then (gamehallref2_NatMul.l0 k a0 a1 (List.replicate (wrap64 ((wrap64 ((a0.size:Int)+(a1.size:Int)))+1):Int).toNat 0) (a0.size:Int) 0) else (none)) else (none)
mutual
def gamehallref2_NatDiv.l0 : Nat→ByteArray→ByteArray→ByteArray→ByteArray→Int→Option (ByteArray × ByteArray)
 | 0,_,_,_,_,_=>none
 | k+1,x0,x1,x7,x8,x9=>if x9<(x0.size:Int) then (if 0≤x9 then (if x9≤(wrap64 (x9+1)) then (if (wrap64 (x9+1))≤(x0.size:Int) then (if x8.size+(x0.extract (x9:Int).toNat ((wrap64 (x9+1)):Int).toNat).size≤9223372036854775807 then ((gamehallref2_strip.f k (x8 ++ (x0.extract (x9:Int).toNat ((wrap64 (x9+1)):Int).toNat))).bind fun t454=>(gamehallref2_NatDiv.l1 k x0 x1 x7 t454 x9 48)) else (none)) else (none)) else (none)) else (none)) else (if 1+x7.size≤9223372036854775807 then ((gamehallref2_strip.f k ((⟨#[48]⟩:ByteArray) ++ x7)).bind fun t453=>(some (t453,x8))) else (none))
def gamehallref2_NatDiv.l1 : Nat→ByteArray→ByteArray→ByteArray→ByteArray→Int→Int→Option (ByteArray × ByteArray)
 | 0,_,_,_,_,_,_=>none
 | k+1,x0,x1,x7,x8,x9,x10=>(gamehallref2_NatCmp.f x8 x1).bind fun t455=>(if t455 ≥ 0 then ((gamehallref2_NatSub.f k x8 x1).bind fun t456=>(gamehallref2_NatDiv.l1 k x0 x1 x7 t456 x9 ((x10+1) % 256))) else (if x7.size+(Utf8.encode x10).size≤9223372036854775807 then (gamehallref2_NatDiv.l0 k x0 x1 (x7 ++ (Utf8.encode x10)) x8 (wrap64 (x9+1))) else (none)))
end
def gamehallref2_NatDiv.f (k:Nat) (a0:ByteArray) (a1:ByteArray):Option (ByteArray × ByteArray):=if 0≤(mx 0 (mn (a0.size:Int) (wrap64 ((a1.size:Int) - 1)))) then (if (mx 0 (mn (a0.size:Int) (wrap64 ((a1.size:Int) - 1))))≤(a0.size:Int) then (if 1+(a0.extract 0 ((mx 0 (mn (a0.size:Int) (wrap64 ((a1.size:Int) - 1)))):Int).toNat).size≤9223372036854775807 then ((gamehallref2_strip.f k ((⟨#[48]⟩:ByteArray) ++ (a0.extract 0 ((mx 0 (mn (a0.size:Int) (wrap64 ((a1.size:Int) - 1)))):Int).toNat))).bind fun t452=>(gamehallref2_NatDiv.l0 k a0 a1 (⟨#[]⟩:ByteArray) t452 (mx 0 (mn (a0.size:Int) (wrap64 ((a1.size:Int) - 1)))))) else (none)) else (none)) else (none)
def gamehallref2_NatGcd.l0 : Nat→ByteArray→ByteArray→Option (ByteArray)
 | 0,_,_=>none
 | k+1,x0,x1=>if x1.toList=([48]:List UInt8) then (some x0) else ((gamehallref2_NatDiv.f k x0 x1).bind fun bt457=>(gamehallref2_NatGcd.l0 k x1 bt457.2))
def gamehallref2_NatGcd.f (k:Nat) (a0:ByteArray) (a1:ByteArray):Option (ByteArray):=gamehallref2_NatGcd.l0 k a0 a1
end
end Go.Proofs.YtnnkjpcipldnfaaGreatDoor.ND
end
section
set_option linter.unusedSimpArgs false
set_option linter.unusedVariables false
namespace Go.Proofs.YtnnkjpcipldnfaaGreatDoor.Lib
open Go Go.Proofs.YtnnkjpcipldnfaaGreatDoor.Mach Go.Proofs.YtnnkjpcipldnfaaGreatDoor.ND
section
abbrev eW : ETy := .one (.int .u32)
def vW : View (List Int):=vRow eW
def vU32 : View Int:=vInt .u32
def vU8 : View Int:=vInt .u8
def vU64 : View Int:=vInt .u64
def says {β:Type} (f:Nat→Option β) (mk:β→AV) (Q:Res):Prop:=∃ k r,f k=some r∧Q (mk r) []
def says0 {β:Type} (o:Option β) (mk:β→AV) (Q:Res):Prop:=∃ r,o=some r∧Q (mk r) []
def isI (n:Int):AV := .int .i64 n
def isN (l:List Int):AV := .imm eW l
def rowW (o:HObj):Option (List Int):=match o with | .typed e l fz=>(match fz with | false=>castRow eW e l | true=>none) | _=>none
def ownAt (x:AV) (n:Nat):Bool:=match x with | .own k=>Nat.beq k n | _=>false
def trimH : HCtr:=fun xs os Q=>match xs with
 | [x]=>(match os with
   | [o]=>(match rowW o with | some l=>bif ownAt x 0 then (∃ k r,nat_N_trim.f k l=some r∧Q (.own 1) [.dead, .typed eW r false]) else False | none=>False)
   | _=>False)
 | _=>False
def checkN (s:ByteArray):Res→Prop:=says (fun k=>nat_Check.f k s) isI
def readN (s:ByteArray):Res→Prop:=says (fun k=>nat_Read.f k s) isN
def textN (l:List Int):Res→Prop:=says (fun k=>nat_N_Text.f k l) .str
def cmpN (l m:List Int):Res→Prop:=says (fun k=>nat_N_Cmp.f k l m) isI
def addN (l m:List Int):Res→Prop:=says (fun k=>nat_N_Add.f k l m) isN
def subN (l m:List Int):Res→Prop:=says (fun k=>nat_N_Sub.f k l m) isN
def mulN (l m:List Int):Res→Prop:=says (fun k=>nat_N_Mul.f k l m) isN
def mulO (l m:List Int) (Q:Res):Prop:=∃ k r,nat_N_Mul.f k l m=some r∧Q (.own 0) [.typed eW r false]
def shortN (l:List Int) (d:Int):Res→Prop:=says (fun k=>nat_N_short.f k l d) fun p => .tup [isN p.1,isN p.2]
def divN (l m:List Int):Res→Prop:=says (fun k=>nat_N_Div.f k l m) fun p => .tup [isN p.1,isN p.2]
def gcdN (l m:List Int):Res→Prop:=says (fun k=>nat_N_Gcd.f k l m) isN
def ofN (n:Int):Res→Prop:=says (fun k=>nat_Of.f k n) isN
def digitsN (l:List Int):Res→Prop:=says (fun k=>nat_N_Digits.f k l) isI
def trimLB (s:ByteArray) (c:Int):Res→Prop:=says (fun k=>strings_trimLeftByte.f k s c) .str
def trimLeft (s t:ByteArray):Res→Prop:=says (fun k=>strings_TrimLeft.f k s t) .str
def trimLeft0 (s t:ByteArray) (Q:Res):Prop:=t=⟨#[48]⟩∧trimLeft s t Q
def minusH : HCtr:=fun xs os Q=>match xs with
 | [x,v,k,q]=>(match os with
   | [o]=>(match rowW o with | some u=>(match vW.get v with | some v=>(match vI.get k with | some kk=>(match vU64.get q with | some q=>bif ownAt x 0 then (∃ k r,nat_N_minus.f k u v kk q=some r∧Q (.bool r.1) [.typed eW r.2 false]) else False | none=>False) | none=>False) | none=>False) | none=>False)
   | _=>False)
 | _=>False
def plusH : HCtr:=fun xs os Q=>match xs with
 | [x,v,k]=>(match os with
   | [o]=>(match rowW o with | some u=>(match vW.get v with | some v=>(match vI.get k with | some kk=>bif ownAt x 0 then (∃ k r,nat_N_plus.f k u v kk=some r∧Q (.tup []) [.typed eW r false]) else False | none=>False) | none=>False) | none=>False)
   | _=>False)
 | _=>False
abbrev zeroS : ByteArray:=⟨#[48]⟩
def rerrN (s:ByteArray):Res→Prop:=says (fun k=>gamehallref2_NatError.f k s) isI
def rstrip (s:ByteArray):Res→Prop:=says (fun k=>gamehallref2_strip.f k s) .str
def rtextN (l:List Int):Res→Prop:=says (fun k=>gamehallref2_text.f k l) .str
def raddN (s t:ByteArray):Res→Prop:=says (fun k=>gamehallref2_NatAdd.f k s t) .str
def rsubN (s t:ByteArray):Res→Prop:=says (fun k=>gamehallref2_NatSub.f k s t) .str
def rmulN (s t:ByteArray):Res→Prop:=says (fun k=>gamehallref2_NatMul.f k s t) .str
def rdivN (s t:ByteArray):Res→Prop:=says (fun k=>gamehallref2_NatDiv.f k s t) fun p => .tup [.str p.1, .str p.2]
def rgcdN (s t:ByteArray):Res→Prop:=says (fun k=>gamehallref2_NatGcd.f k s t) .str
def rcmpN (s t:ByteArray):Res→Prop:=says0 (gamehallref2_NatCmp.f s t) isI
def rdigit (s:ByteArray) (n:Int):Res→Prop:=says0 (gamehallref2_digit.f s n) isI
noncomputable def hTrim : List (Nat × List Bool × HCtr):=[(126,[true],trimH)]
noncomputable def hDiv : List (Nat × List Bool × HCtr):=[(126,[true],trimH),(138,[true,false,false,false],minusH),(139,[true,false,false],plusH)]
noncomputable def conN1 : FuncId→List AV→Res→Prop:=tableC [(148,c2 vS vU8 trimLB)]
noncomputable def conN2 : FuncId→List AV→Res→Prop:=tableC [(142,c2 vS vS trimLeft0)]
noncomputable def conDiv : FuncId→List AV→Res→Prop:=tableC [(103,c2 vW vW cmpN),(137,c2 vW vU32 shortN),(99,c2 vW vW mulO)]
noncomputable def conGcd : FuncId→List AV→Res→Prop:=tableC [(128,c2 vW vW divN),(132,c1 vW textN)]
noncomputable def conR0 : FuncId→List AV→Res→Prop:=tableC [(125,c1 vS rstrip)]
noncomputable def conR2 : FuncId→List AV→Res→Prop:=tableC [(97,c2 vS vI rdigit),(98,c1 vL rtextN)]
noncomputable def conR3 : FuncId→List AV→Res→Prop:=tableC [(125,c1 vS rstrip),(115,c2 vS vS rcmpN),(116,c2 vS vS rsubN)]
noncomputable def conR4 : FuncId→List AV→Res→Prop:=tableC [(96,c2 vS vS rdivN)]
end
end Go.Proofs.YtnnkjpcipldnfaaGreatDoor.Lib
end
section
set_option linter.unusedSimpArgs false
set_option linter.unusedVariables false
namespace Go.Proofs.YtnnkjpcipldnfaaGreatDoor.Mach
open Go Go.Proofs.YtnnkjpcipldnfaaGreatDoor Go.Proofs.YtnnkjpcipldnfaaGreatDoor.Lib
section
set_option maxRecDepth 1000000
def ncheck_live : List (Nat × List Nat):=[(4,[0,18,19,20])]
def ncheck_nils : List (Nat × ETy):=[(18,ETy.one (CTy.int IntKind.u8))]
noncomputable def ncheck_s4_0 (s:ByteArray) (x0:List Int) (x1 x2:Int):St:=stOf 34 [(0,AV.str s),(18,AV.imm (ETy.one (CTy.int IntKind.u8)) x0),(19,AV.int .i64 x1),(20,AV.int .i64 x2)] []
theorem ncheck_E (s:ByteArray) (n0:Nat) (K:AV→List HObj→Prop) :
 execN tab (mixE tab con0 [] 400) (maskN ncheck_live ncheck_nils (GoodL Tryz.prog n0 143 K)) (finK tab (fnT Tryz.f143).res K) 400 [.code (fnT Tryz.f143).body] ⟨initEnv (fnT Tryz.f143).n [AV.str s],[]⟩ =
 (bif s.toList == (ByteArray.mk #[]).toList then K (AV.int .i64 5) [] else bif decide (0<(↑s.size:Int)) then bif decide ((↑(s.data.toList.getD 0 0).toNat:Int)=48) then bif bif false then true else bif true then decide ((↑s.size:Int) > 1) else false then K (AV.int .i64 5) [] else bif decide (s.size≤9223372036854775807) then GoodL Tryz.prog n0 143 K (headAt (fnT Tryz.f143) 4) (ncheck_s4_0 s (List.map (fun b=>(↑b.toNat:Int)) s.data.toList) (↑(List.map (fun b=>(↑b.toNat:Int)) s.data.toList).length:Int) 0) else False else bif decide (s.size≤9223372036854775807) then GoodL Tryz.prog n0 143 K (headAt (fnT Tryz.f143) 4) (ncheck_s4_0 s (List.map (fun b=>(↑b.toNat:Int)) s.data.toList) (↑(List.map (fun b=>(↑b.toNat:Int)) s.data.toList).length:Int) 0) else False else False):=by kernel_rfl
theorem ncheck_s4_0_E (s:ByteArray) (x0:List Int) (x1 x2:Int) (n0:Nat) (K:AV→List HObj→Prop) :
 execN tab (mixE tab con0 [] 400) (maskN ncheck_live ncheck_nils (GoodL Tryz.prog n0 143 K)) (finK tab (fnT Tryz.f143).res K) 400 (roundAt (fnT Tryz.f143) 4) (ncheck_s4_0 s x0 x1 x2) =
 (bif decide (x2<x1) then bif decide (0≤x2) && decide (x2<(↑x0.length:Int)) then bif decide (x0.getD x2.toNat 0<48) then K (AV.int .i64 5) [] else bif bif false then true else decide (x0.getD x2.toNat 0 > 57) then K (AV.int .i64 5) [] else GoodL Tryz.prog n0 143 K (headAt (fnT Tryz.f143) 4) (ncheck_s4_0 s x0 x1 (IntKind.i64.wrap (x2+1))) else False else bif decide ((↑s.size:Int) > 2000) then K (AV.int .i64 2) [] else K (AV.int .i64 0) []):=by kernel_rfl
def ntrim_live : List (Nat × List Nat):=[(1,[0])]
def ntrim_nils : List (Nat × ETy):=[(0,eW)]
noncomputable def ntrim_s1_0 (l x0:List Int):St:=stOf 21 [(0,AV.own 0)] [HObj.typed eW x0 false]
noncomputable def ntrim_s1_1 (l:List Int) (x0 x1:Nat) (x2:List Int):St:=stOf 21 [(0,AV.win 0 x0 x1)] [HObj.typed eW x2 false]
theorem ntrim_E (l:List Int) (n0:Nat) (hv:Nat→Value × Nat) (K:AV→List HObj→Prop) :
 execN tab (mixE tab con0 [] 400) (maskH 1 ntrim_live ntrim_nils (GoodH Tryz.prog n0 126 1 hv K)) (finK tab (fnT Tryz.f126).res K) 400 [.code (fnT Tryz.f126).body] ⟨initEnv (fnT Tryz.f126).n [AV.own 0],[HObj.typed eW l false]⟩ =
 (GoodH Tryz.prog n0 126 1 hv K (headAt (fnT Tryz.f126) 1) (ntrim_s1_0 l l)):=by kernel_rfl
theorem ntrim_s1_0_E (l x0:List Int) (n0:Nat) (hv:Nat→Value × Nat) (K:AV→List HObj→Prop) :
 execN tab (mixE tab con0 [] 400) (maskH 1 ntrim_live ntrim_nils (GoodH Tryz.prog n0 126 1 hv K)) (finK tab (fnT Tryz.f126).res K) 400 (roundAt (fnT Tryz.f126) 1) (ntrim_s1_0 l x0) =
 (bif decide ((↑x0.length:Int) > 0) then bif decide (0≤IntKind.i64.wrap ((↑x0.length:Int) - 1)) && decide (IntKind.i64.wrap ((↑x0.length:Int) - 1)<(↑x0.length:Int)) then bif bif true then decide (x0.getD (IntKind.i64.wrap ((↑x0.length:Int) - 1)).toNat 0=0) else false then bif decide (0≤IntKind.i64.wrap ((↑x0.length:Int) - 1)) && decide (IntKind.i64.wrap ((↑x0.length:Int) - 1)≤(↑x0.length:Int)) then GoodH Tryz.prog n0 126 1 hv K (headAt (fnT Tryz.f126) 1) (ntrim_s1_1 l 0 ((IntKind.i64.wrap ((↑x0.length:Int) - 1)).toNat - 0) x0) else False else K (AV.own 0) [HObj.typed eW x0 false] else False else K (AV.own 0) [HObj.typed eW x0 false]):=by kernel_rfl
theorem ntrim_s1_1_E (l:List Int) (x0 x1:Nat) (x2:List Int) (n0:Nat) (hv:Nat→Value × Nat) (K:AV→List HObj→Prop) :
 execN tab (mixE tab con0 [] 400) (maskH 1 ntrim_live ntrim_nils (GoodH Tryz.prog n0 126 1 hv K)) (finK tab (fnT Tryz.f126).res K) 400 (roundAt (fnT Tryz.f126) 1) (ntrim_s1_1 l x0 x1 x2) =
 (bif decide ((↑x1:Int) > 0) then bif decide (0≤IntKind.i64.wrap ((↑x1:Int) - 1)) && decide (IntKind.i64.wrap ((↑x1:Int) - 1)<(↑x1:Int)) then bif bif true then decide (x2.getD ((↑x0:Int)+IntKind.i64.wrap ((↑x1:Int) - 1)).toNat 0=0) else false then bif decide (0≤IntKind.i64.wrap ((↑x1:Int) - 1)) && decide (IntKind.i64.wrap ((↑x1:Int) - 1)≤(↑x1:Int)) then GoodH Tryz.prog n0 126 1 hv K (headAt (fnT Tryz.f126) 1) (ntrim_s1_1 l (x0+0) ((IntKind.i64.wrap ((↑x1:Int) - 1)).toNat - 0) x2) else False else K (AV.win 0 x0 x1) [HObj.typed eW x2 false] else False else K (AV.win 0 x0 x1) [HObj.typed eW x2 false]):=by kernel_rfl
def nread_live : List (Nat × List Nat):=[(3,[0,3,4]),(7,[0,3,4,5,20,21,22])]
def nread_nils : List (Nat × ETy):=[(3,eW),(20,ETy.one (CTy.int IntKind.u8))]
noncomputable def nread_s3_0 (s:ByteArray) (x0:Int) (x1:List Int):St:=stOf 39 [(0,AV.str s),(3,AV.own 0),(4,AV.int .i64 x0)] [HObj.typed eW x1 false]
noncomputable def nread_s7_0 (s:ByteArray) (x0 x1:Int) (x2:List Int) (x3 x4:Int) (x5:List Int):St:=stOf 39 [(0,AV.str s),(3,AV.own 0),(4,AV.int .i64 x0),(5,AV.int .u32 x1),(20,AV.imm (ETy.one (CTy.int IntKind.u8)) x2),(21,AV.int .i64 x3),(22,AV.int .i64 x4)] [HObj.typed eW x5 false]
theorem nread_E (s:ByteArray) (n0:Nat) (K:AV→List HObj→Prop) :
 execN tab (mixH tab hTrim con0 [] 400) (maskN nread_live nread_nils (GoodL Tryz.prog n0 107 K)) (finK tab (fnT Tryz.f107).res K) 400 [.code (fnT Tryz.f107).body] ⟨initEnv (fnT Tryz.f107).n [AV.str s],[]⟩ =
 (GoodL Tryz.prog n0 107 K (headAt (fnT Tryz.f107) 3) (nread_s3_0 s (↑s.size:Int) [])):=by kernel_rfl
theorem nread_s3_0_E (s:ByteArray) (x0:Int) (x1:List Int) (n0:Nat) (K:AV→List HObj→Prop) :
 execN tab (mixH tab hTrim con0 [] 400) (maskN nread_live nread_nils (GoodL Tryz.prog n0 107 K)) (finK tab (fnT Tryz.f107).res K) 400 (roundAt (fnT Tryz.f107) 3) (nread_s3_0 s x0 x1) =
 (bif decide (x0 > 0) then bif decide (0≤if IntKind.i64.wrap (x0 - 9) > 0 then IntKind.i64.wrap (x0 - 9) else 0) && decide ((if IntKind.i64.wrap (x0 - 9) > 0 then IntKind.i64.wrap (x0 - 9) else 0)≤x0) && decide (x0≤(↑s.size:Int)) then bif decide ((s.extract (if IntKind.i64.wrap (x0 - 9) > 0 then IntKind.i64.wrap (x0 - 9) else 0).toNat x0.toNat).size≤9223372036854775807) then GoodL Tryz.prog n0 107 K (headAt (fnT Tryz.f107) 7) (nread_s7_0 s x0 0 (List.map (fun b=>(↑b.toNat:Int)) (s.extract (if IntKind.i64.wrap (x0 - 9) > 0 then IntKind.i64.wrap (x0 - 9) else 0).toNat x0.toNat).data.toList) (↑(List.map (fun b=>(↑b.toNat:Int)) (s.extract (if IntKind.i64.wrap (x0 - 9) > 0 then IntKind.i64.wrap (x0 - 9) else 0).toNat x0.toNat).data.toList).length:Int) 0 x1) else False else False else ∃ k r,ND.nat_N_trim.f k x1=some r∧K (AV.own 1) [HObj.dead,HObj.typed eW r false]):=by kernel_rfl
theorem nread_s7_0_E (s:ByteArray) (x0 x1:Int) (x2:List Int) (x3 x4:Int) (x5:List Int) (n0:Nat) (K:AV→List HObj→Prop) :
 execN tab (mixH tab hTrim con0 [] 400) (maskN nread_live nread_nils (GoodL Tryz.prog n0 107 K)) (finK tab (fnT Tryz.f107).res K) 400 (roundAt (fnT Tryz.f107) 7) (nread_s7_0 s x0 x1 x2 x3 x4 x5) =
 (bif decide (x4<x3) then bif decide (0≤x4) && decide (x4<(↑x2.length:Int)) then GoodL Tryz.prog n0 107 K (headAt (fnT Tryz.f107) 7) (nread_s7_0 s x0 (IntKind.u32.wrap (IntKind.u32.wrap (x1 * 10)+IntKind.u32.wrap (IntKind.u8.wrap (x2.getD x4.toNat 0 - 48)))) x2 x3 (IntKind.i64.wrap (x4+1)) x5) else False else bif bif (x5.length+[x1].length).ble 9223372036854775807 then ((x5.length+[x1].length) * 4).ble 140737488355328 else false then GoodL Tryz.prog n0 107 K (headAt (fnT Tryz.f107) 3) (nread_s3_0 s (IntKind.i64.wrap (x0 - 9)) (x5 ++ [x1])) else False):=by kernel_rfl
def ntlb_live : List (Nat × List Nat):=[(1,[0,1])]
def ntlb_nils : List (Nat × ETy):=[]
noncomputable def ntlb_s1_0 (s:ByteArray) (c:Int):St:=stOf 17 [(0,AV.str s),(1,AV.int IntKind.u8 c)] []
noncomputable def ntlb_s1_1 (s:ByteArray) (c:Int) (x0:ByteArray):St:=stOf 17 [(0,AV.str x0),(1,AV.int IntKind.u8 c)] []
theorem ntlb_E (s:ByteArray) (c:Int) (n0:Nat) (K:AV→List HObj→Prop) :
 execN tab (mixE tab con0 [] 400) (maskN ntlb_live ntlb_nils (GoodL Tryz.prog n0 148 K)) (finK tab (fnT Tryz.f148).res K) 400 [.code (fnT Tryz.f148).body] ⟨initEnv (fnT Tryz.f148).n [AV.str s,AV.int IntKind.u8 c],[]⟩ =
 (GoodL Tryz.prog n0 148 K (headAt (fnT Tryz.f148) 1) (ntlb_s1_0 s c)):=by kernel_rfl
theorem ntlb_s1_1_E (s:ByteArray) (c:Int) (x0:ByteArray) (n0:Nat) (K:AV→List HObj→Prop) :
 execN tab (mixE tab con0 [] 400) (maskN ntlb_live ntlb_nils (GoodL Tryz.prog n0 148 K)) (finK tab (fnT Tryz.f148).res K) 400 (roundAt (fnT Tryz.f148) 1) (ntlb_s1_1 s c x0) =
 (bif decide ((↑x0.size:Int) > 0) then bif decide (0<(↑x0.size:Int)) then bif bif true then decide ((↑(x0.data.toList.getD 0 0).toNat:Int)=c) else false then bif decide (1≤(↑x0.size:Int)) && decide ((↑x0.size:Int)≤(↑x0.size:Int)) then GoodL Tryz.prog n0 148 K (headAt (fnT Tryz.f148) 1) (ntlb_s1_1 s c (x0.extract 1 (↑x0.size:Int).toNat)) else False else K (AV.str x0) [] else False else K (AV.str x0) []):=by kernel_rfl
def ntl_live : List (Nat × List Nat):=[]
def ntl_nils : List (Nat × ETy):=[]
theorem ntl_E (s:ByteArray) (n0:Nat) (K:AV→List HObj→Prop) :
 execN tab (mixE tab conN1 [] 400) (maskN ntl_live ntl_nils (GoodL Tryz.prog n0 142 K)) (finK tab (fnT Tryz.f142).res K) 400 [.code (fnT Tryz.f142).body] ⟨initEnv (fnT Tryz.f142).n [AV.str s,AV.str zeroS],[]⟩ =
 (bif s.toList == (ByteArray.mk #[]).toList then K (AV.str s) [] else ∃ k r,ND.strings_trimLeftByte.f k s 48=some r∧K (AV.str r) []):=by kernel_rfl
def ntext_live : List (Nat × List Nat):=[(5,[0,3,4]),(10,[0,3,4,5,6,7])]
def ntext_nils : List (Nat × ETy):=[(3,ETy.one (CTy.int IntKind.u8))]
noncomputable def ntext_s5_0 (l:List Int) (x0:Int) (x1:List Int):St:=stOf 44 [(0,AV.imm eW l),(3,AV.own 0),(4,AV.int .i64 x0)] [HObj.typed (ETy.one (CTy.int IntKind.u8)) x1 false]
noncomputable def ntext_s10_0 (l:List Int) (x0 x1 x2:Int) (x3 x4:List Int):St:=stOf 44 [(0,AV.imm eW l),(3,AV.own 0),(4,AV.int .i64 x0),(5,AV.int .u32 x1),(6,AV.parr 1),(7,AV.int .i64 x2)] [HObj.typed (ETy.one (CTy.int IntKind.u8)) x3 false,HObj.typed (ETy.one (CTy.int IntKind.u8)) x4 false]
theorem ntext_E (l:List Int) (n0:Nat) (K:AV→List HObj→Prop) :
 execN tab (mixE tab conN2 [] 400) (maskN ntext_live ntext_nils (GoodL Tryz.prog n0 132 K)) (finK tab (fnT Tryz.f132).res K) 400 [.code (fnT Tryz.f132).body] ⟨initEnv (fnT Tryz.f132).n [AV.imm eW l],[]⟩ =
 (bif decide ((↑l.length:Int)=0) then K (AV.str (ByteArray.mk #[48])) [] else bif decide (0≤IntKind.i64.wrap (9 * (↑l.length:Int))) && bif (IntKind.i64.wrap (9 * (↑l.length:Int))).toNat.ble 9223372036854775807 then ((IntKind.i64.wrap (9 * (↑l.length:Int))).toNat * 1).ble 281474976710656 else false then GoodL Tryz.prog n0 132 K (headAt (fnT Tryz.f132) 5) (ntext_s5_0 l (IntKind.i64.wrap ((↑l.length:Int) - 1)) (List.replicate 0 0)) else False):=by kernel_rfl
theorem ntext_s5_0_E (l:List Int) (x0:Int) (x1:List Int) (n0:Nat) (K:AV→List HObj→Prop) :
 execN tab (mixE tab conN2 [] 400) (maskN ntext_live ntext_nils (GoodL Tryz.prog n0 132 K)) (finK tab (fnT Tryz.f132).res K) 400 (roundAt (fnT Tryz.f132) 5) (ntext_s5_0 l x0 x1) =
 (bif decide (x0 ≥ 0) then bif decide (0≤x0) && decide (x0<(↑l.length:Int)) then GoodL Tryz.prog n0 132 K (headAt (fnT Tryz.f132) 10) (ntext_s10_0 l x0 (l.getD x0.toNat 0) 8 x1 (List.replicate 9 0)) else False else ByteArray.mk #[48]=ByteArray.mk #[48]∧∃ k r,ND.strings_TrimLeft.f k (ByteArray.mk (List.map (fun n=>UInt8.ofNat n.toNat) x1).toArray) (ByteArray.mk #[48])=some r∧K (AV.str r) [HObj.typed (ETy.one (CTy.int IntKind.u8)) x1 false]):=by kernel_rfl
theorem ntext_s10_0_E (l:List Int) (x0 x1 x2:Int) (x3 x4:List Int) (n0:Nat) (K:AV→List HObj→Prop) :
 execN tab (mixE tab conN2 [] 400) (maskN ntext_live ntext_nils (GoodL Tryz.prog n0 132 K)) (finK tab (fnT Tryz.f132).res K) 400 (roundAt (fnT Tryz.f132) 10) (ntext_s10_0 l x0 x1 x2 x3 x4) =
 (bif decide (x2 ≥ 0) then bif Nat.beq 9 x4.length && (decide (0≤x2) && decide (x2<(↑x4.length:Int))) then GoodL Tryz.prog n0 132 K (headAt (fnT Tryz.f132) 10) (ntext_s10_0 l x0 (IntKind.u32.wrap (x1.tdiv 10)) (IntKind.i64.wrap (x2 - 1)) x3 (x4.set x2.toNat (IntKind.u8.wrap (IntKind.u32.wrap (48+x1.tmod 10))))) else False else bif Nat.beq 9 x4.length && Nat.blt 0 x4.length && (decide (0≤(↑x4.length:Int)) && decide ((↑x4.length:Int)≤(↑x4.length:Int))) then bif bif (x3.length+(List.take ((↑x4.length:Int).toNat - 0) (List.drop 0 x4)).length).ble 9223372036854775807 then ((x3.length+(List.take ((↑x4.length:Int).toNat - 0) (List.drop 0 x4)).length) * 1).ble 140737488355328 else false then GoodL Tryz.prog n0 132 K (headAt (fnT Tryz.f132) 5) (ntext_s5_0 l (IntKind.i64.wrap (x0 - 1)) (x3 ++ List.take ((↑x4.length:Int).toNat - 0) (List.drop 0 x4))) else False else False):=by kernel_rfl
def ncmp_live : List (Nat × List Nat):=[(6,[0,1,5])]
def ncmp_nils : List (Nat × ETy):=[]
noncomputable def ncmp_s6_0 (l m:List Int) (x0:Int):St:=stOf 43 [(0,AV.imm eW l),(1,AV.imm eW m),(5,AV.int .i64 x0)] []
theorem ncmp_E (l m:List Int) (n0:Nat) (K:AV→List HObj→Prop) :
 execN tab (mixE tab con0 [] 400) (maskN ncmp_live ncmp_nils (GoodL Tryz.prog n0 103 K)) (finK tab (fnT Tryz.f103).res K) 400 [.code (fnT Tryz.f103).body] ⟨initEnv (fnT Tryz.f103).n [AV.imm eW l,AV.imm eW m],[]⟩ =
 (bif !decide ((↑l.length:Int)=(↑m.length:Int)) then bif decide ((↑l.length:Int)<(↑m.length:Int)) then K (AV.int .i64 (-1)) [] else K (AV.int .i64 1) [] else GoodL Tryz.prog n0 103 K (headAt (fnT Tryz.f103) 6) (ncmp_s6_0 l m (IntKind.i64.wrap ((↑l.length:Int) - 1)))):=by kernel_rfl
theorem ncmp_s6_0_E (l m:List Int) (x0:Int) (n0:Nat) (K:AV→List HObj→Prop) :
 execN tab (mixE tab con0 [] 400) (maskN ncmp_live ncmp_nils (GoodL Tryz.prog n0 103 K)) (finK tab (fnT Tryz.f103).res K) 400 (roundAt (fnT Tryz.f103) 6) (ncmp_s6_0 l m x0) =
 (bif decide (x0 ≥ 0) then bif decide (0≤x0) && decide (x0<(↑l.length:Int)) then bif decide (0≤x0) && decide (x0<(↑m.length:Int)) then bif decide (l.getD x0.toNat 0<m.getD x0.toNat 0) then K (AV.int .i64 (-1)) [] else bif decide (0≤x0) && decide (x0<(↑l.length:Int)) then bif decide (0≤x0) && decide (x0<(↑m.length:Int)) then bif decide (l.getD x0.toNat 0 > m.getD x0.toNat 0) then K (AV.int .i64 1) [] else GoodL Tryz.prog n0 103 K (headAt (fnT Tryz.f103) 6) (ncmp_s6_0 l m (IntKind.i64.wrap (x0 - 1))) else False else False else False else False else K (AV.int .i64 0) []):=by kernel_rfl
def nadd_live : List (Nat × List Nat):=[(6,[1,5,6,20,21,22])]
def nadd_nils : List (Nat × ETy):=[(1,eW),(5,eW),(20,eW)]
noncomputable def nadd_s6_0 (l m:List Int) (x0 x1 x2:Int) (x3:List Int):St:=stOf 55 [(1,AV.imm eW l),(5,AV.own 0),(6,AV.int .u32 x0),(20,AV.imm eW m),(21,AV.int .i64 x1),(22,AV.int .i64 x2)] [HObj.typed eW x3 false]
noncomputable def nadd_s6_1 (l m:List Int) (x0 x1 x2:Int) (x3:List Int):St:=stOf 55 [(1,AV.imm eW m),(5,AV.own 0),(6,AV.int .u32 x0),(20,AV.imm eW l),(21,AV.int .i64 x1),(22,AV.int .i64 x2)] [HObj.typed eW x3 false]
theorem nadd_E (l m:List Int) (n0:Nat) (K:AV→List HObj→Prop) :
 execN tab (mixE tab con0 [] 400) (maskN nadd_live nadd_nils (GoodL Tryz.prog n0 102 K)) (finK tab (fnT Tryz.f102).res K) 400 [.code (fnT Tryz.f102).body] ⟨initEnv (fnT Tryz.f102).n [AV.imm eW l,AV.imm eW m],[]⟩ =
 (bif decide ((↑l.length:Int)<(↑m.length:Int)) then bif decide (0≤IntKind.i64.wrap ((↑m.length:Int)+1)) && bif (IntKind.i64.wrap ((↑m.length:Int)+1)).toNat.ble 9223372036854775807 then ((IntKind.i64.wrap ((↑m.length:Int)+1)).toNat * 4).ble 281474976710656 else false then GoodL Tryz.prog n0 102 K (headAt (fnT Tryz.f102) 6) (nadd_s6_0 l m 0 (↑m.length:Int) 0 (List.replicate 0 0)) else False else bif decide (0≤IntKind.i64.wrap ((↑l.length:Int)+1)) && bif (IntKind.i64.wrap ((↑l.length:Int)+1)).toNat.ble 9223372036854775807 then ((IntKind.i64.wrap ((↑l.length:Int)+1)).toNat * 4).ble 281474976710656 else false then GoodL Tryz.prog n0 102 K (headAt (fnT Tryz.f102) 6) (nadd_s6_1 l m 0 (↑l.length:Int) 0 (List.replicate 0 0)) else False):=by kernel_rfl
theorem nadd_s6_1_E (l m:List Int) (x0 x1 x2:Int) (x3:List Int) (n0:Nat) (K:AV→List HObj→Prop) :
 execN tab (mixE tab con0 [] 400) (maskN nadd_live nadd_nils (GoodL Tryz.prog n0 102 K)) (finK tab (fnT Tryz.f102).res K) 400 (roundAt (fnT Tryz.f102) 6) (nadd_s6_1 l m x0 x1 x2 x3) =
 (bif decide (x2<x1) then bif decide (0≤x2) && decide (x2<(↑l.length:Int)) then bif decide (x2<(↑m.length:Int)) then bif decide (0≤x2) && decide (x2<(↑m.length:Int)) then bif bif (x3.length+[(IntKind.u32.wrap (IntKind.u32.wrap (l.getD x2.toNat 0+x0)+m.getD x2.toNat 0)).tmod 1000000000].length).ble 9223372036854775807 then ((x3.length+[(IntKind.u32.wrap (IntKind.u32.wrap (l.getD x2.toNat 0+x0)+m.getD x2.toNat 0)).tmod 1000000000].length) * 4).ble 140737488355328 else false then GoodL Tryz.prog n0 102 K (headAt (fnT Tryz.f102) 6) (nadd_s6_1 l m (IntKind.u32.wrap ((IntKind.u32.wrap (IntKind.u32.wrap (l.getD x2.toNat 0+x0)+m.getD x2.toNat 0)).tdiv 1000000000)) x1 (IntKind.i64.wrap (x2+1)) (x3 ++ [(IntKind.u32.wrap (IntKind.u32.wrap (l.getD x2.toNat 0+x0)+m.getD x2.toNat 0)).tmod 1000000000])) else False else False else bif bif (x3.length+[(IntKind.u32.wrap (l.getD x2.toNat 0+x0)).tmod 1000000000].length).ble 9223372036854775807 then ((x3.length+[(IntKind.u32.wrap (l.getD x2.toNat 0+x0)).tmod 1000000000].length) * 4).ble 140737488355328 else false then GoodL Tryz.prog n0 102 K (headAt (fnT Tryz.f102) 6) (nadd_s6_1 l m (IntKind.u32.wrap ((IntKind.u32.wrap (l.getD x2.toNat 0+x0)).tdiv 1000000000)) x1 (IntKind.i64.wrap (x2+1)) (x3 ++ [(IntKind.u32.wrap (l.getD x2.toNat 0+x0)).tmod 1000000000])) else False else False else bif decide (x0 > 0) then bif bif (x3.length+[x0].length).ble 9223372036854775807 then ((x3.length+[x0].length) * 4).ble 140737488355328 else false then K (AV.own 2) [HObj.dead,HObj.typed eW [x0] false,HObj.typed eW (x3 ++ [x0]) false] else False else K (AV.own 0) [HObj.typed eW x3 false]):=by kernel_rfl
def nsub_live : List (Nat × List Nat):=[(4,[0,1,5,6,13,14])]
def nsub_nils : List (Nat × ETy):=[(5,eW)]
noncomputable def nsub_s4_0 (l m:List Int) (x0 x1 x2:Int) (x3:List Int):St:=stOf 47 [(0,AV.imm eW l),(1,AV.imm eW m),(5,AV.own 0),(6,AV.int .i64 x0),(13,AV.int .i64 x1),(14,AV.int .i64 x2)] [HObj.typed eW x3 false]
theorem nsub_E (l m:List Int) (n0:Nat) (K:AV→List HObj→Prop) :
 execN tab (mixH tab hTrim con0 [] 400) (maskN nsub_live nsub_nils (GoodL Tryz.prog n0 104 K)) (finK tab (fnT Tryz.f104).res K) 400 [.code (fnT Tryz.f104).body] ⟨initEnv (fnT Tryz.f104).n [AV.imm eW l,AV.imm eW m],[]⟩ =
 (bif decide (0≤(↑l.length:Int)) && decide ((↑l.length:Int)≤(↑l.length:Int)) && bif (↑l.length:Int).toNat.ble 9223372036854775807 then ((↑l.length:Int).toNat * 4).ble 281474976710656 else false then GoodL Tryz.prog n0 104 K (headAt (fnT Tryz.f104) 4) (nsub_s4_0 l m 0 (↑l.length:Int) 0 (List.replicate (↑l.length:Int).toNat 0)) else False):=by kernel_rfl
theorem nsub_s4_0_E (l m:List Int) (x0 x1 x2:Int) (x3:List Int) (n0:Nat) (K:AV→List HObj→Prop) :
 execN tab (mixH tab hTrim con0 [] 400) (maskN nsub_live nsub_nils (GoodL Tryz.prog n0 104 K)) (finK tab (fnT Tryz.f104).res K) 400 (roundAt (fnT Tryz.f104) 4) (nsub_s4_0 l m x0 x1 x2 x3) =
 (bif decide (x2<x1) then bif decide (0≤x2) && decide (x2<(↑l.length:Int)) then bif decide (x2<(↑m.length:Int)) then bif decide (0≤x2) && decide (x2<(↑m.length:Int)) then bif decide (IntKind.i64.wrap (IntKind.i64.wrap (IntKind.i64.wrap (l.getD x2.toNat 0) - x0) - IntKind.i64.wrap (m.getD x2.toNat 0))<0) then bif decide (0≤x2) && decide (x2<(↑x3.length:Int)) then GoodL Tryz.prog n0 104 K (headAt (fnT Tryz.f104) 4) (nsub_s4_0 l m 1 x1 (IntKind.i64.wrap (x2+1)) (x3.set x2.toNat (IntKind.u32.wrap (IntKind.i64.wrap (IntKind.i64.wrap (IntKind.i64.wrap (IntKind.i64.wrap (l.getD x2.toNat 0) - x0) - IntKind.i64.wrap (m.getD x2.toNat 0))+1000000000))))) else False else bif decide (0≤x2) && decide (x2<(↑x3.length:Int)) then GoodL Tryz.prog n0 104 K (headAt (fnT Tryz.f104) 4) (nsub_s4_0 l m 0 x1 (IntKind.i64.wrap (x2+1)) (x3.set x2.toNat (IntKind.u32.wrap (IntKind.i64.wrap (IntKind.i64.wrap (IntKind.i64.wrap (l.getD x2.toNat 0) - x0) - IntKind.i64.wrap (m.getD x2.toNat 0)))))) else False else False else bif decide (IntKind.i64.wrap (IntKind.i64.wrap (l.getD x2.toNat 0) - x0)<0) then bif decide (0≤x2) && decide (x2<(↑x3.length:Int)) then GoodL Tryz.prog n0 104 K (headAt (fnT Tryz.f104) 4) (nsub_s4_0 l m 1 x1 (IntKind.i64.wrap (x2+1)) (x3.set x2.toNat (IntKind.u32.wrap (IntKind.i64.wrap (IntKind.i64.wrap (IntKind.i64.wrap (l.getD x2.toNat 0) - x0)+1000000000))))) else False else bif decide (0≤x2) && decide (x2<(↑x3.length:Int)) then GoodL Tryz.prog n0 104 K (headAt (fnT Tryz.f104) 4) (nsub_s4_0 l m 0 x1 (IntKind.i64.wrap (x2+1)) (x3.set x2.toNat (IntKind.u32.wrap (IntKind.i64.wrap (IntKind.i64.wrap (l.getD x2.toNat 0) - x0))))) else False else False else ∃ k r,ND.nat_N_trim.f k x3=some r∧K (AV.own 1) [HObj.dead,HObj.typed eW r false]):=by kernel_rfl
def nmul_live : List (Nat × List Nat):=[(3,[1,5,18,19,20]),(7,[1,5,6,7,8,18,19,20,25,26,27])]
def nmul_nils : List (Nat × ETy):=[(5,eW),(18,eW),(25,eW)]
noncomputable def nmul_s3_0 (l m:List Int) (x0 x1:Int) (x2:List Int):St:=stOf 69 [(1,AV.imm eW m),(5,AV.own 0),(18,AV.imm eW l),(19,AV.int .i64 x0),(20,AV.int .i64 x1)] [HObj.typed eW x2 false]
noncomputable def nmul_s7_0 (l m:List Int) (x0 x1 x2 x3 x4 x5 x6:Int) (x7:List Int):St:=stOf 69 [(1,AV.imm eW m),(5,AV.own 0),(6,AV.int .i64 x0),(7,AV.int .u32 x1),(8,AV.int IntKind.u64 x2),(18,AV.imm eW l),(19,AV.int .i64 x3),(20,AV.int .i64 x4),(25,AV.imm eW m),(26,AV.int .i64 x5),(27,AV.int .i64 x6)] [HObj.typed eW x7 false]
theorem nmul_E (l m:List Int) (n0:Nat) (K:AV→List HObj→Prop) :
 execN tab (mixH tab hTrim con0 [] 400) (maskN nmul_live nmul_nils (GoodL Tryz.prog n0 99 K)) (finK tab (fnT Tryz.f99).res K) 400 [.code (fnT Tryz.f99).body] ⟨initEnv (fnT Tryz.f99).n [AV.imm eW l,AV.imm eW m],[]⟩ =
 (bif decide (0≤IntKind.i64.wrap ((↑l.length:Int)+(↑m.length:Int))) && decide (IntKind.i64.wrap ((↑l.length:Int)+(↑m.length:Int))≤IntKind.i64.wrap ((↑l.length:Int)+(↑m.length:Int))) && bif (IntKind.i64.wrap ((↑l.length:Int)+(↑m.length:Int))).toNat.ble 9223372036854775807 then ((IntKind.i64.wrap ((↑l.length:Int)+(↑m.length:Int))).toNat * 4).ble 281474976710656 else false then GoodL Tryz.prog n0 99 K (headAt (fnT Tryz.f99) 3) (nmul_s3_0 l m (↑l.length:Int) 0 (List.replicate (IntKind.i64.wrap ((↑l.length:Int)+(↑m.length:Int))).toNat 0)) else False):=by kernel_rfl
theorem nmul_s3_0_E (l m:List Int) (x0 x1:Int) (x2:List Int) (n0:Nat) (K:AV→List HObj→Prop) :
 execN tab (mixH tab hTrim con0 [] 400) (maskN nmul_live nmul_nils (GoodL Tryz.prog n0 99 K)) (finK tab (fnT Tryz.f99).res K) 400 (roundAt (fnT Tryz.f99) 3) (nmul_s3_0 l m x0 x1 x2) =
 (bif decide (x1<x0) then bif decide (0≤x1) && decide (x1<(↑l.length:Int)) then GoodL Tryz.prog n0 99 K (headAt (fnT Tryz.f99) 7) (nmul_s7_0 l m x1 (l.getD x1.toNat 0) 0 x0 x1 (↑m.length:Int) 0 x2) else False else ∃ k r,ND.nat_N_trim.f k x2=some r∧K (AV.own 1) [HObj.dead,HObj.typed eW r false]):=by kernel_rfl
theorem nmul_s7_0_E (l m:List Int) (x0 x1 x2 x3 x4 x5 x6:Int) (x7:List Int) (n0:Nat) (K:AV→List HObj→Prop) :
 execN tab (mixH tab hTrim con0 [] 400) (maskN nmul_live nmul_nils (GoodL Tryz.prog n0 99 K)) (finK tab (fnT Tryz.f99).res K) 400 (roundAt (fnT Tryz.f99) 7) (nmul_s7_0 l m x0 x1 x2 x3 x4 x5 x6 x7) =
 (bif decide (x6<x5) then bif decide (0≤x6) && decide (x6<(↑m.length:Int)) then bif decide (0≤IntKind.i64.wrap (x0+x6)) && decide (IntKind.i64.wrap (x0+x6)<(↑x7.length:Int)) then bif decide (0≤IntKind.i64.wrap (x0+x6)) && decide (IntKind.i64.wrap (x0+x6)<(↑x7.length:Int)) then GoodL Tryz.prog n0 99 K (headAt (fnT Tryz.f99) 7) (nmul_s7_0 l m x0 x1 (IntKind.u64.wrap ((IntKind.u64.wrap (IntKind.u64.wrap (IntKind.u64.wrap (IntKind.u64.wrap x1 * IntKind.u64.wrap (m.getD x6.toNat 0))+IntKind.u64.wrap (x7.getD (IntKind.i64.wrap (x0+x6)).toNat 0))+x2)).tdiv 1000000000)) x3 x4 x5 (IntKind.i64.wrap (x6+1)) (x7.set (IntKind.i64.wrap (x0+x6)).toNat (IntKind.u32.wrap ((IntKind.u64.wrap (IntKind.u64.wrap (IntKind.u64.wrap (IntKind.u64.wrap x1 * IntKind.u64.wrap (m.getD x6.toNat 0))+IntKind.u64.wrap (x7.getD (IntKind.i64.wrap (x0+x6)).toNat 0))+x2)).tmod 1000000000)))) else False else False else False else bif decide (0≤IntKind.i64.wrap (x0+(↑m.length:Int))) && decide (IntKind.i64.wrap (x0+(↑m.length:Int))<(↑x7.length:Int)) then GoodL Tryz.prog n0 99 K (headAt (fnT Tryz.f99) 3) (nmul_s3_0 l m x3 (IntKind.i64.wrap (x4+1)) (x7.set (IntKind.i64.wrap (x0+(↑m.length:Int))).toNat (IntKind.u32.wrap x2))) else False):=by kernel_rfl
def nshort_live : List (Nat × List Nat):=[(4,[0,1,6,7,8])]
def nshort_nils : List (Nat × ETy):=[(6,eW)]
noncomputable def nshort_s4_0 (l:List Int) (d x0 x1:Int) (x2:List Int):St:=stOf 45 [(0,AV.imm eW l),(1,AV.int .u32 d),(6,AV.own 0),(7,AV.int IntKind.u64 x0),(8,AV.int .i64 x1)] [HObj.typed eW x2 false]
theorem nshort_E (l:List Int) (d:Int) (n0:Nat) (K:AV→List HObj→Prop) :
 execN tab (mixH tab hTrim con0 [] 400) (maskN nshort_live nshort_nils (GoodL Tryz.prog n0 137 K)) (finK tab (fnT Tryz.f137).res K) 400 [.code (fnT Tryz.f137).body] ⟨initEnv (fnT Tryz.f137).n [AV.imm eW l,AV.int .u32 d],[]⟩ =
 (bif decide (0≤(↑l.length:Int)) && decide ((↑l.length:Int)≤(↑l.length:Int)) && bif (↑l.length:Int).toNat.ble 9223372036854775807 then ((↑l.length:Int).toNat * 4).ble 281474976710656 else false then GoodL Tryz.prog n0 137 K (headAt (fnT Tryz.f137) 4) (nshort_s4_0 l d 0 (IntKind.i64.wrap ((↑l.length:Int) - 1)) (List.replicate (↑l.length:Int).toNat 0)) else False):=by kernel_rfl
theorem nshort_s4_0_E (l:List Int) (d x0 x1:Int) (x2:List Int) (n0:Nat) (K:AV→List HObj→Prop) :
 execN tab (mixH tab hTrim con0 [] 400) (maskN nshort_live nshort_nils (GoodL Tryz.prog n0 137 K)) (finK tab (fnT Tryz.f137).res K) 400 (roundAt (fnT Tryz.f137) 4) (nshort_s4_0 l d x0 x1 x2) =
 (bif decide (x1 ≥ 0) then bif decide (0≤x1) && decide (x1<(↑l.length:Int)) then bif !decide (IntKind.u64.wrap d=0) then bif decide (0≤x1) && decide (x1<(↑x2.length:Int)) then bif !decide (IntKind.u64.wrap d=0) then GoodL Tryz.prog n0 137 K (headAt (fnT Tryz.f137) 4) (nshort_s4_0 l d ((IntKind.u64.wrap (IntKind.u64.wrap (x0 * 1000000000)+IntKind.u64.wrap (l.getD x1.toNat 0))).tmod (IntKind.u64.wrap d)) (IntKind.i64.wrap (x1 - 1)) (x2.set x1.toNat (IntKind.u32.wrap (IntKind.u64.wrap ((IntKind.u64.wrap (IntKind.u64.wrap (x0 * 1000000000)+IntKind.u64.wrap (l.getD x1.toNat 0))).tdiv (IntKind.u64.wrap d)))))) else False else False else False else False else ∃ k r,ND.nat_N_trim.f k x2=some r∧∃ k r_1,ND.nat_N_trim.f k [IntKind.u32.wrap x0]=some r_1∧K (AV.tup [AV.own 1,AV.own 3]) [HObj.dead,HObj.typed eW r false,HObj.dead,HObj.typed eW r_1 false]):=by kernel_rfl
def nminus_live : List (Nat × List Nat):=[(4,[0,1,2,3,9,10,11])]
def nminus_nils : List (Nat × ETy):=[]
noncomputable def nminus_s4_0 (u v:List Int) (kk q x0 x1 x2:Int) (x3:List Int):St:=stOf 62 [(0,AV.own 0),(1,AV.imm eW v),(2,AV.int .i64 kk),(3,AV.int IntKind.u64 q),(9,AV.int .i64 x0),(10,AV.int IntKind.u64 x1),(11,AV.int .i64 x2)] [HObj.typed eW x3 false]
theorem nminus_E (u v:List Int) (kk q:Int) (n0:Nat) (hv:Nat→Value × Nat) (K:AV→List HObj→Prop) :
 execN tab (mixE tab con0 [] 400) (maskH 1 nminus_live nminus_nils (GoodH Tryz.prog n0 138 1 hv K)) (finK tab (fnT Tryz.f138).res K) 400 [.code (fnT Tryz.f138).body] ⟨initEnv (fnT Tryz.f138).n [AV.own 0,AV.imm eW v,AV.int .i64 kk,AV.int IntKind.u64 q],[HObj.typed eW u false]⟩ =
 (GoodH Tryz.prog n0 138 1 hv K (headAt (fnT Tryz.f138) 4) (nminus_s4_0 u v kk q 0 0 0 u)):=by kernel_rfl
theorem nminus_s4_0_E (u v:List Int) (kk q x0 x1 x2:Int) (x3:List Int) (n0:Nat) (hv:Nat→Value × Nat) (K:AV→List HObj→Prop) :
 execN tab (mixE tab con0 [] 400) (maskH 1 nminus_live nminus_nils (GoodH Tryz.prog n0 138 1 hv K)) (finK tab (fnT Tryz.f138).res K) 400 (roundAt (fnT Tryz.f138) 4) (nminus_s4_0 u v kk q x0 x1 x2 x3) =
 (bif decide (x2≤(↑v.length:Int)) then bif decide (x2<(↑v.length:Int)) then bif decide (0≤x2) && decide (x2<(↑v.length:Int)) then bif decide (0≤IntKind.i64.wrap (kk+x2)) && decide (IntKind.i64.wrap (kk+x2)<(↑x3.length:Int)) then bif decide (IntKind.i64.wrap (IntKind.i64.wrap (IntKind.i64.wrap (x3.getD (IntKind.i64.wrap (kk+x2)).toNat 0) - IntKind.i64.wrap ((IntKind.u64.wrap (x1+IntKind.u64.wrap (q * IntKind.u64.wrap (v.getD x2.toNat 0)))).tmod 1000000000)) - x0)<0) then bif decide (0≤IntKind.i64.wrap (kk+x2)) && decide (IntKind.i64.wrap (kk+x2)<(↑x3.length:Int)) then GoodH Tryz.prog n0 138 1 hv K (headAt (fnT Tryz.f138) 4) (nminus_s4_0 u v kk q 1 (IntKind.u64.wrap ((IntKind.u64.wrap (x1+IntKind.u64.wrap (q * IntKind.u64.wrap (v.getD x2.toNat 0)))).tdiv 1000000000)) (IntKind.i64.wrap (x2+1)) (x3.set (IntKind.i64.wrap (kk+x2)).toNat (IntKind.u32.wrap (IntKind.i64.wrap (IntKind.i64.wrap (IntKind.i64.wrap (IntKind.i64.wrap (x3.getD (IntKind.i64.wrap (kk+x2)).toNat 0) - IntKind.i64.wrap ((IntKind.u64.wrap (x1+IntKind.u64.wrap (q * IntKind.u64.wrap (v.getD x2.toNat 0)))).tmod 1000000000)) - x0)+1000000000))))) else False else bif decide (0≤IntKind.i64.wrap (kk+x2)) && decide (IntKind.i64.wrap (kk+x2)<(↑x3.length:Int)) then GoodH Tryz.prog n0 138 1 hv K (headAt (fnT Tryz.f138) 4) (nminus_s4_0 u v kk q 0 (IntKind.u64.wrap ((IntKind.u64.wrap (x1+IntKind.u64.wrap (q * IntKind.u64.wrap (v.getD x2.toNat 0)))).tdiv 1000000000)) (IntKind.i64.wrap (x2+1)) (x3.set (IntKind.i64.wrap (kk+x2)).toNat (IntKind.u32.wrap (IntKind.i64.wrap (IntKind.i64.wrap (IntKind.i64.wrap (x3.getD (IntKind.i64.wrap (kk+x2)).toNat 0) - IntKind.i64.wrap ((IntKind.u64.wrap (x1+IntKind.u64.wrap (q * IntKind.u64.wrap (v.getD x2.toNat 0)))).tmod 1000000000)) - x0))))) else False else False else False else bif decide (0≤IntKind.i64.wrap (kk+x2)) && decide (IntKind.i64.wrap (kk+x2)<(↑x3.length:Int)) then bif decide (IntKind.i64.wrap (IntKind.i64.wrap (IntKind.i64.wrap (x3.getD (IntKind.i64.wrap (kk+x2)).toNat 0) - IntKind.i64.wrap (x1.tmod 1000000000)) - x0)<0) then bif decide (0≤IntKind.i64.wrap (kk+x2)) && decide (IntKind.i64.wrap (kk+x2)<(↑x3.length:Int)) then GoodH Tryz.prog n0 138 1 hv K (headAt (fnT Tryz.f138) 4) (nminus_s4_0 u v kk q 1 (IntKind.u64.wrap (x1.tdiv 1000000000)) (IntKind.i64.wrap (x2+1)) (x3.set (IntKind.i64.wrap (kk+x2)).toNat (IntKind.u32.wrap (IntKind.i64.wrap (IntKind.i64.wrap (IntKind.i64.wrap (IntKind.i64.wrap (x3.getD (IntKind.i64.wrap (kk+x2)).toNat 0) - IntKind.i64.wrap (x1.tmod 1000000000)) - x0)+1000000000))))) else False else bif decide (0≤IntKind.i64.wrap (kk+x2)) && decide (IntKind.i64.wrap (kk+x2)<(↑x3.length:Int)) then GoodH Tryz.prog n0 138 1 hv K (headAt (fnT Tryz.f138) 4) (nminus_s4_0 u v kk q 0 (IntKind.u64.wrap (x1.tdiv 1000000000)) (IntKind.i64.wrap (x2+1)) (x3.set (IntKind.i64.wrap (kk+x2)).toNat (IntKind.u32.wrap (IntKind.i64.wrap (IntKind.i64.wrap (IntKind.i64.wrap (x3.getD (IntKind.i64.wrap (kk+x2)).toNat 0) - IntKind.i64.wrap (x1.tmod 1000000000)) - x0))))) else False else False else K (AV.bool (decide (x0 > 0))) [HObj.typed eW x3 false]):=by kernel_rfl
def nplus_live : List (Nat × List Nat):=[(2,[0,1,2,6,7])]
def nplus_nils : List (Nat × ETy):=[]
noncomputable def nplus_s2_0 (u v:List Int) (kk x0 x1:Int) (x2:List Int):St:=stOf 42 [(0,AV.own 0),(1,AV.imm eW v),(2,AV.int .i64 kk),(6,AV.int .u32 x0),(7,AV.int .i64 x1)] [HObj.typed eW x2 false]
theorem nplus_E (u v:List Int) (kk:Int) (n0:Nat) (hv:Nat→Value × Nat) (K:AV→List HObj→Prop) :
 execN tab (mixE tab con0 [] 400) (maskH 1 nplus_live nplus_nils (GoodH Tryz.prog n0 139 1 hv K)) (finK tab (fnT Tryz.f139).res K) 400 [.code (fnT Tryz.f139).body] ⟨initEnv (fnT Tryz.f139).n [AV.own 0,AV.imm eW v,AV.int .i64 kk],[HObj.typed eW u false]⟩ =
 (GoodH Tryz.prog n0 139 1 hv K (headAt (fnT Tryz.f139) 2) (nplus_s2_0 u v kk 0 0 u)):=by kernel_rfl
theorem nplus_s2_0_E (u v:List Int) (kk x0 x1:Int) (x2:List Int) (n0:Nat) (hv:Nat→Value × Nat) (K:AV→List HObj→Prop) :
 execN tab (mixE tab con0 [] 400) (maskH 1 nplus_live nplus_nils (GoodH Tryz.prog n0 139 1 hv K)) (finK tab (fnT Tryz.f139).res K) 400 (roundAt (fnT Tryz.f139) 2) (nplus_s2_0 u v kk x0 x1 x2) =
 (bif decide (x1≤(↑v.length:Int)) then bif decide (0≤IntKind.i64.wrap (kk+x1)) && decide (IntKind.i64.wrap (kk+x1)<(↑x2.length:Int)) then bif decide (x1<(↑v.length:Int)) then bif decide (0≤x1) && decide (x1<(↑v.length:Int)) then bif decide (0≤IntKind.i64.wrap (kk+x1)) && decide (IntKind.i64.wrap (kk+x1)<(↑x2.length:Int)) then GoodH Tryz.prog n0 139 1 hv K (headAt (fnT Tryz.f139) 2) (nplus_s2_0 u v kk (IntKind.u32.wrap ((IntKind.u32.wrap (IntKind.u32.wrap (x2.getD (IntKind.i64.wrap (kk+x1)).toNat 0+x0)+v.getD x1.toNat 0)).tdiv 1000000000)) (IntKind.i64.wrap (x1+1)) (x2.set (IntKind.i64.wrap (kk+x1)).toNat ((IntKind.u32.wrap (IntKind.u32.wrap (x2.getD (IntKind.i64.wrap (kk+x1)).toNat 0+x0)+v.getD x1.toNat 0)).tmod 1000000000))) else False else False else bif decide (0≤IntKind.i64.wrap (kk+x1)) && decide (IntKind.i64.wrap (kk+x1)<(↑x2.length:Int)) then GoodH Tryz.prog n0 139 1 hv K (headAt (fnT Tryz.f139) 2) (nplus_s2_0 u v kk (IntKind.u32.wrap ((IntKind.u32.wrap (x2.getD (IntKind.i64.wrap (kk+x1)).toNat 0+x0)).tdiv 1000000000)) (IntKind.i64.wrap (x1+1)) (x2.set (IntKind.i64.wrap (kk+x1)).toNat ((IntKind.u32.wrap (x2.getD (IntKind.i64.wrap (kk+x1)).toNat 0+x0)).tmod 1000000000))) else False else False else K (AV.tup []) [HObj.typed eW x2 false]):=by kernel_rfl
def ndiv_live : List (Nat × List Nat):=[(7,[0,6,7,8]),(12,[6,7,8,9,10,11]),(16,[6,7,8,9,10,11,13,14])]
def ndiv_nils : List (Nat × ETy):=[(7,eW),(8,eW),(10,eW)]
noncomputable def ndiv_s7_0 (l m:List Int) (x0:Int) (x1 x2:List Int):St:=stOf 171 [(0,AV.imm eW l),(6,AV.int .u32 x0),(7,AV.own 0),(8,AV.own 1)] [HObj.typed eW x1 false,HObj.typed eW x2 false]
noncomputable def ndiv_s12_0 (l m:List Int) (x0 x1 x2:Int) (x3 x4 x5:List Int):St:=stOf 171 [(6,AV.int .u32 x0),(7,AV.own 0),(8,AV.own 1),(9,AV.int .i64 x1),(10,AV.own 2),(11,AV.int .i64 x2)] [HObj.typed eW x3 false,HObj.typed eW x4 false,HObj.typed eW x5 false]
noncomputable def ndiv_s16_0 (l m:List Int) (x0 x1 x2 x3 x4:Int) (x5 x6 x7:List Int):St:=stOf 171 [(6,AV.int .u32 x0),(7,AV.own 0),(8,AV.own 1),(9,AV.int .i64 x1),(10,AV.own 2),(11,AV.int .i64 x2),(13,AV.int IntKind.u64 x3),(14,AV.int IntKind.u64 x4)] [HObj.typed eW x5 false,HObj.typed eW x6 false,HObj.typed eW x7 false]
theorem ndiv_E (l m:List Int) (n0:Nat) (K:AV→List HObj→Prop) :
 execN tab (mixH tab hDiv conDiv [] 400) (maskN ndiv_live ndiv_nils (GoodL Tryz.prog n0 128 K)) (finK tab (fnT Tryz.f128).res K) 400 [.code (fnT Tryz.f128).body] ⟨initEnv (fnT Tryz.f128).n [AV.imm eW l,AV.imm eW m],[]⟩ =
 (∃ k r,ND.nat_N_Cmp.f k l m=some r∧bif decide (r<0) then K (AV.tup [AV.nils,AV.imm eW l]) [] else bif decide ((↑m.length:Int)=1) then bif decide (0<(↑m.length:Int)) then ∃ k r,ND.nat_N_short.f k l (m.getD 0 0)=some r∧K (AV.tup [AV.imm eW r.1,AV.imm eW r.2]) [] else False else bif decide (0≤IntKind.i64.wrap ((↑m.length:Int) - 1)) && decide (IntKind.i64.wrap ((↑m.length:Int) - 1)<(↑m.length:Int)) then bif !decide (IntKind.u64.wrap (IntKind.u64.wrap (m.getD (IntKind.i64.wrap ((↑m.length:Int) - 1)).toNat 0)+1)=0) then ∃ k r,ND.nat_N_Mul.f k l [IntKind.u32.wrap (IntKind.u64.wrap (Int.tdiv 1000000000 (IntKind.u64.wrap (IntKind.u64.wrap (m.getD (IntKind.i64.wrap ((↑m.length:Int) - 1)).toNat 0)+1))))]=some r∧bif bif (r.length+1).ble 9223372036854775807 then ((r.length+1) * 4).ble 140737488355328 else false then ∃ k r_1,ND.nat_N_Mul.f k m [IntKind.u32.wrap (IntKind.u64.wrap (Int.tdiv 1000000000 (IntKind.u64.wrap (IntKind.u64.wrap (m.getD (IntKind.i64.wrap ((↑m.length:Int) - 1)).toNat 0)+1))))]=some r_1∧GoodL Tryz.prog n0 128 K (headAt (fnT Tryz.f128) 7) (ndiv_s7_0 l m (IntKind.u32.wrap (IntKind.u64.wrap (Int.tdiv 1000000000 (IntKind.u64.wrap (IntKind.u64.wrap (m.getD (IntKind.i64.wrap ((↑m.length:Int) - 1)).toNat 0)+1))))) (r ++ [0]) r_1) else False else False else False):=by kernel_rfl
theorem ndiv_s7_0_E (l m:List Int) (x0:Int) (x1 x2:List Int) (n0:Nat) (K:AV→List HObj→Prop) :
 execN tab (mixH tab hDiv conDiv [] 400) (maskN ndiv_live ndiv_nils (GoodL Tryz.prog n0 128 K)) (finK tab (fnT Tryz.f128).res K) 400 (roundAt (fnT Tryz.f128) 7) (ndiv_s7_0 l m x0 x1 x2) =
 (bif decide ((↑x1.length:Int)≤(↑l.length:Int)) then bif bif (x1.length+1).ble 9223372036854775807 then ((x1.length+1) * 4).ble 140737488355328 else false then GoodL Tryz.prog n0 128 K (headAt (fnT Tryz.f128) 7) (ndiv_s7_0 l m x0 (x1 ++ [0]) x2) else False else bif decide (0≤IntKind.i64.wrap ((↑x1.length:Int) - (↑x2.length:Int))) && decide (IntKind.i64.wrap ((↑x1.length:Int) - (↑x2.length:Int))≤IntKind.i64.wrap ((↑x1.length:Int) - (↑x2.length:Int))) && bif (IntKind.i64.wrap ((↑x1.length:Int) - (↑x2.length:Int))).toNat.ble 9223372036854775807 then ((IntKind.i64.wrap ((↑x1.length:Int) - (↑x2.length:Int))).toNat * 4).ble 281474976710656 else false then GoodL Tryz.prog n0 128 K (headAt (fnT Tryz.f128) 12) (ndiv_s12_0 l m x0 (↑x2.length:Int) (IntKind.i64.wrap (IntKind.i64.wrap ((↑x1.length:Int) - (↑x2.length:Int)) - 1)) x1 x2 (List.replicate (IntKind.i64.wrap ((↑x1.length:Int) - (↑x2.length:Int))).toNat 0)) else False):=by kernel_rfl
theorem ndiv_s12_0_E (l m:List Int) (x0 x1 x2:Int) (x3 x4 x5:List Int) (n0:Nat) (K:AV→List HObj→Prop) :
 execN tab (mixH tab hDiv conDiv [] 400) (maskN ndiv_live ndiv_nils (GoodL Tryz.prog n0 128 K)) (finK tab (fnT Tryz.f128).res K) 400 (roundAt (fnT Tryz.f128) 12) (ndiv_s12_0 l m x0 x1 x2 x3 x4 x5) =
 (bif decide (x2 ≥ 0) then bif decide (0≤IntKind.i64.wrap (x2+x1)) && decide (IntKind.i64.wrap (x2+x1)<(↑x3.length:Int)) then bif decide (0≤IntKind.i64.wrap (IntKind.i64.wrap (x2+x1) - 1)) && decide (IntKind.i64.wrap (IntKind.i64.wrap (x2+x1) - 1)<(↑x3.length:Int)) then bif decide (0≤IntKind.i64.wrap (x1 - 1)) && decide (IntKind.i64.wrap (x1 - 1)<(↑x4.length:Int)) then bif !decide (IntKind.u64.wrap (x4.getD (IntKind.i64.wrap (x1 - 1)).toNat 0)=0) then bif decide (0≤IntKind.i64.wrap (x1 - 1)) && decide (IntKind.i64.wrap (x1 - 1)<(↑x4.length:Int)) then bif !decide (IntKind.u64.wrap (x4.getD (IntKind.i64.wrap (x1 - 1)).toNat 0)=0) then GoodL Tryz.prog n0 128 K (headAt (fnT Tryz.f128) 16) (ndiv_s16_0 l m x0 x1 x2 (IntKind.u64.wrap ((IntKind.u64.wrap (IntKind.u64.wrap (IntKind.u64.wrap (x3.getD (IntKind.i64.wrap (x2+x1)).toNat 0) * 1000000000)+IntKind.u64.wrap (x3.getD (IntKind.i64.wrap (IntKind.i64.wrap (x2+x1) - 1)).toNat 0))).tdiv (IntKind.u64.wrap (x4.getD (IntKind.i64.wrap (x1 - 1)).toNat 0)))) ((IntKind.u64.wrap (IntKind.u64.wrap (IntKind.u64.wrap (x3.getD (IntKind.i64.wrap (x2+x1)).toNat 0) * 1000000000)+IntKind.u64.wrap (x3.getD (IntKind.i64.wrap (IntKind.i64.wrap (x2+x1) - 1)).toNat 0))).tmod (IntKind.u64.wrap (x4.getD (IntKind.i64.wrap (x1 - 1)).toNat 0))) x3 x4 x5) else False else False else False else False else False else False else ∃ k r,ND.nat_N_trim.f k x3=some r∧∃ k r_1,ND.nat_N_short.f k r x0=some r_1∧∃ k r_2,ND.nat_N_trim.f k x5=some r_2∧K (AV.tup [AV.own 4,AV.imm eW r_1.1]) [HObj.dead,HObj.typed eW x4 false,HObj.dead,HObj.typed eW r true,HObj.typed eW r_2 false]):=by kernel_rfl
theorem ndiv_s16_0_E (l m:List Int) (x0 x1 x2 x3 x4:Int) (x5 x6 x7:List Int) (n0:Nat) (K:AV→List HObj→Prop) :
 execN tab (mixH tab hDiv conDiv [] 400) (maskN ndiv_live ndiv_nils (GoodL Tryz.prog n0 128 K)) (finK tab (fnT Tryz.f128).res K) 400 (roundAt (fnT Tryz.f128) 16) (ndiv_s16_0 l m x0 x1 x2 x3 x4 x5 x6 x7) =
 (bif decide (x3 ≥ 1000000000) then bif decide (0≤IntKind.i64.wrap (x1 - 1)) && decide (IntKind.i64.wrap (x1 - 1)<(↑x6.length:Int)) then bif decide (IntKind.u64.wrap (x4+IntKind.u64.wrap (x6.getD (IntKind.i64.wrap (x1 - 1)).toNat 0)) ≥ 1000000000) then ∃ k r,ND.nat_N_minus.f k x5 x6 x2 (IntKind.u64.wrap (x3 - 1))=some r∧bif r.1 then ∃ k r_1,ND.nat_N_plus.f k r.2 x6 x2=some r_1∧bif decide (0≤x2) && decide (x2<(↑x7.length:Int)) then GoodL Tryz.prog n0 128 K (headAt (fnT Tryz.f128) 12) (ndiv_s12_0 l m x0 x1 (IntKind.i64.wrap (x2 - 1)) r_1 x6 (x7.set x2.toNat (IntKind.u32.wrap (IntKind.u64.wrap (IntKind.u64.wrap (x3 - 1) - 1))))) else False else bif decide (0≤x2) && decide (x2<(↑x7.length:Int)) then GoodL Tryz.prog n0 128 K (headAt (fnT Tryz.f128) 12) (ndiv_s12_0 l m x0 x1 (IntKind.i64.wrap (x2 - 1)) r.2 x6 (x7.set x2.toNat (IntKind.u32.wrap (IntKind.u64.wrap (x3 - 1))))) else False else GoodL Tryz.prog n0 128 K (headAt (fnT Tryz.f128) 16) (ndiv_s16_0 l m x0 x1 x2 (IntKind.u64.wrap (x3 - 1)) (IntKind.u64.wrap (x4+IntKind.u64.wrap (x6.getD (IntKind.i64.wrap (x1 - 1)).toNat 0))) x5 x6 x7) else False else bif decide (0≤IntKind.i64.wrap (x1 - 2)) && decide (IntKind.i64.wrap (x1 - 2)<(↑x6.length:Int)) then bif decide (0≤IntKind.i64.wrap (IntKind.i64.wrap (x2+x1) - 2)) && decide (IntKind.i64.wrap (IntKind.i64.wrap (x2+x1) - 2)<(↑x5.length:Int)) then bif bif false then true else decide (IntKind.u64.wrap (x3 * IntKind.u64.wrap (x6.getD (IntKind.i64.wrap (x1 - 2)).toNat 0)) > IntKind.u64.wrap (IntKind.u64.wrap (x4 * 1000000000)+IntKind.u64.wrap (x5.getD (IntKind.i64.wrap (IntKind.i64.wrap (x2+x1) - 2)).toNat 0))) then bif decide (0≤IntKind.i64.wrap (x1 - 1)) && decide (IntKind.i64.wrap (x1 - 1)<(↑x6.length:Int)) then bif decide (IntKind.u64.wrap (x4+IntKind.u64.wrap (x6.getD (IntKind.i64.wrap (x1 - 1)).toNat 0)) ≥ 1000000000) then ∃ k r,ND.nat_N_minus.f k x5 x6 x2 (IntKind.u64.wrap (x3 - 1))=some r∧bif r.1 then ∃ k r_1,ND.nat_N_plus.f k r.2 x6 x2=some r_1∧bif decide (0≤x2) && decide (x2<(↑x7.length:Int)) then GoodL Tryz.prog n0 128 K (headAt (fnT Tryz.f128) 12) (ndiv_s12_0 l m x0 x1 (IntKind.i64.wrap (x2 - 1)) r_1 x6 (x7.set x2.toNat (IntKind.u32.wrap (IntKind.u64.wrap (IntKind.u64.wrap (x3 - 1) - 1))))) else False else bif decide (0≤x2) && decide (x2<(↑x7.length:Int)) then GoodL Tryz.prog n0 128 K (headAt (fnT Tryz.f128) 12) (ndiv_s12_0 l m x0 x1 (IntKind.i64.wrap (x2 - 1)) r.2 x6 (x7.set x2.toNat (IntKind.u32.wrap (IntKind.u64.wrap (x3 - 1))))) else False else GoodL Tryz.prog n0 128 K (headAt (fnT Tryz.f128) 16) (ndiv_s16_0 l m x0 x1 x2 (IntKind.u64.wrap (x3 - 1)) (IntKind.u64.wrap (x4+IntKind.u64.wrap (x6.getD (IntKind.i64.wrap (x1 - 1)).toNat 0))) x5 x6 x7) else False else ∃ k r,ND.nat_N_minus.f k x5 x6 x2 x3=some r∧bif r.1 then ∃ k r_1,ND.nat_N_plus.f k r.2 x6 x2=some r_1∧bif decide (0≤x2) && decide (x2<(↑x7.length:Int)) then GoodL Tryz.prog n0 128 K (headAt (fnT Tryz.f128) 12) (ndiv_s12_0 l m x0 x1 (IntKind.i64.wrap (x2 - 1)) r_1 x6 (x7.set x2.toNat (IntKind.u32.wrap (IntKind.u64.wrap (x3 - 1))))) else False else bif decide (0≤x2) && decide (x2<(↑x7.length:Int)) then GoodL Tryz.prog n0 128 K (headAt (fnT Tryz.f128) 12) (ndiv_s12_0 l m x0 x1 (IntKind.i64.wrap (x2 - 1)) r.2 x6 (x7.set x2.toNat (IntKind.u32.wrap x3))) else False else False else False):=by kernel_rfl
def ngcd_live : List (Nat × List Nat):=[(1,[0,1])]
def ngcd_nils : List (Nat × ETy):=[(0,eW),(1,eW)]
noncomputable def ngcd_s1_0 (l m:List Int):St:=stOf 19 [(0,AV.imm eW l),(1,AV.imm eW m)] []
noncomputable def ngcd_s1_2 (l m x0 x1:List Int):St:=stOf 19 [(0,AV.imm eW x0),(1,AV.imm eW x1)] []
theorem ngcd_E (l m:List Int) (n0:Nat) (K:AV→List HObj→Prop) :
 execN tab (mixE tab conGcd [] 400) (maskN ngcd_live ngcd_nils (GoodL Tryz.prog n0 127 K)) (finK tab (fnT Tryz.f127).res K) 400 [.code (fnT Tryz.f127).body] ⟨initEnv (fnT Tryz.f127).n [AV.imm eW l,AV.imm eW m],[]⟩ =
 (GoodL Tryz.prog n0 127 K (headAt (fnT Tryz.f127) 1) (ngcd_s1_0 l m)):=by kernel_rfl
theorem ngcd_s1_2_E (l m x0 x1:List Int) (n0:Nat) (K:AV→List HObj→Prop) :
 execN tab (mixE tab conGcd [] 400) (maskN ngcd_live ngcd_nils (GoodL Tryz.prog n0 127 K)) (finK tab (fnT Tryz.f127).res K) 400 (roundAt (fnT Tryz.f127) 1) (ngcd_s1_2 l m x0 x1) =
 (bif decide ((↑x1.length:Int) > 0) then ∃ k r,ND.nat_N_Div.f k x0 x1=some r∧GoodL Tryz.prog n0 127 K (headAt (fnT Tryz.f127) 1) (ngcd_s1_2 l m x1 r.2) else K (AV.imm eW x0) []):=by kernel_rfl
def nof_live : List (Nat × List Nat):=[(2,[0,3])]
def nof_nils : List (Nat × ETy):=[(3,eW)]
noncomputable def nof_s2_0 (n:Int) (x0:List Int):St:=stOf 15 [(0,AV.int .i64 n),(3,AV.own 0)] [HObj.typed eW x0 false]
noncomputable def nof_s2_1 (n x0:Int) (x1:List Int):St:=stOf 15 [(0,AV.int .i64 x0),(3,AV.own 0)] [HObj.typed eW x1 false]
theorem nof_E (n:Int) (n0:Nat) (K:AV→List HObj→Prop) :
 execN tab (mixE tab con0 [] 400) (maskN nof_live nof_nils (GoodL Tryz.prog n0 108 K)) (finK tab (fnT Tryz.f108).res K) 400 [.code (fnT Tryz.f108).body] ⟨initEnv (fnT Tryz.f108).n [AV.int .i64 n],[]⟩ =
 (GoodL Tryz.prog n0 108 K (headAt (fnT Tryz.f108) 2) (nof_s2_0 n [])):=by kernel_rfl
theorem nof_s2_1_E (n x0:Int) (x1:List Int) (n0:Nat) (K:AV→List HObj→Prop) :
 execN tab (mixE tab con0 [] 400) (maskN nof_live nof_nils (GoodL Tryz.prog n0 108 K)) (finK tab (fnT Tryz.f108).res K) 400 (roundAt (fnT Tryz.f108) 2) (nof_s2_1 n x0 x1) =
 (bif decide (x0 > 0) then bif bif (x1.length+[IntKind.u32.wrap (x0.tmod 1000000000)].length).ble 9223372036854775807 then ((x1.length+[IntKind.u32.wrap (x0.tmod 1000000000)].length) * 4).ble 140737488355328 else false then GoodL Tryz.prog n0 108 K (headAt (fnT Tryz.f108) 2) (nof_s2_1 n (IntKind.i64.wrap (x0.tdiv 1000000000)) (x1 ++ [IntKind.u32.wrap (x0.tmod 1000000000)])) else False else K (AV.own 0) [HObj.typed eW x1 false]):=by kernel_rfl
def ndigits_live : List (Nat × List Nat):=[]
def ndigits_nils : List (Nat × ETy):=[]
theorem ndigits_E (l:List Int) (n0:Nat) (K:AV→List HObj→Prop) :
 execN tab (mixE tab conGcd [] 400) (maskN ndigits_live ndigits_nils (GoodL Tryz.prog n0 131 K)) (finK tab (fnT Tryz.f131).res K) 400 [.code (fnT Tryz.f131).body] ⟨initEnv (fnT Tryz.f131).n [AV.imm eW l],[]⟩ =
 (∃ k r,ND.nat_N_Text.f k l=some r∧K (AV.int .i64 (↑r.size:Int)) []):=by kernel_rfl
end
end Go.Proofs.YtnnkjpcipldnfaaGreatDoor.Mach
end
section
set_option linter.unusedSimpArgs false
set_option linter.unusedVariables false
namespace Go.Proofs.YtnnkjpcipldnfaaGreatDoor.Lib
open Go Go.Proofs.YtnnkjpcipldnfaaGreatDoor.Mach Go.Proofs.YtnnkjpcipldnfaaGreatDoor.ND Go.Proofs.YtnnkjpcipldnfaaGreatDoorW.PrintWords Go.RowKit
section
theorem rowW_eq {o:HObj} {l:List Int} (h:rowW o=some l):o = .typed eW l false:=by
 unfold rowW at h
 split at h
 · split at h
   · obtain ⟨he,hr⟩:=castRow_eq h
     subst he
     subst hr
     rfl
   · cases h
 · cases h
theorem ownAt_eq {x:AV} {n:Nat} (h:ownAt x n=true):x = .own n:=by
 unfold ownAt at h
 split at h
 · rw [Nat.eq_of_beq_eq_true h]
 · cases h
theorem bif_and' {b:Bool} {p:Prop} (h:bif b then p else False):b=true∧p:=by
 cases b with
 | true=>exact ⟨rfl,h⟩
 | false=>exact h.elim
theorem conH_args {g:FuncId} {xs ys:List AV} {os:List HObj} {Q:Res} (h:ConH Tryz.prog g ys os Q) (hl:xs.length=ys.length) (hs:∀ (j:Nat) (y:AV),ys[j]? = some y→∃ x,xs[j]? = some x∧∀ {c:Ctx} {w:World} {v:Value},AVR c w x v→AVR c w y v):ConH Tryz.prog g xs os Q:=fun n0 =>
 ⟨(h n0).1,fun c w vals ha hm=>(h n0).2 c w vals ⟨by rw [ha.1,hl],fun j y hy=>by
   obtain ⟨x,hx,hxy⟩:=hs j y hy
   exact hxy (ha.2 j x hx)⟩ hm⟩
theorem resH_stay {Q:Res} {v:AV} {e:ETy} {l:List e.D} (hf:flatE e=true) (hq:Q v [.typed e l false]) (ho:outOk 1 v=true) (hn:noImm v=true) (hr:reId (fun k=>[0].getD k 0) v=v):resH 1 Q v [.typed e l false] :=
 Or.inl ⟨v,[.typed e l false],hq,Nat.le_refl _,ho,hn,by simp [goodObjs,handed1,hf],[0],rfl,by simp,fun k hk=>by
  obtain rfl:k=0:=by omega
  rfl,fun k id h=>by
  match k,h with
  | 0,h=>cases h; rfl,hr.symm⟩
theorem resH_new {Q:Res} {e:ETy} {l:List e.D} (hf:flatE e=true) (hq:Q (.own 1) [.dead, .typed e l false]):∃ v objs,Q v objs∧1≤objs.length∧outOk objs.length v=true∧noImm v=true∧goodObjs 1 objs=true ∧
 ∃ ids:List Nat,ids.length=objs.length∧ids.Nodup∧(∀ k,k<1→ids[k]? = some k)∧(∀ (k id:Nat),ids[k]? = some id→objs[k]? = some (objAt [.dead, .typed e l false] id))∧AV.own 1=reId (fun k=>ids.getD k 0) v :=
 ⟨.own 1,[.dead, .typed e l false],hq,by simp,rfl,rfl,by simp [goodObjs,handed1,handable,hf],[0,1],rfl,by simp,fun k hk=>by
  obtain rfl:k=0:=by omega
  rfl,fun k id h=>by
  match k,h with
  | 0,h=>cases h; rfl
  | 1,h=>cases h; rfl,rfl⟩
theorem ntrim_w {l:List Int} {n0:Nat} {hv:Nat→Value × Nat} {K:Res}:∀ (k:Nat) (x1:Nat) (x2 r:List Int),x1≤x2.length→nat_N_trim.l0 k (x2.take x1)=some r→(∀ n,n≤x2.length→x2.take n=r→K (.win 0 0 n) [.typed eW x2 false]) →
 GoodH Tryz.prog n0 126 1 hv K (headAt (fnT Tryz.f126) 1) (ntrim_s1_1 l 0 x1 x2):=by
 intro k
 induction k with
 | zero=>intro x1 x2 r hx h hK; cases h
 | succ k ih =>
   intro x1 x2 r hx h hK
   have hl:(x2.take x1).length=x1:=by rw [List.length_take]; omega
   rw [nat_N_trim.l0.eq_2] at h
   refine roundW (by kernel_rfl) con0_ok (inl:=[]) (LT:=ntrim_live) (NT:=ntrim_nils) ?_
   rw [ntrim_s1_1_E]
   simp only [w64i,rd,hl] at h
   generalize IntKind.i64.wrap ((x1:Int) - 1)=w at h ⊢
   by_cases h0:(x1:Int) > 0
   · rw [if_pos h0] at h
     refine bif_pos h0 ?_
     by_cases a1:0≤w
     · by_cases a2:w<(x1:Int)
       · rw [if_pos a1,if_pos a2] at h
         refine bif_and (bif_pos a1 (bif_pos a2 (bif_cc (bif_tt ?_))))
         have eg:(x2.take x1).getD w.toNat 0=x2.getD (((0:Nat):Int)+w).toNat 0:=by
          rw [List.getD_eq_getElem?_getD,List.getD_eq_getElem?_getD,List.getElem?_take,if_pos (by omega),show (((0:Nat):Int)+w).toNat=w.toNat by omega]
         rw [eg] at h
         by_cases a3:x2.getD (((0:Nat):Int)+w).toNat 0=0
         · rw [if_pos a3,if_pos (by omega),List.take_take,Nat.min_eq_left (by omega)] at h
           refine bif_pos a3 (bif_and (bif_pos a1 (bif_pos (by omega) ?_)))
           exact ih w.toNat x2 r (by omega) h hK
         · rw [if_neg a3] at h
           exact bif_neg a3 (hK x1 hx (Option.some.inj h))
       · rw [if_pos a1,if_neg a2] at h; cases h
     · rw [if_neg a1] at h; cases h
   · rw [if_neg h0] at h
     exact bif_neg h0 (hK x1 hx (Option.some.inj h))
theorem ntrim_v {l x2 r:List Int} {n0:Nat} {hv:Nat→Value × Nat} {K:Res} {k:Nat} (h:nat_N_trim.l0 k x2=some r) (hK:∀ n,n≤x2.length→x2.take n=r→K (.win 0 0 n) [.typed eW x2 false]) (hK0:x2=r→K (.own 0) [.typed eW x2 false]) :
 GoodH Tryz.prog n0 126 1 hv K (headAt (fnT Tryz.f126) 1) (ntrim_s1_0 l x2):=by
 rcases k with _ | k
 · cases h
 · rw [nat_N_trim.l0.eq_2] at h
   refine roundW (by kernel_rfl) con0_ok (inl:=[]) (LT:=ntrim_live) (NT:=ntrim_nils) ?_
   rw [ntrim_s1_0_E]
   simp only [w64i,rd] at h
   generalize IntKind.i64.wrap ((x2.length:Int) - 1)=w at h ⊢
   by_cases h0:(x2.length:Int) > 0
   · rw [if_pos h0] at h
     refine bif_pos h0 ?_
     by_cases a1:0≤w
     · by_cases a2:w<(x2.length:Int)
       · rw [if_pos a1,if_pos a2] at h
         refine bif_and (bif_pos a1 (bif_pos a2 (bif_cc (bif_tt ?_))))
         by_cases a3:x2.getD w.toNat 0=0
         · rw [if_pos a3,if_pos (by omega)] at h
           refine bif_pos a3 (bif_and (bif_pos a1 (bif_pos (by omega) ?_)))
           exact ntrim_w k w.toNat x2 r (by omega) h hK
         · rw [if_neg a3] at h
           exact bif_neg a3 (hK0 (Option.some.inj h))
       · rw [if_pos a1,if_neg a2] at h; cases h
     · rw [if_neg a1] at h; cases h
   · rw [if_neg h0] at h
     exact bif_neg h0 (hK0 (Option.some.inj h))
theorem trim_conH {xs:List AV} {os:List HObj} {Q:Res} (h:trimH xs os Q):ConH Tryz.prog 126 xs os Q:=by
 unfold trimH at h
 split at h
 · split at h
   · split at h
     · rename_i l hl
       obtain ⟨hx,k,r,hf,hq⟩:=bif_and' h
       rw [ownAt_eq hx,rowW_eq hl]
       refine conW (gn:=fnT Tryz.f126) (by kernel_rfl) con0_ok (inl:=[]) (LT:=ntrim_live) (NT:=ntrim_nils) rfl fun n0 hv=>?_
       show execN _ _ (maskH 1 _ _ (GoodH _ _ _ 1 _ _)) _ _ _ _
       rw [ntrim_E]
       refine ntrim_v (r:=r) hf (fun n hn hr=>?_) (fun hr=>?_)
       · subst hr
         exact Or.inr (Or.inl ⟨0,n,eW,l,rfl,rfl,hn,resH_new rfl hq⟩)
       · subst hr
         exact Or.inr (Or.inr ⟨0,eW,l,rfl,rfl,resH_new rfl hq⟩)
     · exact h.elim
   · exact h.elim
 · exact h.elim
theorem hTrim_ok : ∀ g p,find hTrim g=some p→∀ xs os Q,p.2 xs os Q→ConH Tryz.prog g xs os Q:=hands_ok fun p hp=>by
 simp only [hTrim,List.mem_cons,List.not_mem_nil,or_false] at hp
 subst hp
 exact fun xs os Q h=>trim_conH h
theorem nread_w {s:ByteArray} {n0:Nat} {K:Res} (r:List Int) (hK:∀ id H,objAt H id = .typed eW r false→K (.own id) H):∀ k:Nat,
 (∀ (x3:List Int) (x4:Int),nat_Read.l0 k s x3 x4=some r→GoodL Tryz.prog n0 107 K (headAt (fnT Tryz.f107) 3) (nread_s3_0 s x4 x3)) ∧
 (∀ (x3:List Int) (x4 x5:Int) (x20:List Int) (x21 x22:Int),nat_Read.l1 k s x3 x4 x5 x20 x21 x22=some r→GoodL Tryz.prog n0 107 K (headAt (fnT Tryz.f107) 7) (nread_s7_0 s x4 x5 x20 x21 x22 x3)):=by
 intro k
 induction k using Nat.strongRecOn with
 | _ k ih =>
   refine ⟨?_,?_⟩
   · skip
     intro x3 x4 h
     rcases k with _ | k
     · cases h
     have ih0:=ih k (by omega)
     rw [nat_Read.l0.eq_2] at h
     refine roundHN (by kernel_rfl) con0_ok hTrim_ok (inl:=[]) (LT:=nread_live) (NT:=nread_nils) ?_
     rw [nread_s3_0_E]
     try simp only [w64i,rd,bytesOf,gp_bytes.f,gp_make0_61.f,gp_make0_63.f,bt_get,Option.bind_some,decide_eq_true_eq,Bool.false_eq_true,beq_iff_eq,if_false,if_true,Int.toNat_zero] at h
     try delta strOfNums at h
     try simp only [u32w,u8w,emod1,emod2,emod3,emod4,emod5,tmodN,tdivN,List.length_singleton,List.drop_zero,Nat.sub_zero,Int.toNat_natCast,List.take_length,listE,list48]
     repeat' first | (split at h) | (rw [Option.bind_eq_some_iff] at h; obtain ⟨t,ht,h⟩:=h; try (with_reducible cases ht))
     all_goals try (with_reducible cases h)
     all_goals repeat' first | (with_reducible refine bif_pos (by assumption) ?_) | (with_reducible refine bif_neg (by assumption) ?_) | (with_reducible refine bif_t (by assumption) ?_) | (with_reducible refine bif_f (by assumption) ?_) | (with_reducible refine bif_and ?_) | (with_reducible refine bif_tt ?_) | (with_reducible refine bif_ff ?_) | (with_reducible refine bif_cc ?_) | (with_reducible refine bif_not ?_) | (with_reducible refine bif_eqL (by assumption) ?_) | (with_reducible refine bif_neL (by assumption) ?_) | (with_reducible refine bif_pos (by omega) ?_) | (with_reducible refine bif_neg (by omega) ?_) | (with_reducible refine bif_ble (by omega) ?_) | (with_reducible refine bif_beq (by omega) ?_) | (with_reducible refine bif_blt (by omega) ?_) | (with_reducible exact ih0.1 _ _ (by assumption)) | (with_reducible exact ih0.2 _ _ _ _ _ _ (by assumption)) | ((with_reducible refine hK _ _ ?_) <;> rfl) | (with_reducible refine And.intro trivial ?_) | (with_reducible refine ⟨_,_,by assumption,?_⟩) | (with_reducible refine ⟨_,by assumption,?_⟩)
   · skip
     intro x3 x4 x5 x20 x21 x22 h
     rcases k with _ | k
     · cases h
     have ih0:=ih k (by omega)
     rw [nat_Read.l1.eq_2] at h
     refine roundHN (by kernel_rfl) con0_ok hTrim_ok (inl:=[]) (LT:=nread_live) (NT:=nread_nils) ?_
     rw [nread_s7_0_E]
     try simp only [w64i,rd,bytesOf,gp_bytes.f,gp_make0_61.f,gp_make0_63.f,bt_get,Option.bind_some,decide_eq_true_eq,Bool.false_eq_true,beq_iff_eq,if_false,if_true,Int.toNat_zero] at h
     try delta strOfNums at h
     try simp only [u32w,u8w,emod1,emod2,emod3,emod4,emod5,tmodN,tdivN,List.length_singleton,List.drop_zero,Nat.sub_zero,Int.toNat_natCast,List.take_length,listE,list48]
     repeat' first | (split at h) | (rw [Option.bind_eq_some_iff] at h; obtain ⟨t,ht,h⟩:=h; try (with_reducible cases ht))
     all_goals try (with_reducible cases h)
     all_goals repeat' first | (with_reducible refine bif_pos (by assumption) ?_) | (with_reducible refine bif_neg (by assumption) ?_) | (with_reducible refine bif_t (by assumption) ?_) | (with_reducible refine bif_f (by assumption) ?_) | (with_reducible refine bif_and ?_) | (with_reducible refine bif_tt ?_) | (with_reducible refine bif_ff ?_) | (with_reducible refine bif_cc ?_) | (with_reducible refine bif_not ?_) | (with_reducible refine bif_eqL (by assumption) ?_) | (with_reducible refine bif_neL (by assumption) ?_) | (with_reducible refine bif_pos (by omega) ?_) | (with_reducible refine bif_neg (by omega) ?_) | (with_reducible refine bif_ble (by omega) ?_) | (with_reducible refine bif_beq (by omega) ?_) | (with_reducible refine bif_blt (by omega) ?_) | (with_reducible exact ih0.1 _ _ (by assumption)) | (with_reducible exact ih0.2 _ _ _ _ _ _ (by assumption)) | ((with_reducible refine hK _ _ ?_) <;> rfl) | (with_reducible refine And.intro trivial ?_) | (with_reducible refine ⟨_,_,by assumption,?_⟩) | (with_reducible refine ⟨_,by assumption,?_⟩)
theorem nread_con {s:ByteArray} {Q:Res} (h:readN s Q):Con Tryz.prog 107 [.str s] Q:=by
 obtain ⟨k,r,hf,hq⟩:=h
 refine con_imm (e:=eW) (l:=r) ?_ hq
 refine conHN (gn:=fnT Tryz.f107) (by kernel_rfl) con0_ok hTrim_ok (inl:=[]) (LT:=nread_live) (NT:=nread_nils) rfl fun n0=>?_
 rw [nread_E]
 exact (nread_w r (fun id H ho=>res_own ho ⟨rfl,false,rfl⟩) k).1 _ _ hf
theorem ntlb_w {s:ByteArray} {n0:Nat} {K:Res} (r:ByteArray) (hK:∀ H,K (.str r) H):∀ k:Nat,
 (∀ (x0:ByteArray) (c:Int),strings_trimLeftByte.l0 k x0 c=some r→GoodL Tryz.prog n0 148 K (headAt (fnT Tryz.f148) 1) (ntlb_s1_1 s c x0)):=by
 intro k
 induction k using Nat.strongRecOn with
 | _ k ih =>
   intro x0 c h
   rcases k with _ | k
   · cases h
   have ih0:=ih k (by omega)
   rw [strings_trimLeftByte.l0.eq_2] at h
   refine roundN (by kernel_rfl) con0_ok (inl:=[]) (LT:=ntlb_live) (NT:=ntlb_nils) ?_
   rw [ntlb_s1_1_E]
   try simp only [w64i,rd,bytesOf,gp_bytes.f,gp_make0_61.f,gp_make0_63.f,bt_get,Option.bind_some,decide_eq_true_eq,Bool.false_eq_true,beq_iff_eq,if_false,if_true,Int.toNat_zero] at h
   try delta strOfNums at h
   try simp only [u32w,u8w,emod1,emod2,emod3,emod4,emod5,tmodN,tdivN,List.length_singleton,List.drop_zero,Nat.sub_zero,Int.toNat_natCast,List.take_length,listE,list48]
   repeat' first | (split at h) | (rw [Option.bind_eq_some_iff] at h; obtain ⟨t,ht,h⟩:=h; try (with_reducible cases ht))
   all_goals try (with_reducible cases h)
   all_goals repeat' first | (with_reducible refine bif_pos (by assumption) ?_) | (with_reducible refine bif_neg (by assumption) ?_) | (with_reducible refine bif_t (by assumption) ?_) | (with_reducible refine bif_f (by assumption) ?_) | (with_reducible refine bif_and ?_) | (with_reducible refine bif_tt ?_) | (with_reducible refine bif_ff ?_) | (with_reducible refine bif_cc ?_) | (with_reducible refine bif_not ?_) | (with_reducible refine bif_eqL (by assumption) ?_) | (with_reducible refine bif_neL (by assumption) ?_) | (with_reducible refine bif_pos (by omega) ?_) | (with_reducible refine bif_neg (by omega) ?_) | (with_reducible refine bif_ble (by omega) ?_) | (with_reducible refine bif_beq (by omega) ?_) | (with_reducible refine bif_blt (by omega) ?_) | (with_reducible exact ih0 _ _ (by assumption)) | (with_reducible exact hK _) | (with_reducible refine And.intro trivial ?_) | (with_reducible refine ⟨_,_,by assumption,?_⟩) | (with_reducible refine ⟨_,by assumption,?_⟩)
theorem ntlb_con {s:ByteArray} {c:Int} {Q:Res} (h:trimLB s c Q):Con Tryz.prog 148 [.str s, .int .u8 c] Q:=by
 obtain ⟨k,r,hf,hq⟩:=h
 refine conN (gn:=fnT Tryz.f148) (by kernel_rfl) con0_ok (inl:=[]) (LT:=ntlb_live) (NT:=ntlb_nils) rfl fun n0=>?_
 rw [ntlb_E]
 exact ntlb_w (s:=s) r (fun H=>res_plain hq rfl rfl) k s c hf
theorem conN1_ok : ∀ g xs Q,conN1 g xs Q→Con Tryz.prog g xs Q:=table_ok fun p hp=>by
 simp only [List.mem_cons,List.not_mem_nil,or_false] at hp
 subst hp
 exact c2_ok fun _ _ _ h=>ntlb_con h
theorem ntl_con {s:ByteArray} {Q:Res} (h:trimLeft s zeroS Q):Con Tryz.prog 142 [.str s, .str zeroS] Q:=by
 obtain ⟨k,r,hf,hq⟩:=h
 have z:zeroS.toList=[48]:=list48
 have z1:(bt zeroS 0)=48:=by decide +kernel
 have z2:zeroS.size=1:=rfl
 refine conN (gn:=fnT Tryz.f142) (by kernel_rfl) conN1_ok (inl:=[]) (LT:=ntl_live) (NT:=ntl_nils) rfl fun n0=>?_
 rw [ntl_E,listE]
 unfold strings_TrimLeft.f at hf
 dsimp only at hf
 rcases k with _ | k
 · split at hf <;> cases hf
 · rw [strings_TrimLeft.j0.eq_2,strings_TrimLeft.j0.eq_2] at hf
   split at hf
   · rename_i hs
     simp only [if_true] at hf
     cases hf
     exact bif_eqL hs (res_plain hq rfl rfl)
   · rename_i hs
     refine bif_neL hs ?_
     rw [if_neg (by rw [z]; decide),if_pos (by rw [z2]; rfl),if_pos (by rw [z2]; decide),z1] at hf
     rcases k with _ | k
     · cases hf
     · rw [strings_TrimLeft.j1.eq_2,if_pos (by decide),if_pos (by rw [z2]; decide),z1,Option.bind_eq_some_iff] at hf
       obtain ⟨t,ht,hf⟩:=hf
       cases hf
       exact ⟨_,_,ht,res_plain hq rfl rfl⟩
theorem conN2_ok : ∀ g xs Q,conN2 g xs Q→Con Tryz.prog g xs Q:=table_ok fun p hp=>by
 simp only [List.mem_cons,List.not_mem_nil,or_false] at hp
 subst hp
 exact c2_ok fun a b _ h=>by
  obtain ⟨h0,h⟩:=h
  subst h0
  exact ntl_con h
theorem ntext_w {l:List Int} {n0:Nat} {K:Res} (r:ByteArray) (hK:∀ H,K (.str r) H):∀ k:Nat,
 (∀ (x3:List Int) (x4:Int),nat_N_Text.l0 k l x3 x4=some r→GoodL Tryz.prog n0 132 K (headAt (fnT Tryz.f132) 5) (ntext_s5_0 l x4 x3)) ∧
 (∀ (x3:List Int) (x4 x5:Int) (x6:List Int) (x7:Int),x6.length=9→nat_N_Text.l1 k l x3 x4 x5 x6 x7=some r→GoodL Tryz.prog n0 132 K (headAt (fnT Tryz.f132) 10) (ntext_s10_0 l x4 x5 x7 x3 x6)):=by
 intro k
 induction k using Nat.strongRecOn with
 | _ k ih =>
   refine ⟨?_,?_⟩
   · skip
     intro x3 x4 h
     rcases k with _ | k
     · cases h
     have ih0:=ih k (by omega)
     rw [nat_N_Text.l0.eq_2] at h
     refine roundN (by kernel_rfl) conN2_ok (inl:=[]) (LT:=ntext_live) (NT:=ntext_nils) ?_
     rw [ntext_s5_0_E]
     try simp only [w64i,rd,bytesOf,gp_bytes.f,gp_make0_61.f,gp_make0_63.f,bt_get,Option.bind_some,decide_eq_true_eq,Bool.false_eq_true,beq_iff_eq,if_false,if_true,Int.toNat_zero] at h
     try delta strOfNums at h
     try simp only [u32w,u8w,emod1,emod2,emod3,emod4,emod5,tmodN,tdivN,List.length_singleton,List.drop_zero,Nat.sub_zero,Int.toNat_natCast,List.take_length,listE,list48]
     repeat' first | (split at h) | (rw [Option.bind_eq_some_iff] at h; obtain ⟨t,ht,h⟩:=h; try (with_reducible cases ht))
     all_goals try (with_reducible cases h)
     all_goals repeat' first | (with_reducible refine bif_pos (by assumption) ?_) | (with_reducible refine bif_neg (by assumption) ?_) | (with_reducible refine bif_t (by assumption) ?_) | (with_reducible refine bif_f (by assumption) ?_) | (with_reducible refine bif_and ?_) | (with_reducible refine bif_tt ?_) | (with_reducible refine bif_ff ?_) | (with_reducible refine bif_cc ?_) | (with_reducible refine bif_not ?_) | (with_reducible refine bif_eqL (by assumption) ?_) | (with_reducible refine bif_neL (by assumption) ?_) | (with_reducible refine bif_pos (by omega) ?_) | (with_reducible refine bif_neg (by omega) ?_) | (with_reducible refine bif_ble (by omega) ?_) | (with_reducible refine bif_beq (by omega) ?_) | (with_reducible refine bif_blt (by omega) ?_) | (with_reducible exact ih0.1 _ _ (by assumption)) | (with_reducible exact ih0.2 _ _ _ _ _ (by first | assumption | (rw [List.length_set]; assumption) | rfl | simp) (by assumption)) | (with_reducible exact hK _) | (with_reducible refine And.intro trivial ?_) | (with_reducible refine ⟨_,_,by assumption,?_⟩) | (with_reducible refine ⟨_,by assumption,?_⟩)
   · skip
     intro x3 x4 x5 x6 x7 hy h
     rcases k with _ | k
     · cases h
     have ih0:=ih k (by omega)
     rw [nat_N_Text.l1.eq_2] at h
     refine roundN (by kernel_rfl) conN2_ok (inl:=[]) (LT:=ntext_live) (NT:=ntext_nils) ?_
     rw [ntext_s10_0_E]
     try simp only [w64i,rd,bytesOf,gp_bytes.f,gp_make0_61.f,gp_make0_63.f,bt_get,Option.bind_some,decide_eq_true_eq,Bool.false_eq_true,beq_iff_eq,if_false,if_true,Int.toNat_zero] at h
     try delta strOfNums at h
     try simp only [u32w,u8w,emod1,emod2,emod3,emod4,emod5,tmodN,tdivN,List.length_singleton,List.drop_zero,Nat.sub_zero,Int.toNat_natCast,List.take_length,listE,list48]
     repeat' first | (split at h) | (rw [Option.bind_eq_some_iff] at h; obtain ⟨t,ht,h⟩:=h; try (with_reducible cases ht))
     all_goals try (with_reducible cases h)
     all_goals repeat' first | (with_reducible refine bif_pos (by assumption) ?_) | (with_reducible refine bif_neg (by assumption) ?_) | (with_reducible refine bif_t (by assumption) ?_) | (with_reducible refine bif_f (by assumption) ?_) | (with_reducible refine bif_and ?_) | (with_reducible refine bif_tt ?_) | (with_reducible refine bif_ff ?_) | (with_reducible refine bif_cc ?_) | (with_reducible refine bif_not ?_) | (with_reducible refine bif_eqL (by assumption) ?_) | (with_reducible refine bif_neL (by assumption) ?_) | (with_reducible refine bif_pos (by omega) ?_) | (with_reducible refine bif_neg (by omega) ?_) | (with_reducible refine bif_ble (by omega) ?_) | (with_reducible refine bif_beq (by omega) ?_) | (with_reducible refine bif_blt (by omega) ?_) | (with_reducible exact ih0.1 _ _ (by assumption)) | (with_reducible exact ih0.2 _ _ _ _ _ (by first | assumption | (rw [List.length_set]; assumption) | rfl | simp) (by assumption)) | (with_reducible exact hK _) | (with_reducible refine And.intro trivial ?_) | (with_reducible refine ⟨_,_,by assumption,?_⟩) | (with_reducible refine ⟨_,by assumption,?_⟩)
theorem ntext_con {l:List Int} {Q:Res} (h:textN l Q):Con Tryz.prog 132 [.imm eW l] Q:=by
 obtain ⟨k,r,hf,hq⟩:=h
 have hK:∀ H,resK Q (.str r) H:=fun H=>res_plain hq rfl rfl
 refine conN (gn:=fnT Tryz.f132) (by kernel_rfl) conN2_ok (inl:=[]) (LT:=ntext_live) (NT:=ntext_nils) rfl fun n0=>?_
 rw [ntext_E]
 unfold nat_N_Text.f at hf
 dsimp only at hf
 simp only [w64i,gp_make0_61.f] at hf
 split at hf
 · rename_i h0
   cases hf
   exact bif_pos h0 (hK _)
 · rename_i h0
   refine bif_neg h0 ?_
   split at hf
   · rename_i h1
     refine bif_and (bif_pos h1.1 (bif_cc (bif_ble (by omega) (bif_ble (by omega) ?_))))
     exact (ntext_w r hK k).1 _ _ hf
   · cases hf
theorem ncmp_w {l m:List Int} {n0:Nat} {K:Res} (r:Int) (hK:∀ H,K (.int .i64 r) H):∀ k:Nat,
 (∀ (x5:Int),nat_N_Cmp.l0 k l m x5=some r→GoodL Tryz.prog n0 103 K (headAt (fnT Tryz.f103) 6) (ncmp_s6_0 l m x5)):=by
 intro k
 induction k using Nat.strongRecOn with
 | _ k ih =>
   intro x5 h
   rcases k with _ | k
   · cases h
   have ih0:=ih k (by omega)
   rw [nat_N_Cmp.l0.eq_2] at h
   refine roundN (by kernel_rfl) con0_ok (inl:=[]) (LT:=ncmp_live) (NT:=ncmp_nils) ?_
   rw [ncmp_s6_0_E]
   try simp only [w64i,rd,bytesOf,gp_bytes.f,gp_make0_61.f,gp_make0_63.f,bt_get,Option.bind_some,decide_eq_true_eq,Bool.false_eq_true,beq_iff_eq,if_false,if_true,Int.toNat_zero] at h
   try delta strOfNums at h
   try simp only [u32w,u8w,emod1,emod2,emod3,emod4,emod5,tmodN,tdivN,List.length_singleton,List.drop_zero,Nat.sub_zero,Int.toNat_natCast,List.take_length,listE,list48]
   repeat' first | (split at h) | (rw [Option.bind_eq_some_iff] at h; obtain ⟨t,ht,h⟩:=h; try (with_reducible cases ht))
   all_goals try (with_reducible cases h)
   all_goals repeat' first | (with_reducible refine bif_pos (by assumption) ?_) | (with_reducible refine bif_neg (by assumption) ?_) | (with_reducible refine bif_t (by assumption) ?_) | (with_reducible refine bif_f (by assumption) ?_) | (with_reducible refine bif_and ?_) | (with_reducible refine bif_tt ?_) | (with_reducible refine bif_ff ?_) | (with_reducible refine bif_cc ?_) | (with_reducible refine bif_not ?_) | (with_reducible refine bif_eqL (by assumption) ?_) | (with_reducible refine bif_neL (by assumption) ?_) | (with_reducible refine bif_pos (by omega) ?_) | (with_reducible refine bif_neg (by omega) ?_) | (with_reducible refine bif_ble (by omega) ?_) | (with_reducible refine bif_beq (by omega) ?_) | (with_reducible refine bif_blt (by omega) ?_) | (with_reducible exact ih0 _ (by assumption)) | (with_reducible exact hK _) | (with_reducible refine And.intro trivial ?_) | (with_reducible refine ⟨_,_,by assumption,?_⟩) | (with_reducible refine ⟨_,by assumption,?_⟩)
theorem ncmp_con {l m:List Int} {Q:Res} (h:cmpN l m Q):Con Tryz.prog 103 [.imm eW l, .imm eW m] Q:=by
 obtain ⟨k,r,hf,hq⟩:=h
 have hK:∀ H,resK Q (.int .i64 r) H:=fun H=>res_plain hq rfl rfl
 refine conN (gn:=fnT Tryz.f103) (by kernel_rfl) con0_ok (inl:=[]) (LT:=ncmp_live) (NT:=ncmp_nils) rfl fun n0=>?_
 rw [ncmp_E]
 unfold nat_N_Cmp.f at hf
 dsimp only at hf
 simp only [w64i] at hf
 refine bif_not ?_
 split at hf
 · rename_i h0
   exact bif_pos h0 (ncmp_w r hK k _ hf)
 · rename_i h0
   refine bif_neg h0 ?_
   split at hf
   · rename_i h1; cases hf; exact bif_pos h1 (hK _)
   · rename_i h1; cases hf; exact bif_neg h1 (hK _)
theorem nadd_w {l m:List Int} {n0:Nat} {K:Res} (r:List Int) (hK:∀ id H,objAt H id = .typed eW r false→K (.own id) H):∀ k:Nat,
 (∀ (x5:List Int) (x6 x21 x22:Int),nat_N_Add.l0 k m x5 x6 l x21 x22=some r→GoodL Tryz.prog n0 102 K (headAt (fnT Tryz.f102) 6) (nadd_s6_1 l m x6 x21 x22 x5)):=by
 intro k
 induction k using Nat.strongRecOn with
 | _ k ih =>
   intro x5 x6 x21 x22 h
   rcases k with _ | k
   · cases h
   have ih0:=ih k (by omega)
   rw [nat_N_Add.l0.eq_2] at h
   refine roundN (by kernel_rfl) con0_ok (inl:=[]) (LT:=nadd_live) (NT:=nadd_nils) ?_
   rw [nadd_s6_1_E]
   try simp only [w64i,rd,bytesOf,gp_bytes.f,gp_make0_61.f,gp_make0_63.f,bt_get,Option.bind_some,decide_eq_true_eq,Bool.false_eq_true,beq_iff_eq,if_false,if_true,Int.toNat_zero] at h
   try delta strOfNums at h
   try simp only [u32w,u8w,emod1,emod2,emod3,emod4,emod5,tmodN,tdivN,List.length_singleton,List.drop_zero,Nat.sub_zero,Int.toNat_natCast,List.take_length,listE,list48]
   repeat' first | (split at h) | (rw [Option.bind_eq_some_iff] at h; obtain ⟨t,ht,h⟩:=h; try (with_reducible cases ht))
   all_goals try (with_reducible cases h)
   all_goals repeat' first | (with_reducible refine bif_pos (by assumption) ?_) | (with_reducible refine bif_neg (by assumption) ?_) | (with_reducible refine bif_t (by assumption) ?_) | (with_reducible refine bif_f (by assumption) ?_) | (with_reducible refine bif_and ?_) | (with_reducible refine bif_tt ?_) | (with_reducible refine bif_ff ?_) | (with_reducible refine bif_cc ?_) | (with_reducible refine bif_not ?_) | (with_reducible refine bif_eqL (by assumption) ?_) | (with_reducible refine bif_neL (by assumption) ?_) | (with_reducible refine bif_pos (by omega) ?_) | (with_reducible refine bif_neg (by omega) ?_) | (with_reducible refine bif_ble (by omega) ?_) | (with_reducible refine bif_beq (by omega) ?_) | (with_reducible refine bif_blt (by omega) ?_) | (with_reducible exact ih0 _ _ _ _ (by assumption)) | ((with_reducible refine hK _ _ ?_) <;> rfl) | (with_reducible refine And.intro trivial ?_) | (with_reducible refine ⟨_,_,by assumption,?_⟩) | (with_reducible refine ⟨_,by assumption,?_⟩)
theorem nadd_con {l m:List Int} {Q:Res} (h:addN l m Q):Con Tryz.prog 102 [.imm eW l, .imm eW m] Q:=by
 obtain ⟨k,r,hf,hq⟩:=h
 refine con_imm (e:=eW) (l:=r) ?_ hq
 refine conN (gn:=fnT Tryz.f102) (by kernel_rfl) con0_ok (inl:=[]) (LT:=nadd_live) (NT:=nadd_nils) rfl fun n0=>?_
 rw [nadd_E]
 have hK:∀ id H,objAt H id = .typed eW r false→resK (fun v o=>v = .own 0∧∃ fz,o=[.typed eW r fz]) (.own id) H:=fun id H ho=>res_own ho ⟨rfl,false,rfl⟩
 unfold nat_N_Add.f at hf
 dsimp only at hf
 rcases k with _ | k
 · split at hf <;> cases hf
 · rw [nat_N_Add.j0.eq_2,nat_N_Add.j0.eq_2] at hf
   simp only [w64i,gp_make0_63.f] at hf
   split at hf
   · rename_i h0
     refine bif_pos h0 ?_
     split at hf
     · rename_i h1
       refine bif_and (bif_pos h1.1 (bif_cc (bif_ble (by omega) (bif_ble (by omega) ?_))))
       exact nadd_w (l:=m) (m:=l) r hK k _ _ _ _ hf
     · cases hf
   · rename_i h0
     refine bif_neg h0 ?_
     split at hf
     · rename_i h1
       refine bif_and (bif_pos h1.1 (bif_cc (bif_ble (by omega) (bif_ble (by omega) ?_))))
       exact nadd_w r hK k _ _ _ _ hf
     · cases hf
theorem nsub_w {l m:List Int} {n0:Nat} {K:Res} (r:List Int) (hK:∀ id H,objAt H id = .typed eW r false→K (.own id) H):∀ k:Nat,
 (∀ (x5:List Int) (x6 x13 x14:Int),nat_N_Sub.l0 k l m x5 x6 x13 x14=some r→GoodL Tryz.prog n0 104 K (headAt (fnT Tryz.f104) 4) (nsub_s4_0 l m x6 x13 x14 x5)):=by
 intro k
 induction k using Nat.strongRecOn with
 | _ k ih =>
   intro x5 x6 x13 x14 h
   rcases k with _ | k
   · cases h
   have ih0:=ih k (by omega)
   rw [nat_N_Sub.l0.eq_2] at h
   refine roundHN (by kernel_rfl) con0_ok hTrim_ok (inl:=[]) (LT:=nsub_live) (NT:=nsub_nils) ?_
   rw [nsub_s4_0_E]
   try simp only [w64i,rd,bytesOf,gp_bytes.f,gp_make0_61.f,gp_make0_63.f,bt_get,Option.bind_some,decide_eq_true_eq,Bool.false_eq_true,beq_iff_eq,if_false,if_true,Int.toNat_zero] at h
   try delta strOfNums at h
   try simp only [u32w,u8w,emod1,emod2,emod3,emod4,emod5,tmodN,tdivN,List.length_singleton,List.drop_zero,Nat.sub_zero,Int.toNat_natCast,List.take_length,listE,list48]
   repeat' first | (split at h) | (rw [Option.bind_eq_some_iff] at h; obtain ⟨t,ht,h⟩:=h; try (with_reducible cases ht))
   all_goals try (with_reducible cases h)
   all_goals repeat' first | (with_reducible refine bif_pos (by assumption) ?_) | (with_reducible refine bif_neg (by assumption) ?_) | (with_reducible refine bif_t (by assumption) ?_) | (with_reducible refine bif_f (by assumption) ?_) | (with_reducible refine bif_and ?_) | (with_reducible refine bif_tt ?_) | (with_reducible refine bif_ff ?_) | (with_reducible refine bif_cc ?_) | (with_reducible refine bif_not ?_) | (with_reducible refine bif_eqL (by assumption) ?_) | (with_reducible refine bif_neL (by assumption) ?_) | (with_reducible refine bif_pos (by omega) ?_) | (with_reducible refine bif_neg (by omega) ?_) | (with_reducible refine bif_ble (by omega) ?_) | (with_reducible refine bif_beq (by omega) ?_) | (with_reducible refine bif_blt (by omega) ?_) | (with_reducible exact ih0 _ _ _ _ (by assumption)) | ((with_reducible refine hK _ _ ?_) <;> rfl) | (with_reducible refine And.intro trivial ?_) | (with_reducible refine ⟨_,_,by assumption,?_⟩) | (with_reducible refine ⟨_,by assumption,?_⟩)
theorem nsub_con {l m:List Int} {Q:Res} (h:subN l m Q):Con Tryz.prog 104 [.imm eW l, .imm eW m] Q:=by
 obtain ⟨k,r,hf,hq⟩:=h
 refine con_imm (e:=eW) (l:=r) ?_ hq
 refine conHN (gn:=fnT Tryz.f104) (by kernel_rfl) con0_ok hTrim_ok (inl:=[]) (LT:=nsub_live) (NT:=nsub_nils) rfl fun n0=>?_
 rw [nsub_E]
 unfold nat_N_Sub.f at hf
 dsimp only at hf
 split at hf
 · split at hf
   · rename_i h0 h1
     refine bif_and (bif_and (bif_pos h0 (bif_pos (Int.le_refl _) (bif_cc (bif_ble (by omega) (bif_ble (by omega) ?_))))))
     exact nsub_w r (fun id H ho=>res_own ho ⟨rfl,false,rfl⟩) k _ _ _ _ hf
   · cases hf
 · cases hf
theorem nmul_w {l m:List Int} {n0:Nat} {K:Res} (r:List Int) (hK:∀ id H,objAt H id = .typed eW r false→K (.own id) H):∀ k:Nat,
 (∀ (x5:List Int) (x19 x20:Int),nat_N_Mul.l0 k m x5 l x19 x20=some r→GoodL Tryz.prog n0 99 K (headAt (fnT Tryz.f99) 3) (nmul_s3_0 l m x19 x20 x5)) ∧
 (∀ (x5:List Int) (x6 x7 x8 x19 x20 x26 x27:Int),nat_N_Mul.l1 k m x5 x6 x7 x8 l x19 x20 m x26 x27=some r→GoodL Tryz.prog n0 99 K (headAt (fnT Tryz.f99) 7) (nmul_s7_0 l m x6 x7 x8 x19 x20 x26 x27 x5)):=by
 intro k
 induction k using Nat.strongRecOn with
 | _ k ih =>
   refine ⟨?_,?_⟩
   · skip
     intro x5 x19 x20 h
     rcases k with _ | k
     · cases h
     have ih0:=ih k (by omega)
     rw [nat_N_Mul.l0.eq_2] at h
     refine roundHN (by kernel_rfl) con0_ok hTrim_ok (inl:=[]) (LT:=nmul_live) (NT:=nmul_nils) ?_
     rw [nmul_s3_0_E]
     try simp only [w64i,rd,bytesOf,gp_bytes.f,gp_make0_61.f,gp_make0_63.f,bt_get,Option.bind_some,decide_eq_true_eq,Bool.false_eq_true,beq_iff_eq,if_false,if_true,Int.toNat_zero] at h
     try delta strOfNums at h
     try simp only [u32w,u8w,emod1,emod2,emod3,emod4,emod5,tmodN,tdivN,List.length_singleton,List.drop_zero,Nat.sub_zero,Int.toNat_natCast,List.take_length,listE,list48]
     repeat' first | (split at h) | (rw [Option.bind_eq_some_iff] at h; obtain ⟨t,ht,h⟩:=h; try (with_reducible cases ht))
     all_goals try (with_reducible cases h)
     all_goals repeat' first | (with_reducible refine bif_pos (by assumption) ?_) | (with_reducible refine bif_neg (by assumption) ?_) | (with_reducible refine bif_t (by assumption) ?_) | (with_reducible refine bif_f (by assumption) ?_) | (with_reducible refine bif_and ?_) | (with_reducible refine bif_tt ?_) | (with_reducible refine bif_ff ?_) | (with_reducible refine bif_cc ?_) | (with_reducible refine bif_not ?_) | (with_reducible refine bif_eqL (by assumption) ?_) | (with_reducible refine bif_neL (by assumption) ?_) | (with_reducible refine bif_pos (by omega) ?_) | (with_reducible refine bif_neg (by omega) ?_) | (with_reducible refine bif_ble (by omega) ?_) | (with_reducible refine bif_beq (by omega) ?_) | (with_reducible refine bif_blt (by omega) ?_) | (with_reducible exact ih0.1 _ _ _ (by assumption)) | (with_reducible exact ih0.2 _ _ _ _ _ _ _ _ (by assumption)) | ((with_reducible refine hK _ _ ?_) <;> rfl) | (with_reducible refine And.intro trivial ?_) | (with_reducible refine ⟨_,_,by assumption,?_⟩) | (with_reducible refine ⟨_,by assumption,?_⟩)
   · skip
     intro x5 x6 x7 x8 x19 x20 x26 x27 h
     rcases k with _ | k
     · cases h
     have ih0:=ih k (by omega)
     rw [nat_N_Mul.l1.eq_2] at h
     refine roundHN (by kernel_rfl) con0_ok hTrim_ok (inl:=[]) (LT:=nmul_live) (NT:=nmul_nils) ?_
     rw [nmul_s7_0_E]
     try simp only [w64i,rd,bytesOf,gp_bytes.f,gp_make0_61.f,gp_make0_63.f,bt_get,Option.bind_some,decide_eq_true_eq,Bool.false_eq_true,beq_iff_eq,if_false,if_true,Int.toNat_zero] at h
     try delta strOfNums at h
     try simp only [u32w,u8w,emod1,emod2,emod3,emod4,emod5,tmodN,tdivN,List.length_singleton,List.drop_zero,Nat.sub_zero,Int.toNat_natCast,List.take_length,listE,list48]
     repeat' first | (split at h) | (rw [Option.bind_eq_some_iff] at h; obtain ⟨t,ht,h⟩:=h; try (with_reducible cases ht))
     all_goals try (with_reducible cases h)
     all_goals repeat' first | (with_reducible refine bif_pos (by assumption) ?_) | (with_reducible refine bif_neg (by assumption) ?_) | (with_reducible refine bif_t (by assumption) ?_) | (with_reducible refine bif_f (by assumption) ?_) | (with_reducible refine bif_and ?_) | (with_reducible refine bif_tt ?_) | (with_reducible refine bif_ff ?_) | (with_reducible refine bif_cc ?_) | (with_reducible refine bif_not ?_) | (with_reducible refine bif_eqL (by assumption) ?_) | (with_reducible refine bif_neL (by assumption) ?_) | (with_reducible refine bif_pos (by omega) ?_) | (with_reducible refine bif_neg (by omega) ?_) | (with_reducible refine bif_ble (by omega) ?_) | (with_reducible refine bif_beq (by omega) ?_) | (with_reducible refine bif_blt (by omega) ?_) | (with_reducible exact ih0.1 _ _ _ (by assumption)) | (with_reducible exact ih0.2 _ _ _ _ _ _ _ _ (by assumption)) | ((with_reducible refine hK _ _ ?_) <;> rfl) | (with_reducible refine And.intro trivial ?_) | (with_reducible refine ⟨_,_,by assumption,?_⟩) | (with_reducible refine ⟨_,by assumption,?_⟩)
theorem nmul_own {l m r:List Int} {k:Nat} {Q:Res} (hf:nat_N_Mul.f k l m=some r) (hq:Q (.own 0) [.typed eW r false]):Con Tryz.prog 99 [.imm eW l, .imm eW m] Q:=by
 refine conHN (gn:=fnT Tryz.f99) (by kernel_rfl) con0_ok hTrim_ok (inl:=[]) (LT:=nmul_live) (NT:=nmul_nils) rfl fun n0=>?_
 rw [nmul_E]
 unfold nat_N_Mul.f at hf
 simp only [w64i] at hf
 split at hf
 · split at hf
   · rename_i h0 h1
     refine bif_and (bif_and (bif_pos h0 (bif_pos (Int.le_refl _) (bif_cc (bif_ble (by omega) (bif_ble (by omega) ?_))))))
     exact (nmul_w r (fun id H ho=>res_own ho hq) k).1 _ _ _ hf
   · cases hf
 · cases hf
theorem nmul_con {l m:List Int} {Q:Res} (h:mulN l m Q):Con Tryz.prog 99 [.imm eW l, .imm eW m] Q:=by
 obtain ⟨k,r,hf,hq⟩:=h
 exact con_imm (e:=eW) (l:=r) (nmul_own hf ⟨rfl,false,rfl⟩) hq
theorem nmulo_con {l m:List Int} {Q:Res} (h:mulO l m Q):Con Tryz.prog 99 [.imm eW l, .imm eW m] Q:=by
 obtain ⟨k,r,hf,hq⟩:=h
 exact nmul_own hf hq
theorem nshort_w {l:List Int} {d:Int} {n0:Nat} {K:Res} (r:List Int × List Int) (hK:∀ id1 id2 H,id1≠id2→objAt H id1 = .typed eW r.1 false→objAt H id2 = .typed eW r.2 false→K (.tup [.own id1, .own id2]) H):∀ k:Nat,
 (∀ (x6:List Int) (x7 x8:Int),nat_N_short.l0 k l d x6 x7 x8=some r→GoodL Tryz.prog n0 137 K (headAt (fnT Tryz.f137) 4) (nshort_s4_0 l d x7 x8 x6)):=by
 intro k
 induction k using Nat.strongRecOn with
 | _ k ih =>
   intro x6 x7 x8 h
   rcases k with _ | k
   · cases h
   have ih0:=ih k (by omega)
   rw [nat_N_short.l0.eq_2] at h
   refine roundHN (by kernel_rfl) con0_ok hTrim_ok (inl:=[]) (LT:=nshort_live) (NT:=nshort_nils) ?_
   rw [nshort_s4_0_E]
   try simp only [w64i,rd,bytesOf,gp_bytes.f,gp_make0_61.f,gp_make0_63.f,bt_get,Option.bind_some,decide_eq_true_eq,Bool.false_eq_true,beq_iff_eq,if_false,if_true,Int.toNat_zero] at h
   try delta strOfNums at h
   try simp only [u32w,u8w,emod1,emod2,emod3,emod4,emod5,tmodN,tdivN,List.length_singleton,List.drop_zero,Nat.sub_zero,Int.toNat_natCast,List.take_length,listE,list48]
   repeat' first | (split at h) | (rw [Option.bind_eq_some_iff] at h; obtain ⟨t,ht,h⟩:=h; try (with_reducible cases ht))
   all_goals try (with_reducible cases h)
   all_goals repeat' first | (with_reducible refine bif_pos (by assumption) ?_) | (with_reducible refine bif_neg (by assumption) ?_) | (with_reducible refine bif_t (by assumption) ?_) | (with_reducible refine bif_f (by assumption) ?_) | (with_reducible refine bif_and ?_) | (with_reducible refine bif_tt ?_) | (with_reducible refine bif_ff ?_) | (with_reducible refine bif_cc ?_) | (with_reducible refine bif_not ?_) | (with_reducible refine bif_eqL (by assumption) ?_) | (with_reducible refine bif_neL (by assumption) ?_) | (with_reducible refine bif_pos (by omega) ?_) | (with_reducible refine bif_neg (by omega) ?_) | (with_reducible refine bif_ble (by omega) ?_) | (with_reducible refine bif_beq (by omega) ?_) | (with_reducible refine bif_blt (by omega) ?_) | (with_reducible exact ih0 _ _ _ (by assumption)) | ((with_reducible refine hK _ _ _ (by decide) ?_ ?_) <;> rfl) | (with_reducible refine And.intro trivial ?_) | (with_reducible refine ⟨_,_,by assumption,?_⟩) | (with_reducible refine ⟨_,by assumption,?_⟩)
theorem nshort_con {l:List Int} {d:Int} {Q:Res} (h:shortN l d Q):Con Tryz.prog 137 [.imm eW l, .int .u32 d] Q:=by
 obtain ⟨k,r,hf,hq⟩:=h
 refine Con.sealTo (Q:=fun v o=>v = .tup [.own 0, .own 1]∧o=[.typed eW r.1 false, .typed eW r.2 false]) ?_ fun v o hv=>?_
 · refine conHN (gn:=fnT Tryz.f137) (by kernel_rfl) con0_ok hTrim_ok (inl:=[]) (LT:=nshort_live) (NT:=nshort_nils) rfl fun n0=>?_
   rw [nshort_E]
   unfold nat_N_short.f at hf
   dsimp only at hf
   simp only [w64i] at hf
   split at hf
   · split at hf
     · rename_i h0 h1
       refine bif_and (bif_and (bif_pos h0 (bif_pos (Int.le_refl _) (bif_cc (bif_ble (by omega) (bif_ble (by omega) ?_))))))
       exact nshort_w r (fun id1 id2 H hne h1 h2=>⟨.tup [.own 0, .own 1],[.typed eW r.1 false, .typed eW r.2 false],⟨rfl,rfl⟩,rfl,rfl,[id1,id2],rfl,by simp [hne],fun k i h=>by
        match k,h with
        | 0,h=>cases h; exact congrArg some h1.symm
        | 1,h=>cases h; exact congrArg some h2.symm,rfl⟩) k _ _ _ hf
     · cases hf
   · cases hf
 · obtain ⟨rfl,rfl⟩:=hv
   exact ⟨_,⟨_,rfl, .cons ⟨_,_,_,rfl,rfl⟩ (.cons ⟨_,_,_,rfl,rfl⟩ .nil)⟩,hq⟩
theorem nminus_w {u v:List Int} {kk q:Int} {n0:Nat} {hv:Nat→Value × Nat} {K:Res} (r:Bool × List Int) (hK:K (.bool r.1) [.typed eW r.2 false]):∀ k:Nat,
 (∀ (x0:List Int) (x9 x10 x11:Int),nat_N_minus.l0 k x0 v kk q x9 x10 x11=some r→GoodH Tryz.prog n0 138 1 hv K (headAt (fnT Tryz.f138) 4) (nminus_s4_0 u v kk q x9 x10 x11 x0)):=by
 intro k
 induction k using Nat.strongRecOn with
 | _ k ih =>
   intro x0 x9 x10 x11 h
   rcases k with _ | k
   · cases h
   have ih0:=ih k (by omega)
   rw [nat_N_minus.l0.eq_2] at h
   refine roundW (by kernel_rfl) con0_ok (inl:=[]) (LT:=nminus_live) (NT:=nminus_nils) ?_
   rw [nminus_s4_0_E]
   try simp only [w64i,rd,bytesOf,gp_bytes.f,gp_make0_61.f,gp_make0_63.f,bt_get,Option.bind_some,decide_eq_true_eq,Bool.false_eq_true,beq_iff_eq,if_false,if_true,Int.toNat_zero] at h
   try delta strOfNums at h
   try simp only [u32w,u8w,emod1,emod2,emod3,emod4,emod5,tmodN,tdivN,List.length_singleton,List.drop_zero,Nat.sub_zero,Int.toNat_natCast,List.take_length,listE,list48]
   repeat' first | (split at h) | (rw [Option.bind_eq_some_iff] at h; obtain ⟨t,ht,h⟩:=h; try (with_reducible cases ht))
   all_goals try (with_reducible cases h)
   all_goals repeat' first | (with_reducible refine bif_pos (by assumption) ?_) | (with_reducible refine bif_neg (by assumption) ?_) | (with_reducible refine bif_t (by assumption) ?_) | (with_reducible refine bif_f (by assumption) ?_) | (with_reducible refine bif_and ?_) | (with_reducible refine bif_tt ?_) | (with_reducible refine bif_ff ?_) | (with_reducible refine bif_cc ?_) | (with_reducible refine bif_not ?_) | (with_reducible refine bif_eqL (by assumption) ?_) | (with_reducible refine bif_neL (by assumption) ?_) | (with_reducible refine bif_pos (by omega) ?_) | (with_reducible refine bif_neg (by omega) ?_) | (with_reducible refine bif_ble (by omega) ?_) | (with_reducible refine bif_beq (by omega) ?_) | (with_reducible refine bif_blt (by omega) ?_) | (with_reducible exact ih0 _ _ _ _ (by assumption)) | (with_reducible exact hK) | (with_reducible refine And.intro trivial ?_) | (with_reducible refine ⟨_,_,by assumption,?_⟩) | (with_reducible refine ⟨_,by assumption,?_⟩)
theorem minus_conH {xs:List AV} {os:List HObj} {Q:Res} (h:minusH xs os Q):ConH Tryz.prog 138 xs os Q:=by
 unfold minusH at h
 split at h
 · split at h
   · split at h
     · rename_i u hu
       split at h
       · rename_i v hv
         split at h
         · rename_i kk hkk
           split at h
           · rename_i q hq0
             obtain ⟨hx,k,r,hf,hq⟩:=bif_and' h
             rw [ownAt_eq hx,rowW_eq hu]
             refine conH_args (ys:=[.own 0, .imm eW v, .int .i64 kk, .int .u64 q]) ?_ rfl fun j y hy=>?_
             · refine conW (gn:=fnT Tryz.f138) (by kernel_rfl) con0_ok (inl:=[]) (LT:=nminus_live) (NT:=nminus_nils) rfl fun n0 hv=>?_
               show execN _ _ (maskH 1 _ _ (GoodH _ _ _ 1 _ _)) _ _ _ _
               rw [nminus_E]
               exact nminus_w (u:=u) r (resH_stay rfl hq rfl rfl rfl) k _ _ _ _ hf
             · match j,hy with
               | 0,hy=>cases hy; exact ⟨_,rfl,fun h=>h⟩
               | 1,hy=>cases hy; exact ⟨_,rfl,fun h=>vW.ok hv h⟩
               | 2,hy=>cases hy; exact ⟨_,rfl,fun h=>vI.ok hkk h⟩
               | 3,hy=>cases hy; exact ⟨_,rfl,fun h=>vU64.ok hq0 h⟩
           · exact h.elim
         · exact h.elim
       · exact h.elim
     · exact h.elim
   · exact h.elim
 · exact h.elim
theorem nplus_w {u v:List Int} {kk:Int} {n0:Nat} {hv:Nat→Value × Nat} {K:Res} (r:List Int) (hK:K (.tup []) [.typed eW r false]):∀ k:Nat,
 (∀ (x0:List Int) (x6 x7:Int),nat_N_plus.l0 k x0 v kk x6 x7=some r→GoodH Tryz.prog n0 139 1 hv K (headAt (fnT Tryz.f139) 2) (nplus_s2_0 u v kk x6 x7 x0)):=by
 intro k
 induction k using Nat.strongRecOn with
 | _ k ih =>
   intro x0 x6 x7 h
   rcases k with _ | k
   · cases h
   have ih0:=ih k (by omega)
   rw [nat_N_plus.l0.eq_2] at h
   refine roundW (by kernel_rfl) con0_ok (inl:=[]) (LT:=nplus_live) (NT:=nplus_nils) ?_
   rw [nplus_s2_0_E]
   try simp only [w64i,rd,bytesOf,gp_bytes.f,gp_make0_61.f,gp_make0_63.f,bt_get,Option.bind_some,decide_eq_true_eq,Bool.false_eq_true,beq_iff_eq,if_false,if_true,Int.toNat_zero] at h
   try delta strOfNums at h
   try simp only [u32w,u8w,emod1,emod2,emod3,emod4,emod5,tmodN,tdivN,List.length_singleton,List.drop_zero,Nat.sub_zero,Int.toNat_natCast,List.take_length,listE,list48]
   repeat' first | (split at h) | (rw [Option.bind_eq_some_iff] at h; obtain ⟨t,ht,h⟩:=h; try (with_reducible cases ht))
   all_goals try (with_reducible cases h)
   all_goals repeat' first | (with_reducible refine bif_pos (by assumption) ?_) | (with_reducible refine bif_neg (by assumption) ?_) | (with_reducible refine bif_t (by assumption) ?_) | (with_reducible refine bif_f (by assumption) ?_) | (with_reducible refine bif_and ?_) | (with_reducible refine bif_tt ?_) | (with_reducible refine bif_ff ?_) | (with_reducible refine bif_cc ?_) | (with_reducible refine bif_not ?_) | (with_reducible refine bif_eqL (by assumption) ?_) | (with_reducible refine bif_neL (by assumption) ?_) | (with_reducible refine bif_pos (by omega) ?_) | (with_reducible refine bif_neg (by omega) ?_) | (with_reducible refine bif_ble (by omega) ?_) | (with_reducible refine bif_beq (by omega) ?_) | (with_reducible refine bif_blt (by omega) ?_) | (with_reducible exact ih0 _ _ _ (by assumption)) | (with_reducible exact hK) | (with_reducible refine And.intro trivial ?_) | (with_reducible refine ⟨_,_,by assumption,?_⟩) | (with_reducible refine ⟨_,by assumption,?_⟩)
theorem plus_conH {xs:List AV} {os:List HObj} {Q:Res} (h:plusH xs os Q):ConH Tryz.prog 139 xs os Q:=by
 unfold plusH at h
 split at h
 · split at h
   · split at h
     · rename_i u hu
       split at h
       · rename_i v hv
         split at h
         · rename_i kk hkk
           obtain ⟨hx,k,r,hf,hq⟩:=bif_and' h
           rw [ownAt_eq hx,rowW_eq hu]
           refine conH_args (ys:=[.own 0, .imm eW v, .int .i64 kk]) ?_ rfl fun j y hy=>?_
           · refine conW (gn:=fnT Tryz.f139) (by kernel_rfl) con0_ok (inl:=[]) (LT:=nplus_live) (NT:=nplus_nils) rfl fun n0 hv=>?_
             show execN _ _ (maskH 1 _ _ (GoodH _ _ _ 1 _ _)) _ _ _ _
             rw [nplus_E]
             exact nplus_w (u:=u) r (resH_stay rfl hq rfl rfl rfl) k _ _ _ hf
           · match j,hy with
             | 0,hy=>cases hy; exact ⟨_,rfl,fun h=>h⟩
             | 1,hy=>cases hy; exact ⟨_,rfl,fun h=>vW.ok hv h⟩
             | 2,hy=>cases hy; exact ⟨_,rfl,fun h=>vI.ok hkk h⟩
         · exact h.elim
       · exact h.elim
     · exact h.elim
   · exact h.elim
 · exact h.elim
theorem hDiv_ok : ∀ g p,find hDiv g=some p→∀ xs os Q,p.2 xs os Q→ConH Tryz.prog g xs os Q:=hands_ok fun p hp=>by
 simp only [hDiv,List.mem_cons,List.not_mem_nil,or_false] at hp
 rcases hp with rfl | rfl | rfl
 · exact fun xs os Q h=>trim_conH h
 · exact fun xs os Q h=>minus_conH h
 · exact fun xs os Q h=>plus_conH h
theorem conDiv_ok : ∀ g xs Q,conDiv g xs Q→Con Tryz.prog g xs Q:=table_ok fun p hp=>by
 simp only [List.mem_cons,List.not_mem_nil,or_false] at hp
 rcases hp with rfl | rfl | rfl
 · exact c2_ok fun _ _ _ h=>ncmp_con h
 · exact c2_ok fun _ _ _ h=>nshort_con h
 · exact c2_ok fun _ _ _ h=>nmulo_con h
theorem nof_w {n:Int} {n0:Nat} {K:Res} (r:List Int) (hK:∀ id H,objAt H id = .typed eW r false→K (.own id) H):∀ k:Nat,
 (∀ (x0:Int) (x3:List Int),nat_Of.l0 k x0 x3=some r→GoodL Tryz.prog n0 108 K (headAt (fnT Tryz.f108) 2) (nof_s2_1 n x0 x3)):=by
 intro k
 induction k using Nat.strongRecOn with
 | _ k ih =>
   intro x0 x3 h
   rcases k with _ | k
   · cases h
   have ih0:=ih k (by omega)
   rw [nat_Of.l0.eq_2] at h
   refine roundN (by kernel_rfl) con0_ok (inl:=[]) (LT:=nof_live) (NT:=nof_nils) ?_
   rw [nof_s2_1_E]
   try simp only [w64i,rd,bytesOf,gp_bytes.f,gp_make0_61.f,gp_make0_63.f,bt_get,Option.bind_some,decide_eq_true_eq,Bool.false_eq_true,beq_iff_eq,if_false,if_true,Int.toNat_zero] at h
   try delta strOfNums at h
   try simp only [u32w,u8w,emod1,emod2,emod3,emod4,emod5,tmodN,tdivN,List.length_singleton,List.drop_zero,Nat.sub_zero,Int.toNat_natCast,List.take_length,listE,list48]
   repeat' first | (split at h) | (rw [Option.bind_eq_some_iff] at h; obtain ⟨t,ht,h⟩:=h; try (with_reducible cases ht))
   all_goals try (with_reducible cases h)
   all_goals repeat' first | (with_reducible refine bif_pos (by assumption) ?_) | (with_reducible refine bif_neg (by assumption) ?_) | (with_reducible refine bif_t (by assumption) ?_) | (with_reducible refine bif_f (by assumption) ?_) | (with_reducible refine bif_and ?_) | (with_reducible refine bif_tt ?_) | (with_reducible refine bif_ff ?_) | (with_reducible refine bif_cc ?_) | (with_reducible refine bif_not ?_) | (with_reducible refine bif_eqL (by assumption) ?_) | (with_reducible refine bif_neL (by assumption) ?_) | (with_reducible refine bif_pos (by omega) ?_) | (with_reducible refine bif_neg (by omega) ?_) | (with_reducible refine bif_ble (by omega) ?_) | (with_reducible refine bif_beq (by omega) ?_) | (with_reducible refine bif_blt (by omega) ?_) | (with_reducible exact ih0 _ _ (by assumption)) | ((with_reducible refine hK _ _ ?_) <;> rfl) | (with_reducible refine And.intro trivial ?_) | (with_reducible refine ⟨_,_,by assumption,?_⟩) | (with_reducible refine ⟨_,by assumption,?_⟩)
theorem nof_con {n:Int} {Q:Res} (h:ofN n Q):Con Tryz.prog 108 [.int .i64 n] Q:=by
 obtain ⟨k,r,hf,hq⟩:=h
 refine con_imm (e:=eW) (l:=r) ?_ hq
 refine conN (gn:=fnT Tryz.f108) (by kernel_rfl) con0_ok (inl:=[]) (LT:=nof_live) (NT:=nof_nils) rfl fun n0=>?_
 rw [nof_E]
 exact nof_w (n:=n) r (fun id H ho=>res_own ho ⟨rfl,false,rfl⟩) k _ _ hf
theorem ncheck_w {s:ByteArray} {n0:Nat} {K:Res} (r:Int) (hK:∀ H,K (.int .i64 r) H):∀ k:Nat,
 (∀ (x18:List Int) (x19 x20:Int),nat_Check.l0 k s x18 x19 x20=some r→GoodL Tryz.prog n0 143 K (headAt (fnT Tryz.f143) 4) (ncheck_s4_0 s x18 x19 x20)):=by
 intro k
 induction k using Nat.strongRecOn with
 | _ k ih =>
   intro x18 x19 x20 h
   rcases k with _ | k
   · cases h
   have ih0:=ih k (by omega)
   rw [nat_Check.l0.eq_2] at h
   refine roundN (by kernel_rfl) con0_ok (inl:=[]) (LT:=ncheck_live) (NT:=ncheck_nils) ?_
   rw [ncheck_s4_0_E]
   try simp only [w64i,rd,bytesOf,gp_bytes.f,gp_make0_61.f,gp_make0_63.f,bt_get,Option.bind_some,decide_eq_true_eq,Bool.false_eq_true,beq_iff_eq,if_false,if_true,Int.toNat_zero] at h
   try delta strOfNums at h
   try simp only [u32w,u8w,emod1,emod2,emod3,emod4,emod5,tmodN,tdivN,List.length_singleton,List.drop_zero,Nat.sub_zero,Int.toNat_natCast,List.take_length,listE,list48]
   repeat' first | (split at h) | (rw [Option.bind_eq_some_iff] at h; obtain ⟨t,ht,h⟩:=h; try (with_reducible cases ht))
   all_goals try (with_reducible cases h)
   all_goals repeat' first | (with_reducible refine bif_pos (by assumption) ?_) | (with_reducible refine bif_neg (by assumption) ?_) | (with_reducible refine bif_t (by assumption) ?_) | (with_reducible refine bif_f (by assumption) ?_) | (with_reducible refine bif_and ?_) | (with_reducible refine bif_tt ?_) | (with_reducible refine bif_ff ?_) | (with_reducible refine bif_cc ?_) | (with_reducible refine bif_not ?_) | (with_reducible refine bif_eqL (by assumption) ?_) | (with_reducible refine bif_neL (by assumption) ?_) | (with_reducible refine bif_pos (by omega) ?_) | (with_reducible refine bif_neg (by omega) ?_) | (with_reducible refine bif_ble (by omega) ?_) | (with_reducible refine bif_beq (by omega) ?_) | (with_reducible refine bif_blt (by omega) ?_) | (with_reducible exact ih0 _ _ _ (by assumption)) | (with_reducible exact hK _) | (with_reducible refine And.intro trivial ?_) | (with_reducible refine ⟨_,_,by assumption,?_⟩) | (with_reducible refine ⟨_,by assumption,?_⟩)
theorem ncheck_con {s:ByteArray} {Q:Res} (h:checkN s Q):Con Tryz.prog 143 [.str s] Q:=by
 obtain ⟨k,r,hf,hq⟩:=h
 have hK:∀ H,resK Q (.int .i64 r) H:=fun H=>res_plain hq rfl rfl
 refine conN (gn:=fnT Tryz.f143) (by kernel_rfl) con0_ok (inl:=[]) (LT:=ncheck_live) (NT:=ncheck_nils) rfl fun n0=>?_
 rw [ncheck_E,listE]
 have go:∀ {k:Nat},nat_Check.j0 k s false=some r→bif decide (s.size≤9223372036854775807) then GoodL Tryz.prog n0 143 (resK Q) (headAt (fnT Tryz.f143) 4) (ncheck_s4_0 s (List.map (fun b=>(b.toNat:Int)) s.data.toList) ((List.map (fun b=>(b.toNat:Int)) s.data.toList).length:Int) 0) else False:=by
  intro k h
  rcases k with _ | k
  · cases h
  · rw [nat_Check.j0.eq_2,if_neg (by decide)] at h
    simp only [gp_bytes.f] at h
    split at h
    · rename_i h0
      exact bif_pos h0 (ncheck_w r hK k _ _ _ h)
    · cases h
 unfold nat_Check.f at hf
 dsimp only at hf
 rw [bt_get] at hf
 split at hf
 · rename_i h0
   rcases k with _ | k
   · cases hf
   · rw [nat_Check.j0.eq_2,if_pos rfl] at hf
     cases hf
     exact bif_eqL h0 (hK _)
 · rename_i h0
   refine bif_neL h0 ?_
   split at hf
   · rename_i h1
     refine bif_pos h1 ?_
     split at hf
     · rename_i h2
       refine bif_pos h2 (bif_cc (bif_ff (bif_cc (bif_tt ?_))))
       by_cases h3:(s.size:Int) > 1
       · rw [decide_eq_true h3] at hf
         refine bif_pos h3 ?_
         rcases k with _ | k
         · cases hf
         · rw [nat_Check.j0.eq_2,if_pos rfl] at hf
           cases hf
           exact hK _
       · rw [decide_eq_false h3] at hf
         exact bif_neg h3 (go hf)
     · rename_i h2
       exact bif_neg h2 (go hf)
   · cases hf
theorem ndiv_w {l m:List Int} {n0:Nat} {K:Res} (r:List Int × List Int) (hK:∀ id H,objAt H id = .typed eW r.1 false→K (.tup [.own id, .imm eW r.2]) H):∀ k:Nat,
 (∀ (x6:Int) (x7 x8:List Int),nat_N_Div.l0 k l x6 x7 x8=some r→GoodL Tryz.prog n0 128 K (headAt (fnT Tryz.f128) 7) (ndiv_s7_0 l m x6 x7 x8)) ∧
 (∀ (x6:Int) (x7 x8:List Int) (x9:Int) (x10:List Int) (x11:Int),nat_N_Div.l1 k x6 x7 x8 x9 x10 x11=some r→GoodL Tryz.prog n0 128 K (headAt (fnT Tryz.f128) 12) (ndiv_s12_0 l m x6 x9 x11 x7 x8 x10)) ∧
 (∀ (x6:Int) (x7 x8:List Int) (x9:Int) (x10:List Int) (x11 x13 x14:Int),nat_N_Div.l2 k x6 x7 x8 x9 x10 x11 x13 x14=some r→GoodL Tryz.prog n0 128 K (headAt (fnT Tryz.f128) 16) (ndiv_s16_0 l m x6 x9 x11 x13 x14 x7 x8 x10)):=by
 intro k
 induction k using Nat.strongRecOn with
 | _ k ih =>
   refine ⟨?_,?_,?_⟩
   · intro x6 x7 x8 h
     rcases k with _ | k
     · cases h
     have ih0:=ih k (by omega)
     rw [nat_N_Div.l0.eq_2] at h
     refine roundHN (by kernel_rfl) conDiv_ok hDiv_ok (inl:=[]) (LT:=ndiv_live) (NT:=ndiv_nils) ?_
     rw [ndiv_s7_0_E]
     try simp only [w64i,rd,bytesOf,gp_bytes.f,gp_make0_61.f,gp_make0_63.f,bt_get,Option.bind_some,decide_eq_true_eq,Bool.false_eq_true,beq_iff_eq,if_false,if_true,Int.toNat_zero] at h
     try delta strOfNums at h
     try simp only [u32w,u8w,emod1,emod2,emod3,emod4,emod5,tmodN,tdivN,List.length_singleton,List.drop_zero,Nat.sub_zero,Int.toNat_natCast,List.take_length,listE,list48]
     repeat' first | (split at h) | (rw [Option.bind_eq_some_iff] at h; obtain ⟨t,ht,h⟩:=h; try (with_reducible cases ht))
     all_goals try (with_reducible cases h)
     all_goals repeat' first | (with_reducible refine bif_pos (by assumption) ?_) | (with_reducible refine bif_neg (by assumption) ?_) | (with_reducible refine bif_t (by assumption) ?_) | (with_reducible refine bif_f (by assumption) ?_) | (with_reducible refine bif_and ?_) | (with_reducible refine bif_tt ?_) | (with_reducible refine bif_ff ?_) | (with_reducible refine bif_cc ?_) | (with_reducible refine bif_not ?_) | (with_reducible refine bif_eqL (by assumption) ?_) | (with_reducible refine bif_neL (by assumption) ?_) | (with_reducible refine bif_pos (by omega) ?_) | (with_reducible refine bif_neg (by omega) ?_) | (with_reducible refine bif_ble (by omega) ?_) | (with_reducible refine bif_beq (by omega) ?_) | (with_reducible refine bif_blt (by omega) ?_) | (with_reducible exact ih0.1 _ _ _ (by assumption)) | (with_reducible exact ih0.2.1 _ _ _ _ _ _ (by assumption)) | (with_reducible refine And.intro trivial ?_) | (with_reducible refine ⟨_,_,by assumption,?_⟩) | (with_reducible refine ⟨_,by assumption,?_⟩)
   · intro x6 x7 x8 x9 x10 x11 h
     rcases k with _ | k
     · cases h
     have ih0:=ih k (by omega)
     rw [nat_N_Div.l1.eq_2] at h
     refine roundHN (by kernel_rfl) conDiv_ok hDiv_ok (inl:=[]) (LT:=ndiv_live) (NT:=ndiv_nils) ?_
     rw [ndiv_s12_0_E]
     try simp only [w64i,rd,bytesOf,gp_bytes.f,gp_make0_61.f,gp_make0_63.f,bt_get,Option.bind_some,decide_eq_true_eq,Bool.false_eq_true,beq_iff_eq,if_false,if_true,Int.toNat_zero] at h
     try delta strOfNums at h
     try simp only [u32w,u8w,emod1,emod2,emod3,emod4,emod5,tmodN,tdivN,List.length_singleton,List.drop_zero,Nat.sub_zero,Int.toNat_natCast,List.take_length,listE,list48]
     repeat' first | (split at h) | (rw [Option.bind_eq_some_iff] at h; obtain ⟨t,ht,h⟩:=h; try (with_reducible cases ht))
     all_goals try (with_reducible cases h)
     all_goals repeat' first | (with_reducible refine bif_pos (by assumption) ?_) | (with_reducible refine bif_neg (by assumption) ?_) | (with_reducible refine bif_t (by assumption) ?_) | (with_reducible refine bif_f (by assumption) ?_) | (with_reducible refine bif_and ?_) | (with_reducible refine bif_tt ?_) | (with_reducible refine bif_ff ?_) | (with_reducible refine bif_cc ?_) | (with_reducible refine bif_not ?_) | (with_reducible refine bif_eqL (by assumption) ?_) | (with_reducible refine bif_neL (by assumption) ?_) | (with_reducible refine bif_pos (by omega) ?_) | (with_reducible refine bif_neg (by omega) ?_) | (with_reducible refine bif_ble (by omega) ?_) | (with_reducible refine bif_beq (by omega) ?_) | (with_reducible refine bif_blt (by omega) ?_) | (with_reducible exact ih0.2.2 _ _ _ _ _ _ _ _ (by assumption)) | (exact hK _ _ rfl) | (with_reducible refine And.intro trivial ?_) | (with_reducible refine ⟨_,_,by assumption,?_⟩) | (with_reducible refine ⟨_,by assumption,?_⟩)
   · intro x6 x7 x8 x9 x10 x11 x13 x14 h
     rcases k with _ | k
     · cases h
     have j4:∀ (k' : Nat) (x13:Int),k' ≤ k→nat_N_Div.j4 k' x6 x7 x8 x9 x10 x11 x13=some r→∃ k r1,nat_N_minus.f k x7 x8 x11 x13=some r1∧bif r1.1 then (∃ k r2,nat_N_plus.f k r1.2 x8 x11=some r2∧bif decide (0≤x11) && decide (x11<(x10.length:Int)) then
           GoodL Tryz.prog n0 128 K (headAt (fnT Tryz.f128) 12) (ndiv_s12_0 l m x6 x9 (IntKind.i64.wrap (x11 - 1)) r2 x8 (x10.set x11.toNat (IntKind.u64.wrap (x13 - 1) % 4294967296))) else False)
      else bif decide (0≤x11) && decide (x11<(x10.length:Int)) then
           GoodL Tryz.prog n0 128 K (headAt (fnT Tryz.f128) 12) (ndiv_s12_0 l m x6 x9 (IntKind.i64.wrap (x11 - 1)) r1.2 x8 (x10.set x11.toNat (x13 % 4294967296))) else False:=by
       intro k' x13 hk h
       rcases k' with _ | k'
       · cases h
       have ih0:=ih k' (by omega)
       rw [nat_N_Div.j4.eq_2] at h
       try simp only [w64i,rd,bytesOf,gp_bytes.f,gp_make0_61.f,gp_make0_63.f,bt_get,Option.bind_some,decide_eq_true_eq,Bool.false_eq_true,beq_iff_eq,if_false,if_true,Int.toNat_zero] at h
       try delta strOfNums at h
       try simp only [u32w,u8w,emod1,emod2,emod3,emod4,emod5,tmodN,tdivN,List.length_singleton,List.drop_zero,Nat.sub_zero,Int.toNat_natCast,List.take_length,listE,list48]
       repeat' first | (split at h) | (rw [Option.bind_eq_some_iff] at h; obtain ⟨t,ht,h⟩:=h; try (with_reducible cases ht))
       all_goals try (with_reducible cases h)
       all_goals repeat' first | (with_reducible refine bif_pos (by assumption) ?_) | (with_reducible refine bif_neg (by assumption) ?_) | (with_reducible refine bif_t (by assumption) ?_) | (with_reducible refine bif_f (by assumption) ?_) | (with_reducible refine bif_and ?_) | (with_reducible refine bif_tt ?_) | (with_reducible refine bif_ff ?_) | (with_reducible refine bif_cc ?_) | (with_reducible refine bif_not ?_) | (with_reducible refine bif_eqL (by assumption) ?_) | (with_reducible refine bif_neL (by assumption) ?_) | (with_reducible refine bif_pos (by omega) ?_) | (with_reducible refine bif_neg (by omega) ?_) | (with_reducible refine bif_ble (by omega) ?_) | (with_reducible refine bif_beq (by omega) ?_) | (with_reducible refine bif_blt (by omega) ?_) | (with_reducible exact ih0.2.1 _ _ _ _ _ _ (by assumption)) | (with_reducible refine And.intro trivial ?_) | (with_reducible refine ⟨_,_,by assumption,?_⟩) | (with_reducible refine ⟨_,by assumption,?_⟩)
     rw [nat_N_Div.l2.eq_2] at h
     refine roundHN (by kernel_rfl) conDiv_ok hDiv_ok (inl:=[]) (LT:=ndiv_live) (NT:=ndiv_nils) ?_
     rw [ndiv_s16_0_E]
     try simp only [w64i,rd,bytesOf,gp_bytes.f,gp_make0_61.f,gp_make0_63.f,bt_get,Option.bind_some,decide_eq_true_eq,Bool.false_eq_true,beq_iff_eq,if_false,if_true,Int.toNat_zero] at h
     try simp only [u32w,u8w,emod1,emod2,emod3,emod4,emod5,tmodN,tdivN,List.length_singleton,List.drop_zero,Nat.sub_zero,Int.toNat_natCast,List.take_length,listE,list48]
     repeat' first | (split at h) | (rw [Option.bind_eq_some_iff] at h; obtain ⟨t,ht,h⟩:=h; try (with_reducible cases ht))
     all_goals try (with_reducible cases h)
     all_goals rcases k with _ | k
     all_goals try (cases h; done)
     all_goals rw [nat_N_Div.j3.eq_2] at h
     all_goals try simp only [w64i,rd,bytesOf,gp_bytes.f,gp_make0_61.f,gp_make0_63.f,bt_get,Option.bind_some,decide_eq_true_eq,Bool.false_eq_true,beq_iff_eq,if_false,if_true,Int.toNat_zero] at h
     all_goals repeat' first | (split at h) | (rw [Option.bind_eq_some_iff] at h; obtain ⟨t,ht,h⟩:=h; try (with_reducible cases ht))
     all_goals try (with_reducible cases h)
     all_goals repeat' first | (with_reducible refine bif_pos (by assumption) ?_) | (with_reducible refine bif_neg (by assumption) ?_) | (with_reducible refine bif_t (by assumption) ?_) | (with_reducible refine bif_f (by assumption) ?_) | (with_reducible refine bif_and ?_) | (with_reducible refine bif_tt ?_) | (with_reducible refine bif_ff ?_) | (with_reducible refine bif_cc ?_) | (with_reducible refine bif_not ?_) | (with_reducible refine bif_eqL (by assumption) ?_) | (with_reducible refine bif_neL (by assumption) ?_) | (with_reducible refine bif_pos (by omega) ?_) | (with_reducible refine bif_neg (by omega) ?_) | (with_reducible refine bif_ble (by omega) ?_) | (with_reducible refine bif_beq (by omega) ?_) | (with_reducible refine bif_blt (by omega) ?_) | (with_reducible exact (ih k (by omega)).2.2 _ _ _ _ _ _ _ _ (by assumption)) | (with_reducible exact j4 k _ (by omega) (by assumption)) | (with_reducible refine And.intro trivial ?_) | (with_reducible refine ⟨_,_,by assumption,?_⟩) | (with_reducible refine ⟨_,by assumption,?_⟩)
theorem ndiv_con {l m:List Int} {Q:Res} (h:divN l m Q):Con Tryz.prog 128 [.imm eW l, .imm eW m] Q:=by
 obtain ⟨k,r,h,hq⟩:=h
 refine Con.sealTo (Q:=fun v o=>(v = .tup [.own 0, .imm eW r.2]∧o=[.typed eW r.1 false])∨v = .tup [.imm eW r.1, .imm eW r.2]∨(r.1=[]∧v = .tup [.nils, .imm eW r.2])) ?_ fun v o hv=>?_
 · refine conHN (gn:=fnT Tryz.f128) (by kernel_rfl) conDiv_ok hDiv_ok (inl:=[]) (LT:=ndiv_live) (NT:=ndiv_nils) rfl fun n0=>?_
   generalize hKK:resK (fun v o=>(v = .tup [.own 0, .imm eW r.2]∧o=[.typed eW r.1 false])∨v = .tup [.imm eW r.1, .imm eW r.2]∨(r.1=[]∧v = .tup [.nils, .imm eW r.2]))=K
   have hA:∀ id H,objAt H id = .typed eW r.1 false→K (.tup [.own id, .imm eW r.2]) H:=fun id H ho=>by
    rw [← hKK]
    exact ⟨.tup [.own 0, .imm eW r.2],[.typed eW r.1 false],Or.inl ⟨rfl,rfl⟩,rfl,rfl,[id],rfl,by simp,fun k i h=>by
        match k,h with
        | 0,h=>cases h; exact congrArg some ho.symm,rfl⟩
   have hB:∀ H,K (.tup [.imm eW r.1, .imm eW r.2]) H:=fun H=>by
    rw [← hKK]
    exact res_plain (Or.inr (Or.inl rfl)) rfl rfl
   have hC:r.1=[]→∀ H,K (.tup [.nils, .imm eW r.2]) H:=fun h0 H=>by
    rw [← hKK]
    exact res_plain (Or.inr (Or.inr ⟨h0,rfl⟩)) rfl rfl
   clear hKK hq
   rw [ndiv_E]
   unfold nat_N_Div.f at h
   dsimp only at h
   try simp only [w64i,rd,bytesOf,gp_bytes.f,gp_make0_61.f,gp_make0_63.f,bt_get,Option.bind_some,decide_eq_true_eq,Bool.false_eq_true,beq_iff_eq,if_false,if_true,Int.toNat_zero] at h
   try delta strOfNums at h
   try simp only [u32w,u8w,emod1,emod2,emod3,emod4,emod5,tmodN,tdivN,List.length_singleton,List.drop_zero,Nat.sub_zero,Int.toNat_natCast,List.take_length,listE,list48]
   repeat' first | (split at h) | (rw [Option.bind_eq_some_iff] at h; obtain ⟨t,ht,h⟩:=h; try (with_reducible cases ht))
   all_goals try (with_reducible cases h)
   all_goals repeat' first | (with_reducible refine bif_pos (by assumption) ?_) | (with_reducible refine bif_neg (by assumption) ?_) | (with_reducible refine bif_t (by assumption) ?_) | (with_reducible refine bif_f (by assumption) ?_) | (with_reducible refine bif_and ?_) | (with_reducible refine bif_tt ?_) | (with_reducible refine bif_ff ?_) | (with_reducible refine bif_cc ?_) | (with_reducible refine bif_not ?_) | (with_reducible refine bif_eqL (by assumption) ?_) | (with_reducible refine bif_neL (by assumption) ?_) | (with_reducible refine bif_pos (by omega) ?_) | (with_reducible refine bif_neg (by omega) ?_) | (with_reducible refine bif_ble (by omega) ?_) | (with_reducible refine bif_beq (by omega) ?_) | (with_reducible refine bif_blt (by omega) ?_) | (with_reducible exact (ndiv_w r hA k).1 _ _ _ (by assumption)) | (exact hC rfl _) | (exact hB _) | (with_reducible refine And.intro trivial ?_) | (with_reducible refine ⟨_,_,by assumption,?_⟩) | (with_reducible refine ⟨_,by assumption,?_⟩)
 · rcases hv with ⟨rfl,rfl⟩ | rfl | ⟨h0,rfl⟩
   · exact ⟨_,⟨_,rfl, .cons ⟨_,_,_,rfl,rfl⟩ (.cons rfl .nil)⟩,hq⟩
   · exact ⟨_,⟨_,rfl, .cons rfl (.cons rfl .nil)⟩,hq⟩
   · refine ⟨_,⟨_,rfl, .cons (Or.inr ⟨eW,rfl⟩) (.cons rfl .nil)⟩,?_⟩
     have:=hq
     simp only [isN,h0] at this
     exact this
theorem conGcd_ok : ∀ g xs Q,conGcd g xs Q→Con Tryz.prog g xs Q:=table_ok fun p hp=>by
 simp only [List.mem_cons,List.not_mem_nil,or_false] at hp
 rcases hp with rfl | rfl
 · exact c2_ok fun _ _ _ h=>ndiv_con h
 · exact c1_ok fun _ _ h=>ntext_con h
theorem ngcd_w {l m:List Int} {n0:Nat} {K:Res} (r:List Int) (hK:∀ H,K (.imm eW r) H):∀ (k:Nat) (x0 x1:List Int),nat_N_Gcd.l0 k x0 x1=some r→GoodL Tryz.prog n0 127 K (headAt (fnT Tryz.f127) 1) (ngcd_s1_2 l m x0 x1):=by
 intro k
 induction k with
 | zero=>intro x0 x1 h; cases h
 | succ k ih =>
   intro x0 x1 h
   rw [nat_N_Gcd.l0.eq_2] at h
   refine roundN (by kernel_rfl) conGcd_ok (inl:=[]) (LT:=ngcd_live) (NT:=ngcd_nils) ?_
   rw [ngcd_s1_2_E]
   try simp only [w64i,rd,bytesOf,gp_bytes.f,gp_make0_61.f,gp_make0_63.f,bt_get,Option.bind_some,decide_eq_true_eq,Bool.false_eq_true,beq_iff_eq,if_false,if_true,Int.toNat_zero] at h
   try delta strOfNums at h
   try simp only [u32w,u8w,emod1,emod2,emod3,emod4,emod5,tmodN,tdivN,List.length_singleton,List.drop_zero,Nat.sub_zero,Int.toNat_natCast,List.take_length,listE,list48]
   repeat' first | (split at h) | (rw [Option.bind_eq_some_iff] at h; obtain ⟨t,ht,h⟩:=h; try (with_reducible cases ht))
   all_goals try (with_reducible cases h)
   all_goals repeat' first | (with_reducible refine bif_pos (by assumption) ?_) | (with_reducible refine bif_neg (by assumption) ?_) | (with_reducible refine bif_t (by assumption) ?_) | (with_reducible refine bif_f (by assumption) ?_) | (with_reducible refine bif_and ?_) | (with_reducible refine bif_tt ?_) | (with_reducible refine bif_ff ?_) | (with_reducible refine bif_cc ?_) | (with_reducible refine bif_not ?_) | (with_reducible refine bif_eqL (by assumption) ?_) | (with_reducible refine bif_neL (by assumption) ?_) | (with_reducible refine bif_pos (by omega) ?_) | (with_reducible refine bif_neg (by omega) ?_) | (with_reducible refine bif_ble (by omega) ?_) | (with_reducible refine bif_beq (by omega) ?_) | (with_reducible refine bif_blt (by omega) ?_) | (with_reducible exact ih _ _ (by assumption)) | (exact hK _) | (with_reducible refine And.intro trivial ?_) | (with_reducible refine ⟨_,_,by assumption,?_⟩) | (with_reducible refine ⟨_,by assumption,?_⟩)
theorem ngcd_con {l m:List Int} {Q:Res} (h:gcdN l m Q):Con Tryz.prog 127 [.imm eW l, .imm eW m] Q:=by
 obtain ⟨k,r,hf,hq⟩:=h
 refine conN (gn:=fnT Tryz.f127) (by kernel_rfl) conGcd_ok (inl:=[]) (LT:=ngcd_live) (NT:=ngcd_nils) rfl fun n0=>?_
 rw [ngcd_E]
 exact ngcd_w (l:=l) (m:=m) r (fun H=>res_plain hq rfl rfl) k l m hf
theorem ndigits_con {l:List Int} {Q:Res} (h:digitsN l Q):Con Tryz.prog 131 [.imm eW l] Q:=by
 obtain ⟨k,r,h,hq⟩:=h
 refine conN (gn:=fnT Tryz.f131) (by kernel_rfl) conGcd_ok (inl:=[]) (LT:=ndigits_live) (NT:=ndigits_nils) rfl fun n0=>?_
 rw [ndigits_E]
 unfold nat_N_Digits.f at h
 dsimp only at h
 rw [Option.bind_eq_some_iff] at h
 obtain ⟨t,ht,h⟩:=h
 cases h
 exact ⟨_,_,ht,res_plain hq rfl rfl⟩
end
end Go.Proofs.YtnnkjpcipldnfaaGreatDoor.Lib
end
section
set_option linter.unusedSimpArgs false
set_option linter.unusedVariables false
namespace Go.Proofs.YtnnkjpcipldnfaaGreatDoor.Mach
open Go Go.Proofs.YtnnkjpcipldnfaaGreatDoor Go.Proofs.YtnnkjpcipldnfaaGreatDoor.Lib
section
set_option maxRecDepth 1000000
def rerr_live : List (Nat × List Nat):=[(4,[0,3])]
def rerr_nils : List (Nat × ETy):=[]
noncomputable def rerr_s4_0 (s:ByteArray) (x0:Int):St:=stOf 34 [(0,AV.str s),(3,AV.int .i64 x0)] []
theorem rerr_E (s:ByteArray) (n0:Nat) (K:AV→List HObj→Prop) :
 execN tab (mixE tab con0 [] 400) (maskN rerr_live rerr_nils (GoodL Tryz.prog n0 133 K)) (finK tab (fnT Tryz.f133).res K) 400 [.code (fnT Tryz.f133).body] ⟨initEnv (fnT Tryz.f133).n [AV.str s],[]⟩ =
 (bif decide ((↑s.size:Int)=0) then K (AV.int .i64 5) [] else GoodL Tryz.prog n0 133 K (headAt (fnT Tryz.f133) 4) (rerr_s4_0 s 0)):=by kernel_rfl
theorem rerr_s4_0_E (s:ByteArray) (x0:Int) (n0:Nat) (K:AV→List HObj→Prop) :
 execN tab (mixE tab con0 [] 400) (maskN rerr_live rerr_nils (GoodL Tryz.prog n0 133 K)) (finK tab (fnT Tryz.f133).res K) 400 (roundAt (fnT Tryz.f133) 4) (rerr_s4_0 s x0) =
 (bif decide (x0<(↑s.size:Int)) then bif decide (0≤x0) && decide (x0<(↑s.size:Int)) then bif decide ((↑(s.data.toList.getD x0.toNat 0).toNat:Int)<48) then K (AV.int .i64 5) [] else bif decide (0≤x0) && decide (x0<(↑s.size:Int)) then bif bif false then true else decide ((↑(s.data.toList.getD x0.toNat 0).toNat:Int) > 57) then K (AV.int .i64 5) [] else GoodL Tryz.prog n0 133 K (headAt (fnT Tryz.f133) 4) (rerr_s4_0 s (IntKind.i64.wrap (x0+1))) else False else False else bif decide ((↑s.size:Int) > 1) then bif decide (0<(↑s.size:Int)) then bif bif true then decide ((↑(s.data.toList.getD 0 0).toNat:Int)=48) else false then K (AV.int .i64 5) [] else bif decide ((↑s.size:Int) > 2000) then K (AV.int .i64 2) [] else K (AV.int .i64 0) [] else False else bif decide ((↑s.size:Int) > 2000) then K (AV.int .i64 2) [] else K (AV.int .i64 0) []):=by kernel_rfl
def rstrip_live : List (Nat × List Nat):=[(1,[0])]
def rstrip_nils : List (Nat × ETy):=[]
noncomputable def rstrip_s1_0 (s:ByteArray):St:=stOf 14 [(0,AV.str s)] []
noncomputable def rstrip_s1_1 (s x0:ByteArray):St:=stOf 14 [(0,AV.str x0)] []
theorem rstrip_E (s:ByteArray) (n0:Nat) (K:AV→List HObj→Prop) :
 execN tab (mixE tab con0 [] 400) (maskN rstrip_live rstrip_nils (GoodL Tryz.prog n0 125 K)) (finK tab (fnT Tryz.f125).res K) 400 [.code (fnT Tryz.f125).body] ⟨initEnv (fnT Tryz.f125).n [AV.str s],[]⟩ =
 (GoodL Tryz.prog n0 125 K (headAt (fnT Tryz.f125) 1) (rstrip_s1_0 s)):=by kernel_rfl
theorem rstrip_s1_1_E (s x0:ByteArray) (n0:Nat) (K:AV→List HObj→Prop) :
 execN tab (mixE tab con0 [] 400) (maskN rstrip_live rstrip_nils (GoodL Tryz.prog n0 125 K)) (finK tab (fnT Tryz.f125).res K) 400 (roundAt (fnT Tryz.f125) 1) (rstrip_s1_1 s x0) =
 (bif decide ((↑x0.size:Int) > 1) then bif decide (0<(↑x0.size:Int)) then bif bif true then decide ((↑(x0.data.toList.getD 0 0).toNat:Int)=48) else false then bif decide (1≤(↑x0.size:Int)) && decide ((↑x0.size:Int)≤(↑x0.size:Int)) then GoodL Tryz.prog n0 125 K (headAt (fnT Tryz.f125) 1) (rstrip_s1_1 s (x0.extract 1 (↑x0.size:Int).toNat)) else False else K (AV.str x0) [] else False else K (AV.str x0) []):=by kernel_rfl
def rdig_live : List (Nat × List Nat):=[]
def rdig_nils : List (Nat × ETy):=[]
theorem rdig_E (s:ByteArray) (k:Int) (n0:Nat) (K:AV→List HObj→Prop) :
 execN tab (mixE tab con0 [] 400) (maskN rdig_live rdig_nils (GoodL Tryz.prog n0 97 K)) (finK tab (fnT Tryz.f97).res K) 400 [.code (fnT Tryz.f97).body] ⟨initEnv (fnT Tryz.f97).n [AV.str s,AV.int .i64 k],[]⟩ =
 (bif decide (k<(↑s.size:Int)) then bif decide (0≤IntKind.i64.wrap (IntKind.i64.wrap ((↑s.size:Int) - 1) - k)) && decide (IntKind.i64.wrap (IntKind.i64.wrap ((↑s.size:Int) - 1) - k)<(↑s.size:Int)) then K (AV.int .i64 (IntKind.i64.wrap (IntKind.u8.wrap ((↑(s.data.toList.getD (IntKind.i64.wrap (IntKind.i64.wrap ((↑s.size:Int) - 1) - k)).toNat 0).toNat:Int) - 48)))) [] else False else K (AV.int .i64 0) []):=by kernel_rfl
def rtext_live : List (Nat × List Nat):=[(3,[0,3,9,10,11])]
def rtext_nils : List (Nat × ETy):=[(3,ETy.one (CTy.int IntKind.u8)),(9,eI)]
noncomputable def rtext_s3_0 (l:List Int) (x0 x1:Int) (x2:List Int):St:=stOf 31 [(0,AV.imm eI l),(3,AV.own 0),(9,AV.imm eI l),(10,AV.int .i64 x0),(11,AV.int .i64 x1)] [HObj.typed (ETy.one (CTy.int IntKind.u8)) x2 false]
theorem rtext_E (l:List Int) (n0:Nat) (K:AV→List HObj→Prop) :
 execN tab (mixE tab conR0 [] 400) (maskN rtext_live rtext_nils (GoodL Tryz.prog n0 98 K)) (finK tab (fnT Tryz.f98).res K) 400 [.code (fnT Tryz.f98).body] ⟨initEnv (fnT Tryz.f98).n [AV.imm eI l],[]⟩ =
 (bif decide (0≤(↑l.length:Int)) && decide ((↑l.length:Int)≤(↑l.length:Int)) && bif (↑l.length:Int).toNat.ble 9223372036854775807 then ((↑l.length:Int).toNat * 1).ble 281474976710656 else false then GoodL Tryz.prog n0 98 K (headAt (fnT Tryz.f98) 3) (rtext_s3_0 l (↑l.length:Int) 0 (List.replicate (↑l.length:Int).toNat 0)) else False):=by kernel_rfl
theorem rtext_s3_0_E (l:List Int) (x0 x1:Int) (x2:List Int) (n0:Nat) (K:AV→List HObj→Prop) :
 execN tab (mixE tab conR0 [] 400) (maskN rtext_live rtext_nils (GoodL Tryz.prog n0 98 K)) (finK tab (fnT Tryz.f98).res K) 400 (roundAt (fnT Tryz.f98) 3) (rtext_s3_0 l x0 x1 x2) =
 (bif decide (x1<x0) then bif decide (0≤x1) && decide (x1<(↑l.length:Int)) then bif decide (0≤IntKind.i64.wrap (IntKind.i64.wrap ((↑l.length:Int) - 1) - x1)) && decide (IntKind.i64.wrap (IntKind.i64.wrap ((↑l.length:Int) - 1) - x1)<(↑x2.length:Int)) then GoodL Tryz.prog n0 98 K (headAt (fnT Tryz.f98) 3) (rtext_s3_0 l x0 (IntKind.i64.wrap (x1+1)) (x2.set (IntKind.i64.wrap (IntKind.i64.wrap ((↑l.length:Int) - 1) - x1)).toNat (IntKind.u8.wrap (IntKind.i64.wrap (48+l.getD x1.toNat 0))))) else False else False else bif decide (1+(ByteArray.mk (List.map (fun n=>UInt8.ofNat n.toNat) x2).toArray).size≤9223372036854775807) then ∃ k r,ND.gamehallref2_strip.f k (ByteArray.mk #[48] ++ ByteArray.mk (List.map (fun n=>UInt8.ofNat n.toNat) x2).toArray)=some r∧K (AV.str r) [HObj.typed (ETy.one (CTy.int IntKind.u8)) x2 false] else False):=by kernel_rfl
def radd_live : List (Nat × List Nat):=[(4,[0,1,5,6,7])]
def radd_nils : List (Nat × ETy):=[(5,eI)]
noncomputable def radd_s4_0 (a b:ByteArray) (x0 x1:Int) (x2:List Int):St:=stOf 43 [(0,AV.str a),(1,AV.str b),(5,AV.own 0),(6,AV.int .i64 x0),(7,AV.int .i64 x1)] [HObj.typed eI x2 false]
theorem radd_E (a b:ByteArray) (n0:Nat) (K:AV→List HObj→Prop) :
 execN tab (mixE tab conR2 [] 400) (maskN radd_live radd_nils (GoodL Tryz.prog n0 114 K)) (finK tab (fnT Tryz.f114).res K) 400 [.code (fnT Tryz.f114).body] ⟨initEnv (fnT Tryz.f114).n [AV.str a,AV.str b],[]⟩ =
 (GoodL Tryz.prog n0 114 K (headAt (fnT Tryz.f114) 4) (radd_s4_0 a b 0 0 [])):=by kernel_rfl
theorem radd_s4_0_E (a b:ByteArray) (x0 x1:Int) (x2:List Int) (n0:Nat) (K:AV→List HObj→Prop) :
 execN tab (mixE tab conR2 [] 400) (maskN radd_live radd_nils (GoodL Tryz.prog n0 114 K)) (finK tab (fnT Tryz.f114).res K) 400 (roundAt (fnT Tryz.f114) 4) (radd_s4_0 a b x0 x1 x2) =
 (bif decide (x1<(↑a.size:Int)) then ∃ r,ND.gamehallref2_digit.f a x1=some r∧∃ r_1,ND.gamehallref2_digit.f b x1=some r_1∧bif bif (x2.length+[(IntKind.i64.wrap (IntKind.i64.wrap (r+r_1)+x0)).tmod 10].length).ble 9223372036854775807 then ((x2.length+[(IntKind.i64.wrap (IntKind.i64.wrap (r+r_1)+x0)).tmod 10].length) * 8).ble 140737488355328 else false then GoodL Tryz.prog n0 114 K (headAt (fnT Tryz.f114) 4) (radd_s4_0 a b (IntKind.i64.wrap ((IntKind.i64.wrap (IntKind.i64.wrap (r+r_1)+x0)).tdiv 10)) (IntKind.i64.wrap (x1+1)) (x2 ++ [(IntKind.i64.wrap (IntKind.i64.wrap (r+r_1)+x0)).tmod 10])) else False else bif bif false then true else decide (x1<(↑b.size:Int)) then ∃ r,ND.gamehallref2_digit.f a x1=some r∧∃ r_1,ND.gamehallref2_digit.f b x1=some r_1∧bif bif (x2.length+[(IntKind.i64.wrap (IntKind.i64.wrap (r+r_1)+x0)).tmod 10].length).ble 9223372036854775807 then ((x2.length+[(IntKind.i64.wrap (IntKind.i64.wrap (r+r_1)+x0)).tmod 10].length) * 8).ble 140737488355328 else false then GoodL Tryz.prog n0 114 K (headAt (fnT Tryz.f114) 4) (radd_s4_0 a b (IntKind.i64.wrap ((IntKind.i64.wrap (IntKind.i64.wrap (r+r_1)+x0)).tdiv 10)) (IntKind.i64.wrap (x1+1)) (x2 ++ [(IntKind.i64.wrap (IntKind.i64.wrap (r+r_1)+x0)).tmod 10])) else False else bif bif false then true else decide (x0 > 0) then ∃ r,ND.gamehallref2_digit.f a x1=some r∧∃ r_1,ND.gamehallref2_digit.f b x1=some r_1∧bif bif (x2.length+[(IntKind.i64.wrap (IntKind.i64.wrap (r+r_1)+x0)).tmod 10].length).ble 9223372036854775807 then ((x2.length+[(IntKind.i64.wrap (IntKind.i64.wrap (r+r_1)+x0)).tmod 10].length) * 8).ble 140737488355328 else false then GoodL Tryz.prog n0 114 K (headAt (fnT Tryz.f114) 4) (radd_s4_0 a b (IntKind.i64.wrap ((IntKind.i64.wrap (IntKind.i64.wrap (r+r_1)+x0)).tdiv 10)) (IntKind.i64.wrap (x1+1)) (x2 ++ [(IntKind.i64.wrap (IntKind.i64.wrap (r+r_1)+x0)).tmod 10])) else False else ∃ k r,ND.gamehallref2_text.f k x2=some r∧K (AV.str r) [HObj.typed eI x2 false]):=by kernel_rfl
def rsub_live : List (Nat × List Nat):=[(4,[0,1,5,6,10,11])]
def rsub_nils : List (Nat × ETy):=[(5,eI)]
noncomputable def rsub_s4_0 (a b:ByteArray) (x0 x1 x2:Int) (x3:List Int):St:=stOf 34 [(0,AV.str a),(1,AV.str b),(5,AV.own 0),(6,AV.int .i64 x0),(10,AV.int .i64 x1),(11,AV.int .i64 x2)] [HObj.typed eI x3 false]
theorem rsub_E (a b:ByteArray) (n0:Nat) (K:AV→List HObj→Prop) :
 execN tab (mixE tab conR2 [] 400) (maskN rsub_live rsub_nils (GoodL Tryz.prog n0 116 K)) (finK tab (fnT Tryz.f116).res K) 400 [.code (fnT Tryz.f116).body] ⟨initEnv (fnT Tryz.f116).n [AV.str a,AV.str b],[]⟩ =
 (GoodL Tryz.prog n0 116 K (headAt (fnT Tryz.f116) 4) (rsub_s4_0 a b 0 (↑a.size:Int) 0 [])):=by kernel_rfl
theorem rsub_s4_0_E (a b:ByteArray) (x0 x1 x2:Int) (x3:List Int) (n0:Nat) (K:AV→List HObj→Prop) :
 execN tab (mixE tab conR2 [] 400) (maskN rsub_live rsub_nils (GoodL Tryz.prog n0 116 K)) (finK tab (fnT Tryz.f116).res K) 400 (roundAt (fnT Tryz.f116) 4) (rsub_s4_0 a b x0 x1 x2 x3) =
 (bif decide (x2<x1) then ∃ r,ND.gamehallref2_digit.f a x2=some r∧∃ r_1,ND.gamehallref2_digit.f b x2=some r_1∧bif decide (IntKind.i64.wrap (IntKind.i64.wrap (r - r_1) - x0)<0) then bif bif (x3.length+[IntKind.i64.wrap (IntKind.i64.wrap (IntKind.i64.wrap (r - r_1) - x0)+10)].length).ble 9223372036854775807 then ((x3.length+[IntKind.i64.wrap (IntKind.i64.wrap (IntKind.i64.wrap (r - r_1) - x0)+10)].length) * 8).ble 140737488355328 else false then GoodL Tryz.prog n0 116 K (headAt (fnT Tryz.f116) 4) (rsub_s4_0 a b 1 x1 (IntKind.i64.wrap (x2+1)) (x3 ++ [IntKind.i64.wrap (IntKind.i64.wrap (IntKind.i64.wrap (r - r_1) - x0)+10)])) else False else bif bif (x3.length+[IntKind.i64.wrap (IntKind.i64.wrap (r - r_1) - x0)].length).ble 9223372036854775807 then ((x3.length+[IntKind.i64.wrap (IntKind.i64.wrap (r - r_1) - x0)].length) * 8).ble 140737488355328 else false then GoodL Tryz.prog n0 116 K (headAt (fnT Tryz.f116) 4) (rsub_s4_0 a b 0 x1 (IntKind.i64.wrap (x2+1)) (x3 ++ [IntKind.i64.wrap (IntKind.i64.wrap (r - r_1) - x0)])) else False else ∃ k r,ND.gamehallref2_text.f k x3=some r∧K (AV.str r) [HObj.typed eI x3 false]):=by kernel_rfl
def rmul_live : List (Nat × List Nat):=[(3,[0,1,5,18,19]),(7,[0,1,5,6,7,18,19,26,27]),(12,[0,1,5,18,19,49,50])]
def rmul_nils : List (Nat × ETy):=[(5,eI)]
noncomputable def rmul_s3_0 (a b:ByteArray) (x0 x1:Int) (x2:List Int):St:=stOf 80 [(0,AV.str a),(1,AV.str b),(5,AV.own 0),(18,AV.int .i64 x0),(19,AV.int .i64 x1)] [HObj.typed eI x2 false]
noncomputable def rmul_s7_0 (a b:ByteArray) (x0 x1 x2 x3 x4 x5:Int) (x6:List Int):St:=stOf 80 [(0,AV.str a),(1,AV.str b),(5,AV.own 0),(6,AV.int .i64 x0),(7,AV.int .i64 x1),(18,AV.int .i64 x2),(19,AV.int .i64 x3),(26,AV.int .i64 x4),(27,AV.int .i64 x5)] [HObj.typed eI x6 false]
noncomputable def rmul_s12_0 (a b:ByteArray) (x0 x1 x2 x3:Int) (x4:List Int):St:=stOf 80 [(0,AV.str a),(1,AV.str b),(5,AV.own 0),(18,AV.int .i64 x0),(19,AV.int .i64 x1),(49,AV.int .i64 x2),(50,AV.int .i64 x3)] [HObj.typed eI x4 false]
theorem rmul_E (a b:ByteArray) (n0:Nat) (K:AV→List HObj→Prop) :
 execN tab (mixE tab conR2 [] 400) (maskN rmul_live rmul_nils (GoodL Tryz.prog n0 64 K)) (finK tab (fnT Tryz.f64).res K) 400 [.code (fnT Tryz.f64).body] ⟨initEnv (fnT Tryz.f64).n [AV.str a,AV.str b],[]⟩ =
 (bif decide (0≤IntKind.i64.wrap (IntKind.i64.wrap ((↑a.size:Int)+(↑b.size:Int))+1)) && decide (IntKind.i64.wrap (IntKind.i64.wrap ((↑a.size:Int)+(↑b.size:Int))+1)≤IntKind.i64.wrap (IntKind.i64.wrap ((↑a.size:Int)+(↑b.size:Int))+1)) && bif (IntKind.i64.wrap (IntKind.i64.wrap ((↑a.size:Int)+(↑b.size:Int))+1)).toNat.ble 9223372036854775807 then ((IntKind.i64.wrap (IntKind.i64.wrap ((↑a.size:Int)+(↑b.size:Int))+1)).toNat * 8).ble 281474976710656 else false then GoodL Tryz.prog n0 64 K (headAt (fnT Tryz.f64) 3) (rmul_s3_0 a b (↑a.size:Int) 0 (List.replicate (IntKind.i64.wrap (IntKind.i64.wrap ((↑a.size:Int)+(↑b.size:Int))+1)).toNat 0)) else False):=by kernel_rfl
theorem rmul_s3_0_E (a b:ByteArray) (x0 x1:Int) (x2:List Int) (n0:Nat) (K:AV→List HObj→Prop) :
 execN tab (mixE tab conR2 [] 400) (maskN rmul_live rmul_nils (GoodL Tryz.prog n0 64 K)) (finK tab (fnT Tryz.f64).res K) 400 (roundAt (fnT Tryz.f64) 3) (rmul_s3_0 a b x0 x1 x2) =
 (bif decide (x1<x0) then ∃ r,ND.gamehallref2_digit.f a x1=some r∧GoodL Tryz.prog n0 64 K (headAt (fnT Tryz.f64) 7) (rmul_s7_0 a b x1 r x0 x1 (↑b.size:Int) 0 x2) else ∃ k r,ND.gamehallref2_text.f k x2=some r∧K (AV.str r) [HObj.typed eI x2 false]):=by kernel_rfl
theorem rmul_s7_0_E (a b:ByteArray) (x0 x1 x2 x3 x4 x5:Int) (x6:List Int) (n0:Nat) (K:AV→List HObj→Prop) :
 execN tab (mixE tab conR2 [] 400) (maskN rmul_live rmul_nils (GoodL Tryz.prog n0 64 K)) (finK tab (fnT Tryz.f64).res K) 400 (roundAt (fnT Tryz.f64) 7) (rmul_s7_0 a b x0 x1 x2 x3 x4 x5 x6) =
 (bif decide (x5<x4) then bif decide (0≤IntKind.i64.wrap (x0+x5)) && decide (IntKind.i64.wrap (x0+x5)<(↑x6.length:Int)) then ∃ r,ND.gamehallref2_digit.f b x5=some r∧bif decide (0≤IntKind.i64.wrap (x0+x5)) && decide (IntKind.i64.wrap (x0+x5)<(↑x6.length:Int)) then GoodL Tryz.prog n0 64 K (headAt (fnT Tryz.f64) 7) (rmul_s7_0 a b x0 x1 x2 x3 x4 (IntKind.i64.wrap (x5+1)) (x6.set (IntKind.i64.wrap (x0+x5)).toNat (IntKind.i64.wrap (x6.getD (IntKind.i64.wrap (x0+x5)).toNat 0+IntKind.i64.wrap (x1 * r))))) else False else False else bif decide (0≤IntKind.i64.wrap ((↑x6.length:Int) - 1)) && decide (IntKind.i64.wrap ((↑x6.length:Int) - 1)≤(↑x6.length:Int)) then GoodL Tryz.prog n0 64 K (headAt (fnT Tryz.f64) 12) (rmul_s12_0 a b x2 x3 (↑((IntKind.i64.wrap ((↑x6.length:Int) - 1)).toNat - 0):Int) 0 x6) else False):=by kernel_rfl
theorem rmul_s12_0_E (a b:ByteArray) (x0 x1 x2 x3:Int) (x4:List Int) (n0:Nat) (K:AV→List HObj→Prop) :
 execN tab (mixE tab conR2 [] 400) (maskN rmul_live rmul_nils (GoodL Tryz.prog n0 64 K)) (finK tab (fnT Tryz.f64).res K) 400 (roundAt (fnT Tryz.f64) 12) (rmul_s12_0 a b x0 x1 x2 x3 x4) =
 (bif decide (x3<x2) then bif decide (0≤x3) && decide (x3<(↑x4.length:Int)) then bif decide (x4.getD x3.toNat 0 > 9) then bif decide (0≤IntKind.i64.wrap (x3+1)) && decide (IntKind.i64.wrap (x3+1)<(↑x4.length:Int)) then bif decide (0≤x3) && decide (x3<(↑x4.length:Int)) then bif decide (0≤IntKind.i64.wrap (x3+1)) && decide (IntKind.i64.wrap (x3+1)<(↑x4.length:Int)) then bif decide (0≤x3) && decide (x3<(↑(x4.set (IntKind.i64.wrap (x3+1)).toNat (IntKind.i64.wrap (x4.getD (IntKind.i64.wrap (x3+1)).toNat 0+IntKind.i64.wrap (Int.tdiv (x4.getD x3.toNat 0) 10)))).length:Int)) then bif decide (0≤x3) && decide (x3<(↑(x4.set (IntKind.i64.wrap (x3+1)).toNat (IntKind.i64.wrap (x4.getD (IntKind.i64.wrap (x3+1)).toNat 0+IntKind.i64.wrap (Int.tdiv (x4.getD x3.toNat 0) 10)))).length:Int)) then GoodL Tryz.prog n0 64 K (headAt (fnT Tryz.f64) 12) (rmul_s12_0 a b x0 x1 x2 (IntKind.i64.wrap (x3+1)) ((x4.set (IntKind.i64.wrap (x3+1)).toNat (IntKind.i64.wrap (x4.getD (IntKind.i64.wrap (x3+1)).toNat 0+IntKind.i64.wrap (Int.tdiv (x4.getD x3.toNat 0) 10)))).set x3.toNat (Int.tmod ((x4.set (IntKind.i64.wrap (x3+1)).toNat (IntKind.i64.wrap (x4.getD (IntKind.i64.wrap (x3+1)).toNat 0+IntKind.i64.wrap (Int.tdiv (x4.getD x3.toNat 0) 10)))).getD x3.toNat 0) 10))) else False else False else False else False else False else GoodL Tryz.prog n0 64 K (headAt (fnT Tryz.f64) 12) (rmul_s12_0 a b x0 x1 x2 (IntKind.i64.wrap (x3+1)) x4) else False else GoodL Tryz.prog n0 64 K (headAt (fnT Tryz.f64) 3) (rmul_s3_0 a b x0 (IntKind.i64.wrap (x1+1)) x4)):=by kernel_rfl
def rdiv_live : List (Nat × List Nat):=[(4,[0,1,7,8,9]),(8,[0,1,7,8,9,10])]
def rdiv_nils : List (Nat × ETy):=[]
noncomputable def rdiv_s4_0 (a b x0 x1:ByteArray) (x2:Int):St:=stOf 55 [(0,AV.str a),(1,AV.str b),(7,AV.str x0),(8,AV.str x1),(9,AV.int .i64 x2)] []
noncomputable def rdiv_s8_0 (a b x0 x1:ByteArray) (x2 x3:Int):St:=stOf 55 [(0,AV.str a),(1,AV.str b),(7,AV.str x0),(8,AV.str x1),(9,AV.int .i64 x2),(10,AV.int IntKind.u8 x3)] []
theorem rdiv_E (a b:ByteArray) (n0:Nat) (K:AV→List HObj→Prop) :
 execN tab (mixE tab conR3 [] 400) (maskN rdiv_live rdiv_nils (GoodL Tryz.prog n0 96 K)) (finK tab (fnT Tryz.f96).res K) 400 [.code (fnT Tryz.f96).body] ⟨initEnv (fnT Tryz.f96).n [AV.str a,AV.str b],[]⟩ =
 (bif decide (0≤if (if IntKind.i64.wrap ((↑b.size:Int) - 1)<(↑a.size:Int) then IntKind.i64.wrap ((↑b.size:Int) - 1) else (↑a.size:Int)) > 0 then if IntKind.i64.wrap ((↑b.size:Int) - 1)<(↑a.size:Int) then IntKind.i64.wrap ((↑b.size:Int) - 1) else (↑a.size:Int) else 0) && decide ((if (if IntKind.i64.wrap ((↑b.size:Int) - 1)<(↑a.size:Int) then IntKind.i64.wrap ((↑b.size:Int) - 1) else (↑a.size:Int)) > 0 then if IntKind.i64.wrap ((↑b.size:Int) - 1)<(↑a.size:Int) then IntKind.i64.wrap ((↑b.size:Int) - 1) else (↑a.size:Int) else 0)≤(↑a.size:Int)) then bif decide (1+(a.extract 0 (if (if IntKind.i64.wrap ((↑b.size:Int) - 1)<(↑a.size:Int) then IntKind.i64.wrap ((↑b.size:Int) - 1) else (↑a.size:Int)) > 0 then if IntKind.i64.wrap ((↑b.size:Int) - 1)<(↑a.size:Int) then IntKind.i64.wrap ((↑b.size:Int) - 1) else (↑a.size:Int) else 0).toNat).size≤9223372036854775807) then ∃ k r,ND.gamehallref2_strip.f k (ByteArray.mk #[48] ++ a.extract 0 (if (if IntKind.i64.wrap ((↑b.size:Int) - 1)<(↑a.size:Int) then IntKind.i64.wrap ((↑b.size:Int) - 1) else (↑a.size:Int)) > 0 then if IntKind.i64.wrap ((↑b.size:Int) - 1)<(↑a.size:Int) then IntKind.i64.wrap ((↑b.size:Int) - 1) else (↑a.size:Int) else 0).toNat)=some r∧GoodL Tryz.prog n0 96 K (headAt (fnT Tryz.f96) 4) (rdiv_s4_0 a b (ByteArray.mk #[]) r (if (if IntKind.i64.wrap ((↑b.size:Int) - 1)<(↑a.size:Int) then IntKind.i64.wrap ((↑b.size:Int) - 1) else (↑a.size:Int)) > 0 then if IntKind.i64.wrap ((↑b.size:Int) - 1)<(↑a.size:Int) then IntKind.i64.wrap ((↑b.size:Int) - 1) else (↑a.size:Int) else 0)) else False else False):=by kernel_rfl
theorem rdiv_s4_0_E (a b x0 x1:ByteArray) (x2:Int) (n0:Nat) (K:AV→List HObj→Prop) :
 execN tab (mixE tab conR3 [] 400) (maskN rdiv_live rdiv_nils (GoodL Tryz.prog n0 96 K)) (finK tab (fnT Tryz.f96).res K) 400 (roundAt (fnT Tryz.f96) 4) (rdiv_s4_0 a b x0 x1 x2) =
 (bif decide (x2<(↑a.size:Int)) then bif decide (0≤x2) && decide (x2≤IntKind.i64.wrap (x2+1)) && decide (IntKind.i64.wrap (x2+1)≤(↑a.size:Int)) then bif decide (x1.size+(a.extract x2.toNat (IntKind.i64.wrap (x2+1)).toNat).size≤9223372036854775807) then ∃ k r,ND.gamehallref2_strip.f k (x1 ++ a.extract x2.toNat (IntKind.i64.wrap (x2+1)).toNat)=some r∧GoodL Tryz.prog n0 96 K (headAt (fnT Tryz.f96) 8) (rdiv_s8_0 a b x0 r x2 48) else False else False else bif decide (1+x0.size≤9223372036854775807) then ∃ k r,ND.gamehallref2_strip.f k (ByteArray.mk #[48] ++ x0)=some r∧K (AV.tup [AV.str r,AV.str x1]) [] else False):=by kernel_rfl
theorem rdiv_s8_0_E (a b x0 x1:ByteArray) (x2 x3:Int) (n0:Nat) (K:AV→List HObj→Prop) :
 execN tab (mixE tab conR3 [] 400) (maskN rdiv_live rdiv_nils (GoodL Tryz.prog n0 96 K)) (finK tab (fnT Tryz.f96).res K) 400 (roundAt (fnT Tryz.f96) 8) (rdiv_s8_0 a b x0 x1 x2 x3) =
 (∃ r,ND.gamehallref2_NatCmp.f x1 b=some r∧bif decide (r ≥ 0) then ∃ k r,ND.gamehallref2_NatSub.f k x1 b=some r∧GoodL Tryz.prog n0 96 K (headAt (fnT Tryz.f96) 8) (rdiv_s8_0 a b x0 r x2 (IntKind.u8.wrap (x3+1))) else bif decide (x0.size+(Utf8.encode x3).size≤9223372036854775807) then GoodL Tryz.prog n0 96 K (headAt (fnT Tryz.f96) 4) (rdiv_s4_0 a b (x0 ++ Utf8.encode x3) x1 (IntKind.i64.wrap (x2+1))) else False):=by kernel_rfl
def rgcd_live : List (Nat × List Nat):=[(1,[0,1])]
def rgcd_nils : List (Nat × ETy):=[]
noncomputable def rgcd_s1_0 (a b:ByteArray):St:=stOf 18 [(0,AV.str a),(1,AV.str b)] []
noncomputable def rgcd_s1_2 (a b x0 x1:ByteArray):St:=stOf 18 [(0,AV.str x0),(1,AV.str x1)] []
theorem rgcd_E (a b:ByteArray) (n0:Nat) (K:AV→List HObj→Prop) :
 execN tab (mixE tab conR4 [] 400) (maskN rgcd_live rgcd_nils (GoodL Tryz.prog n0 95 K)) (finK tab (fnT Tryz.f95).res K) 400 [.code (fnT Tryz.f95).body] ⟨initEnv (fnT Tryz.f95).n [AV.str a,AV.str b],[]⟩ =
 (GoodL Tryz.prog n0 95 K (headAt (fnT Tryz.f95) 1) (rgcd_s1_0 a b)):=by kernel_rfl
theorem rgcd_s1_2_E (a b x0 x1:ByteArray) (n0:Nat) (K:AV→List HObj→Prop) :
 execN tab (mixE tab conR4 [] 400) (maskN rgcd_live rgcd_nils (GoodL Tryz.prog n0 95 K)) (finK tab (fnT Tryz.f95).res K) 400 (roundAt (fnT Tryz.f95) 1) (rgcd_s1_2 a b x0 x1) =
 (bif !x1.toList == (ByteArray.mk #[48]).toList then ∃ k r,ND.gamehallref2_NatDiv.f k x0 x1=some r∧GoodL Tryz.prog n0 95 K (headAt (fnT Tryz.f95) 1) (rgcd_s1_2 a b x1 r.2) else K (AV.str x0) []):=by kernel_rfl
def rcmp_live : List (Nat × List Nat):=[]
def rcmp_nils : List (Nat × ETy):=[]
theorem rcmp_E (a b:ByteArray) (n0:Nat) (K:AV→List HObj→Prop) :
 execN tab (mixE tab con0 [] 400) (maskN rcmp_live rcmp_nils (GoodL Tryz.prog n0 115 K)) (finK tab (fnT Tryz.f115).res K) 400 [.code (fnT Tryz.f115).body] ⟨initEnv (fnT Tryz.f115).n [AV.str a,AV.str b],[]⟩ =
 (bif decide ((↑a.size:Int)<(↑b.size:Int)) then K (AV.int .i64 (-1)) [] else bif decide ((↑a.size:Int) > (↑b.size:Int)) then K (AV.int .i64 1) [] else bif Op.bytesLess a.toList b.toList then K (AV.int .i64 (-1)) [] else bif !(Op.bytesLess a.toList b.toList || a.toList == b.toList) then K (AV.int .i64 1) [] else K (AV.int .i64 0) []):=by kernel_rfl
end
end Go.Proofs.YtnnkjpcipldnfaaGreatDoor.Mach
end
section
set_option linter.unusedSimpArgs false
set_option linter.unusedVariables false
namespace Go.Proofs.YtnnkjpcipldnfaaGreatDoor.Lib
open Go Go.Proofs.YtnnkjpcipldnfaaGreatDoor.Mach Go.Proofs.YtnnkjpcipldnfaaGreatDoor.ND Go.Proofs.YtnnkjpcipldnfaaGreatDoorW.PrintWords Go.RowKit
section
theorem takelen {x:List Int} {n:Nat} (h:n≤x.length):((List.take n x).length:Int)=(n:Int):=by rw [List.length_take,Nat.min_eq_left h]
theorem rstrip_w {s:ByteArray} {n0:Nat} {K:Res} (r:ByteArray) (hK:∀ H,K (.str r) H):∀ k:Nat,
 (∀ (x0:ByteArray),gamehallref2_strip.l0 k x0=some r→GoodL Tryz.prog n0 125 K (headAt (fnT Tryz.f125) 1) (rstrip_s1_1 s x0)):=by
 intro k
 induction k using Nat.strongRecOn with
 | _ k ih =>
   intro x0 h
   rcases k with _ | k
   · cases h
   have ih0:=ih k (by omega)
   rw [gamehallref2_strip.l0.eq_2] at h
   refine roundN (by kernel_rfl) con0_ok (inl:=[]) (LT:=rstrip_live) (NT:=rstrip_nils) ?_
   rw [rstrip_s1_1_E]
   try simp only [w64i,rd,bytesOf,gp_bytes.f,gp_make0_61.f,gp_make0_63.f,bt_get,Option.bind_some,decide_eq_true_eq,Bool.false_eq_true,beq_iff_eq,if_false,if_true,Int.toNat_zero] at h
   try delta strOfNums at h
   try simp only [u32w,u8w,emod1,emod2,emod3,emod4,emod5,tmodN,tdivN,List.length_singleton,List.drop_zero,Nat.sub_zero,Int.toNat_natCast,List.take_length,listE,list48]
   repeat' first | (split at h) | (rw [Option.bind_eq_some_iff] at h; obtain ⟨t,ht,h⟩:=h; try (with_reducible cases ht))
   all_goals try (with_reducible cases h)
   all_goals repeat' first | (with_reducible refine bif_pos (by assumption) ?_) | (with_reducible refine bif_neg (by assumption) ?_) | (with_reducible refine bif_t (by assumption) ?_) | (with_reducible refine bif_f (by assumption) ?_) | (with_reducible refine bif_and ?_) | (with_reducible refine bif_tt ?_) | (with_reducible refine bif_ff ?_) | (with_reducible refine bif_cc ?_) | (with_reducible refine bif_not ?_) | (with_reducible refine bif_eqL (by assumption) ?_) | (with_reducible refine bif_neL (by assumption) ?_) | (with_reducible refine bif_pos (by omega) ?_) | (with_reducible refine bif_neg (by omega) ?_) | (with_reducible refine bif_ble (by omega) ?_) | (with_reducible refine bif_beq (by omega) ?_) | (with_reducible refine bif_blt (by omega) ?_) | (with_reducible exact ih0 _ (by assumption)) | (with_reducible exact hK _) | (with_reducible refine And.intro trivial ?_) | (with_reducible refine ⟨_,_,by assumption,?_⟩) | (with_reducible refine ⟨_,by assumption,?_⟩)
theorem rstrip_con {s:ByteArray} {Q:Res} (h:rstrip s Q):Con Tryz.prog 125 [.str s] Q:=by
 obtain ⟨k,r,hf,hq⟩:=h
 refine conN (gn:=fnT Tryz.f125) (by kernel_rfl) con0_ok (inl:=[]) (LT:=rstrip_live) (NT:=rstrip_nils) rfl fun n0=>?_
 rw [rstrip_E]
 exact rstrip_w (s:=s) r (fun H=>res_plain hq rfl rfl) k s hf
theorem conR0_ok : ∀ g xs Q,conR0 g xs Q→Con Tryz.prog g xs Q:=table_ok fun p hp=>by
 simp only [List.mem_cons,List.not_mem_nil,or_false] at hp
 subst hp
 exact c1_ok fun _ _ h=>rstrip_con h
theorem rdig_con {s:ByteArray} {n:Int} {Q:Res} (h:rdigit s n Q):Con Tryz.prog 97 [.str s, .int .i64 n] Q:=by
 obtain ⟨r,h,hq⟩:=h
 have hK:∀ H,resK Q (.int .i64 r) H:=fun H=>res_plain hq rfl rfl
 refine conN (gn:=fnT Tryz.f97) (by kernel_rfl) con0_ok (inl:=[]) (LT:=rdig_live) (NT:=rdig_nils) rfl fun n0=>?_
 unfold gamehallref2_digit.f at h
 rw [rdig_E]
 try simp only [w64i,rd,bytesOf,gp_bytes.f,gp_make0_61.f,gp_make0_63.f,bt_get,Option.bind_some,decide_eq_true_eq,Bool.false_eq_true,beq_iff_eq,if_false,if_true,Int.toNat_zero] at h
 try delta strOfNums at h
 try simp only [u32w,u8w,emod1,emod2,emod3,emod4,emod5,tmodN,tdivN,List.length_singleton,List.drop_zero,Nat.sub_zero,Int.toNat_natCast,List.take_length,listE,list48]
 repeat' first | (split at h) | (rw [Option.bind_eq_some_iff] at h; obtain ⟨t,ht,h⟩:=h; try (with_reducible cases ht))
 all_goals try (with_reducible cases h)
 all_goals repeat' first | (with_reducible refine bif_pos (by assumption) ?_) | (with_reducible refine bif_neg (by assumption) ?_) | (with_reducible refine bif_t (by assumption) ?_) | (with_reducible refine bif_f (by assumption) ?_) | (with_reducible refine bif_and ?_) | (with_reducible refine bif_tt ?_) | (with_reducible refine bif_ff ?_) | (with_reducible refine bif_cc ?_) | (with_reducible refine bif_not ?_) | (with_reducible refine bif_eqL (by assumption) ?_) | (with_reducible refine bif_neL (by assumption) ?_) | (with_reducible refine bif_pos (by omega) ?_) | (with_reducible refine bif_neg (by omega) ?_) | (with_reducible refine bif_ble (by omega) ?_) | (with_reducible refine bif_beq (by omega) ?_) | (with_reducible refine bif_blt (by omega) ?_) | (with_reducible exact hK _) | (with_reducible refine And.intro trivial ?_) | (with_reducible refine ⟨_,_,by assumption,?_⟩) | (with_reducible refine ⟨_,by assumption,?_⟩)
theorem rcmp_con {a b:ByteArray} {Q:Res} (h:rcmpN a b Q):Con Tryz.prog 115 [.str a, .str b] Q:=by
 obtain ⟨r,h,hq⟩:=h
 have hK:∀ H,resK Q (.int .i64 r) H:=fun H=>res_plain hq rfl rfl
 refine conN (gn:=fnT Tryz.f115) (by kernel_rfl) con0_ok (inl:=[]) (LT:=rcmp_live) (NT:=rcmp_nils) rfl fun n0=>?_
 unfold gamehallref2_NatCmp.f at h
 rw [rcmp_E]
 repeat' (split at h)
 all_goals try (with_reducible cases h)
 all_goals repeat' first | (with_reducible refine bif_pos (by assumption) ?_) | (with_reducible refine bif_neg (by assumption) ?_) | (with_reducible refine bif_t (by assumption) ?_) | (with_reducible refine bif_f (by assumption) ?_) | (with_reducible refine bif_and ?_) | (with_reducible refine bif_tt ?_) | (with_reducible refine bif_ff ?_) | (with_reducible refine bif_cc ?_) | (with_reducible refine bif_not ?_) | (with_reducible refine bif_eqL (by assumption) ?_) | (with_reducible refine bif_neL (by assumption) ?_) | (with_reducible refine bif_pos (by omega) ?_) | (with_reducible refine bif_neg (by omega) ?_) | (with_reducible refine bif_ble (by omega) ?_) | (with_reducible refine bif_beq (by omega) ?_) | (with_reducible refine bif_blt (by omega) ?_) | (with_reducible exact hK _) | (with_reducible refine And.intro trivial ?_) | (with_reducible refine ⟨_,_,by assumption,?_⟩) | (with_reducible refine ⟨_,by assumption,?_⟩)
theorem rtext_w {l:List Int} {n0:Nat} {K:Res} (r:ByteArray) (hK:∀ H,K (.str r) H):∀ k:Nat,
 (∀ (x3:List Int) (x10 x11:Int),gamehallref2_text.l0 k l x3 l x10 x11=some r→GoodL Tryz.prog n0 98 K (headAt (fnT Tryz.f98) 3) (rtext_s3_0 l x10 x11 x3)):=by
 intro k
 induction k using Nat.strongRecOn with
 | _ k ih =>
   intro x3 x10 x11 h
   rcases k with _ | k
   · cases h
   have ih0:=ih k (by omega)
   rw [gamehallref2_text.l0.eq_2] at h
   refine roundN (by kernel_rfl) conR0_ok (inl:=[]) (LT:=rtext_live) (NT:=rtext_nils) ?_
   rw [rtext_s3_0_E]
   try simp only [w64i,rd,bytesOf,gp_bytes.f,gp_make0_61.f,gp_make0_63.f,bt_get,Option.bind_some,decide_eq_true_eq,Bool.false_eq_true,beq_iff_eq,if_false,if_true,Int.toNat_zero] at h
   try delta strOfNums at h
   try simp only [u32w,u8w,emod1,emod2,emod3,emod4,emod5,tmodN,tdivN,List.length_singleton,List.drop_zero,Nat.sub_zero,Int.toNat_natCast,List.take_length,listE,list48]
   repeat' first | (split at h) | (rw [Option.bind_eq_some_iff] at h; obtain ⟨t,ht,h⟩:=h; try (with_reducible cases ht))
   all_goals try (with_reducible cases h)
   all_goals repeat' first | (with_reducible refine bif_pos (by assumption) ?_) | (with_reducible refine bif_neg (by assumption) ?_) | (with_reducible refine bif_t (by assumption) ?_) | (with_reducible refine bif_f (by assumption) ?_) | (with_reducible refine bif_and ?_) | (with_reducible refine bif_tt ?_) | (with_reducible refine bif_ff ?_) | (with_reducible refine bif_cc ?_) | (with_reducible refine bif_not ?_) | (with_reducible refine bif_eqL (by assumption) ?_) | (with_reducible refine bif_neL (by assumption) ?_) | (with_reducible refine bif_pos (by omega) ?_) | (with_reducible refine bif_neg (by omega) ?_) | (with_reducible refine bif_ble (by omega) ?_) | (with_reducible refine bif_beq (by omega) ?_) | (with_reducible refine bif_blt (by omega) ?_) | (with_reducible exact ih0 _ _ _ (by assumption)) | (with_reducible exact hK _) | (with_reducible refine And.intro trivial ?_) | (with_reducible refine ⟨_,_,by assumption,?_⟩) | (with_reducible refine ⟨_,by assumption,?_⟩)
theorem rtext_con {l:List Int} {Q:Res} (h:rtextN l Q):Con Tryz.prog 98 [.imm eI l] Q:=by
 obtain ⟨k,r,hf,hq⟩:=h
 refine conN (gn:=fnT Tryz.f98) (by kernel_rfl) conR0_ok (inl:=[]) (LT:=rtext_live) (NT:=rtext_nils) rfl fun n0=>?_
 rw [rtext_E]
 unfold gamehallref2_text.f at hf
 dsimp only at hf
 split at hf
 · split at hf
   · rename_i h0 h1
     refine bif_and (bif_and (bif_pos h0 (bif_pos (Int.le_refl _) (bif_cc (bif_ble (by omega) (bif_ble (by omega) ?_))))))
     exact rtext_w r (fun H=>res_plain hq rfl rfl) k _ _ _ hf
   · cases hf
 · cases hf
theorem conR2_ok : ∀ g xs Q,conR2 g xs Q→Con Tryz.prog g xs Q:=table_ok fun p hp=>by
 simp only [List.mem_cons,List.not_mem_nil,or_false] at hp
 rcases hp with rfl | rfl
 · exact c2_ok fun _ _ _ h=>rdig_con h
 · exact c1_ok fun _ _ h=>rtext_con h
theorem radd_w {a b:ByteArray} {n0:Nat} {K:Res} (r:ByteArray) (hK:∀ H,K (.str r) H):∀ (k:Nat) (x5:List Int) (x6 x7:Int),gamehallref2_NatAdd.l0 k a b x5 x6 x7=some r→GoodL Tryz.prog n0 114 K (headAt (fnT Tryz.f114) 4) (radd_s4_0 a b x6 x7 x5):=by
 intro k
 induction k using Nat.strongRecOn with
 | _ k ih =>
   intro x5 x6 x7 h
   rcases k with _ | k
   · cases h
   rw [gamehallref2_NatAdd.l0.eq_2] at h
   refine roundN (by kernel_rfl) conR2_ok (inl:=[]) (LT:=radd_live) (NT:=radd_nils) ?_
   rw [radd_s4_0_E]
   try simp only [w64i,rd,bytesOf,gp_bytes.f,gp_make0_61.f,gp_make0_63.f,bt_get,Option.bind_some,decide_eq_true_eq,Bool.false_eq_true,beq_iff_eq,if_false,if_true,Int.toNat_zero] at h
   try simp only [u32w,u8w,emod1,emod2,emod3,emod4,emod5,tmodN,tdivN,List.length_singleton,List.drop_zero,Nat.sub_zero,Int.toNat_natCast,List.take_length,listE,list48]
   repeat' first | (split at h) | (rw [Option.bind_eq_some_iff] at h; obtain ⟨t,ht,h⟩:=h; try (with_reducible cases ht))
   all_goals try (with_reducible cases h)
   all_goals rcases k with _ | k
   all_goals try (cases h; done)
   all_goals rw [gamehallref2_NatAdd.j1.eq_2] at h
   all_goals try simp only [w64i,rd,bytesOf,gp_bytes.f,gp_make0_61.f,gp_make0_63.f,bt_get,Option.bind_some,decide_eq_true_eq,Bool.false_eq_true,beq_iff_eq,if_false,if_true,Int.toNat_zero] at h
   all_goals repeat' first | (split at h) | (rw [Option.bind_eq_some_iff] at h; obtain ⟨t,ht,h⟩:=h; try (with_reducible cases ht))
   all_goals try (with_reducible cases h)
   all_goals repeat' first | (with_reducible refine bif_pos (by assumption) ?_) | (with_reducible refine bif_neg (by assumption) ?_) | (with_reducible refine bif_t (by assumption) ?_) | (with_reducible refine bif_f (by assumption) ?_) | (with_reducible refine bif_and ?_) | (with_reducible refine bif_tt ?_) | (with_reducible refine bif_ff ?_) | (with_reducible refine bif_cc ?_) | (with_reducible refine bif_not ?_) | (with_reducible refine bif_eqL (by assumption) ?_) | (with_reducible refine bif_neL (by assumption) ?_) | (with_reducible refine bif_pos (by omega) ?_) | (with_reducible refine bif_neg (by omega) ?_) | (with_reducible refine bif_ble (by omega) ?_) | (with_reducible refine bif_beq (by omega) ?_) | (with_reducible refine bif_blt (by omega) ?_) | (with_reducible exact ih k (by omega) _ _ _ (by assumption)) | (with_reducible exact hK _) | (with_reducible refine And.intro trivial ?_) | (with_reducible refine ⟨_,_,by assumption,?_⟩) | (with_reducible refine ⟨_,by assumption,?_⟩)
theorem radd_con {a b:ByteArray} {Q:Res} (h:raddN a b Q):Con Tryz.prog 114 [.str a, .str b] Q:=by
 obtain ⟨k,r,hf,hq⟩:=h
 refine conN (gn:=fnT Tryz.f114) (by kernel_rfl) conR2_ok (inl:=[]) (LT:=radd_live) (NT:=radd_nils) rfl fun n0=>?_
 rw [radd_E]
 exact radd_w r (fun H=>res_plain hq rfl rfl) k _ _ _ hf
theorem rsub_w {a b:ByteArray} {n0:Nat} {K:Res} (r:ByteArray) (hK:∀ H,K (.str r) H):∀ k:Nat,
 (∀ (x5:List Int) (x6 x10 x11:Int),gamehallref2_NatSub.l0 k a b x5 x6 x10 x11=some r→GoodL Tryz.prog n0 116 K (headAt (fnT Tryz.f116) 4) (rsub_s4_0 a b x6 x10 x11 x5)):=by
 intro k
 induction k using Nat.strongRecOn with
 | _ k ih =>
   intro x5 x6 x10 x11 h
   rcases k with _ | k
   · cases h
   have ih0:=ih k (by omega)
   rw [gamehallref2_NatSub.l0.eq_2] at h
   refine roundN (by kernel_rfl) conR2_ok (inl:=[]) (LT:=rsub_live) (NT:=rsub_nils) ?_
   rw [rsub_s4_0_E]
   try simp only [w64i,rd,bytesOf,gp_bytes.f,gp_make0_61.f,gp_make0_63.f,bt_get,Option.bind_some,decide_eq_true_eq,Bool.false_eq_true,beq_iff_eq,if_false,if_true,Int.toNat_zero] at h
   try delta strOfNums at h
   try simp only [u32w,u8w,emod1,emod2,emod3,emod4,emod5,tmodN,tdivN,List.length_singleton,List.drop_zero,Nat.sub_zero,Int.toNat_natCast,List.take_length,listE,list48]
   repeat' first | (split at h) | (rw [Option.bind_eq_some_iff] at h; obtain ⟨t,ht,h⟩:=h; try (with_reducible cases ht))
   all_goals try (with_reducible cases h)
   all_goals repeat' first | (with_reducible refine bif_pos (by assumption) ?_) | (with_reducible refine bif_neg (by assumption) ?_) | (with_reducible refine bif_t (by assumption) ?_) | (with_reducible refine bif_f (by assumption) ?_) | (with_reducible refine bif_and ?_) | (with_reducible refine bif_tt ?_) | (with_reducible refine bif_ff ?_) | (with_reducible refine bif_cc ?_) | (with_reducible refine bif_not ?_) | (with_reducible refine bif_eqL (by assumption) ?_) | (with_reducible refine bif_neL (by assumption) ?_) | (with_reducible refine bif_pos (by omega) ?_) | (with_reducible refine bif_neg (by omega) ?_) | (with_reducible refine bif_ble (by omega) ?_) | (with_reducible refine bif_beq (by omega) ?_) | (with_reducible refine bif_blt (by omega) ?_) | (with_reducible exact ih0 _ _ _ _ (by assumption)) | (with_reducible exact hK _) | (with_reducible refine And.intro trivial ?_) | (with_reducible refine ⟨_,_,by assumption,?_⟩) | (with_reducible refine ⟨_,by assumption,?_⟩)
theorem rsub_con {a b:ByteArray} {Q:Res} (h:rsubN a b Q):Con Tryz.prog 116 [.str a, .str b] Q:=by
 obtain ⟨k,r,hf,hq⟩:=h
 refine conN (gn:=fnT Tryz.f116) (by kernel_rfl) conR2_ok (inl:=[]) (LT:=rsub_live) (NT:=rsub_nils) rfl fun n0=>?_
 rw [rsub_E]
 exact rsub_w r (fun H=>res_plain hq rfl rfl) k _ _ _ _ hf
theorem conR3_ok : ∀ g xs Q,conR3 g xs Q→Con Tryz.prog g xs Q:=table_ok fun p hp=>by
 simp only [List.mem_cons,List.not_mem_nil,or_false] at hp
 rcases hp with rfl | rfl | rfl
 · exact c1_ok fun _ _ h=>rstrip_con h
 · exact c2_ok fun _ _ _ h=>rcmp_con h
 · exact c2_ok fun _ _ _ h=>rsub_con h
theorem rmul_w {a b:ByteArray} {n0:Nat} {K:Res} (r:ByteArray) (hK:∀ H,K (.str r) H):∀ k:Nat,
 (∀ (x5:List Int) (x18 x19:Int),gamehallref2_NatMul.l0 k a b x5 x18 x19=some r→GoodL Tryz.prog n0 64 K (headAt (fnT Tryz.f64) 3) (rmul_s3_0 a b x18 x19 x5)) ∧
 (∀ (x5:List Int) (x6 x7 x18 x19 x26 x27:Int),gamehallref2_NatMul.l1 k a b x5 x6 x7 x18 x19 x26 x27=some r→GoodL Tryz.prog n0 64 K (headAt (fnT Tryz.f64) 7) (rmul_s7_0 a b x6 x7 x18 x19 x26 x27 x5)) ∧
 (∀ (x5:List Int) (x18 x19 x49 x50:Int),gamehallref2_NatMul.l2 k a b x5 x18 x19 x49 x50=some r→GoodL Tryz.prog n0 64 K (headAt (fnT Tryz.f64) 12) (rmul_s12_0 a b x18 x19 x49 x50 x5)):=by
 intro k
 induction k using Nat.strongRecOn with
 | _ k ih =>
   refine ⟨?_,?_,?_⟩
   · skip
     intro x5 x18 x19 h
     rcases k with _ | k
     · cases h
     have ih0:=ih k (by omega)
     rw [gamehallref2_NatMul.l0.eq_2] at h
     refine roundN (by kernel_rfl) conR2_ok (inl:=[]) (LT:=rmul_live) (NT:=rmul_nils) ?_
     rw [rmul_s3_0_E]
     try simp only [w64i,rd,bytesOf,gp_bytes.f,gp_make0_61.f,gp_make0_63.f,bt_get,Option.bind_some,decide_eq_true_eq,Bool.false_eq_true,beq_iff_eq,if_false,if_true,Int.toNat_zero] at h
     try delta strOfNums at h
     try simp only [u32w,u8w,emod1,emod2,emod3,emod4,emod5,tmodN,tdivN,List.length_singleton,List.drop_zero,Nat.sub_zero,Int.toNat_natCast,List.take_length,listE,list48,List.length_set]
     repeat' first | (split at h) | (rw [Option.bind_eq_some_iff] at h; obtain ⟨t,ht,h⟩:=h; try (with_reducible cases ht))
     all_goals try (with_reducible cases h)
     all_goals try rw [takelen (by omega)] at h
     all_goals repeat' first | (with_reducible refine bif_pos (by assumption) ?_) | (with_reducible refine bif_neg (by assumption) ?_) | (with_reducible refine bif_t (by assumption) ?_) | (with_reducible refine bif_f (by assumption) ?_) | (with_reducible refine bif_and ?_) | (with_reducible refine bif_tt ?_) | (with_reducible refine bif_ff ?_) | (with_reducible refine bif_cc ?_) | (with_reducible refine bif_not ?_) | (with_reducible refine bif_eqL (by assumption) ?_) | (with_reducible refine bif_neL (by assumption) ?_) | (with_reducible refine bif_pos (by omega) ?_) | (with_reducible refine bif_neg (by omega) ?_) | (with_reducible refine bif_ble (by omega) ?_) | (with_reducible refine bif_beq (by omega) ?_) | (with_reducible refine bif_blt (by omega) ?_) | (with_reducible exact ih0.1 _ _ _ (by assumption)) | (with_reducible exact ih0.2.1 _ _ _ _ _ _ _ (by assumption)) | (with_reducible exact ih0.2.2 _ _ _ _ _ (by assumption)) | (with_reducible exact hK _) | (with_reducible refine And.intro trivial ?_) | (with_reducible refine ⟨_,_,by assumption,?_⟩) | (with_reducible refine ⟨_,by assumption,?_⟩)
   · skip
     intro x5 x6 x7 x18 x19 x26 x27 h
     rcases k with _ | k
     · cases h
     have ih0:=ih k (by omega)
     rw [gamehallref2_NatMul.l1.eq_2] at h
     refine roundN (by kernel_rfl) conR2_ok (inl:=[]) (LT:=rmul_live) (NT:=rmul_nils) ?_
     rw [rmul_s7_0_E]
     try simp only [w64i,rd,bytesOf,gp_bytes.f,gp_make0_61.f,gp_make0_63.f,bt_get,Option.bind_some,decide_eq_true_eq,Bool.false_eq_true,beq_iff_eq,if_false,if_true,Int.toNat_zero] at h
     try delta strOfNums at h
     try simp only [u32w,u8w,emod1,emod2,emod3,emod4,emod5,tmodN,tdivN,List.length_singleton,List.drop_zero,Nat.sub_zero,Int.toNat_natCast,List.take_length,listE,list48,List.length_set]
     repeat' first | (split at h) | (rw [Option.bind_eq_some_iff] at h; obtain ⟨t,ht,h⟩:=h; try (with_reducible cases ht))
     all_goals try (with_reducible cases h)
     all_goals try rw [takelen (by omega)] at h
     all_goals repeat' first | (with_reducible refine bif_pos (by assumption) ?_) | (with_reducible refine bif_neg (by assumption) ?_) | (with_reducible refine bif_t (by assumption) ?_) | (with_reducible refine bif_f (by assumption) ?_) | (with_reducible refine bif_and ?_) | (with_reducible refine bif_tt ?_) | (with_reducible refine bif_ff ?_) | (with_reducible refine bif_cc ?_) | (with_reducible refine bif_not ?_) | (with_reducible refine bif_eqL (by assumption) ?_) | (with_reducible refine bif_neL (by assumption) ?_) | (with_reducible refine bif_pos (by omega) ?_) | (with_reducible refine bif_neg (by omega) ?_) | (with_reducible refine bif_ble (by omega) ?_) | (with_reducible refine bif_beq (by omega) ?_) | (with_reducible refine bif_blt (by omega) ?_) | (with_reducible exact ih0.1 _ _ _ (by assumption)) | (with_reducible exact ih0.2.1 _ _ _ _ _ _ _ (by assumption)) | (with_reducible exact ih0.2.2 _ _ _ _ _ (by assumption)) | (with_reducible exact hK _) | (with_reducible refine And.intro trivial ?_) | (with_reducible refine ⟨_,_,by assumption,?_⟩) | (with_reducible refine ⟨_,by assumption,?_⟩)
   · skip
     intro x5 x18 x19 x49 x50 h
     rcases k with _ | k
     · cases h
     have ih0:=ih k (by omega)
     rw [gamehallref2_NatMul.l2.eq_2] at h
     refine roundN (by kernel_rfl) conR2_ok (inl:=[]) (LT:=rmul_live) (NT:=rmul_nils) ?_
     rw [rmul_s12_0_E]
     try simp only [w64i,rd,bytesOf,gp_bytes.f,gp_make0_61.f,gp_make0_63.f,bt_get,Option.bind_some,decide_eq_true_eq,Bool.false_eq_true,beq_iff_eq,if_false,if_true,Int.toNat_zero] at h
     try delta strOfNums at h
     try simp only [u32w,u8w,emod1,emod2,emod3,emod4,emod5,tmodN,tdivN,List.length_singleton,List.drop_zero,Nat.sub_zero,Int.toNat_natCast,List.take_length,listE,list48,List.length_set]
     repeat' first | (split at h) | (rw [Option.bind_eq_some_iff] at h; obtain ⟨t,ht,h⟩:=h; try (with_reducible cases ht))
     all_goals try (with_reducible cases h)
     all_goals try rw [takelen (by omega)] at h
     all_goals repeat' first | (with_reducible refine bif_pos (by assumption) ?_) | (with_reducible refine bif_neg (by assumption) ?_) | (with_reducible refine bif_t (by assumption) ?_) | (with_reducible refine bif_f (by assumption) ?_) | (with_reducible refine bif_and ?_) | (with_reducible refine bif_tt ?_) | (with_reducible refine bif_ff ?_) | (with_reducible refine bif_cc ?_) | (with_reducible refine bif_not ?_) | (with_reducible refine bif_eqL (by assumption) ?_) | (with_reducible refine bif_neL (by assumption) ?_) | (with_reducible refine bif_pos (by omega) ?_) | (with_reducible refine bif_neg (by omega) ?_) | (with_reducible refine bif_ble (by omega) ?_) | (with_reducible refine bif_beq (by omega) ?_) | (with_reducible refine bif_blt (by omega) ?_) | (with_reducible exact ih0.1 _ _ _ (by assumption)) | (with_reducible exact ih0.2.1 _ _ _ _ _ _ _ (by assumption)) | (with_reducible exact ih0.2.2 _ _ _ _ _ (by assumption)) | (with_reducible exact hK _) | (with_reducible refine And.intro trivial ?_) | (with_reducible refine ⟨_,_,by assumption,?_⟩) | (with_reducible refine ⟨_,by assumption,?_⟩)
theorem rmul_con {a b:ByteArray} {Q:Res} (h:rmulN a b Q):Con Tryz.prog 64 [.str a, .str b] Q:=by
 obtain ⟨k,r,hf,hq⟩:=h
 refine conN (gn:=fnT Tryz.f64) (by kernel_rfl) conR2_ok (inl:=[]) (LT:=rmul_live) (NT:=rmul_nils) rfl fun n0=>?_
 rw [rmul_E]
 unfold gamehallref2_NatMul.f at hf
 simp only [w64i] at hf
 split at hf
 · split at hf
   · rename_i h0 h1
     refine bif_and (bif_and (bif_pos h0 (bif_pos (Int.le_refl _) (bif_cc (bif_ble (by omega) (bif_ble (by omega) ?_))))))
     exact (rmul_w r (fun H=>res_plain hq rfl rfl) k).1 _ _ _ hf
   · cases hf
 · cases hf
theorem rdiv_w {a b:ByteArray} {n0:Nat} {K:Res} (r:ByteArray × ByteArray) (hK:∀ H,K (.tup [.str r.1, .str r.2]) H):∀ k:Nat,
 (∀ (x7 x8:ByteArray) (x9:Int),gamehallref2_NatDiv.l0 k a b x7 x8 x9=some r→GoodL Tryz.prog n0 96 K (headAt (fnT Tryz.f96) 4) (rdiv_s4_0 a b x7 x8 x9)) ∧
 (∀ (x7 x8:ByteArray) (x9 x10:Int),gamehallref2_NatDiv.l1 k a b x7 x8 x9 x10=some r→GoodL Tryz.prog n0 96 K (headAt (fnT Tryz.f96) 8) (rdiv_s8_0 a b x7 x8 x9 x10)):=by
 intro k
 induction k using Nat.strongRecOn with
 | _ k ih =>
   refine ⟨?_,?_⟩
   · skip
     intro x7 x8 x9 h
     rcases k with _ | k
     · cases h
     have ih0:=ih k (by omega)
     rw [gamehallref2_NatDiv.l0.eq_2] at h
     refine roundN (by kernel_rfl) conR3_ok (inl:=[]) (LT:=rdiv_live) (NT:=rdiv_nils) ?_
     rw [rdiv_s4_0_E]
     try simp only [w64i,rd,bytesOf,gp_bytes.f,gp_make0_61.f,gp_make0_63.f,bt_get,Option.bind_some,decide_eq_true_eq,Bool.false_eq_true,beq_iff_eq,if_false,if_true,Int.toNat_zero] at h
     try delta strOfNums at h
     try simp only [u32w,u8w,emod1,emod2,emod3,emod4,emod5,tmodN,tdivN,List.length_singleton,List.drop_zero,Nat.sub_zero,Int.toNat_natCast,List.take_length,listE,list48]
     repeat' first | (split at h) | (rw [Option.bind_eq_some_iff] at h; obtain ⟨t,ht,h⟩:=h; try (with_reducible cases ht))
     all_goals try (with_reducible cases h)
     all_goals repeat' first | (with_reducible refine bif_pos (by assumption) ?_) | (with_reducible refine bif_neg (by assumption) ?_) | (with_reducible refine bif_t (by assumption) ?_) | (with_reducible refine bif_f (by assumption) ?_) | (with_reducible refine bif_and ?_) | (with_reducible refine bif_tt ?_) | (with_reducible refine bif_ff ?_) | (with_reducible refine bif_cc ?_) | (with_reducible refine bif_not ?_) | (with_reducible refine bif_eqL (by assumption) ?_) | (with_reducible refine bif_neL (by assumption) ?_) | (with_reducible refine bif_pos (by omega) ?_) | (with_reducible refine bif_neg (by omega) ?_) | (with_reducible refine bif_ble (by omega) ?_) | (with_reducible refine bif_beq (by omega) ?_) | (with_reducible refine bif_blt (by omega) ?_) | (with_reducible exact ih0.1 _ _ _ (by assumption)) | (with_reducible exact ih0.2 _ _ _ _ (by assumption)) | (with_reducible exact hK _) | (with_reducible refine And.intro trivial ?_) | (with_reducible refine ⟨_,_,by assumption,?_⟩) | (with_reducible refine ⟨_,by assumption,?_⟩)
   · skip
     intro x7 x8 x9 x10 h
     rcases k with _ | k
     · cases h
     have ih0:=ih k (by omega)
     rw [gamehallref2_NatDiv.l1.eq_2] at h
     refine roundN (by kernel_rfl) conR3_ok (inl:=[]) (LT:=rdiv_live) (NT:=rdiv_nils) ?_
     rw [rdiv_s8_0_E]
     try simp only [w64i,rd,bytesOf,gp_bytes.f,gp_make0_61.f,gp_make0_63.f,bt_get,Option.bind_some,decide_eq_true_eq,Bool.false_eq_true,beq_iff_eq,if_false,if_true,Int.toNat_zero] at h
     try delta strOfNums at h
     try simp only [u32w,u8w,emod1,emod2,emod3,emod4,emod5,tmodN,tdivN,List.length_singleton,List.drop_zero,Nat.sub_zero,Int.toNat_natCast,List.take_length,listE,list48]
     repeat' first | (split at h) | (rw [Option.bind_eq_some_iff] at h; obtain ⟨t,ht,h⟩:=h; try (with_reducible cases ht))
     all_goals try (with_reducible cases h)
     all_goals repeat' first | (with_reducible refine bif_pos (by assumption) ?_) | (with_reducible refine bif_neg (by assumption) ?_) | (with_reducible refine bif_t (by assumption) ?_) | (with_reducible refine bif_f (by assumption) ?_) | (with_reducible refine bif_and ?_) | (with_reducible refine bif_tt ?_) | (with_reducible refine bif_ff ?_) | (with_reducible refine bif_cc ?_) | (with_reducible refine bif_not ?_) | (with_reducible refine bif_eqL (by assumption) ?_) | (with_reducible refine bif_neL (by assumption) ?_) | (with_reducible refine bif_pos (by omega) ?_) | (with_reducible refine bif_neg (by omega) ?_) | (with_reducible refine bif_ble (by omega) ?_) | (with_reducible refine bif_beq (by omega) ?_) | (with_reducible refine bif_blt (by omega) ?_) | (with_reducible exact ih0.1 _ _ _ (by assumption)) | (with_reducible exact ih0.2 _ _ _ _ (by assumption)) | (with_reducible exact hK _) | (with_reducible refine And.intro trivial ?_) | (with_reducible refine ⟨_,_,by assumption,?_⟩) | (with_reducible refine ⟨_,by assumption,?_⟩)
theorem rdiv_con {a b:ByteArray} {Q:Res} (h:rdivN a b Q):Con Tryz.prog 96 [.str a, .str b] Q:=by
 obtain ⟨k,r,h,hq⟩:=h
 have hK:∀ H,resK Q (.tup [.str r.1, .str r.2]) H:=fun H=>res_plain hq rfl rfl
 refine conN (gn:=fnT Tryz.f96) (by kernel_rfl) conR3_ok (inl:=[]) (LT:=rdiv_live) (NT:=rdiv_nils) rfl fun n0=>?_
 unfold gamehallref2_NatDiv.f at h
 dsimp only at h
 rw [rdiv_E]
 try simp only [w64i,rd,bytesOf,gp_bytes.f,gp_make0_61.f,gp_make0_63.f,bt_get,Option.bind_some,decide_eq_true_eq,Bool.false_eq_true,beq_iff_eq,if_false,if_true,Int.toNat_zero] at h
 try delta strOfNums at h
 try simp only [u32w,u8w,emod1,emod2,emod3,emod4,emod5,tmodN,tdivN,List.length_singleton,List.drop_zero,Nat.sub_zero,Int.toNat_natCast,List.take_length,listE,list48]
 repeat' first | (split at h) | (rw [Option.bind_eq_some_iff] at h; obtain ⟨t,ht,h⟩:=h; try (with_reducible cases ht))
 all_goals try (with_reducible cases h)
 all_goals repeat' first | (with_reducible refine bif_pos (by assumption) ?_) | (with_reducible refine bif_neg (by assumption) ?_) | (with_reducible refine bif_t (by assumption) ?_) | (with_reducible refine bif_f (by assumption) ?_) | (with_reducible refine bif_and ?_) | (with_reducible refine bif_tt ?_) | (with_reducible refine bif_ff ?_) | (with_reducible refine bif_cc ?_) | (with_reducible refine bif_not ?_) | (with_reducible refine bif_eqL (by assumption) ?_) | (with_reducible refine bif_neL (by assumption) ?_) | (with_reducible refine bif_pos (by omega) ?_) | (with_reducible refine bif_neg (by omega) ?_) | (with_reducible refine bif_ble (by omega) ?_) | (with_reducible refine bif_beq (by omega) ?_) | (with_reducible refine bif_blt (by omega) ?_) | (with_reducible exact (rdiv_w r hK k).1 _ _ _ (by assumption)) | (with_reducible refine And.intro trivial ?_) | (with_reducible refine ⟨_,_,by assumption,?_⟩) | (with_reducible refine ⟨_,by assumption,?_⟩)
theorem conR4_ok : ∀ g xs Q,conR4 g xs Q→Con Tryz.prog g xs Q:=table_ok fun p hp=>by
 simp only [List.mem_cons,List.not_mem_nil,or_false] at hp
 subst hp
 exact c2_ok fun _ _ _ h=>rdiv_con h
theorem rgcd_w {a b:ByteArray} {n0:Nat} {K:Res} (r:ByteArray) (hK:∀ H,K (.str r) H):∀ k:Nat,
 (∀ (x0 x1:ByteArray),gamehallref2_NatGcd.l0 k x0 x1=some r→GoodL Tryz.prog n0 95 K (headAt (fnT Tryz.f95) 1) (rgcd_s1_2 a b x0 x1)):=by
 intro k
 induction k using Nat.strongRecOn with
 | _ k ih =>
   intro x0 x1 h
   rcases k with _ | k
   · cases h
   have ih0:=ih k (by omega)
   rw [gamehallref2_NatGcd.l0.eq_2] at h
   refine roundN (by kernel_rfl) conR4_ok (inl:=[]) (LT:=rgcd_live) (NT:=rgcd_nils) ?_
   rw [rgcd_s1_2_E]
   try simp only [w64i,rd,bytesOf,gp_bytes.f,gp_make0_61.f,gp_make0_63.f,bt_get,Option.bind_some,decide_eq_true_eq,Bool.false_eq_true,beq_iff_eq,if_false,if_true,Int.toNat_zero] at h
   try delta strOfNums at h
   try simp only [u32w,u8w,emod1,emod2,emod3,emod4,emod5,tmodN,tdivN,List.length_singleton,List.drop_zero,Nat.sub_zero,Int.toNat_natCast,List.take_length,listE,list48]
   repeat' first | (split at h) | (rw [Option.bind_eq_some_iff] at h; obtain ⟨t,ht,h⟩:=h; try (with_reducible cases ht))
   all_goals try (with_reducible cases h)
   all_goals repeat' first | (with_reducible refine bif_pos (by assumption) ?_) | (with_reducible refine bif_neg (by assumption) ?_) | (with_reducible refine bif_t (by assumption) ?_) | (with_reducible refine bif_f (by assumption) ?_) | (with_reducible refine bif_and ?_) | (with_reducible refine bif_tt ?_) | (with_reducible refine bif_ff ?_) | (with_reducible refine bif_cc ?_) | (with_reducible refine bif_not ?_) | (with_reducible refine bif_eqL (by assumption) ?_) | (with_reducible refine bif_neL (by assumption) ?_) | (with_reducible refine bif_pos (by omega) ?_) | (with_reducible refine bif_neg (by omega) ?_) | (with_reducible refine bif_ble (by omega) ?_) | (with_reducible refine bif_beq (by omega) ?_) | (with_reducible refine bif_blt (by omega) ?_) | (with_reducible exact ih0 _ _ (by assumption)) | (with_reducible exact hK _) | (with_reducible refine And.intro trivial ?_) | (with_reducible refine ⟨_,_,by assumption,?_⟩) | (with_reducible refine ⟨_,by assumption,?_⟩)
theorem rgcd_con {a b:ByteArray} {Q:Res} (h:rgcdN a b Q):Con Tryz.prog 95 [.str a, .str b] Q:=by
 obtain ⟨k,r,hf,hq⟩:=h
 refine conN (gn:=fnT Tryz.f95) (by kernel_rfl) conR4_ok (inl:=[]) (LT:=rgcd_live) (NT:=rgcd_nils) rfl fun n0=>?_
 rw [rgcd_E]
 exact rgcd_w (a:=a) (b:=b) r (fun H=>res_plain hq rfl rfl) k a b hf
theorem rerr_w {s:ByteArray} {n0:Nat} {K:Res} (r:Int) (hK:∀ H,K (.int .i64 r) H):∀ (k:Nat) (x3:Int),gamehallref2_NatError.l0 k s x3=some r→GoodL Tryz.prog n0 133 K (headAt (fnT Tryz.f133) 4) (rerr_s4_0 s x3):=by
 intro k
 induction k using Nat.strongRecOn with
 | _ k ih =>
   intro x3 h
   rcases k with _ | k
   · cases h
   rw [gamehallref2_NatError.l0.eq_2] at h
   refine roundN (by kernel_rfl) con0_ok (inl:=[]) (LT:=rerr_live) (NT:=rerr_nils) ?_
   rw [rerr_s4_0_E]
   have j1:∀ b,gamehallref2_NatError.j1 k s b=some r→(b=true∧r=5)∨(b=false∧r=if (s.size:Int) > 2000 then 2 else 0):=by
     intro b h
     rcases k with _ | k
     · cases h
     rw [gamehallref2_NatError.j1.eq_2] at h
     cases b with
     | true=>rw [if_pos rfl] at h; exact Or.inl ⟨rfl,(Option.some.inj h).symm⟩
     | false =>
       rw [if_neg (by decide)] at h
       refine Or.inr ⟨rfl,?_⟩
       split at h
       · rename_i h0; rw [if_pos h0]; exact (Option.some.inj h).symm
       · rename_i h0; rw [if_neg h0]; exact (Option.some.inj h).symm
   have fin:(r=if (s.size:Int) > 2000 then 2 else 0)→∀ H,bif decide ((s.size:Int) > 2000) then K (.int .i64 2) H else K (.int .i64 0) H:=fun hr H=>by
     by_cases h0:(s.size:Int) > 2000
     · rw [if_pos h0] at hr; subst hr; exact bif_pos h0 (hK _)
     · rw [if_neg h0] at hr; subst hr; exact bif_neg h0 (hK _)
   simp only [w64i,bt_get,Int.toNat_zero] at h
   split at h
   · rename_i h0
     refine bif_pos h0 ?_
     split at h
     · rename_i h1
       refine bif_and (bif_pos h1 (bif_pos h0 ?_))
       split at h
       · rename_i h2; cases h; exact bif_pos h2 (hK _)
       · rename_i h2
         refine bif_neg h2 (bif_and (bif_pos h1 (bif_pos h0 (bif_cc (bif_ff ?_)))))
         split at h
         · rename_i h3; cases h; exact bif_pos h3 (hK _)
         · rename_i h3; exact bif_neg h3 (ih k (by omega) _ h)
     · cases h
   · rename_i h0
     refine bif_neg h0 ?_
     split at h
     · rename_i h1
       refine bif_pos h1 ?_
       split at h
       · rename_i h2
         refine bif_pos h2 (bif_cc (bif_tt ?_))
         rcases j1 _ h with ⟨hb,hr⟩ | ⟨hb,hr⟩
         · have hb' := eq_of_beq hb
           subst hr
           exact bif_pos hb' (hK _)
         · have hb' : ¬ ((s.data.toList.getD 0 0).toNat:Int)=48:=fun e=>by
            have:(((s.data.toList.getD 0 0).toNat:Int) == 48)=true:=beq_iff_eq.2 e
            rw [this] at hb
            cases hb
           exact bif_neg hb' (fin hr _)
       · cases h
     · rename_i h1
       rcases j1 _ h with ⟨hb,hr⟩ | ⟨hb,hr⟩
       · cases hb
       · exact bif_neg h1 (fin hr _)
theorem rerr_con {s:ByteArray} {Q:Res} (h:rerrN s Q):Con Tryz.prog 133 [.str s] Q:=by
 obtain ⟨k,r,hf,hq⟩:=h
 have hK:∀ H,resK Q (.int .i64 r) H:=fun H=>res_plain hq rfl rfl
 refine conN (gn:=fnT Tryz.f133) (by kernel_rfl) con0_ok (inl:=[]) (LT:=rerr_live) (NT:=rerr_nils) rfl fun n0=>?_
 rw [rerr_E]
 unfold gamehallref2_NatError.f at hf
 dsimp only at hf
 split at hf
 · rename_i h0; cases hf; exact bif_pos h0 (hK _)
 · rename_i h0; exact bif_neg h0 (rerr_w r hK k _ hf)
end
end Go.Proofs.YtnnkjpcipldnfaaGreatDoor.Lib
end
section
namespace Go.Proofs.YtnnkjpcipldnfaaGreatDoor.Aid
open Go.RowKit Go.Proofs.YtnnkjpcipldnfaaGreatDoorW.PrintWords
section
section
variable {α β:Type} {f g:Nat→Option α} {r:α} {c:Prop} [Decidable c]
theorem Ev.yes (h:c) (k:Ev f r):Ev (fun n=>if c then f n else g n) r:=by
 simpa [h] using k
theorem Ev.no (h:¬ c) (k:Ev g r):Ev (fun n=>if c then f n else g n) r:=by
 simpa [h] using k
theorem Ev.ite (h1:c→Ev f r) (h2:¬ c→Ev g r):Ev (fun n=>if c then f n else g n) r:=by
 by_cases h:c
 · exact Ev.yes h (h1 h)
 · exact Ev.no h (h2 h)
theorem Ev.now' {a b:α} (h:a=b):Ev (fun _=>some a) b:=by subst h; exact Ev.now _
theorem Ev.bind1 {g:Nat→Option β} {f:Nat→β→Option α} {a:β} (h:Ev g a) (k:Ev (fun n=>f n a) r):Ev (fun n=>(g n).bind fun x=>f n x) r:=Ev.bind h k
theorem Ev.some_bind {f:Nat→β→Option α} {a:β} (k:Ev (fun n=>f n a) r):Ev (fun n=>(some a).bind fun x=>f n x) r:=k
theorem Ev.opt_bind {o:Option β} {f:Nat→β→Option α} {a:β} (h:o=some a) (k:Ev (fun n=>f n a) r):Ev (fun n=>o.bind fun x=>f n x) r:=by subst h; exact k
end
theorem w64 {i:Int} (h0 : -9223372036854775808≤i) (h1:i<9223372036854775808):wrap64 i=i:=by unfold wrap64; omega
theorem w64s {j:Nat} (h:j<1000000000000000):wrap64 ((j:Int)+1)=((j+1:Nat):Int):=by rw [w64] <;> omega
theorem rd_eq (l:List Int) (j:Nat) (h:j<l.length):rd l (j:Int)=l[j]:=by simp [rd,h]
theorem drop_rd (l:List Int) (j:Nat) (h:j<l.length):l.drop j=rd l (j:Int) :: l.drop (j+1):=by
 rw [rd_eq l j h]; exact List.drop_eq_getElem_cons h
theorem mem_rd (l:List Int) (j:Nat) (h:j<l.length):rd l (j:Int)∈l:=by
 rw [rd_eq l j h]; exact List.getElem_mem h
end
end Go.Proofs.YtnnkjpcipldnfaaGreatDoor.Aid
end
section
set_option linter.unusedSimpArgs false
set_option linter.unusedVariables false
namespace Go.Proofs.YtnnkjpcipldnfaaGreatDoor.Pure
open Go.RowKit Go.Proofs.YtnnkjpcipldnfaaGreatDoor.ND Go.Proofs.YtnnkjpcipldnfaaGreatDoorW.PrintWords Go.Proofs.YtnnkjpcipldnfaaGreatDoorW.PrintLast Go.Proofs.YtnnkjpcipldnfaaGreatDoor.Aid
section
def tailErr (s:ByteArray):Int:=if (s.size:Int) > 2000 then 2 else 0
def digErr : List Int→Int→Int
 | [],e=>e
 | c :: r,e=>if c<48 then 5 else if c > 57 then 5 else digErr r e
def natErr (s:ByteArray):Int:=if s.size=0 then 5 else digErr (bytesOf s) (if 1<s.size∧bt s 0=48 then 5 else tailErr s)
theorem digErr_five : ∀ l,digErr l 5=5
 | []=>rfl
 | c :: r=>by simp [digErr,digErr_five r]
theorem gp_bytes_ok (s:ByteArray) (h:s.size≤9223372036854775807):gp_bytes.f s=some (bytesOf s):=by unfold gp_bytes.f; rw [if_pos h]
theorem list_nil (s:ByteArray):s.toList=([]:List UInt8)↔s.size=0:=by
 have h1:s.toList.length=s.size:=by rw [ByteArray.toList_eq,data_length]
 constructor
 · intro h
   rw [h] at h1
   simpa using h1.symm
 · intro h
   exact List.eq_nil_of_length_eq_zero (by omega)
theorem check_l0 (s:ByteArray) (hs:s.size≤1000000000000000) (d:Nat):∀ j,j+d=s.size→Ev (fun k=>nat_Check.l0 k s (bytesOf s) (s.size:Int) (j:Int)) (digErr ((bytesOf s).drop j) (tailErr s)):=by
 have hl:=bytesOf_length s
 induction d with
 | zero =>
   intro j hj
   refine Ev.step (fun k=>nat_Check.l0.eq_2 _ _ _ _ k) ?_
   refine Ev.no (by omega) ?_
   rw [show j=(bytesOf s).length by omega,List.drop_length]
   exact Ev.ite (fun h=>Ev.now' (by simp [digErr,tailErr,h])) (fun h=>Ev.now' (by simp [digErr,tailErr,h]))
 | succ d ih =>
   intro j hj
   have hlt:j<(bytesOf s).length:=by omega
   refine Ev.step (fun k=>nat_Check.l0.eq_2 _ _ _ _ k) ?_
   refine Ev.yes (by omega) (Ev.yes (by omega) (Ev.yes (by omega) ?_))
   rw [drop_rd _ j hlt]
   refine Ev.ite (fun h=>Ev.now' (by simp [digErr,h])) (fun h1=>Ev.ite (fun h=>Ev.now' (by simp only [digErr]; rw [if_neg h1,if_pos h])) (fun h2=>?_))
   rw [w64s (by omega),show ∀ e,digErr (rd (bytesOf s) ↑j :: List.drop (j+1) (bytesOf s)) e=digErr (List.drop (j+1) (bytesOf s)) e from fun e=>by simp only [digErr]; rw [if_neg h1,if_neg h2]]
   exact ih (j+1) (by omega)
theorem check_ev (s:ByteArray) (hs:s.size≤1000000000000000):Ev (fun k=>nat_Check.f k s) (natErr s):=by
 have hl:=bytesOf_length s
 unfold nat_Check.f natErr
 have j0t:Ev (fun k=>nat_Check.j0 k s true) 5:=by
  refine Ev.step (fun k=>nat_Check.j0.eq_2 _ _ k) ?_
  exact Ev.yes rfl (Ev.now _)
 have j0f:Ev (fun k=>nat_Check.j0 k s false) (digErr (bytesOf s) (tailErr s)):=by
  refine Ev.step (fun k=>nat_Check.j0.eq_2 _ _ k) ?_
  refine Ev.no (by simp) (Ev.opt_bind (gp_bytes_ok s (by omega)) ?_)
  rw [hl]
  exact check_l0 s hs s.size 0 (by omega)
 refine Ev.ite (fun h=>?_) (fun h=>?_)
 · rw [if_pos ((list_nil s).1 h)]
   exact j0t
 · have h0:¬ s.size=0:=fun z=>h ((list_nil s).2 z)
   rw [if_neg h0]
   refine Ev.yes (by omega) (Ev.ite (fun h1=>?_) (fun h1=>?_))
   · by_cases h2:(s.size:Int) > 1
     · rw [show decide ((s.size:Int) > 1)=true by simpa using h2,if_pos ⟨by omega,h1⟩,digErr_five]
       exact j0t
     · rw [show decide ((s.size:Int) > 1)=false by simpa using h2,if_neg (by omega)]
       exact j0f
   · rw [if_neg (fun z=>h1 z.2)]
     exact j0f
theorem rerr_l0 (s:ByteArray) (hs:s.size≤1000000000000000) (d:Nat):∀ j,j+d=s.size→Ev (fun k=>gamehallref2_NatError.l0 k s (j:Int)) (digErr ((bytesOf s).drop j) (if 1<s.size∧bt s 0=48 then 5 else tailErr s)):=by
 have hl:=bytesOf_length s
 induction d with
 | zero =>
   intro j hj
   refine Ev.step (fun k=>gamehallref2_NatError.l0.eq_2 _ _ k) ?_
   refine Ev.no (by omega) ?_
   rw [show j=(bytesOf s).length by omega,List.drop_length]
   have j1f:Ev (fun k=>gamehallref2_NatError.j1 k s false) (tailErr s):=by
    refine Ev.step (fun k=>gamehallref2_NatError.j1.eq_2 _ _ k) ?_
    exact Ev.no (by simp) (Ev.ite (fun h=>Ev.now' (by simp [tailErr,h])) (fun h=>Ev.now' (by simp [tailErr,h])))
   refine Ev.ite (fun h=>Ev.yes (by omega) ?_) (fun h=>?_)
   · simp only [digErr]
     by_cases h2:bt s 0=48
     · rw [if_pos ⟨by omega,h2⟩,h2]
       refine Ev.step (fun k=>gamehallref2_NatError.j1.eq_2 _ _ k) ?_
       exact Ev.yes (by simp) (Ev.now _)
     · rw [if_neg (fun z=>h2 z.2),show (bt s 0 == 48)=false by simpa using h2]
       exact j1f
   · simp only [digErr]
     rw [if_neg (by omega)]
     exact j1f
 | succ d ih =>
   intro j hj
   have hlt:j<(bytesOf s).length:=by omega
   refine Ev.step (fun k=>gamehallref2_NatError.l0.eq_2 _ _ k) ?_
   refine Ev.yes (by omega) (Ev.yes (by omega) ?_)
   rw [drop_rd _ j hlt,← rd_bytesOf]
   refine Ev.ite (fun h=>Ev.now' (by simp [digErr,h])) (fun h1=>Ev.ite (fun h=>Ev.now' (by simp only [digErr]; rw [if_neg h1,if_pos h])) (fun h2=>?_))
   rw [w64s (by omega),show ∀ e,digErr (rd (bytesOf s) ↑j :: List.drop (j+1) (bytesOf s)) e=digErr (List.drop (j+1) (bytesOf s)) e from fun e=>by simp only [digErr]; rw [if_neg h1,if_neg h2]]
   exact ih (j+1) (by omega)
theorem rerr_ev (s:ByteArray) (hs:s.size≤1000000000000000):Ev (fun k=>gamehallref2_NatError.f k s) (natErr s):=by
 unfold gamehallref2_NatError.f natErr
 refine Ev.ite (fun h=>?_) (fun h=>?_)
 · rw [if_pos (by omega)]; exact Ev.now _
 · rw [if_neg (by omega)]; exact rerr_l0 s hs s.size 0 (by omega)
end
end Go.Proofs.YtnnkjpcipldnfaaGreatDoor.Pure
end
section
set_option linter.unusedSimpArgs false
set_option linter.unusedVariables false
namespace Go.Proofs.YtnnkjpcipldnfaaGreatDoor.NatVal
open Go.RowKit Go.Proofs.YtnnkjpcipldnfaaGreatDoorW.PrintWords Go.Proofs.YtnnkjpcipldnfaaGreatDoor.Aid
section
def val (b:Int):List Int→Int
 | []=>0
 | x :: r=>x+b * val b r
def ok (b:Int) (l:List Int):Prop:=∀ x∈l,0≤x∧x<b
def noLead (l:List Int):Prop:=∀ h:l≠[],l.getLast h≠0
theorem ok_nil (b:Int):ok b []:=by simp [ok]
theorem ok_cons {b x:Int} {r:List Int}:ok b (x :: r)↔(0≤x∧x<b)∧ok b r:=by simp [ok]
theorem ok_append {b:Int} {l r:List Int}:ok b (l ++ r)↔ok b l∧ok b r:=by
 simp only [ok,List.mem_append]
 constructor
 · intro h; exact ⟨fun x hx=>h x (.inl hx),fun x hx=>h x (.inr hx)⟩
 · rintro ⟨h1,h2⟩ x (hx | hx)
   · exact h1 x hx
   · exact h2 x hx
theorem ok_rd {b:Int} {l:List Int} (h:ok b l) (j:Nat) (hj:j<l.length):0≤rd l (j:Int)∧rd l (j:Int)<b:=h _ (mem_rd l j hj)
theorem val_nonneg {b:Int} (hb:0≤b):∀ {l:List Int},ok b l→0≤val b l
 | [],_=>by simp [val]
 | x :: r,h=>by
   obtain ⟨h1,h2⟩:=ok_cons.1 h
   have:=val_nonneg hb h2
   have h3:0≤b * val b r:=Int.mul_nonneg hb this
   simp only [val]; omega
theorem val_lt {b:Int} (hb:0<b):∀ {l:List Int},ok b l→val b l<b ^ l.length
 | [],_=>by simp [val]
 | x :: r,h=>by
   obtain ⟨h1,h2⟩:=ok_cons.1 h
   have h3:=val_lt hb h2
   have h4:b * (val b r+1)≤b * b ^ r.length:=Int.mul_le_mul_of_nonneg_left (by omega) (by omega)
   rw [Int.mul_add,Int.mul_one] at h4
   rw [List.length_cons,Int.pow_succ,Int.mul_comm (b ^ r.length) b]
   simp only [val]; omega
theorem val_append {b:Int}:∀ (l r:List Int),val b (l ++ r)=val b l+b ^ l.length * val b r
 | [],r=>by simp [val]
 | x :: l,r=>by
   rw [List.cons_append,List.length_cons]
   simp only [val]
   rw [val_append l r,Int.mul_add,← Int.mul_assoc,Int.pow_succ,Int.mul_comm (b ^ l.length) b]
   omega
theorem val_snoc {b:Int} (l:List Int) (x:Int):val b (l ++ [x])=val b l+b ^ l.length * x:=by
 rw [val_append]; simp [val]
theorem val_zeros {b:Int} (l:List Int) (n:Nat):val b (l ++ List.replicate n 0)=val b l:=by
 rw [val_append]
 have:∀ n,val b (List.replicate n 0)=0:=by
  intro n
  induction n with
  | zero=>rfl
  | succ n ih=>rw [List.replicate_succ]; simp only [val]; rw [ih]; simp
 rw [this]; simp
theorem val_inj_len {b:Int} (hb:0<b):∀ {l r:List Int},ok b l→ok b r→l.length=r.length→val b l=val b r→l=r
 | [],[],_,_,_,_=>rfl
 | [],_ :: _,_,_,h,_=>by simp at h
 | _ :: _,[],_,_,h,_=>by simp at h
 | x :: l,y :: r,h1,h2,hl,hv=>by
   obtain ⟨a1,a2⟩:=ok_cons.1 h1
   obtain ⟨b1,b2⟩:=ok_cons.1 h2
   simp only [val] at hv
   have e1:(x+b * val b l) % b=x:=by rw [Int.add_mul_emod_self_left]; exact Int.emod_eq_of_lt a1.1 a1.2
   have e2:(y+b * val b r) % b=y:=by rw [Int.add_mul_emod_self_left]; exact Int.emod_eq_of_lt b1.1 b1.2
   have hxy:x=y:=by rw [← e1,← e2,hv]
   subst hxy
   have hm:b * val b l=b * val b r:=by omega
   have hm' : val b l=val b r:=Int.eq_of_mul_eq_mul_left (by omega) hm
   rw [val_inj_len hb a2 b2 (by simpa using hl) hm']
theorem pow_mono {b:Int} (hb:1≤b) {m n:Nat} (h:m≤n):b ^ m≤b ^ n:=by
 obtain ⟨k,rfl⟩:=Nat.exists_eq_add_of_le h
 have h1:0<b ^ m:=Int.pow_pos (by omega)
 have h2:0<b ^ k:=Int.pow_pos (by omega)
 rw [Int.pow_add]
 have:=Int.mul_le_mul_of_nonneg_left (show (1:Int)≤b ^ k by omega) (show 0≤b ^ m by omega)
 omega
theorem noLead_nil : noLead []:=fun h=>absurd rfl h
theorem val_ge {b:Int} (hb:1<b) {l:List Int} (h:ok b l) (ht:noLead l) (hl:l≠[]):b ^ (l.length - 1)≤val b l:=by
 have e:=List.dropLast_concat_getLast hl
 have hx:=ht hl
 have hlen:l.length - 1=l.dropLast.length:=by simp
 have hok:=h
 rw [← e] at hok
 obtain ⟨h1,h2⟩:=ok_append.1 hok
 have h3:=h2 (l.getLast hl) (by simp)
 have hp:0<b ^ l.dropLast.length:=Int.pow_pos (by omega)
 have h4:val b l=val b l.dropLast+b ^ l.dropLast.length * l.getLast hl:=by rw [← val_snoc,e]
 have h5:=val_nonneg (by omega) h1
 have h6:b ^ l.dropLast.length * 1≤b ^ l.dropLast.length * l.getLast hl:=Int.mul_le_mul_of_nonneg_left (by omega) (by omega)
 rw [hlen]; omega
theorem len_le_of_val {b:Int} (hb:1<b) {l r:List Int} (h:ok b l) (ht:noLead l) (h' : ok b r) (hv:val b l≤val b r):l.length≤r.length:=by
 by_cases hl:l=[]
 · subst hl; simp
 · have h1:=val_ge hb h ht hl
   have h2:=val_lt (by omega) h'
   by_cases hle:l.length≤r.length
   · exact hle
   · have h3:b ^ r.length≤b ^ (l.length - 1):=pow_mono (by omega) (by omega)
     omega
theorem val_inj {b:Int} (hb:1<b) {l r:List Int} (h:ok b l) (ht:noLead l) (h' : ok b r) (ht' : noLead r) (hv:val b l=val b r):l=r :=
 val_inj_len (by omega) h h' (Nat.le_antisymm (len_le_of_val hb h ht h' (by omega)) (len_le_of_val hb h' ht' h (by omega))) hv
end
end Go.Proofs.YtnnkjpcipldnfaaGreatDoor.NatVal
end
