/- Texts of this session, put together. -/
import Derived.Test.YtpngedkdkpfnkaaGreatDoorRV6
section
set_option linter.unusedSimpArgs false
set_option linter.unusedVariables false
namespace Go.Proofs.YtpngedkdkpfnkaaGreatDoor.Mach
open Go Go.Proofs.YtpngedkdkpfnkaaGreatDoor Go.Proofs.YtpngedkdkpfnkaaGreatDoor.Lib
section
def aMD : List AV:=[.imm (.more (.int .i64) (.more (.int .i64) (.more (.int .i64) (.more (.slice (.one (.int .i64))) (.more (.slice (.one .str)) (.one .str)))))) [((2:Int),(0:Int),(0:Int),[(1:Int),(2:Int)],[],⟨#[]⟩),((2:Int),(1:Int),(3:Int),[(3:Int),(4:Int)],[],⟨#[]⟩),((2:Int),(1:Int),(3:Int),[(5:Int),(6:Int)],[],⟨#[]⟩),((0:Int),(0:Int),(0:Int),[],[],⟨#[45,49]⟩),((0:Int),(0:Int),(0:Int),[],[],⟨#[49]⟩),((0:Int),(0:Int),(0:Int),[],[],⟨#[49]⟩),((0:Int),(0:Int),(0:Int),[],[],⟨#[45,49]⟩)], .int .i64 (0), .imm (.more (.int .i64) (.one (.slice (.one .str)))) [((0:Int),[⟨#[49,47,50]⟩,⟨#[49,47,50]⟩])]]
def a0A : AV := .int .i64 0
def aFQ : AV := .int .i64 0
def xM : List aA:=[]
def a0B : bY:=⟨43,aMD,a0A,xM⟩
def aFR : Prop:=(aFQ,xM)=(aFQ,xM)
theorem aME : aFR:=rfl
def aMF : Prop:=dM tab kU 1500 43 aMD [] aFQ xM
set_option maxRecDepth 1000000 in
theorem bID : dS aMF:=⟨Eq.mpr (by kernel_rfl:aMF=(aFR∧(aFR∧aFR))) ⟨aME,⟨aME,aME⟩⟩⟩
theorem bIE : b9 Tryz.prog a0B :=
 eE (L:=kU) (k:=1500) (g:=43) (args:=aMD) (ids:=[]) (v:=a0A) (v0:=aFQ) (objs:=xM) (G:=aMF) aFO (by kernel_rfl) bID (by kernel_rfl) (by kernel_rfl) (by kernel_rfl) (by kernel_rfl) (by kernel_rfl)
def aMG : List AV:=[.imm (.more (.int .i64) (.more (.int .i64) (.more (.int .i64) (.more (.slice (.one (.int .i64))) (.more (.slice (.one .str)) (.one .str)))))) [((2:Int),(0:Int),(0:Int),[(1:Int),(2:Int)],[],⟨#[]⟩),((2:Int),(1:Int),(3:Int),[(3:Int),(4:Int)],[],⟨#[]⟩),((2:Int),(1:Int),(3:Int),[(5:Int),(6:Int)],[],⟨#[]⟩),((0:Int),(0:Int),(0:Int),[],[],⟨#[45,49]⟩),((0:Int),(0:Int),(0:Int),[],[],⟨#[49]⟩),((0:Int),(0:Int),(0:Int),[],[],⟨#[49]⟩),((0:Int),(0:Int),(0:Int),[],[],⟨#[45,49]⟩)], .int .i64 (1), .imm (.more (.int .i64) (.one (.slice (.one .str)))) [((3:Int),[⟨#[49,47,50]⟩,⟨#[49,47,50]⟩])]]
def a0C : AV := .int .i64 0
def aFS : AV := .int .i64 0
def xN : List aA:=[]
def a0D : bY:=⟨43,aMG,a0C,xN⟩
def aFT : Prop:=(aFS,xN)=(aFS,xN)
theorem aMH : aFT:=rfl
def aMI : Prop:=dM tab kU 1500 43 aMG [] aFS xN
set_option maxRecDepth 1000000 in
theorem bIF : dS aMI:=⟨Eq.mpr (by kernel_rfl:aMI=(aFT∧(aFT∧aFT))) ⟨aMH,⟨aMH,aMH⟩⟩⟩
theorem bIG : b9 Tryz.prog a0D :=
 eE (L:=kU) (k:=1500) (g:=43) (args:=aMG) (ids:=[]) (v:=a0C) (v0:=aFS) (objs:=xN) (G:=aMI) aFO (by kernel_rfl) bIF (by kernel_rfl) (by kernel_rfl) (by kernel_rfl) (by kernel_rfl) (by kernel_rfl)
def aMJ : List AV:=[.imm (.more (.int .i64) (.more (.int .i64) (.more (.int .i64) (.more (.slice (.one (.int .i64))) (.more (.slice (.one .str)) (.one .str)))))) [((2:Int),(0:Int),(0:Int),[(1:Int),(2:Int)],[],⟨#[]⟩),((2:Int),(1:Int),(3:Int),[(3:Int),(4:Int)],[],⟨#[]⟩),((2:Int),(1:Int),(3:Int),[(5:Int),(6:Int)],[],⟨#[]⟩),((0:Int),(0:Int),(0:Int),[],[],⟨#[45,49]⟩),((0:Int),(0:Int),(0:Int),[],[],⟨#[49]⟩),((0:Int),(0:Int),(0:Int),[],[],⟨#[49]⟩),((0:Int),(0:Int),(0:Int),[],[],⟨#[45,49]⟩)], .int .i64 (1), .imm (.more (.int .i64) (.one (.slice (.one .str)))) [((3:Int),[⟨#[49]⟩,⟨#[48]⟩])]]
def a0E : AV := .int .i64 0
def aFU : AV := .int .i64 0
def xO : List aA:=[]
def aFV : bY:=⟨43,aMJ,a0E,xO⟩
def aFW : Prop:=(aFU,xO)=(aFU,xO)
theorem aMK : aFW:=rfl
def aML : Prop:=dM tab kU 1500 43 aMJ [] aFU xO
set_option maxRecDepth 1000000 in
theorem bIH : dS aML:=⟨Eq.mpr (by kernel_rfl:aML=(aFW∧(aFW∧aFW))) ⟨aMK,⟨aMK,aMK⟩⟩⟩
theorem aMM : b9 Tryz.prog aFV :=
 eE (L:=kU) (k:=1500) (g:=43) (args:=aMJ) (ids:=[]) (v:=a0E) (v0:=aFU) (objs:=xO) (G:=aML) aFO (by kernel_rfl) bIH (by kernel_rfl) (by kernel_rfl) (by kernel_rfl) (by kernel_rfl) (by kernel_rfl)
def aMN : List AV:=[.imm (.more (.int .i64) (.more (.int .i64) (.more (.int .i64) (.more (.slice (.one (.int .i64))) (.more (.slice (.one .str)) (.one .str)))))) [((2:Int),(0:Int),(0:Int),[(1:Int),(2:Int)],[],⟨#[]⟩),((2:Int),(1:Int),(3:Int),[(3:Int),(4:Int)],[],⟨#[]⟩),((2:Int),(1:Int),(3:Int),[(5:Int),(6:Int)],[],⟨#[]⟩),((0:Int),(0:Int),(0:Int),[],[],⟨#[45,49]⟩),((0:Int),(0:Int),(0:Int),[],[],⟨#[49]⟩),((0:Int),(0:Int),(0:Int),[],[],⟨#[49]⟩),((0:Int),(0:Int),(0:Int),[],[],⟨#[45,49]⟩)], .int .i64 (0), .nils]
def a0F : AV := .int .i64 3
def aFX : AV := .int .i64 3
def xP : List aA:=[]
def a0G : bY:=⟨43,aMN,a0F,xP⟩
def aFY : Prop:=(aFX,xP)=(aFX,xP)
theorem aMO : aFY:=rfl
def aMP : Prop:=dM tab kU 1500 43 aMN [] aFX xP
set_option maxRecDepth 1000000 in
theorem bII : dS aMP:=⟨Eq.mpr (by kernel_rfl:aMP=(aFY∧(aFY∧aFY))) ⟨aMO,⟨aMO,aMO⟩⟩⟩
theorem bIJ : b9 Tryz.prog a0G :=
 eE (L:=kU) (k:=1500) (g:=43) (args:=aMN) (ids:=[]) (v:=a0F) (v0:=aFX) (objs:=xP) (G:=aMP) aFO (by kernel_rfl) bII (by kernel_rfl) (by kernel_rfl) (by kernel_rfl) (by kernel_rfl) (by kernel_rfl)
def aMQ : List AV:=[.imm (.more (.int .i64) (.more (.int .i64) (.more (.int .i64) (.more (.slice (.one (.int .i64))) (.more (.slice (.one .str)) (.one .str)))))) [((2:Int),(0:Int),(0:Int),[(1:Int),(2:Int)],[],⟨#[]⟩),((2:Int),(1:Int),(3:Int),[(3:Int),(4:Int)],[],⟨#[]⟩),((2:Int),(1:Int),(3:Int),[(5:Int),(6:Int)],[],⟨#[]⟩),((0:Int),(0:Int),(0:Int),[],[],⟨#[45,49]⟩),((0:Int),(0:Int),(0:Int),[],[],⟨#[49]⟩),((0:Int),(0:Int),(0:Int),[],[],⟨#[49]⟩),((0:Int),(0:Int),(0:Int),[],[],⟨#[45,49]⟩)], .agg [.imm (.more (.int .i64) (.one (.slice (.one .str)))) [((0:Int),[⟨#[49,47,50]⟩,⟨#[49,47,50]⟩])], .imm (.more (.int .i64) (.one (.slice (.one .str)))) [((3:Int),[⟨#[49,47,50]⟩,⟨#[49,47,50]⟩])]]]
def a0H : AV := .own 0
def aFZ : AV := .own 1
def xQ : List aA:=[.typed (.more .bool (.more (.slice (.one (.int .u32))) (.one (.slice (.one (.int .u32)))))) [(false,([(1:Int)],[(1:Int)])),(false,([(1:Int)],[(2:Int)])),(false,([(1:Int)],[(2:Int)])),(false,([(1:Int)],[(4:Int)])),(false,([(1:Int)],[(4:Int)])),(false,([(1:Int)],[(4:Int)])),(false,([(1:Int)],[(4:Int)]))] false]
def a0I : bY:=⟨31,aMQ,a0H,xQ⟩
def a0J : Prop:=(aFZ,xQ)=(aFZ,xQ)
theorem bIK : a0J:=rfl
def aMR : Prop:=dM tab [] 1500 31 aMQ [1] aFZ xQ
set_option maxRecDepth 1000000 in
theorem bIL : dS aMR:=⟨Eq.mpr (by kernel_rfl:aMR=a0J) bIK⟩
theorem bIM : b9 Tryz.prog a0I :=
 eE (L:=[]) (k:=1500) (g:=31) (args:=aMQ) (ids:=[1]) (v:=a0H) (v0:=aFZ) (objs:=xQ) (G:=aMR) (fun x hx=>by cases hx) (by kernel_rfl) bIL (by kernel_rfl) (by kernel_rfl) (by kernel_rfl) (by kernel_rfl) (by kernel_rfl)
def aMS : List AV:=[.imm (.more (.int .i64) (.more (.int .i64) (.more (.int .i64) (.more (.slice (.one (.int .i64))) (.more (.slice (.one .str)) (.one .str)))))) [((2:Int),(0:Int),(0:Int),[(1:Int),(2:Int)],[],⟨#[]⟩),((2:Int),(1:Int),(3:Int),[(3:Int),(4:Int)],[],⟨#[]⟩),((2:Int),(1:Int),(3:Int),[(5:Int),(6:Int)],[],⟨#[]⟩),((0:Int),(0:Int),(0:Int),[],[],⟨#[45,49]⟩),((0:Int),(0:Int),(0:Int),[],[],⟨#[49]⟩),((0:Int),(0:Int),(0:Int),[],[],⟨#[49]⟩),((0:Int),(0:Int),(0:Int),[],[],⟨#[45,49]⟩)], .agg [.nils, .imm (.more (.int .i64) (.one (.slice (.one .str)))) [((3:Int),[⟨#[49]⟩,⟨#[48]⟩])]]]
def a0K : AV := .own 0
def aF0 : AV := .own 1
def xR : List aA:=[.typed (.more .bool (.more (.slice (.one (.int .u32))) (.one (.slice (.one (.int .u32)))))) [(false,([(1:Int)],[(1:Int)])),(false,([(1:Int)],[(1:Int)])),(false,([(1:Int)],[(1:Int)])),(false,([(1:Int)],[(1:Int)])),(false,([],[])),(false,([(1:Int)],[(1:Int)])),(false,([],[]))] false]
def aMT : bY:=⟨31,aMS,a0K,xR⟩
def a0L : Prop:=(aF0,xR)=(aF0,xR)
theorem bIN : a0L:=rfl
def aMU : Prop:=dM tab [] 1500 31 aMS [1] aF0 xR
set_option maxRecDepth 1000000 in
theorem bIO : dS aMU:=⟨Eq.mpr (by kernel_rfl:aMU=a0L) bIN⟩
theorem a0M : b9 Tryz.prog aMT :=
 eE (L:=[]) (k:=1500) (g:=31) (args:=aMS) (ids:=[1]) (v:=a0K) (v0:=aF0) (objs:=xR) (G:=aMU) (fun x hx=>by cases hx) (by kernel_rfl) bIO (by kernel_rfl) (by kernel_rfl) (by kernel_rfl) (by kernel_rfl) (by kernel_rfl)
end
section
def mY : List bY:=[xK,a0B,a0D,aFV,a0G,a0I,aMT]
theorem aMV : ∀ x∈mY,b9 Tryz.prog x:=fun x hx=>by
 simp only [mY,List.mem_cons,List.not_mem_nil,or_false] at hx
 rcases hx with rfl | rfl | rfl | rfl | rfl | rfl | rfl
 · exact aFN
 · exact bIE
 · exact bIG
 · exact aMM
 · exact bIJ
 · exact bIM
 · exact a0M
end
section
def aMW : List AV:=[.imm (.more (.int .i64) (.more (.int .i64) (.more (.int .i64) (.more (.slice (.one (.int .i64))) (.more (.slice (.one .str)) (.one .str)))))) [((2:Int),(0:Int),(0:Int),[(1:Int),(2:Int)],[],⟨#[]⟩),((2:Int),(1:Int),(3:Int),[(3:Int),(4:Int)],[],⟨#[]⟩),((2:Int),(1:Int),(3:Int),[(5:Int),(6:Int)],[],⟨#[]⟩),((0:Int),(0:Int),(0:Int),[],[],⟨#[45,49]⟩),((0:Int),(0:Int),(0:Int),[],[],⟨#[49]⟩),((0:Int),(0:Int),(0:Int),[],[],⟨#[49]⟩),((0:Int),(0:Int),(0:Int),[],[],⟨#[45,49]⟩)], .imm (.more (.int .i64) (.one (.slice (.one .str)))) [((0:Int),[⟨#[49,47,50]⟩,⟨#[49,47,50]⟩])], .imm (.more (.int .i64) (.one (.slice (.one .str)))) [((3:Int),[⟨#[49,47,50]⟩,⟨#[49,47,50]⟩])]]
def a0N : AV := .tup [.str ⟨#[48]⟩, .int .i64 0]
def aF1 : AV := .tup [.str ⟨#[48]⟩, .int .i64 0]
def xS : List aA:=[]
def a0O : bY:=⟨9,aMW,a0N,xS⟩
def a0P : Prop:=(aF1,xS)=(aF1,xS)
theorem bIP : a0P:=rfl
def aMX : Prop:=dM tab mY 1500 9 aMW [] aF1 xS
set_option maxRecDepth 1000000 in
theorem bIQ : dS aMX:=⟨Eq.mpr (by kernel_rfl:aMX=a0P) bIP⟩
theorem bIR : b9 Tryz.prog a0O :=
 eE (L:=mY) (k:=1500) (g:=9) (args:=aMW) (ids:=[]) (v:=a0N) (v0:=aF1) (objs:=xS) (G:=aMX) aMV (by kernel_rfl) bIQ (by kernel_rfl) (by kernel_rfl) (by kernel_rfl) (by kernel_rfl) (by kernel_rfl)
def aMY : List AV:=[.imm (.more (.int .i64) (.more (.int .i64) (.more (.int .i64) (.more (.slice (.one (.int .i64))) (.more (.slice (.one .str)) (.one .str)))))) [((2:Int),(0:Int),(0:Int),[(1:Int),(2:Int)],[],⟨#[]⟩),((2:Int),(1:Int),(3:Int),[(3:Int),(4:Int)],[],⟨#[]⟩),((2:Int),(1:Int),(3:Int),[(5:Int),(6:Int)],[],⟨#[]⟩),((0:Int),(0:Int),(0:Int),[],[],⟨#[45,49]⟩),((0:Int),(0:Int),(0:Int),[],[],⟨#[49]⟩),((0:Int),(0:Int),(0:Int),[],[],⟨#[49]⟩),((0:Int),(0:Int),(0:Int),[],[],⟨#[45,49]⟩)], .imm (.more (.int .i64) (.one (.slice (.one .str)))) [((0:Int),[⟨#[49,47,50]⟩,⟨#[49,47,50]⟩])], .imm (.more (.int .i64) (.one (.slice (.one .str)))) [((3:Int),[⟨#[49,47,50]⟩,⟨#[49,47,50]⟩])]]
def a0Q : AV := .tup [.own 0, .int .i64 0]
def aF2 : AV := .tup [.own 288, .int .i64 0]
def xT : List aA:=[.typed (.one .str) [⟨#[49]⟩,⟨#[49,47,50]⟩,⟨#[49,47,50]⟩,⟨#[49,47,52]⟩,⟨#[49,47,52]⟩,⟨#[49,47,52]⟩,⟨#[49,47,52]⟩] false]
def a0R : bY:=⟨10,aMY,a0Q,xT⟩
def a0S : Prop:=(aF2,xT)=(aF2,xT)
theorem bIS : a0S:=rfl
def aMZ : Prop:=dM tab mY 1500 10 aMY [288] aF2 xT
set_option maxRecDepth 1000000 in
theorem bIT : dS aMZ:=⟨Eq.mpr (by kernel_rfl:aMZ=a0S) bIS⟩
theorem bIU : b9 Tryz.prog a0R :=
 eE (L:=mY) (k:=1500) (g:=10) (args:=aMY) (ids:=[288]) (v:=a0Q) (v0:=aF2) (objs:=xT) (G:=aMZ) aMV (by kernel_rfl) bIT (by kernel_rfl) (by kernel_rfl) (by kernel_rfl) (by kernel_rfl) (by kernel_rfl)
def aM0 : List AV:=[.imm (.more (.int .i64) (.more (.int .i64) (.more (.int .i64) (.more (.slice (.one (.int .i64))) (.more (.slice (.one .str)) (.one .str)))))) [((2:Int),(0:Int),(0:Int),[(1:Int),(2:Int)],[],⟨#[]⟩),((2:Int),(1:Int),(3:Int),[(3:Int),(4:Int)],[],⟨#[]⟩),((2:Int),(1:Int),(3:Int),[(5:Int),(6:Int)],[],⟨#[]⟩),((0:Int),(0:Int),(0:Int),[],[],⟨#[45,49]⟩),((0:Int),(0:Int),(0:Int),[],[],⟨#[49]⟩),((0:Int),(0:Int),(0:Int),[],[],⟨#[49]⟩),((0:Int),(0:Int),(0:Int),[],[],⟨#[45,49]⟩)], .nils, .imm (.more (.int .i64) (.one (.slice (.one .str)))) [((3:Int),[⟨#[49,47,50]⟩,⟨#[49,47,50]⟩])]]
def a0T : AV := .int .i64 3
def aF3 : AV := .int .i64 3
def xU : List aA:=[]
def a0U : bY:=⟨14,aM0,a0T,xU⟩
def a0V : Prop:=(aF3,xU)=(aF3,xU)
theorem bIV : a0V:=rfl
def aM1 : Prop:=dM tab mY 1500 14 aM0 [] aF3 xU
set_option maxRecDepth 1000000 in
theorem bIW : dS aM1:=⟨Eq.mpr (by kernel_rfl:aM1=a0V) bIV⟩
theorem bIX : b9 Tryz.prog a0U :=
 eE (L:=mY) (k:=1500) (g:=14) (args:=aM0) (ids:=[]) (v:=a0T) (v0:=aF3) (objs:=xU) (G:=aM1) aMV (by kernel_rfl) bIW (by kernel_rfl) (by kernel_rfl) (by kernel_rfl) (by kernel_rfl) (by kernel_rfl)
def aM2 : List AV:=[.imm (.more (.int .i64) (.more (.int .i64) (.more (.int .i64) (.more (.slice (.one (.int .i64))) (.more (.slice (.one .str)) (.one .str)))))) [((2:Int),(0:Int),(0:Int),[(1:Int),(2:Int)],[],⟨#[]⟩),((2:Int),(1:Int),(3:Int),[(3:Int),(4:Int)],[],⟨#[]⟩),((2:Int),(1:Int),(3:Int),[(5:Int),(6:Int)],[],⟨#[]⟩),((0:Int),(0:Int),(0:Int),[],[],⟨#[45,49]⟩),((0:Int),(0:Int),(0:Int),[],[],⟨#[49]⟩),((0:Int),(0:Int),(0:Int),[],[],⟨#[49]⟩),((0:Int),(0:Int),(0:Int),[],[],⟨#[45,49]⟩)], .int .i64 (0)]
def a0W : AV := .bool true
def aF4 : AV := .bool true
def xV : List aA:=[]
def aM3 : bY:=⟨49,aM2,a0W,xV⟩
def xW : Prop:=(aF4,xV)=(aF4,xV)
theorem aF5 : xW:=rfl
def aM4 : Prop:=dM tab tF 1500 49 aM2 [] aF4 xV
set_option maxRecDepth 1000000 in
theorem bIY : dS aM4:=⟨Eq.mpr (by kernel_rfl:aM4=((xW∧xW)∧(xW∧xW))) ⟨⟨aF5,aF5⟩,⟨aF5,aF5⟩⟩⟩
theorem a0X : b9 Tryz.prog aM3 :=
 eE (L:=tF) (k:=1500) (g:=49) (args:=aM2) (ids:=[]) (v:=a0W) (v0:=aF4) (objs:=xV) (G:=aM4) aZ4 (by kernel_rfl) bIY (by kernel_rfl) (by kernel_rfl) (by kernel_rfl) (by kernel_rfl) (by kernel_rfl)
def aM5 : List AV:=[.imm (.more (.int .i64) (.more (.int .i64) (.more (.int .i64) (.more (.slice (.one (.int .i64))) (.more (.slice (.one .str)) (.one .str)))))) [((2:Int),(0:Int),(0:Int),[(1:Int),(2:Int)],[],⟨#[]⟩),((2:Int),(1:Int),(3:Int),[(3:Int),(4:Int)],[],⟨#[]⟩),((2:Int),(1:Int),(3:Int),[(5:Int),(6:Int)],[],⟨#[]⟩),((0:Int),(0:Int),(0:Int),[],[],⟨#[45,49]⟩),((0:Int),(0:Int),(0:Int),[],[],⟨#[49]⟩),((0:Int),(0:Int),(0:Int),[],[],⟨#[49]⟩),((0:Int),(0:Int),(0:Int),[],[],⟨#[45,49]⟩)], .int .i64 (0)]
def a0Y : AV := .tup [.own 0, .own 1]
def aF6 : AV := .tup [.own 7, .own 1]
def xX : List aA:=[.typed (.more (.int .i64) (.more (.int .i64) (.one (.int .i64)))) [(((-1):Int),(((-1):Int),((-1):Int))),((0:Int),((0:Int),(0:Int))),((0:Int),((1:Int),(0:Int)))] false, .typed (.one (.int .i64)) [(0:Int),(1:Int),(2:Int),(1:Int),(1:Int),(2:Int),(2:Int)] false]
def a0Z : bY:=⟨87,aM5,a0Y,xX⟩
def a00 : Prop:=(aF6,xX)=(aF6,xX)
theorem bIZ : a00:=rfl
def aM6 : Prop:=dM tab tF 1500 87 aM5 [7,1] aF6 xX
set_option maxRecDepth 1000000 in
theorem bI0 : dS aM6:=⟨Eq.mpr (by kernel_rfl:aM6=a00) bIZ⟩
theorem bI1 : b9 Tryz.prog a0Z :=
 eE (L:=tF) (k:=1500) (g:=87) (args:=aM5) (ids:=[7,1]) (v:=a0Y) (v0:=aF6) (objs:=xX) (G:=aM6) aZ4 (by kernel_rfl) bI0 (by kernel_rfl) (by kernel_rfl) (by kernel_rfl) (by kernel_rfl) (by kernel_rfl)
end
section

end
section
def aM7 : List AV:=[.agg [.bool false, .imm (.one (.int .u32)) [], .imm (.one (.int .u32)) []], .agg [.bool false, .imm (.one (.int .u32)) [(1:Int)], .imm (.one (.int .u32)) [(1:Int)]]]
def a01 : AV := .agg [.bool false, .nils, .nils]
def aF7 : AV := .agg [.bool false, .nils, .nils]
def xY : List aA:=[]
def a02 : bY:=⟨34,aM7,a01,xY⟩
def a03 : Prop:=(aF7,xY)=(aF7,xY)
theorem bI2 : a03:=rfl
def aM8 : Prop:=dM tab [] 1500 34 aM7 [] aF7 xY
set_option maxRecDepth 1000000 in
theorem bI3 : dS aM8:=⟨Eq.mpr (by kernel_rfl:aM8=a03) bI2⟩
theorem bI4 : b9 Tryz.prog a02 :=
 eE (L:=[]) (k:=1500) (g:=34) (args:=aM7) (ids:=[]) (v:=a01) (v0:=aF7) (objs:=xY) (G:=aM8) (fun x hx=>by cases hx) (by kernel_rfl) bI3 (by kernel_rfl) (by kernel_rfl) (by kernel_rfl) (by kernel_rfl) (by kernel_rfl)
def aM9 : List AV:=[.agg [.bool false, .imm (.one (.int .u32)) [], .imm (.one (.int .u32)) []], .agg [.bool true, .imm (.one (.int .u32)) [(1:Int)], .imm (.one (.int .u32)) [(1:Int)]]]
def a04 : AV := .agg [.bool false, .nils, .nils]
def aF8 : AV := .agg [.bool false, .nils, .nils]
def xZ : List aA:=[]
def a05 : bY:=⟨34,aM9,a04,xZ⟩
def a06 : Prop:=(aF8,xZ)=(aF8,xZ)
theorem bI5 : a06:=rfl
def aNA : Prop:=dM tab [] 1500 34 aM9 [] aF8 xZ
set_option maxRecDepth 1000000 in
theorem bI6 : dS aNA:=⟨Eq.mpr (by kernel_rfl:aNA=a06) bI5⟩
theorem bI7 : b9 Tryz.prog a05 :=
 eE (L:=[]) (k:=1500) (g:=34) (args:=aM9) (ids:=[]) (v:=a04) (v0:=aF8) (objs:=xZ) (G:=aNA) (fun x hx=>by cases hx) (by kernel_rfl) bI6 (by kernel_rfl) (by kernel_rfl) (by kernel_rfl) (by kernel_rfl) (by kernel_rfl)
def aNB : List AV:=[.agg [.bool false, .imm (.one (.int .u32)) [], .imm (.one (.int .u32)) []], .agg [.bool true, .imm (.one (.int .u32)) [(1:Int)], .imm (.one (.int .u32)) [(1:Int)]]]
def a07 : AV := .agg [.bool true, .imm (.one (.int .u32)) [(1:Int)], .imm (.one (.int .u32)) [(1:Int)]]
def aF9 : AV := .agg [.bool true, .imm (.one (.int .u32)) [(1:Int)], .imm (.one (.int .u32)) [(1:Int)]]
def yA : List aA:=[]
def a08 : bY:=⟨33,aNB,a07,yA⟩
def a09 : Prop:=(aF9,yA)=(aF9,yA)
theorem bI8 : a09:=rfl
def aNC : Prop:=dM tab [] 1500 33 aNB [] aF9 yA
set_option maxRecDepth 1000000 in
theorem bI9 : dS aNC:=⟨Eq.mpr (by kernel_rfl:aNC=a09) bI8⟩
theorem bJA : b9 Tryz.prog a08 :=
 eE (L:=[]) (k:=1500) (g:=33) (args:=aNB) (ids:=[]) (v:=a07) (v0:=aF9) (objs:=yA) (G:=aNC) (fun x hx=>by cases hx) (by kernel_rfl) bI9 (by kernel_rfl) (by kernel_rfl) (by kernel_rfl) (by kernel_rfl) (by kernel_rfl)
def aND : List AV:=[.agg [.bool true, .imm (.one (.int .u32)) [(1:Int)], .imm (.one (.int .u32)) [(1:Int)]], .agg [.bool false, .imm (.one (.int .u32)) [], .imm (.one (.int .u32)) []]]
def a1A : AV := .agg [.bool true, .imm (.one (.int .u32)) [(1:Int)], .imm (.one (.int .u32)) [(1:Int)]]
def aGA : AV := .agg [.bool true, .imm (.one (.int .u32)) [(1:Int)], .imm (.one (.int .u32)) [(1:Int)]]
def yB : List aA:=[]
def a1B : bY:=⟨33,aND,a1A,yB⟩
def a1C : Prop:=(aGA,yB)=(aGA,yB)
theorem bJB : a1C:=rfl
def aNE : Prop:=dM tab [] 1500 33 aND [] aGA yB
set_option maxRecDepth 1000000 in
theorem bJC : dS aNE:=⟨Eq.mpr (by kernel_rfl:aNE=a1C) bJB⟩
theorem bJD : b9 Tryz.prog a1B :=
 eE (L:=[]) (k:=1500) (g:=33) (args:=aND) (ids:=[]) (v:=a1A) (v0:=aGA) (objs:=yB) (G:=aNE) (fun x hx=>by cases hx) (by kernel_rfl) bJC (by kernel_rfl) (by kernel_rfl) (by kernel_rfl) (by kernel_rfl) (by kernel_rfl)
def aNF : List AV:=[.agg [.bool false, .imm (.one (.int .u32)) [], .imm (.one (.int .u32)) []], .agg [.bool false, .imm (.one (.int .u32)) [(1:Int)], .imm (.one (.int .u32)) [(1:Int)]]]
def a1D : AV := .agg [.bool false, .imm (.one (.int .u32)) [(1:Int)], .imm (.one (.int .u32)) [(1:Int)]]
def aGB : AV := .agg [.bool false, .imm (.one (.int .u32)) [(1:Int)], .imm (.one (.int .u32)) [(1:Int)]]
def yC : List aA:=[]
def a1E : bY:=⟨33,aNF,a1D,yC⟩
def a1F : Prop:=(aGB,yC)=(aGB,yC)
theorem bJE : a1F:=rfl
def aNG : Prop:=dM tab [] 1500 33 aNF [] aGB yC
set_option maxRecDepth 1000000 in
theorem bJF : dS aNG:=⟨Eq.mpr (by kernel_rfl:aNG=a1F) bJE⟩
theorem bJG : b9 Tryz.prog a1E :=
 eE (L:=[]) (k:=1500) (g:=33) (args:=aNF) (ids:=[]) (v:=a1D) (v0:=aGB) (objs:=yC) (G:=aNG) (fun x hx=>by cases hx) (by kernel_rfl) bJF (by kernel_rfl) (by kernel_rfl) (by kernel_rfl) (by kernel_rfl) (by kernel_rfl)
def aNH : List AV:=[.agg [.bool false, .imm (.one (.int .u32)) [(1:Int)], .imm (.one (.int .u32)) [(1:Int)]], .agg [.bool false, .imm (.one (.int .u32)) [], .imm (.one (.int .u32)) []]]
def a1G : AV := .agg [.bool false, .imm (.one (.int .u32)) [(1:Int)], .imm (.one (.int .u32)) [(1:Int)]]
def aGC : AV := .agg [.bool false, .imm (.one (.int .u32)) [(1:Int)], .imm (.one (.int .u32)) [(1:Int)]]
def yD : List aA:=[]
def a1H : bY:=⟨33,aNH,a1G,yD⟩
def a1I : Prop:=(aGC,yD)=(aGC,yD)
theorem bJH : a1I:=rfl
def aNI : Prop:=dM tab [] 1500 33 aNH [] aGC yD
set_option maxRecDepth 1000000 in
theorem bJI : dS aNI:=⟨Eq.mpr (by kernel_rfl:aNI=a1I) bJH⟩
theorem bJJ : b9 Tryz.prog a1H :=
 eE (L:=[]) (k:=1500) (g:=33) (args:=aNH) (ids:=[]) (v:=a1G) (v0:=aGC) (objs:=yD) (G:=aNI) (fun x hx=>by cases hx) (by kernel_rfl) bJI (by kernel_rfl) (by kernel_rfl) (by kernel_rfl) (by kernel_rfl) (by kernel_rfl)
def aNJ : List AV:=[.agg [.bool true, .imm (.one (.int .u32)) [(1:Int)], .imm (.one (.int .u32)) [(1:Int)]], .agg [.bool true, .imm (.one (.int .u32)) [(1:Int)], .imm (.one (.int .u32)) [(1:Int)]]]
def a1J : AV := .int .i64 0
def aGD : AV := .int .i64 0
def yE : List aA:=[]
def a1K : bY:=⟨89,aNJ,a1J,yE⟩
def a1L : Prop:=(aGD,yE)=(aGD,yE)
theorem bJK : a1L:=rfl
def aNK : Prop:=dM tab [] 1500 89 aNJ [] aGD yE
set_option maxRecDepth 1000000 in
theorem bJL : dS aNK:=⟨Eq.mpr (by kernel_rfl:aNK=a1L) bJK⟩
theorem bJM : b9 Tryz.prog a1K :=
 eE (L:=[]) (k:=1500) (g:=89) (args:=aNJ) (ids:=[]) (v:=a1J) (v0:=aGD) (objs:=yE) (G:=aNK) (fun x hx=>by cases hx) (by kernel_rfl) bJL (by kernel_rfl) (by kernel_rfl) (by kernel_rfl) (by kernel_rfl) (by kernel_rfl)
def aNL : List AV:=[.agg [.bool false, .imm (.one (.int .u32)) [(1:Int)], .imm (.one (.int .u32)) [(1:Int)]], .agg [.bool true, .imm (.one (.int .u32)) [(1:Int)], .imm (.one (.int .u32)) [(1:Int)]]]
def a1M : AV := .int .i64 1
def aGE : AV := .int .i64 1
def yF : List aA:=[]
def a1N : bY:=⟨89,aNL,a1M,yF⟩
def a1O : Prop:=(aGE,yF)=(aGE,yF)
theorem bJN : a1O:=rfl
def aNM : Prop:=dM tab [] 1500 89 aNL [] aGE yF
set_option maxRecDepth 1000000 in
theorem bJO : dS aNM:=⟨Eq.mpr (by kernel_rfl:aNM=a1O) bJN⟩
theorem bJP : b9 Tryz.prog a1N :=
 eE (L:=[]) (k:=1500) (g:=89) (args:=aNL) (ids:=[]) (v:=a1M) (v0:=aGE) (objs:=yF) (G:=aNM) (fun x hx=>by cases hx) (by kernel_rfl) bJO (by kernel_rfl) (by kernel_rfl) (by kernel_rfl) (by kernel_rfl) (by kernel_rfl)
def aNN : List AV:=[.agg [.bool false, .imm (.one (.int .u32)) [(1:Int)], .imm (.one (.int .u32)) [(1:Int)]]]
def a1P : AV := .tup [.str ⟨#[49]⟩, .int .i64 0]
def aGF : AV := .tup [.str ⟨#[49]⟩, .int .i64 0]
def yG : List aA:=[]
def aNO : bY:=⟨36,aNN,a1P,yG⟩
def a1Q : Prop:=(aGF,yG)=(aGF,yG)
theorem bJQ : a1Q:=rfl
def aNP : Prop:=dM tab [] 1500 36 aNN [] aGF yG
set_option maxRecDepth 1000000 in
theorem bJR : dS aNP:=⟨Eq.mpr (by kernel_rfl:aNP=a1Q) bJQ⟩
theorem a1R : b9 Tryz.prog aNO :=
 eE (L:=[]) (k:=1500) (g:=36) (args:=aNN) (ids:=[]) (v:=a1P) (v0:=aGF) (objs:=yG) (G:=aNP) (fun x hx=>by cases hx) (by kernel_rfl) bJR (by kernel_rfl) (by kernel_rfl) (by kernel_rfl) (by kernel_rfl) (by kernel_rfl)
def aNQ : List AV:=[.str ⟨#[49]⟩]
def a1S : AV := .agg [.bool false, .own 0, .own 1]
def aGG : AV := .agg [.bool false, .own 2, .own 4]
def yH : List aA:=[.typed (.one (.int .u32)) [(1:Int)] false, .typed (.one (.int .u32)) [(1:Int)] false]
def a1T : bY:=⟨35,aNQ,a1S,yH⟩
def a1U : Prop:=(aGG,yH)=(aGG,yH)
theorem bJS : a1U:=rfl
def aNR : Prop:=dM tab [] 1500 35 aNQ [2,4] aGG yH
set_option maxRecDepth 1000000 in
theorem bJT : dS aNR:=⟨Eq.mpr (by kernel_rfl:aNR=a1U) bJS⟩
theorem bJU : b9 Tryz.prog a1T :=
 eE (L:=[]) (k:=1500) (g:=35) (args:=aNQ) (ids:=[2,4]) (v:=a1S) (v0:=aGG) (objs:=yH) (G:=aNR) (fun x hx=>by cases hx) (by kernel_rfl) bJT (by kernel_rfl) (by kernel_rfl) (by kernel_rfl) (by kernel_rfl) (by kernel_rfl)
def aNS : List AV:=[.str ⟨#[45,49]⟩]
def a1V : AV := .agg [.bool true, .own 0, .own 1]
def aGH : AV := .agg [.bool true, .own 2, .own 4]
def yI : List aA:=[.typed (.one (.int .u32)) [(1:Int)] false, .typed (.one (.int .u32)) [(1:Int)] false]
def a1W : bY:=⟨35,aNS,a1V,yI⟩
def a1X : Prop:=(aGH,yI)=(aGH,yI)
theorem bJV : a1X:=rfl
def aNT : Prop:=dM tab [] 1500 35 aNS [2,4] aGH yI
set_option maxRecDepth 1000000 in
theorem bJW : dS aNT:=⟨Eq.mpr (by kernel_rfl:aNT=a1X) bJV⟩
theorem bJX : b9 Tryz.prog a1W :=
 eE (L:=[]) (k:=1500) (g:=35) (args:=aNS) (ids:=[2,4]) (v:=a1V) (v0:=aGH) (objs:=yI) (G:=aNT) (fun x hx=>by cases hx) (by kernel_rfl) bJW (by kernel_rfl) (by kernel_rfl) (by kernel_rfl) (by kernel_rfl) (by kernel_rfl)
end
section
def cJ : List bY:=[xK,aFV,aMT,aM3,a0Z,a02,a05,a08,a1B,a1E,a1H,a1K,a1N,aNO,a1T,a1W]
theorem f0 : ∀ x∈cJ,b9 Tryz.prog x:=fun x hx=>by
 simp only [cJ,List.mem_cons,List.not_mem_nil,or_false] at hx
 rcases hx with rfl | rfl | rfl | rfl | rfl | rfl | rfl | rfl | rfl | rfl | rfl | rfl | rfl | rfl | rfl | rfl
 · exact aFN
 · exact aMM
 · exact a0M
 · exact a0X
 · exact bI1
 · exact bI4
 · exact bI7
 · exact bJA
 · exact bJD
 · exact bJG
 · exact bJJ
 · exact bJM
 · exact bJP
 · exact a1R
 · exact bJU
 · exact bJX
end
section
def aGI : List AV:=[.imm (.more (.int .i64) (.more (.int .i64) (.more (.int .i64) (.more (.slice (.one (.int .i64))) (.more (.slice (.one .str)) (.one .str)))))) [((2:Int),(0:Int),(0:Int),[(1:Int),(2:Int)],[],⟨#[]⟩),((2:Int),(1:Int),(3:Int),[(3:Int),(4:Int)],[],⟨#[]⟩),((2:Int),(1:Int),(3:Int),[(5:Int),(6:Int)],[],⟨#[]⟩),((0:Int),(0:Int),(0:Int),[],[],⟨#[45,49]⟩),((0:Int),(0:Int),(0:Int),[],[],⟨#[49]⟩),((0:Int),(0:Int),(0:Int),[],[],⟨#[49]⟩),((0:Int),(0:Int),(0:Int),[],[],⟨#[45,49]⟩)], .int .i64 (0), .imm (.more (.int .i64) (.one (.slice (.one .str)))) [((3:Int),[⟨#[49]⟩,⟨#[48]⟩])]]
def a1Y : AV := .tup [.agg [.bool false, .imm (.one (.int .u32)) [(1:Int)], .imm (.one (.int .u32)) [(1:Int)]], .own 0]
def aGJ : AV := .tup [.agg [.bool false, .imm (.one (.int .u32)) [(1:Int)], .imm (.one (.int .u32)) [(1:Int)]], .own 5]
def yJ : List aA:=[.typed (.more (.int .i64) (.one (.slice (.one .str)))) [((0:Int),[⟨#[48]⟩,⟨#[49]⟩])] false]
def a1Z : bY:=⟨50,aGI,a1Y,yJ⟩
def gA : List (Nat × List Nat):=[(7,[0,1,6,8,9,11,12,43,44,45]),(18,[6,8,12,16,17,18,19]),(20,[6,8,12,16,17,18,19,20]),(24,[6,8,12,16,17,18,19,20,21,22]),(31,[6,8,12,16,17,18,20,21,139,140,141])]
def gB : List (Nat × ETy):=[(8,(.more (.int .i64) (.more (.int .i64) (.one (.int .i64))))),(9,(.one (.int .i64))),(11,(.more .bool (.more (.slice (.one (.int .u32))) (.one (.slice (.one (.int .u32))))))),(12,(.more .bool (.more (.slice (.one (.int .u32))) (.one (.slice (.one (.int .u32))))))),(43,(.more (.int .i64) (.more (.int .i64) (.more (.int .i64) (.more (.slice (.one (.int .i64))) (.more (.slice (.one .str)) (.one .str))))))),(16,(.one (.int .i64))),(17,(.one (.int .i64))),(18,(.more (.int .i64) (.one (.slice (.one .str))))),(139,(.one (.int .i64)))]
def bO : Res:=Kc [5] aGJ yJ
def kyg_A : Prop:=(aGJ,yJ)=(aGJ,yJ)
noncomputable def a10 : St:=aQ 171 [(0, .imm (.more (.int .i64) (.more (.int .i64) (.more (.int .i64) (.more (.slice (.one (.int .i64))) (.more (.slice (.one .str)) (.one .str)))))) [((2:Int),((0:Int),((0:Int),([(1:Int),(2:Int)],([],⟨#[]⟩))))),((2:Int),((1:Int),((3:Int),([(3:Int),(4:Int)],([],⟨#[]⟩))))),((2:Int),((1:Int),((3:Int),([(5:Int),(6:Int)],([],⟨#[]⟩))))),((0:Int),((0:Int),((0:Int),([],([],⟨#[45,49]⟩))))),((0:Int),((0:Int),((0:Int),([],([],⟨#[49]⟩))))),((0:Int),((0:Int),((0:Int),([],([],⟨#[49]⟩))))),((0:Int),((0:Int),((0:Int),([],([],⟨#[45,49]⟩)))))]),(1, .int .i64 0),(6, .ptr 0 0),(8, .own 1),(9, .own 2),(11, .own 3),(12, .own 4),(43, .imm (.more (.int .i64) (.more (.int .i64) (.more (.int .i64) (.more (.slice (.one (.int .i64))) (.more (.slice (.one .str)) (.one .str)))))) [((2:Int),((0:Int),((0:Int),([(1:Int),(2:Int)],([],⟨#[]⟩))))),((2:Int),((1:Int),((3:Int),([(3:Int),(4:Int)],([],⟨#[]⟩))))),((2:Int),((1:Int),((3:Int),([(5:Int),(6:Int)],([],⟨#[]⟩))))),((0:Int),((0:Int),((0:Int),([],([],⟨#[45,49]⟩))))),((0:Int),((0:Int),((0:Int),([],([],⟨#[49]⟩))))),((0:Int),((0:Int),((0:Int),([],([],⟨#[49]⟩))))),((0:Int),((0:Int),((0:Int),([],([],⟨#[45,49]⟩)))))]),(44, .int .i64 7),(45, .int .i64 0)] [.box [.bool false, .nils, .nils], .typed (.more (.int .i64) (.more (.int .i64) (.one (.int .i64)))) [(((-1):Int),(((-1):Int),((-1):Int))),((0:Int),((0:Int),(0:Int))),((0:Int),((1:Int),(0:Int)))] false, .typed (.one (.int .i64)) [(0:Int),(1:Int),(2:Int),(1:Int),(1:Int),(2:Int),(2:Int)] false, .typed (.more .bool (.more (.slice (.one (.int .u32))) (.one (.slice (.one (.int .u32)))))) [(false,([(1:Int)],[(1:Int)])),(false,([(1:Int)],[(1:Int)])),(false,([(1:Int)],[(1:Int)])),(false,([(1:Int)],[(1:Int)])),(false,([],[])),(false,([(1:Int)],[(1:Int)])),(false,([],[]))] false, .typed (.more .bool (.more (.slice (.one (.int .u32))) (.one (.slice (.one (.int .u32)))))) [(false,([],[])),(false,([],[])),(false,([],[]))] false]
def a11 (n0:Nat):Prop:=aB Tryz.prog n0 50 bO (aD (fnT Tryz.f50) 7) a10
noncomputable def a12 : St:=aQ 171 [(0, .imm (.more (.int .i64) (.more (.int .i64) (.more (.int .i64) (.more (.slice (.one (.int .i64))) (.more (.slice (.one .str)) (.one .str)))))) [((2:Int),((0:Int),((0:Int),([(1:Int),(2:Int)],([],⟨#[]⟩))))),((2:Int),((1:Int),((3:Int),([(3:Int),(4:Int)],([],⟨#[]⟩))))),((2:Int),((1:Int),((3:Int),([(5:Int),(6:Int)],([],⟨#[]⟩))))),((0:Int),((0:Int),((0:Int),([],([],⟨#[45,49]⟩))))),((0:Int),((0:Int),((0:Int),([],([],⟨#[49]⟩))))),((0:Int),((0:Int),((0:Int),([],([],⟨#[49]⟩))))),((0:Int),((0:Int),((0:Int),([],([],⟨#[45,49]⟩)))))]),(1, .int .i64 0),(6, .ptr 0 0),(8, .own 1),(9, .own 2),(11, .own 3),(12, .own 4),(43, .imm (.more (.int .i64) (.more (.int .i64) (.more (.int .i64) (.more (.slice (.one (.int .i64))) (.more (.slice (.one .str)) (.one .str)))))) [((2:Int),((0:Int),((0:Int),([(1:Int),(2:Int)],([],⟨#[]⟩))))),((2:Int),((1:Int),((3:Int),([(3:Int),(4:Int)],([],⟨#[]⟩))))),((2:Int),((1:Int),((3:Int),([(5:Int),(6:Int)],([],⟨#[]⟩))))),((0:Int),((0:Int),((0:Int),([],([],⟨#[45,49]⟩))))),((0:Int),((0:Int),((0:Int),([],([],⟨#[49]⟩))))),((0:Int),((0:Int),((0:Int),([],([],⟨#[49]⟩))))),((0:Int),((0:Int),((0:Int),([],([],⟨#[45,49]⟩)))))]),(44, .int .i64 7),(45, .int .i64 1)] [.box [.bool false, .nils, .nils], .typed (.more (.int .i64) (.more (.int .i64) (.one (.int .i64)))) [(((-1):Int),(((-1):Int),((-1):Int))),((0:Int),((0:Int),(0:Int))),((0:Int),((1:Int),(0:Int)))] false, .typed (.one (.int .i64)) [(0:Int),(1:Int),(2:Int),(1:Int),(1:Int),(2:Int),(2:Int)] false, .typed (.more .bool (.more (.slice (.one (.int .u32))) (.one (.slice (.one (.int .u32)))))) [(false,([(1:Int)],[(1:Int)])),(false,([(1:Int)],[(1:Int)])),(false,([(1:Int)],[(1:Int)])),(false,([(1:Int)],[(1:Int)])),(false,([],[])),(false,([(1:Int)],[(1:Int)])),(false,([],[]))] false, .typed (.more .bool (.more (.slice (.one (.int .u32))) (.one (.slice (.one (.int .u32)))))) [(false,([],[])),(false,([],[])),(false,([],[]))] false]
def a13 (n0:Nat):Prop:=aB Tryz.prog n0 50 bO (aD (fnT Tryz.f50) 7) a12
noncomputable def a14 : St:=aQ 171 [(0, .imm (.more (.int .i64) (.more (.int .i64) (.more (.int .i64) (.more (.slice (.one (.int .i64))) (.more (.slice (.one .str)) (.one .str)))))) [((2:Int),((0:Int),((0:Int),([(1:Int),(2:Int)],([],⟨#[]⟩))))),((2:Int),((1:Int),((3:Int),([(3:Int),(4:Int)],([],⟨#[]⟩))))),((2:Int),((1:Int),((3:Int),([(5:Int),(6:Int)],([],⟨#[]⟩))))),((0:Int),((0:Int),((0:Int),([],([],⟨#[45,49]⟩))))),((0:Int),((0:Int),((0:Int),([],([],⟨#[49]⟩))))),((0:Int),((0:Int),((0:Int),([],([],⟨#[49]⟩))))),((0:Int),((0:Int),((0:Int),([],([],⟨#[45,49]⟩)))))]),(1, .int .i64 0),(6, .ptr 0 0),(8, .own 1),(9, .own 2),(11, .own 3),(12, .own 4),(43, .imm (.more (.int .i64) (.more (.int .i64) (.more (.int .i64) (.more (.slice (.one (.int .i64))) (.more (.slice (.one .str)) (.one .str)))))) [((2:Int),((0:Int),((0:Int),([(1:Int),(2:Int)],([],⟨#[]⟩))))),((2:Int),((1:Int),((3:Int),([(3:Int),(4:Int)],([],⟨#[]⟩))))),((2:Int),((1:Int),((3:Int),([(5:Int),(6:Int)],([],⟨#[]⟩))))),((0:Int),((0:Int),((0:Int),([],([],⟨#[45,49]⟩))))),((0:Int),((0:Int),((0:Int),([],([],⟨#[49]⟩))))),((0:Int),((0:Int),((0:Int),([],([],⟨#[49]⟩))))),((0:Int),((0:Int),((0:Int),([],([],⟨#[45,49]⟩)))))]),(44, .int .i64 7),(45, .int .i64 2)] [.box [.bool false, .nils, .nils], .typed (.more (.int .i64) (.more (.int .i64) (.one (.int .i64)))) [(((-1):Int),(((-1):Int),((-1):Int))),((0:Int),((0:Int),(0:Int))),((0:Int),((1:Int),(0:Int)))] false, .typed (.one (.int .i64)) [(0:Int),(1:Int),(2:Int),(1:Int),(1:Int),(2:Int),(2:Int)] false, .typed (.more .bool (.more (.slice (.one (.int .u32))) (.one (.slice (.one (.int .u32)))))) [(false,([(1:Int)],[(1:Int)])),(false,([(1:Int)],[(1:Int)])),(false,([(1:Int)],[(1:Int)])),(false,([(1:Int)],[(1:Int)])),(false,([],[])),(false,([(1:Int)],[(1:Int)])),(false,([],[]))] false, .typed (.more .bool (.more (.slice (.one (.int .u32))) (.one (.slice (.one (.int .u32)))))) [(false,([],[])),(false,([],[])),(false,([],[]))] false]
def a15 (n0:Nat):Prop:=aB Tryz.prog n0 50 bO (aD (fnT Tryz.f50) 7) a14
noncomputable def a16 : St:=aQ 171 [(0, .imm (.more (.int .i64) (.more (.int .i64) (.more (.int .i64) (.more (.slice (.one (.int .i64))) (.more (.slice (.one .str)) (.one .str)))))) [((2:Int),((0:Int),((0:Int),([(1:Int),(2:Int)],([],⟨#[]⟩))))),((2:Int),((1:Int),((3:Int),([(3:Int),(4:Int)],([],⟨#[]⟩))))),((2:Int),((1:Int),((3:Int),([(5:Int),(6:Int)],([],⟨#[]⟩))))),((0:Int),((0:Int),((0:Int),([],([],⟨#[45,49]⟩))))),((0:Int),((0:Int),((0:Int),([],([],⟨#[49]⟩))))),((0:Int),((0:Int),((0:Int),([],([],⟨#[49]⟩))))),((0:Int),((0:Int),((0:Int),([],([],⟨#[45,49]⟩)))))]),(1, .int .i64 0),(6, .ptr 0 0),(8, .own 1),(9, .own 2),(11, .own 3),(12, .own 4),(43, .imm (.more (.int .i64) (.more (.int .i64) (.more (.int .i64) (.more (.slice (.one (.int .i64))) (.more (.slice (.one .str)) (.one .str)))))) [((2:Int),((0:Int),((0:Int),([(1:Int),(2:Int)],([],⟨#[]⟩))))),((2:Int),((1:Int),((3:Int),([(3:Int),(4:Int)],([],⟨#[]⟩))))),((2:Int),((1:Int),((3:Int),([(5:Int),(6:Int)],([],⟨#[]⟩))))),((0:Int),((0:Int),((0:Int),([],([],⟨#[45,49]⟩))))),((0:Int),((0:Int),((0:Int),([],([],⟨#[49]⟩))))),((0:Int),((0:Int),((0:Int),([],([],⟨#[49]⟩))))),((0:Int),((0:Int),((0:Int),([],([],⟨#[45,49]⟩)))))]),(44, .int .i64 7),(45, .int .i64 3)] [.box [.bool false, .nils, .nils], .typed (.more (.int .i64) (.more (.int .i64) (.one (.int .i64)))) [(((-1):Int),(((-1):Int),((-1):Int))),((0:Int),((0:Int),(0:Int))),((0:Int),((1:Int),(0:Int)))] false, .typed (.one (.int .i64)) [(0:Int),(1:Int),(2:Int),(1:Int),(1:Int),(2:Int),(2:Int)] false, .typed (.more .bool (.more (.slice (.one (.int .u32))) (.one (.slice (.one (.int .u32)))))) [(false,([(1:Int)],[(1:Int)])),(false,([(1:Int)],[(1:Int)])),(false,([(1:Int)],[(1:Int)])),(false,([(1:Int)],[(1:Int)])),(false,([],[])),(false,([(1:Int)],[(1:Int)])),(false,([],[]))] false, .typed (.more .bool (.more (.slice (.one (.int .u32))) (.one (.slice (.one (.int .u32)))))) [(false,([],[])),(false,([],[])),(false,([],[]))] false]
def a17 (n0:Nat):Prop:=aB Tryz.prog n0 50 bO (aD (fnT Tryz.f50) 7) a16
noncomputable def a18 : St:=aQ 171 [(0, .imm (.more (.int .i64) (.more (.int .i64) (.more (.int .i64) (.more (.slice (.one (.int .i64))) (.more (.slice (.one .str)) (.one .str)))))) [((2:Int),((0:Int),((0:Int),([(1:Int),(2:Int)],([],⟨#[]⟩))))),((2:Int),((1:Int),((3:Int),([(3:Int),(4:Int)],([],⟨#[]⟩))))),((2:Int),((1:Int),((3:Int),([(5:Int),(6:Int)],([],⟨#[]⟩))))),((0:Int),((0:Int),((0:Int),([],([],⟨#[45,49]⟩))))),((0:Int),((0:Int),((0:Int),([],([],⟨#[49]⟩))))),((0:Int),((0:Int),((0:Int),([],([],⟨#[49]⟩))))),((0:Int),((0:Int),((0:Int),([],([],⟨#[45,49]⟩)))))]),(1, .int .i64 0),(6, .ptr 0 0),(8, .own 1),(9, .own 2),(11, .own 3),(12, .own 4),(43, .imm (.more (.int .i64) (.more (.int .i64) (.more (.int .i64) (.more (.slice (.one (.int .i64))) (.more (.slice (.one .str)) (.one .str)))))) [((2:Int),((0:Int),((0:Int),([(1:Int),(2:Int)],([],⟨#[]⟩))))),((2:Int),((1:Int),((3:Int),([(3:Int),(4:Int)],([],⟨#[]⟩))))),((2:Int),((1:Int),((3:Int),([(5:Int),(6:Int)],([],⟨#[]⟩))))),((0:Int),((0:Int),((0:Int),([],([],⟨#[45,49]⟩))))),((0:Int),((0:Int),((0:Int),([],([],⟨#[49]⟩))))),((0:Int),((0:Int),((0:Int),([],([],⟨#[49]⟩))))),((0:Int),((0:Int),((0:Int),([],([],⟨#[45,49]⟩)))))]),(44, .int .i64 7),(45, .int .i64 4)] [.box [.bool false, .nils, .nils], .typed (.more (.int .i64) (.more (.int .i64) (.one (.int .i64)))) [(((-1):Int),(((-1):Int),((-1):Int))),((0:Int),((0:Int),(0:Int))),((0:Int),((1:Int),(0:Int)))] false, .typed (.one (.int .i64)) [(0:Int),(1:Int),(2:Int),(1:Int),(1:Int),(2:Int),(2:Int)] false, .typed (.more .bool (.more (.slice (.one (.int .u32))) (.one (.slice (.one (.int .u32)))))) [(false,([(1:Int)],[(1:Int)])),(false,([(1:Int)],[(1:Int)])),(false,([(1:Int)],[(1:Int)])),(false,([(1:Int)],[(1:Int)])),(false,([],[])),(false,([(1:Int)],[(1:Int)])),(false,([],[]))] false, .typed (.more .bool (.more (.slice (.one (.int .u32))) (.one (.slice (.one (.int .u32)))))) [(false,([],[])),(true,([(1:Int)],[(1:Int)])),(false,([],[]))] false]
def aGK (n0:Nat):Prop:=aB Tryz.prog n0 50 bO (aD (fnT Tryz.f50) 7) a18
noncomputable def a19 : St:=aQ 171 [(0, .imm (.more (.int .i64) (.more (.int .i64) (.more (.int .i64) (.more (.slice (.one (.int .i64))) (.more (.slice (.one .str)) (.one .str)))))) [((2:Int),((0:Int),((0:Int),([(1:Int),(2:Int)],([],⟨#[]⟩))))),((2:Int),((1:Int),((3:Int),([(3:Int),(4:Int)],([],⟨#[]⟩))))),((2:Int),((1:Int),((3:Int),([(5:Int),(6:Int)],([],⟨#[]⟩))))),((0:Int),((0:Int),((0:Int),([],([],⟨#[45,49]⟩))))),((0:Int),((0:Int),((0:Int),([],([],⟨#[49]⟩))))),((0:Int),((0:Int),((0:Int),([],([],⟨#[49]⟩))))),((0:Int),((0:Int),((0:Int),([],([],⟨#[45,49]⟩)))))]),(1, .int .i64 0),(6, .ptr 0 0),(8, .own 1),(9, .own 2),(11, .own 3),(12, .own 4),(43, .imm (.more (.int .i64) (.more (.int .i64) (.more (.int .i64) (.more (.slice (.one (.int .i64))) (.more (.slice (.one .str)) (.one .str)))))) [((2:Int),((0:Int),((0:Int),([(1:Int),(2:Int)],([],⟨#[]⟩))))),((2:Int),((1:Int),((3:Int),([(3:Int),(4:Int)],([],⟨#[]⟩))))),((2:Int),((1:Int),((3:Int),([(5:Int),(6:Int)],([],⟨#[]⟩))))),((0:Int),((0:Int),((0:Int),([],([],⟨#[45,49]⟩))))),((0:Int),((0:Int),((0:Int),([],([],⟨#[49]⟩))))),((0:Int),((0:Int),((0:Int),([],([],⟨#[49]⟩))))),((0:Int),((0:Int),((0:Int),([],([],⟨#[45,49]⟩)))))]),(44, .int .i64 7),(45, .int .i64 5)] [.box [.bool false, .nils, .nils], .typed (.more (.int .i64) (.more (.int .i64) (.one (.int .i64)))) [(((-1):Int),(((-1):Int),((-1):Int))),((0:Int),((0:Int),(0:Int))),((0:Int),((1:Int),(0:Int)))] false, .typed (.one (.int .i64)) [(0:Int),(1:Int),(2:Int),(1:Int),(1:Int),(2:Int),(2:Int)] false, .typed (.more .bool (.more (.slice (.one (.int .u32))) (.one (.slice (.one (.int .u32)))))) [(false,([(1:Int)],[(1:Int)])),(false,([(1:Int)],[(1:Int)])),(false,([(1:Int)],[(1:Int)])),(false,([(1:Int)],[(1:Int)])),(false,([],[])),(false,([(1:Int)],[(1:Int)])),(false,([],[]))] false, .typed (.more .bool (.more (.slice (.one (.int .u32))) (.one (.slice (.one (.int .u32)))))) [(false,([],[])),(true,([(1:Int)],[(1:Int)])),(false,([],[]))] false]
def aGL (n0:Nat):Prop:=aB Tryz.prog n0 50 bO (aD (fnT Tryz.f50) 7) a19
noncomputable def a2A : St:=aQ 171 [(0, .imm (.more (.int .i64) (.more (.int .i64) (.more (.int .i64) (.more (.slice (.one (.int .i64))) (.more (.slice (.one .str)) (.one .str)))))) [((2:Int),((0:Int),((0:Int),([(1:Int),(2:Int)],([],⟨#[]⟩))))),((2:Int),((1:Int),((3:Int),([(3:Int),(4:Int)],([],⟨#[]⟩))))),((2:Int),((1:Int),((3:Int),([(5:Int),(6:Int)],([],⟨#[]⟩))))),((0:Int),((0:Int),((0:Int),([],([],⟨#[45,49]⟩))))),((0:Int),((0:Int),((0:Int),([],([],⟨#[49]⟩))))),((0:Int),((0:Int),((0:Int),([],([],⟨#[49]⟩))))),((0:Int),((0:Int),((0:Int),([],([],⟨#[45,49]⟩)))))]),(1, .int .i64 0),(6, .ptr 0 0),(8, .own 1),(9, .own 2),(11, .own 3),(12, .own 4),(43, .imm (.more (.int .i64) (.more (.int .i64) (.more (.int .i64) (.more (.slice (.one (.int .i64))) (.more (.slice (.one .str)) (.one .str)))))) [((2:Int),((0:Int),((0:Int),([(1:Int),(2:Int)],([],⟨#[]⟩))))),((2:Int),((1:Int),((3:Int),([(3:Int),(4:Int)],([],⟨#[]⟩))))),((2:Int),((1:Int),((3:Int),([(5:Int),(6:Int)],([],⟨#[]⟩))))),((0:Int),((0:Int),((0:Int),([],([],⟨#[45,49]⟩))))),((0:Int),((0:Int),((0:Int),([],([],⟨#[49]⟩))))),((0:Int),((0:Int),((0:Int),([],([],⟨#[49]⟩))))),((0:Int),((0:Int),((0:Int),([],([],⟨#[45,49]⟩)))))]),(44, .int .i64 7),(45, .int .i64 6)] [.box [.bool false, .nils, .nils], .typed (.more (.int .i64) (.more (.int .i64) (.one (.int .i64)))) [(((-1):Int),(((-1):Int),((-1):Int))),((0:Int),((0:Int),(0:Int))),((0:Int),((1:Int),(0:Int)))] false, .typed (.one (.int .i64)) [(0:Int),(1:Int),(2:Int),(1:Int),(1:Int),(2:Int),(2:Int)] false, .typed (.more .bool (.more (.slice (.one (.int .u32))) (.one (.slice (.one (.int .u32)))))) [(false,([(1:Int)],[(1:Int)])),(false,([(1:Int)],[(1:Int)])),(false,([(1:Int)],[(1:Int)])),(false,([(1:Int)],[(1:Int)])),(false,([],[])),(false,([(1:Int)],[(1:Int)])),(false,([],[]))] false, .typed (.more .bool (.more (.slice (.one (.int .u32))) (.one (.slice (.one (.int .u32)))))) [(false,([],[])),(true,([(1:Int)],[(1:Int)])),(false,([(1:Int)],[(1:Int)]))] false]
def aGM (n0:Nat):Prop:=aB Tryz.prog n0 50 bO (aD (fnT Tryz.f50) 7) a2A
noncomputable def a2B : St:=aQ 171 [(0, .imm (.more (.int .i64) (.more (.int .i64) (.more (.int .i64) (.more (.slice (.one (.int .i64))) (.more (.slice (.one .str)) (.one .str)))))) [((2:Int),((0:Int),((0:Int),([(1:Int),(2:Int)],([],⟨#[]⟩))))),((2:Int),((1:Int),((3:Int),([(3:Int),(4:Int)],([],⟨#[]⟩))))),((2:Int),((1:Int),((3:Int),([(5:Int),(6:Int)],([],⟨#[]⟩))))),((0:Int),((0:Int),((0:Int),([],([],⟨#[45,49]⟩))))),((0:Int),((0:Int),((0:Int),([],([],⟨#[49]⟩))))),((0:Int),((0:Int),((0:Int),([],([],⟨#[49]⟩))))),((0:Int),((0:Int),((0:Int),([],([],⟨#[45,49]⟩)))))]),(1, .int .i64 0),(6, .ptr 0 0),(8, .own 1),(9, .own 2),(11, .own 3),(12, .own 4),(43, .imm (.more (.int .i64) (.more (.int .i64) (.more (.int .i64) (.more (.slice (.one (.int .i64))) (.more (.slice (.one .str)) (.one .str)))))) [((2:Int),((0:Int),((0:Int),([(1:Int),(2:Int)],([],⟨#[]⟩))))),((2:Int),((1:Int),((3:Int),([(3:Int),(4:Int)],([],⟨#[]⟩))))),((2:Int),((1:Int),((3:Int),([(5:Int),(6:Int)],([],⟨#[]⟩))))),((0:Int),((0:Int),((0:Int),([],([],⟨#[45,49]⟩))))),((0:Int),((0:Int),((0:Int),([],([],⟨#[49]⟩))))),((0:Int),((0:Int),((0:Int),([],([],⟨#[49]⟩))))),((0:Int),((0:Int),((0:Int),([],([],⟨#[45,49]⟩)))))]),(44, .int .i64 7),(45, .int .i64 7)] [.box [.bool false, .nils, .nils], .typed (.more (.int .i64) (.more (.int .i64) (.one (.int .i64)))) [(((-1):Int),(((-1):Int),((-1):Int))),((0:Int),((0:Int),(0:Int))),((0:Int),((1:Int),(0:Int)))] false, .typed (.one (.int .i64)) [(0:Int),(1:Int),(2:Int),(1:Int),(1:Int),(2:Int),(2:Int)] false, .typed (.more .bool (.more (.slice (.one (.int .u32))) (.one (.slice (.one (.int .u32)))))) [(false,([(1:Int)],[(1:Int)])),(false,([(1:Int)],[(1:Int)])),(false,([(1:Int)],[(1:Int)])),(false,([(1:Int)],[(1:Int)])),(false,([],[])),(false,([(1:Int)],[(1:Int)])),(false,([],[]))] false, .typed (.more .bool (.more (.slice (.one (.int .u32))) (.one (.slice (.one (.int .u32)))))) [(false,([],[])),(true,([(1:Int)],[(1:Int)])),(false,([(1:Int)],[(1:Int)]))] false]
def aGN (n0:Nat):Prop:=aB Tryz.prog n0 50 bO (aD (fnT Tryz.f50) 7) a2B
noncomputable def a2C : St:=aQ 171 [(6, .ptr 0 0),(8, .own 1),(12, .own 2),(16, .own 3),(17, .own 4),(18, .own 5),(19, .int .i64 3)] [.box [.bool false, .nils, .nils], .typed (.more (.int .i64) (.more (.int .i64) (.one (.int .i64)))) [(((-1):Int),(((-1):Int),((-1):Int))),((0:Int),((0:Int),(0:Int))),((0:Int),((1:Int),(0:Int)))] false, .typed (.more .bool (.more (.slice (.one (.int .u32))) (.one (.slice (.one (.int .u32)))))) [(false,([],[])),(true,([(1:Int)],[(1:Int)])),(false,([(1:Int)],[(1:Int)]))] false, .typed (.one (.int .i64)) [(0:Int)] false, .typed (.one (.int .i64)) [(2:Int)] false, .typed (.more (.int .i64) (.one (.slice (.one .str)))) [((0:Int),[])] false]
def aGO (n0:Nat):Prop:=aB Tryz.prog n0 50 bO (aD (fnT Tryz.f50) 18) a2C
noncomputable def a2D : St:=aQ 171 [(6, .ptr 0 0),(8, .own 1),(12, .own 2),(16, .own 3),(17, .own 4),(18, .own 5),(19, .int .i64 3),(20, .int .i64 2)] [.box [.bool false, .nils, .nils], .typed (.more (.int .i64) (.more (.int .i64) (.one (.int .i64)))) [(((-1):Int),(((-1):Int),((-1):Int))),((0:Int),((0:Int),(0:Int))),((0:Int),((1:Int),(0:Int)))] false, .typed (.more .bool (.more (.slice (.one (.int .u32))) (.one (.slice (.one (.int .u32)))))) [(false,([],[])),(true,([(1:Int)],[(1:Int)])),(false,([(1:Int)],[(1:Int)]))] false, .typed (.one (.int .i64)) [(0:Int)] false, .typed (.one (.int .i64)) [(2:Int)] false, .typed (.more (.int .i64) (.one (.slice (.one .str)))) [((0:Int),[])] false]
def a2E (n0:Nat):Prop:=aB Tryz.prog n0 50 bO (aD (fnT Tryz.f50) 20) a2D
noncomputable def a2F : St:=aQ 171 [(6, .ptr 0 0),(8, .own 1),(12, .own 2),(16, .own 3),(17, .own 4),(18, .own 5),(19, .int .i64 3),(20, .int .i64 1)] [.box [.bool false, .nils, .nils], .typed (.more (.int .i64) (.more (.int .i64) (.one (.int .i64)))) [(((-1):Int),(((-1):Int),((-1):Int))),((0:Int),((0:Int),(0:Int))),((0:Int),((1:Int),(0:Int)))] false, .typed (.more .bool (.more (.slice (.one (.int .u32))) (.one (.slice (.one (.int .u32)))))) [(false,([],[])),(true,([(1:Int)],[(1:Int)])),(false,([(1:Int)],[(1:Int)]))] false, .typed (.one (.int .i64)) [(0:Int)] false, .typed (.one (.int .i64)) [(2:Int)] false, .typed (.more (.int .i64) (.one (.slice (.one .str)))) [((0:Int),[])] false]
def a2G (n0:Nat):Prop:=aB Tryz.prog n0 50 bO (aD (fnT Tryz.f50) 20) a2F
noncomputable def a2H : St:=aQ 171 [(6, .ptr 0 0),(8, .own 1),(12, .own 2),(16, .own 3),(17, .own 4),(18, .own 5),(19, .int .i64 3),(20, .int .i64 1),(21, .int .i64 1),(22, .int .i64 1)] [.box [.bool false, .nils, .nils], .typed (.more (.int .i64) (.more (.int .i64) (.one (.int .i64)))) [(((-1):Int),(((-1):Int),((-1):Int))),((0:Int),((0:Int),(0:Int))),((0:Int),((1:Int),(0:Int)))] false, .typed (.more .bool (.more (.slice (.one (.int .u32))) (.one (.slice (.one (.int .u32)))))) [(false,([],[])),(true,([(1:Int)],[(1:Int)])),(false,([(1:Int)],[(1:Int)]))] false, .typed (.one (.int .i64)) [(0:Int)] false, .typed (.one (.int .i64)) [(2:Int)] false, .typed (.more (.int .i64) (.one (.slice (.one .str)))) [((0:Int),[])] false]
def a2I (n0:Nat):Prop:=aB Tryz.prog n0 50 bO (aD (fnT Tryz.f50) 24) a2H
noncomputable def a2J : St:=aQ 171 [(6, .ptr 0 0),(8, .own 1),(12, .own 2),(16, .own 3),(17, .own 4),(18, .own 5),(19, .int .i64 3),(20, .int .i64 1),(21, .int .i64 1),(22, .int .i64 2)] [.box [.bool false, .nils, .nils], .typed (.more (.int .i64) (.more (.int .i64) (.one (.int .i64)))) [(((-1):Int),(((-1):Int),((-1):Int))),((0:Int),((0:Int),(0:Int))),((0:Int),((1:Int),(0:Int)))] false, .typed (.more .bool (.more (.slice (.one (.int .u32))) (.one (.slice (.one (.int .u32)))))) [(false,([],[])),(true,([(1:Int)],[(1:Int)])),(false,([(1:Int)],[(1:Int)]))] false, .typed (.one (.int .i64)) [(0:Int)] false, .typed (.one (.int .i64)) [(2:Int)] false, .typed (.more (.int .i64) (.one (.slice (.one .str)))) [((0:Int),[])] false]
def a2K (n0:Nat):Prop:=aB Tryz.prog n0 50 bO (aD (fnT Tryz.f50) 24) a2J
noncomputable def a2L : St:=aQ 171 [(6, .ptr 0 0),(8, .own 1),(12, .own 2),(16, .own 3),(17, .own 4),(18, .own 5),(19, .int .i64 3),(20, .int .i64 1),(21, .int .i64 2),(22, .int .i64 3)] [.box [.bool false, .nils, .nils], .typed (.more (.int .i64) (.more (.int .i64) (.one (.int .i64)))) [(((-1):Int),(((-1):Int),((-1):Int))),((0:Int),((0:Int),(0:Int))),((0:Int),((1:Int),(0:Int)))] false, .typed (.more .bool (.more (.slice (.one (.int .u32))) (.one (.slice (.one (.int .u32)))))) [(false,([],[])),(true,([(1:Int)],[(1:Int)])),(false,([(1:Int)],[(1:Int)]))] false, .typed (.one (.int .i64)) [(0:Int)] false, .typed (.one (.int .i64)) [(2:Int)] false, .typed (.more (.int .i64) (.one (.slice (.one .str)))) [((0:Int),[])] false]
def a2M (n0:Nat):Prop:=aB Tryz.prog n0 50 bO (aD (fnT Tryz.f50) 24) a2L
noncomputable def a2N : St:=aQ 171 [(6, .ptr 0 0),(8, .own 1),(12, .own 2),(16, .own 3),(17, .own 4),(18, .own 5),(20, .int .i64 1),(21, .int .i64 2),(139, .own 3),(140, .int .i64 1),(141, .int .i64 0)] [.box [.bool false, .nils, .nils], .typed (.more (.int .i64) (.more (.int .i64) (.one (.int .i64)))) [(((-1):Int),(((-1):Int),((-1):Int))),((0:Int),((0:Int),(0:Int))),((0:Int),((1:Int),(0:Int)))] false, .typed (.more .bool (.more (.slice (.one (.int .u32))) (.one (.slice (.one (.int .u32)))))) [(false,([(1:Int)],[(1:Int)])),(true,([(1:Int)],[(1:Int)])),(false,([(1:Int)],[(1:Int)]))] false, .typed (.one (.int .i64)) [(0:Int)] false, .typed (.one (.int .i64)) [(2:Int)] false, .typed (.more (.int .i64) (.one (.slice (.one .str)))) [((0:Int),[])] false]
def a2O (n0:Nat):Prop:=aB Tryz.prog n0 50 bO (aD (fnT Tryz.f50) 31) a2N
noncomputable def a2P : St:=aQ 171 [(6, .ptr 0 0),(8, .own 1),(12, .own 2),(16, .own 3),(17, .own 4),(18, .own 5),(20, .int .i64 1),(21, .int .i64 2),(139, .own 3),(140, .int .i64 1),(141, .int .i64 1)] [.box [.bool false, .nils, .nils], .typed (.more (.int .i64) (.more (.int .i64) (.one (.int .i64)))) [(((-1):Int),(((-1):Int),((-1):Int))),((0:Int),((0:Int),(0:Int))),((0:Int),((1:Int),(0:Int)))] false, .typed (.more .bool (.more (.slice (.one (.int .u32))) (.one (.slice (.one (.int .u32)))))) [(false,([(1:Int)],[(1:Int)])),(true,([(1:Int)],[(1:Int)])),(false,([(1:Int)],[(1:Int)]))] false, .typed (.one (.int .i64)) [(0:Int)] false, .typed (.one (.int .i64)) [(2:Int)] false, .typed (.more (.int .i64) (.one (.slice (.one .str)))) [((0:Int),[⟨#[48]⟩,⟨#[49]⟩])] false]
def a2Q (n0:Nat):Prop:=aB Tryz.prog n0 50 bO (aD (fnT Tryz.f50) 31) a2P
noncomputable def a2R : St:=aQ 171 [(6, .ptr 0 0),(8, .own 1),(12, .own 2),(16, .own 3),(17, .own 4),(18, .own 5),(19, .int .i64 1)] [.box [.bool false, .nils, .nils], .typed (.more (.int .i64) (.more (.int .i64) (.one (.int .i64)))) [(((-1):Int),(((-1):Int),((-1):Int))),((0:Int),((0:Int),(0:Int))),((0:Int),((1:Int),(0:Int)))] false, .typed (.more .bool (.more (.slice (.one (.int .u32))) (.one (.slice (.one (.int .u32)))))) [(false,([(1:Int)],[(1:Int)])),(true,([(1:Int)],[(1:Int)])),(false,([(1:Int)],[(1:Int)]))] false, .typed (.one (.int .i64)) [(0:Int)] false, .typed (.one (.int .i64)) [(2:Int)] false, .typed (.more (.int .i64) (.one (.slice (.one .str)))) [((0:Int),[⟨#[48]⟩,⟨#[49]⟩])] false]
def a2S (n0:Nat):Prop:=aB Tryz.prog n0 50 bO (aD (fnT Tryz.f50) 18) a2R
set_option maxRecDepth 1000000 in
theorem bJY (n0:Nat):(aF tab (dV cJ (dQ tab (Mach.runT tab cJ 300))) (aI gA gB (aB Tryz.prog n0 50 bO)) (aG tab (fnT Tryz.f50).res bO) 400 (aR (fnT Tryz.f50) 18) a2R)=(kyg_A):=by kernel_rfl
theorem bJZ (n0:Nat):a2S n0:=gF f0 (gn:=fnT Tryz.f50) (by kernel_rfl) (bJY n0) ⟨rfl⟩
set_option maxRecDepth 1000000 in
theorem bJ0 (n0:Nat):(aF tab (dV cJ (dQ tab (Mach.runT tab cJ 300))) (aI gA gB (aB Tryz.prog n0 50 bO)) (aG tab (fnT Tryz.f50).res bO) 400 (aR (fnT Tryz.f50) 31) a2P)=(a2S n0):=by kernel_rfl
theorem bJ1 (n0:Nat):a2Q n0:=gF f0 (gn:=fnT Tryz.f50) (by kernel_rfl) (bJ0 n0) ⟨(bJZ n0)⟩
set_option maxRecDepth 1000000 in
theorem bJ2 (n0:Nat):(aF tab (dV cJ (dQ tab (Mach.runT tab cJ 300))) (aI gA gB (aB Tryz.prog n0 50 bO)) (aG tab (fnT Tryz.f50).res bO) 400 (aR (fnT Tryz.f50) 31) a2N)=(a2Q n0):=by kernel_rfl
theorem bJ3 (n0:Nat):a2O n0:=gF f0 (gn:=fnT Tryz.f50) (by kernel_rfl) (bJ2 n0) ⟨(bJ1 n0)⟩
set_option maxRecDepth 1000000 in
theorem bJ4 (n0:Nat):(aF tab (dV cJ (dQ tab (Mach.runT tab cJ 300))) (aI gA gB (aB Tryz.prog n0 50 bO)) (aG tab (fnT Tryz.f50).res bO) 400 (aR (fnT Tryz.f50) 24) a2L)=(a2O n0):=by kernel_rfl
theorem bJ5 (n0:Nat):a2M n0:=gF f0 (gn:=fnT Tryz.f50) (by kernel_rfl) (bJ4 n0) ⟨(bJ3 n0)⟩
set_option maxRecDepth 1000000 in
theorem bJ6 (n0:Nat):(aF tab (dV cJ (dQ tab (Mach.runT tab cJ 300))) (aI gA gB (aB Tryz.prog n0 50 bO)) (aG tab (fnT Tryz.f50).res bO) 400 (aR (fnT Tryz.f50) 24) a2J)=(a2M n0):=by kernel_rfl
theorem bJ7 (n0:Nat):a2K n0:=gF f0 (gn:=fnT Tryz.f50) (by kernel_rfl) (bJ6 n0) ⟨(bJ5 n0)⟩
set_option maxRecDepth 1000000 in
theorem bJ8 (n0:Nat):(aF tab (dV cJ (dQ tab (Mach.runT tab cJ 300))) (aI gA gB (aB Tryz.prog n0 50 bO)) (aG tab (fnT Tryz.f50).res bO) 400 (aR (fnT Tryz.f50) 24) a2H)=(a2K n0):=by kernel_rfl
theorem bJ9 (n0:Nat):a2I n0:=gF f0 (gn:=fnT Tryz.f50) (by kernel_rfl) (bJ8 n0) ⟨(bJ7 n0)⟩
set_option maxRecDepth 1000000 in
theorem bKA (n0:Nat):(aF tab (dV cJ (dQ tab (Mach.runT tab cJ 300))) (aI gA gB (aB Tryz.prog n0 50 bO)) (aG tab (fnT Tryz.f50).res bO) 400 (aR (fnT Tryz.f50) 20) a2F)=(a2I n0):=by kernel_rfl
theorem bKB (n0:Nat):a2G n0:=gF f0 (gn:=fnT Tryz.f50) (by kernel_rfl) (bKA n0) ⟨(bJ9 n0)⟩
set_option maxRecDepth 1000000 in
theorem bKC (n0:Nat):(aF tab (dV cJ (dQ tab (Mach.runT tab cJ 300))) (aI gA gB (aB Tryz.prog n0 50 bO)) (aG tab (fnT Tryz.f50).res bO) 400 (aR (fnT Tryz.f50) 20) a2D)=(a2G n0):=by kernel_rfl
theorem bKD (n0:Nat):a2E n0:=gF f0 (gn:=fnT Tryz.f50) (by kernel_rfl) (bKC n0) ⟨(bKB n0)⟩
set_option maxRecDepth 1000000 in
theorem bKE (n0:Nat):(aF tab (dV cJ (dQ tab (Mach.runT tab cJ 300))) (aI gA gB (aB Tryz.prog n0 50 bO)) (aG tab (fnT Tryz.f50).res bO) 400 (aR (fnT Tryz.f50) 18) a2C)=(a2E n0):=by kernel_rfl
theorem aNU (n0:Nat):aGO n0:=gF f0 (gn:=fnT Tryz.f50) (by kernel_rfl) (bKE n0) ⟨(bKD n0)⟩
set_option maxRecDepth 1000000 in
theorem bKF (n0:Nat):(aF tab (dV cJ (dQ tab (Mach.runT tab cJ 300))) (aI gA gB (aB Tryz.prog n0 50 bO)) (aG tab (fnT Tryz.f50).res bO) 400 (aR (fnT Tryz.f50) 7) a2B)=((aGO n0∧(aGO n0∧aGO n0))):=by kernel_rfl
theorem aNV (n0:Nat):aGN n0:=gF f0 (gn:=fnT Tryz.f50) (by kernel_rfl) (bKF n0) ⟨⟨(aNU n0),⟨(aNU n0),(aNU n0)⟩⟩⟩
set_option maxRecDepth 1000000 in
theorem bKG (n0:Nat):(aF tab (dV cJ (dQ tab (Mach.runT tab cJ 300))) (aI gA gB (aB Tryz.prog n0 50 bO)) (aG tab (fnT Tryz.f50).res bO) 400 (aR (fnT Tryz.f50) 7) a2A)=((aGN n0∧(aGN n0∧aGN n0))):=by kernel_rfl
theorem aNW (n0:Nat):aGM n0:=gF f0 (gn:=fnT Tryz.f50) (by kernel_rfl) (bKG n0) ⟨⟨(aNV n0),⟨(aNV n0),(aNV n0)⟩⟩⟩
set_option maxRecDepth 1000000 in
theorem bKH (n0:Nat):(aF tab (dV cJ (dQ tab (Mach.runT tab cJ 300))) (aI gA gB (aB Tryz.prog n0 50 bO)) (aG tab (fnT Tryz.f50).res bO) 400 (aR (fnT Tryz.f50) 7) a19)=((aGM n0∧(aGM n0∧aGM n0))):=by kernel_rfl
theorem aNX (n0:Nat):aGL n0:=gF f0 (gn:=fnT Tryz.f50) (by kernel_rfl) (bKH n0) ⟨⟨(aNW n0),⟨(aNW n0),(aNW n0)⟩⟩⟩
set_option maxRecDepth 1000000 in
theorem bKI (n0:Nat):(aF tab (dV cJ (dQ tab (Mach.runT tab cJ 300))) (aI gA gB (aB Tryz.prog n0 50 bO)) (aG tab (fnT Tryz.f50).res bO) 400 (aR (fnT Tryz.f50) 7) a18)=((aGL n0∧(aGL n0∧aGL n0))):=by kernel_rfl
theorem aNY (n0:Nat):aGK n0:=gF f0 (gn:=fnT Tryz.f50) (by kernel_rfl) (bKI n0) ⟨⟨(aNX n0),⟨(aNX n0),(aNX n0)⟩⟩⟩
set_option maxRecDepth 1000000 in
theorem bKJ (n0:Nat):(aF tab (dV cJ (dQ tab (Mach.runT tab cJ 300))) (aI gA gB (aB Tryz.prog n0 50 bO)) (aG tab (fnT Tryz.f50).res bO) 400 (aR (fnT Tryz.f50) 7) a16)=((aGK n0∧(aGK n0∧aGK n0))):=by kernel_rfl
theorem bKK (n0:Nat):a17 n0:=gF f0 (gn:=fnT Tryz.f50) (by kernel_rfl) (bKJ n0) ⟨⟨(aNY n0),⟨(aNY n0),(aNY n0)⟩⟩⟩
set_option maxRecDepth 1000000 in
theorem bKL (n0:Nat):(aF tab (dV cJ (dQ tab (Mach.runT tab cJ 300))) (aI gA gB (aB Tryz.prog n0 50 bO)) (aG tab (fnT Tryz.f50).res bO) 400 (aR (fnT Tryz.f50) 7) a14)=(a17 n0):=by kernel_rfl
theorem bKM (n0:Nat):a15 n0:=gF f0 (gn:=fnT Tryz.f50) (by kernel_rfl) (bKL n0) ⟨(bKK n0)⟩
set_option maxRecDepth 1000000 in
theorem bKN (n0:Nat):(aF tab (dV cJ (dQ tab (Mach.runT tab cJ 300))) (aI gA gB (aB Tryz.prog n0 50 bO)) (aG tab (fnT Tryz.f50).res bO) 400 (aR (fnT Tryz.f50) 7) a12)=(a15 n0):=by kernel_rfl
theorem bKO (n0:Nat):a13 n0:=gF f0 (gn:=fnT Tryz.f50) (by kernel_rfl) (bKN n0) ⟨(bKM n0)⟩
set_option maxRecDepth 1000000 in
theorem bKP (n0:Nat):(aF tab (dV cJ (dQ tab (Mach.runT tab cJ 300))) (aI gA gB (aB Tryz.prog n0 50 bO)) (aG tab (fnT Tryz.f50).res bO) 400 (aR (fnT Tryz.f50) 7) a10)=(a13 n0):=by kernel_rfl
theorem bKQ (n0:Nat):a11 n0:=gF f0 (gn:=fnT Tryz.f50) (by kernel_rfl) (bKP n0) ⟨(bKO n0)⟩
set_option maxRecDepth 1000000 in
theorem kyg_E (n0:Nat):(aF tab (dV cJ (dQ tab (Mach.runT tab cJ 300))) (aI gA gB (aB Tryz.prog n0 50 bO)) (aG tab (fnT Tryz.f50).res bO) 400 [.code (fnT Tryz.f50).body] ⟨aU (fnT Tryz.f50).n aGI,[]⟩)=(a11 n0):=by kernel_rfl
theorem kyg_g (n0:Nat):aB Tryz.prog n0 50 bO [.code (fnT Tryz.f50).body] ⟨aU (fnT Tryz.f50).n aGI,[]⟩:=aR5 f0 (gn:=fnT Tryz.f50) (by kernel_rfl) (kyg_E n0) ⟨(bKQ n0)⟩
theorem bKR : b9 Tryz.prog a1Z :=
 aR6 (f:=50) (gn:=fnT Tryz.f50) (args:=aGI) (ids:=[5]) (v:=a1Y) (v0:=aGJ) (objs:=yJ) (by kernel_rfl) kyg_g (by kernel_rfl) (by kernel_rfl) (by kernel_rfl) (by kernel_rfl) (by kernel_rfl)
end
section
def aGP : List bY:=[xK,aFV,aM3,a1Z,aNO]
theorem bKS : ∀ x∈aGP,b9 Tryz.prog x:=fun x hx=>by
 simp only [aGP,List.mem_cons,List.not_mem_nil,or_false] at hx
 rcases hx with rfl | rfl | rfl | rfl | rfl
 · exact aFN
 · exact aMM
 · exact a0X
 · exact bKR
 · exact a1R
end
section
def aGQ : List AV:=[.imm (.more (.int .i64) (.more (.int .i64) (.more (.int .i64) (.more (.slice (.one (.int .i64))) (.more (.slice (.one .str)) (.one .str)))))) [((2:Int),(0:Int),(0:Int),[(1:Int),(2:Int)],[],⟨#[]⟩),((2:Int),(1:Int),(3:Int),[(3:Int),(4:Int)],[],⟨#[]⟩),((2:Int),(1:Int),(3:Int),[(5:Int),(6:Int)],[],⟨#[]⟩),((0:Int),(0:Int),(0:Int),[],[],⟨#[45,49]⟩),((0:Int),(0:Int),(0:Int),[],[],⟨#[49]⟩),((0:Int),(0:Int),(0:Int),[],[],⟨#[49]⟩),((0:Int),(0:Int),(0:Int),[],[],⟨#[45,49]⟩)], .int .i64 (0), .imm (.more (.int .i64) (.one (.slice (.one .str)))) [((3:Int),[⟨#[49]⟩,⟨#[48]⟩])]]
def a2T : AV := .tup [.str ⟨#[49]⟩, .own 0, .int .i64 0]
def aGR : AV := .tup [.str ⟨#[49]⟩, .own 0, .int .i64 0]
def yK : List aA:=[.typed (.more (.int .i64) (.one (.slice (.one .str)))) [((0:Int),[⟨#[48]⟩,⟨#[49]⟩])] false]
def a2U : bY:=⟨18,aGQ,a2T,yK⟩
def bKT : List (Nat × List Nat):=[]
def bKU : List (Nat × ETy):=[]
def aNZ : Res:=Kc [0] aGR yK
def kye_A : Prop:=(aGR,yK)=(aGR,yK)
set_option maxRecDepth 1000000 in
theorem kye_E (n0:Nat):(aF tab (dV aGP (dQ tab (Mach.runT tab aGP 300))) (aI bKT bKU (aB Tryz.prog n0 18 aNZ)) (aG tab (fnT Tryz.f18).res aNZ) 400 [.code (fnT Tryz.f18).body] ⟨aU (fnT Tryz.f18).n aGQ,[]⟩)=(kye_A):=by kernel_rfl
theorem kye_g (n0:Nat):aB Tryz.prog n0 18 aNZ [.code (fnT Tryz.f18).body] ⟨aU (fnT Tryz.f18).n aGQ,[]⟩:=aR5 bKS (gn:=fnT Tryz.f18) (by kernel_rfl) (kye_E n0) ⟨rfl⟩
theorem bKV : b9 Tryz.prog a2U :=
 aR6 (f:=18) (gn:=fnT Tryz.f18) (args:=aGQ) (ids:=[0]) (v:=a2T) (v0:=aGR) (objs:=yK) (by kernel_rfl) kye_g (by kernel_rfl) (by kernel_rfl) (by kernel_rfl) (by kernel_rfl) (by kernel_rfl)
end
section
def aGS : List bY:=[a0O,a0R,a2U,a0U]
theorem bKW : ∀ x∈aGS,b9 Tryz.prog x:=fun x hx=>by
 simp only [aGS,List.mem_cons,List.not_mem_nil,or_false] at hx
 rcases hx with rfl | rfl | rfl | rfl
 · exact bIR
 · exact bIU
 · exact bKV
 · exact bIX
end
section
def aN0 : List AV:=[]
def a2V : AV := .bool true
def aGT : AV := .bool true
def yL : List aA:=[]
def bKX : bY:=⟨5,aN0,a2V,yL⟩
def a2W : Prop:=(aGT,yL)=(aGT,yL)
theorem bKY : a2W:=rfl
def aN1 : Prop:=dM tab aGS 1500 5 aN0 [] aGT yL
set_option maxRecDepth 1000000 in
theorem bKZ : dS aN1:=⟨Eq.mpr (by kernel_rfl:aN1=a2W) bKY⟩
theorem bK0 : b9 Tryz.prog bKX :=
 eE (L:=aGS) (k:=1500) (g:=5) (args:=aN0) (ids:=[]) (v:=a2V) (v0:=aGT) (objs:=yL) (G:=aN1) bKW (by kernel_rfl) bKZ (by kernel_rfl) (by kernel_rfl) (by kernel_rfl) (by kernel_rfl) (by kernel_rfl)
end
end Go.Proofs.YtpngedkdkpfnkaaGreatDoor.Mach
end
section
set_option linter.unusedSimpArgs false
set_option linter.unusedVariables false
namespace Go.Proofs.YtpngedkdkpfnkaaGreatDoor.Lib
open Go Go.Proofs.YtpngedkdkpfnkaaGreatDoor.Mach
section
theorem bK1 {Q:Res} (h:aYM Q):Con Tryz.prog 5 [] Q:=Con.mono bK0 fun v objs h' => by
 obtain ⟨h1,h2⟩:=h'
 rw [h1,h2]
 exact h
end
end Go.Proofs.YtpngedkdkpfnkaaGreatDoor.Lib
end
section
set_option linter.unusedSimpArgs false
set_option linter.unusedVariables false
namespace Go.Proofs.YtpngedkdkpfnkaaGreatDoor.Mach
open Go Go.Proofs.YtpngedkdkpfnkaaGreatDoor Go.Proofs.YtpngedkdkpfnkaaGreatDoor.Lib
section
set_option maxRecDepth 1000000
def aGU : List (Nat × List Nat):=[(22,[0,9,12,108,109])]
def aGV : List (Nat × ETy):=[(9,ETy.one CTy.str)]
noncomputable def yM (t:List (Int × Int × Int × List Int × List ByteArray × ByteArray)) (a b:List (Int × List ByteArray)) (x0:List ByteArray) (x1 x2:Int):St:=aQ 123 [(0,AV.imm (ETy.more (CTy.int IntKind.i64) (ETy.more (CTy.int IntKind.i64) (ETy.more (CTy.int IntKind.i64) (ETy.more (CTy.slice (ETy.one (CTy.int IntKind.i64))) (ETy.more (CTy.slice (ETy.one CTy.str)) (ETy.one CTy.str)))))) t),(9,AV.imm (ETy.one CTy.str) x0),(12,AV.ptr 0 0),(108,AV.int IntKind.i64 x1),(109,AV.int IntKind.i64 x2)] [aA.box [AV.imm (ETy.more (CTy.int IntKind.i64) (ETy.one (CTy.slice (ETy.one CTy.str)))) a,AV.imm (ETy.more (CTy.int IntKind.i64) (ETy.one (CTy.slice (ETy.one CTy.str)))) b]]
theorem bK2 (t:List (Int × Int × Int × List Int × List ByteArray × ByteArray)) (a b:List (Int × List ByteArray)) (n0:Nat) (K:AV→List aA→Prop) :
 aF tab (aL tab aLY [] 400) (aI aGU aGV (aB Tryz.prog n0 3 K)) (aG tab (fnT Tryz.f3).res K) 400 [.code (fnT Tryz.f3).body] ⟨aU (fnT Tryz.f3).n [AV.imm (ETy.more (CTy.int IntKind.i64) (ETy.more (CTy.int IntKind.i64) (ETy.more (CTy.int IntKind.i64) (ETy.more (CTy.slice (ETy.one (CTy.int IntKind.i64))) (ETy.more (CTy.slice (ETy.one CTy.str)) (ETy.one CTy.str)))))) t,AV.imm (ETy.more (CTy.int IntKind.i64) (ETy.one (CTy.slice (ETy.one CTy.str)))) a,AV.imm (ETy.more (CTy.int IntKind.i64) (ETy.one (CTy.slice (ETy.one CTy.str)))) b],[]⟩ =
 (TxT t ∧
 ∀ (n:Int),
   TxC a ∧
    ∀ (n_1:Int),
      TxC b ∧
         ∀ (n_2:Int),
           bif decide (IntKind.i64.wrap (IntKind.i64.wrap (n+n_1)+n_2) > 6000) then K (AV.bool true) []
           else
            TxT t ∧
                bif !oG t then K (AV.bool true) []
                else
                 (TxT t∧TxC a∧TxC b) ∧
                  (TxT t∧TxC a∧TxC b) ∧
                   TxT t ∧
                    bif decide (cF t=0) then (eH t∧TxC a)∧(eH t∧TxC b)∧TxN [bI t 0 a,bI t 1 b].length∧(TxT t∧TxC a∧TxC b)∧bif !decide (dP t a b=iI [bI t 0 a,bI t 1 b]) then K (AV.bool false) [aA.typed (ETy.one (CTy.int IntKind.i64)) [bI t 0 a,bI t 1 b] false] else bif !decide (iI [bI t 0 a,bI t 1 b]=0) then bif decide (jO t a b=iI [bI t 0 a,bI t 1 b]) then bif bif true then decide (iJ t a b=iI [bI t 0 a,bI t 1 b]) else false then bif bif true then (kS t a b).toList == (ByteArray.mk #[]).toList else false then K (AV.bool (bif true then decide ((↑(jP t a b).length:Int)=0) else false)) [aA.typed (ETy.one (CTy.int IntKind.i64)) [bI t 0 a,bI t 1 b] false] else K (AV.bool false) [aA.typed (ETy.one (CTy.int IntKind.i64)) [bI t 0 a,bI t 1 b] false] else K (AV.bool false) [aA.typed (ETy.one (CTy.int IntKind.i64)) [bI t 0 a,bI t 1 b] false] else K (AV.bool false) [aA.typed (ETy.one (CTy.int IntKind.i64)) [bI t 0 a,bI t 1 b] false] else ([a,b].length≤1000000∧∀ (s:List Ch),s∈[a,b]→TxC s)∧bif !mN [a,b] then K (AV.bool true) [aA.typed (ETy.one (CTy.int IntKind.i64)) [bI t 0 a,bI t 1 b] false,aA.typed (ETy.one (CTy.slice (ETy.more (CTy.int IntKind.i64) (ETy.one (CTy.slice (ETy.one CTy.str)))))) [a,b] false] else bif !decide (jO t a b=0) then K (AV.bool false) [aA.typed (ETy.one (CTy.int IntKind.i64)) [bI t 0 a,bI t 1 b] false,aA.typed (ETy.one (CTy.slice (ETy.more (CTy.int IntKind.i64) (ETy.one (CTy.slice (ETy.one CTy.str)))))) [a,b] false,aA.box [AV.imm (ETy.more (CTy.int IntKind.i64) (ETy.one (CTy.slice (ETy.one CTy.str)))) a,AV.imm (ETy.more (CTy.int IntKind.i64) (ETy.one (CTy.slice (ETy.one CTy.str)))) b]] else bif bif false then true else !decide (iJ t a b=0) then K (AV.bool false) [aA.typed (ETy.one (CTy.int IntKind.i64)) [bI t 0 a,bI t 1 b] false,aA.typed (ETy.one (CTy.slice (ETy.more (CTy.int IntKind.i64) (ETy.one (CTy.slice (ETy.one CTy.str)))))) [a,b] false,aA.box [AV.imm (ETy.more (CTy.int IntKind.i64) (ETy.one (CTy.slice (ETy.one CTy.str)))) a,AV.imm (ETy.more (CTy.int IntKind.i64) (ETy.one (CTy.slice (ETy.one CTy.str)))) b]] else aFB t 0 (a,b)∧bif bif false then true else !(kS t a b).toList == (Sem.ratText (dO t a b 0)).toList then K (AV.bool false) [aA.typed (ETy.one (CTy.int IntKind.i64)) [bI t 0 a,bI t 1 b] false,aA.typed (ETy.one (CTy.slice (ETy.more (CTy.int IntKind.i64) (ETy.one (CTy.slice (ETy.one CTy.str)))))) [a,b] false,aA.box [AV.imm (ETy.more (CTy.int IntKind.i64) (ETy.one (CTy.slice (ETy.one CTy.str)))) a,AV.imm (ETy.more (CTy.int IntKind.i64) (ETy.one (CTy.slice (ETy.one CTy.str)))) b]] else bif bif false then true else !decide ((↑(jP t a b).length:Int)=(↑t.length:Int)) then K (AV.bool false) [aA.typed (ETy.one (CTy.int IntKind.i64)) [bI t 0 a,bI t 1 b] false,aA.typed (ETy.one (CTy.slice (ETy.more (CTy.int IntKind.i64) (ETy.one (CTy.slice (ETy.one CTy.str)))))) [a,b] false,aA.box [AV.imm (ETy.more (CTy.int IntKind.i64) (ETy.one (CTy.slice (ETy.one CTy.str)))) a,AV.imm (ETy.more (CTy.int IntKind.i64) (ETy.one (CTy.slice (ETy.one CTy.str)))) b]] else aB Tryz.prog n0 3 K (aD (fnT Tryz.f3) 22) (yM t a b (jP t a b) (↑t.length:Int) 0)
                    else (TxT t∧TxC a∧TxC b)∧bif !decide (dP t a b=cF t) then K (AV.bool false) [] else bif !decide (cF t=0) then bif decide (jO t a b=cF t) then bif bif true then decide (iJ t a b=cF t) else false then bif bif true then (kS t a b).toList == (ByteArray.mk #[]).toList else false then K (AV.bool (bif true then decide ((↑(jP t a b).length:Int)=0) else false)) [] else K (AV.bool false) [] else K (AV.bool false) [] else K (AV.bool false) [] else ([a,b].length≤1000000∧∀ (s:List Ch),s∈[a,b]→TxC s)∧bif !mN [a,b] then K (AV.bool true) [aA.typed (ETy.one (CTy.slice (ETy.more (CTy.int IntKind.i64) (ETy.one (CTy.slice (ETy.one CTy.str)))))) [a,b] false] else bif !decide (jO t a b=0) then K (AV.bool false) [aA.typed (ETy.one (CTy.slice (ETy.more (CTy.int IntKind.i64) (ETy.one (CTy.slice (ETy.one CTy.str)))))) [a,b] false,aA.box [AV.imm (ETy.more (CTy.int IntKind.i64) (ETy.one (CTy.slice (ETy.one CTy.str)))) a,AV.imm (ETy.more (CTy.int IntKind.i64) (ETy.one (CTy.slice (ETy.one CTy.str)))) b]] else bif bif false then true else !decide (iJ t a b=0) then K (AV.bool false) [aA.typed (ETy.one (CTy.slice (ETy.more (CTy.int IntKind.i64) (ETy.one (CTy.slice (ETy.one CTy.str)))))) [a,b] false,aA.box [AV.imm (ETy.more (CTy.int IntKind.i64) (ETy.one (CTy.slice (ETy.one CTy.str)))) a,AV.imm (ETy.more (CTy.int IntKind.i64) (ETy.one (CTy.slice (ETy.one CTy.str)))) b]] else aFB t 0 (a,b)∧bif bif false then true else !(kS t a b).toList == (Sem.ratText (dO t a b 0)).toList then K (AV.bool false) [aA.typed (ETy.one (CTy.slice (ETy.more (CTy.int IntKind.i64) (ETy.one (CTy.slice (ETy.one CTy.str)))))) [a,b] false,aA.box [AV.imm (ETy.more (CTy.int IntKind.i64) (ETy.one (CTy.slice (ETy.one CTy.str)))) a,AV.imm (ETy.more (CTy.int IntKind.i64) (ETy.one (CTy.slice (ETy.one CTy.str)))) b]] else bif bif false then true else !decide ((↑(jP t a b).length:Int)=(↑t.length:Int)) then K (AV.bool false) [aA.typed (ETy.one (CTy.slice (ETy.more (CTy.int IntKind.i64) (ETy.one (CTy.slice (ETy.one CTy.str)))))) [a,b] false,aA.box [AV.imm (ETy.more (CTy.int IntKind.i64) (ETy.one (CTy.slice (ETy.one CTy.str)))) a,AV.imm (ETy.more (CTy.int IntKind.i64) (ETy.one (CTy.slice (ETy.one CTy.str)))) b]] else aB Tryz.prog n0 3 K (aD (fnT Tryz.f3) 22) (yM t a b (jP t a b) (↑t.length:Int) 0)):=by kernel_rfl
theorem bK3 (t:List (Int × Int × Int × List Int × List ByteArray × ByteArray)) (a b:List (Int × List ByteArray)) (x0:List ByteArray) (x1 x2:Int) (n0:Nat) (K:AV→List aA→Prop) :
 aF tab (aL tab aLY [] 400) (aI aGU aGV (aB Tryz.prog n0 3 K)) (aG tab (fnT Tryz.f3).res K) 400 (aR (fnT Tryz.f3) 22) (yM t a b x0 x1 x2) =
 (bif decide (x2<x1) then bif decide (0≤x2) && decide (x2<(↑x0.length:Int)) then (RepOk t a b∧InT x2 t∧aZE (true,true))∧bif !ByteArray.toList (x0.getD x2.toNat ByteArray.empty) == (Sem.ratText (cM t a b x2.toNat)).toList then K (AV.bool false) [aA.box [AV.imm (ETy.more (CTy.int IntKind.i64) (ETy.one (CTy.slice (ETy.one CTy.str)))) a,AV.imm (ETy.more (CTy.int IntKind.i64) (ETy.one (CTy.slice (ETy.one CTy.str)))) b]] else aB Tryz.prog n0 3 K (aD (fnT Tryz.f3) 22) (yM t a b x0 x1 (IntKind.i64.wrap (x2+1))) else False else K (AV.bool true) [aA.box [AV.imm (ETy.more (CTy.int IntKind.i64) (ETy.one (CTy.slice (ETy.one CTy.str)))) a,AV.imm (ETy.more (CTy.int IntKind.i64) (ETy.one (CTy.slice (ETy.one CTy.str)))) b]]):=by kernel_rfl
end
end Go.Proofs.YtpngedkdkpfnkaaGreatDoor.Mach
end
section
set_option linter.unusedSimpArgs false
set_option linter.unusedVariables false
namespace Go.Proofs.YtpngedkdkpfnkaaGreatDoor.Lib
open Go Go.Proofs.YtpngedkdkpfnkaaGreatDoor.Mach Go.Proofs.YtpngedkdkpfnkaaGreatDoorW.PrintWords Go.Proofs.YtpngedkdkpfnkaaGreatDoor.Sem Go.Proofs.YtpngedkdkpfnkaaGreatDoor.Pure
section
theorem a2X : ∀ g xs Q,aLY g xs Q→Con Tryz.prog g xs Q:=cH fun p hp=>by
 simp only [List.mem_cons,List.not_mem_nil,or_false] at hp
 rcases hp with rfl | rfl | rfl | rfl | rfl | rfl | rfl | rfl | rfl | rfl | rfl | rfl | rfl
 · exact c0_ok fun _ h=>bK1 h
 · exact bF fun _ _ h=>bFT h
 · exact bF fun _ _ h=>bHH h
 · exact bF fun _ _ h=>bHI h
 · exact bF fun _ _ h=>bHJ h
 · exact gZ fun _ _ _ _ h=>bH2 h
 · exact gZ fun _ _ _ _ h=>bH3 h
 · exact gZ fun _ _ _ _ h=>aZS h
 · exact bF fun _ _ h=>aX6 h
 · exact gZ fun _ _ _ _ h=>bHG h
 · exact bF fun _ _ h=>bD7 h
 · exact gZ fun _ _ _ _ h=>bH7 h
 · exact c4_ok fun _ _ _ _ _ h=>bH5 h
section
variable {t:List Nd} {a b:List Ch}
theorem aN2 {x:Bool} {A B:Prop} (h:x=true) (b:B):bif (bif false then true else !x) then A else B:=by rw [h]; exact b
theorem bK4 (h:cF t≠0):dP t a b=cF t:=if_pos h
theorem bK5 (h:cF t=0):dP t a b=iI [bI t 0 a,bI t 1 b]:=by
 unfold dP
 rw [if_neg (fun hc=>hc h)]
 show _=(if bI t 0 a=0 then (if bI t 1 b=0 then 0 else bI t 1 b) else bI t 0 a)
 by_cases h1:bI t 0 a=0
 · rw [if_neg (fun hc=>hc h1),if_pos h1]
   split
   · assumption
   · rfl
 · rw [if_pos h1,if_neg h1]
theorem bK6 (h:oG t=true):t.length≤40∧(∀ i,i<t.length→(j2 t i).size≤12)∧∀ i,i<t.length→∀ r∈(t.getD i nd0).2.2.2.2.1,r.size≤12:=by
 unfold oG at h
 rw [Bool.and_eq_true] at h
 have h1:∀ i,i<t.length→oF (t.getD i nd0)=true:=fun i hi=>List.all_eq_true.1 h.1 _ (d8 hi)
 refine ⟨of_decide_eq_true h.2,fun i hi=>?_,fun i hi=>?_⟩
 · have h2:=h1 i hi
   unfold oF at h2
   rw [Bool.and_eq_true] at h2
   exact of_decide_eq_true h2.1
 · have h2:=h1 i hi
   unfold oF at h2
   rw [Bool.and_eq_true] at h2
   have h3:=of_decide_eq_true h2.2
   exact aK7 (by omega)
theorem bK7 (h:mN [a,b]=true):Tame a∧Tame b:=by
 unfold mN at h
 have h0:=List.all_eq_true.1 h
 refine ⟨fun c hc=>?_,fun c hc=>?_⟩
 · have h2:=of_decide_eq_true (List.all_eq_true.1 (h0 a (by simp)) c hc)
   exact aK7 (by omega)
 · have h2:=of_decide_eq_true (List.all_eq_true.1 (h0 b (by simp)) c hc)
   exact aK7 (by omega)
theorem a2Y {s:List Ch} {f c:Int} (o:oI s f c) (hT:Tame s):Sz 13 (bQ (dN s f c)):=by
 have ht:(dN s f c).size≤12:=by
  obtain ⟨_,o1,o2,o3,o4,_⟩:=o
  exact hT _ (d8 (d:=ch0) (by omega)) _ (d8 (by omega))
 rw [(sV o).1] at ht
 exact aMC ht
theorem RepOk.fac13 (R:RepOk t a b) (M:aFA t a b) {i c:Nat} (hi:i<t.length) (hc:c<(aK t i).length):Sz 13 (eX t a b i c):=by
 rcases R.kind hi hc with h | ⟨h,hp | hp⟩
 · rw [xF h]
   obtain ⟨o1,o2,_⟩:=R.odds hi hc h
   have ht:=M.odds i hi _ (d8 (d:=b0) o1)
   rw [o2] at ht
   exact aMC ht
 · rw [xG h hp]; exact a2Y (R.oddA hi hc h hp) M.a
 · rw [xH h hp]; exact a2Y (R.oddB hi hc h hp) M.b
theorem RepOk.val13 (R:RepOk t a b) (M:aFA t a b):Sz 2000 (dO t a b 0):=by
 have T:=eJ R.g
 have hn:=M.n
 have h1:=T.cnt_le T.n0
 refine (T.val_sz (s:=13) (fun i hi e=>?_) (fun i c hi _ hc=>R.fac13 M hi hc) _ 0 T.n0 (Nat.le_refl _)).mono ?_
 · have ht:=M.pay i hi
   rw [(R.pay hi e).1] at ht
   exact aMC ht
 · have h2:=Nat.mul_le_mul_left (2 * 13+2) h1
   omega
theorem bK8 (ht:TxT t) (ha:TxC a) (hb:TxC b):Con Tryz.prog 3 [.imm aT t, .imm eCh a, .imm eCh b] aFP:=by
 refine aW (gn:=fnT Tryz.f3) (by kernel_rfl) a2X (inl:=[]) (LT:=aGU) (NT:=aGV) rfl fun n0=>?_
 rw [bK2]
 refine ⟨ht,fun n=>⟨ha,fun n1=>⟨hb,fun n2=>?_⟩⟩⟩
 by_cases hw:IntKind.i64.wrap (IntKind.i64.wrap (n+n1)+n2) > 6000
 · exact aC hw (xL _)
 refine aE hw ⟨ht,aP ?_⟩
 by_cases hm:oG t=true
 case neg=>exact aZ hm (xL _)
 refine aS hm ⟨⟨ht,ha,hb⟩,⟨ht,ha,hb⟩,ht,?_⟩
 by_cases hT:cF t=0
 case neg =>
  have hr:=bK4 (a:=a) (b:=b) hT
  have hne:dP t a b≠0:=by rw [hr]; exact hT
  have h1:jO t a b=cF t:=by rw [aL3 hne,hr]
  have h2:iJ t a b=cF t:=by rw [aL5 hne,hr]
  refine aE hT ⟨⟨ht,ha,hb⟩,aP (aC hr (aP (aE hT (aC h1 (gU h2 ?_)))))⟩
  rw [aL4 (by rw [h1]; exact hT),aFK (by rw [h2]; exact hT)]
  exact aS (by rw [cond_true]; exact beq_self_eq_true _) (yesB _ rfl)
 have hr:=bK5 (a:=a) (b:=b) hT
 refine aC hT ⟨⟨hT,ha⟩,⟨hT,hb⟩,by unfold TxN; simp,⟨ht,ha,hb⟩,aP (aC hr (aP ?_))⟩
 by_cases h0:iI [bI t 0 a,bI t 1 b]=0
 case neg =>
  have hne:dP t a b≠0:=by rw [hr]; exact h0
  have h1:jO t a b=iI [bI t 0 a,bI t 1 b]:=by rw [aL3 hne,hr]
  have h2:iJ t a b=iI [bI t 0 a,bI t 1 b]:=by rw [aL5 hne,hr]
  refine aE h0 (aC h1 (gU h2 ?_))
  rw [aL4 (by rw [h1]; exact h0),aFK (by rw [h2]; exact h0)]
  exact aS (by rw [cond_true]; exact beq_self_eq_true _) (yesB _ rfl)
 have hz:dP t a b=0:=by rw [hr]; exact h0
 have R:=aL2 hz
 have T:=eJ R.g
 refine aC h0 ⟨⟨by simp,fun s hs=>?_⟩,aP ?_⟩
 · rcases List.mem_cons.1 hs with rfl | hs
   · exact ha
   · rw [List.mem_singleton.1 hs]; exact hb
 by_cases h5:mN [a,b]=true
 case neg=>exact aZ h5 (xL _)
 obtain ⟨m1,m2,m3⟩:=bK6 hm
 obtain ⟨ta,tb⟩:=bK7 h5
 have M:aFA t a b:=⟨m1,m2,m3,ta,tb⟩
 have hn0:=T.n0
 have hv:jO t a b=0:=by rw [aZV hz,T.end_val]; exact rW (R.val13 M)
 have ho:iJ t a b=0:=by
  rw [aZY hz]
  refine bD5 fun k hk=>?_
  exact (T.reach_size (s:=13) (fun i c hi hc=>R.fac13 M hi hc) hk).mono (by omega)
 have eV:kS t a b=ratText (dO t a b 0):=by unfold kS; rw [if_pos hv,T.end_val]
 have eO:jP t a b=iY t.length (cM t a b):=if_pos ho
 refine aS h5 (aP (aC hv (aN2 (decide_eq_true ho) ⟨⟨R,M,by unfold InT; omega⟩,aN2 ?_ (aN2 ?_ ?_)⟩)))
 · rw [eV]; exact beq_self_eq_true _
 · rw [eO,aK5]; exact decide_eq_true rfl
 rw [eO]
 refine bJ (f:=3) (gn:=fnT Tryz.f3) (n0:=n0) (r:=22) (by kernel_rfl) a2X (inl:=[]) (LT:=aGU) (NT:=aGV) (K:=aO aFP) (fun k:Nat=>yM t a b (iY t.length (cM t a b)) (t.length:Int) (k:Int)) (fun k=>t.length - k) (fun k=>k≤t.length) (fun k hk0 ih=>?_) 0 (Nat.zero_le _)
 rw [bK3]
 by_cases hk:k<t.length
 · refine aC (by omega) (aY (by rw [aK5]; exact hk) ⟨⟨R,by unfold InT; omega,rfl,rfl⟩,aP ?_⟩)
   rw [Int.toNat_natCast,wrS hk (by omega),bD4 hk]
   exact aS (beq_self_eq_true _) (ih (k+1) (by omega) (by omega))
 · exact aE (by omega) (xL _)
end
end
end Go.Proofs.YtpngedkdkpfnkaaGreatDoor.Lib
end
