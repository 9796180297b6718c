/-
  Laws on the way to the theorem.
-/
import Derived.Test.YtgmnipfafmphaaaGreatDoorBX1
import Derived.Test.YtgmnipfafmphaaaGreatDoorSXEngZz
import Derived.Lib.SlBytesConst
import Derived.ArgAppend
import Derived.Ground.Names7Prog
import Derived.Shelf.Spec.DecodeRune
import Derived.Shelf.Unicode.DecodeLastEight
import Derived.Lib.RuneCountTail
import Derived.Lib.TrimU
import Derived.Shelf.Strconv.Itoa3
import Derived.Shelf.Small.Wraps
import Derived.Shelf.Strconv.Atoi
namespace Go.Proofs.YtgmnipfafmphaaaGreatDoor
open Go.RowKit
set_option linter.unusedSimpArgs false
set_option linter.unusedVariables false
noncomputable section
set_option maxRecDepth 100000
set_option maxHeartbeats 40000000
structure ab where
 fElement:UInt8
 fPart:UInt8
 fRepeat:UInt8
 fEscape:UInt8
 fEnd:UInt8
 deriving DecidableEq
variable {H d0:SV} {v0:List (List (List UInt8))} {v2 v3 v4:UInt8}
def aA (x:ab):List DV:=[.int .u8 (x.fElement).toNat,.int .u8 (x.fPart).toNat,.int .u8 (x.fRepeat).toNat,.int .u8 (x.fEscape).toNat,.int .u8 (x.fEnd).toNat]
attribute [push_cast] aA
theorem tk {d0 H d2 q a:DV} {v0 b:UInt8} (h0:d0= .int .u8 (v0).toNat) (h1:H= .int .u8 (b).toNat) (h2:d2= .int .u8 (v2).toNat) (E:q= .int .u8 (v3).toNat) (h4:a= .int .u8 (v4).toNat):[d0,H,d2,q,a]=aA ⟨v0,b,v2,v3,v4⟩:=by unfold aA;simp only[h0,h1,h2,E,h4,VG,VC,Vy,VL]
theorem m9 {d2 q a:SV} {v0 b:UInt8} (h0:gb d0 (.d (.int .u8 (v0).toNat))) (h1:gb H (.d (.int .u8 (b).toNat))) (h2:gb d2 (.d (.int .u8 (v2).toNat))) (E:gb q (.d (.int .u8 (v3).toNat))) (h4:gb a (.d (.int .u8 (v4).toNat))):ae [d0,H,d2,q,a] (dR (aA ⟨v0,b,v2,v3,v4⟩)):=by have h:=(ae.append (ae.consS h0 ae.nil) (ae.append (ae.consS h1 ae.nil) (ae.append (ae.consS h2 ae.nil) (ae.append (ae.consS E ae.nil) (ae.consS h4 ae.nil)))));simpa only[aA,dR,Wq,VF,WG,VG,VC,Vy,VL] using h
structure ak where
 fRepeats:List (List (List UInt8))
 deriving DecidableEq
variable {b:List ak}
def ax (x:ak):List DV:=[.slice (List.map (hY dr) x.fRepeats)]
attribute [push_cast] ax
theorem BP {d0:DV} (h0:d0= .slice (List.map (hY dr) v0)):[d0]=ax ⟨v0⟩:=by unfold ax;simp only[h0,VG,VC,Vy,VL]
theorem BQ (h0:gb d0 (.d (.slice (List.map (hY dr) v0)))):ae [d0] (dR (ax ⟨v0⟩)):=by have h:=(ae.consS h0 ae.nil);simpa only[ax,dR,Wq,VF,WG,VG,VC,Vy,VL] using h
structure aa where
 fTag:List UInt8
 fElements:List ak
 deriving DecidableEq
def af (x:aa):List DV:=[.str x.fTag,.slice (List.map ax x.fElements)]
attribute [push_cast] af
theorem u_ {d0 H:DV} {v0:List UInt8} (h0:d0= .str v0) (h1:H= .slice (List.map ax b)):[d0,H]=af ⟨v0,b⟩:=by unfold af;simp only[h0,h1,VG,VC,Vy,VL]
theorem BR {v0:List UInt8} (h0:gb d0 (.d (.str v0))) (h1:gb H (.d (.slice (List.map ax b)))):ae [d0,H] (dR (af ⟨v0,b⟩)):=by have h:=(ae.append (ae.consS h0 ae.nil) (ae.consS h1 ae.nil));simpa only[af,dR,Wq,VF,WG,VG,VC,Vy,VL] using h
theorem BS {v0:List UInt8} (h0:d0= .d (.str v0)) (h1:H= .d (.slice (List.map ax b))):[d0,H]=dR (af ⟨v0,b⟩):=by simp only[af,dR,Wq,VF,WG,VG,VC,Vy,VL,h0,h1]
def t1:SC:=(.sq [.r 2 (.mv (.b false))] (.sq [.v 3 0,.c 4 (.f 81) [.t 3,.c (.d (.str [65,66,67,68,69,70,71,72,73,74,75,76,77,78,79,80,81,82,83,84,85,86,87,88,89,90,48,49,50,51,52,53,54,55,56,57]))],.r 5 (.bin .eql (.t 4) (.c (.d (.str [])))),.v 2 5] .ret))
theorem zv:fits Tryz.prog 90 Tryz.f90 t1 [.t 2] 1=true:=oK
def oJ:SC:=(.sq [.k 11 .lss 10 9] (.seq (.cond (.t 11) .skip (.exit 0)) (.seq (.block 1 (.sq [.v 12 10,.v 7 12] (.seq (.reg (.v 13 0:: .v 14 7:: .r 15 (.sidx (.t 13) (.t 14)):: .v 16 1:: .k 17 .lss 15 16:: .v 18 17::aS [19,20,21,22,23] 18 false (.v 19 0:: .v 20 7:: .r 21 (.sidx (.t 19) (.t 20)):: .v 22 2:: .k 23 .gtr 21 22::[]) (.r 24 (.pick (.t 18) (.b true) (.t 23))::[]))) (.cond (.t 24) (.sq [.r 6 (.mv (.b false))] .ret) .skip)))) (.reg [.j 25 .add 10 1,.v 10 25]))))
def sR:SC:= .block 0 (.loop oJ)
def wh:SC:=(.sq [.r 6 (.mv (.b false))] (.seq (.sq [.v 8 0,.r 9 (.lenT (.t 8)),.r 10 (.mv (.i 0))] sR) (.sq [.r 6 (.mv (.b true))] .ret)))
theorem BT:fits Tryz.prog 129 Tryz.f129 wh [.t 6] 3=true:=oK
def g_:SC:=(.sq [.k 9 .lss 8 7] (.seq (.cond (.t 9) .skip (.exit 0)) (.seq (.block 1 (.sq [.v 10 8,.v 5 10] (.sq [.v 11 1,.v 12 0,.v 13 5,.y 14 1 12 13,.l 15 14,.k 16 .eql 11 15] (.cond (.t 16) (.sq [.v 17 5,.v 4 17] .ret) .skip)))) (.reg [.j 18 .add 8 1,.v 8 18]))))
def lp:SC:= .block 0 (.loop g_)
def mz:SC:=(.sq [.r 4 (.mv (.i 0))] (.seq (.sq [.v 6 0,.h 7 6,.r 8 (.mv (.i 0))] lp) (.sq [.r 4 (.mv (.i (-1)))] .ret)))
theorem rY:fits Tryz.prog 131 Tryz.f131 mz [.t 4] 2=true:=oK
def nU:SC:=(.sq [.r 2 (.mv (.b false))] (.seq (.seq (.reg (.v 3 0:: .r 4 (.bin .lss (.t 3) (.c (.d (.int .u8 33)))):: .v 5 4::aS [6,7] 5 false (.v 6 0:: .r 7 (.bin .gtr (.t 6) (.c (.d (.int .u8 126))))::[]) (.r 8 (.pick (.t 5) (.b true) (.t 7)):: .v 9 8::aS [10,11] 9 false (.v 10 0:: .r 11 (.bin .eql (.t 10) (.c (.d (.int .u8 46))))::[]) (.r 12 (.pick (.t 9) (.b true) (.t 11)):: .v 13 12::aS [14,15] 13 false (.v 14 0:: .r 15 (.bin .eql (.t 14) (.c (.d (.int .u8 45))))::[]) (.r 16 (.pick (.t 13) (.b true) (.t 15)):: .v 17 16::aS [18,19] 17 false (.v 18 0:: .r 19 (.bin .eql (.t 18) (.c (.d (.int .u8 43))))::[]) (.r 20 (.pick (.t 17) (.b true) (.t 19)):: .v 21 20::aS [22,23] 21 false (.v 22 0:: .r 23 (.bin .eql (.t 22) (.c (.d (.int .u8 95))))::[]) (.r 24 (.pick (.t 21) (.b true) (.t 23))::[]))))))) (.cond (.t 24) (.sq [.r 2 (.mv (.b false))] .ret) .skip)) (.seq (.reg (.v 25 0:: .r 26 (.bin .geq (.t 25) (.c (.d (.int .u8 65)))):: .v 27 26::aS [28,29] 27 true (.v 28 0:: .r 29 (.bin .leq (.t 28) (.c (.d (.int .u8 90))))::[]) (.r 30 (.pick (.t 27) (.t 29) (.b false)):: .v 31 30::aS [32,33,34,35,36,37] 31 false (.v 32 0:: .r 33 (.bin .geq (.t 32) (.c (.d (.int .u8 97)))):: .v 34 33::aS [35,36] 34 true (.v 35 0:: .r 36 (.bin .leq (.t 35) (.c (.d (.int .u8 122))))::[]) (.r 37 (.pick (.t 34) (.t 36) (.b false))::[])) (.r 38 (.pick (.t 31) (.b true) (.t 37)):: .v 39 38::aS [40,41,42,43,44,45] 39 false (.v 40 0:: .r 41 (.bin .geq (.t 40) (.c (.d (.int .u8 48)))):: .v 42 41::aS [43,44] 42 true (.v 43 0:: .r 44 (.bin .leq (.t 43) (.c (.d (.int .u8 57))))::[]) (.r 45 (.pick (.t 42) (.t 44) (.b false))::[])) (.r 46 (.pick (.t 39) (.b true) (.t 45)):: .r 47 (.not (.t 46)):: .v 2 47::[]))))) .ret)))
theorem tl:fits Tryz.prog 101 Tryz.f101 nU [.t 2] 1=true:=oK
def gc:SC:=(.seq (.sq [.v 5 3,.v 6 0,.r 7 (.lenT (.t 6)),.k 8 .lss 5 7] (.cond (.t 8) .skip (.exit 0))) (.seq (.block 1 (.seq (.reg (.v 11 0:: .v 12 3:: .r 13 (.sidx (.t 11) (.t 12)):: .r 14 (.bin .geq (.t 13) (.c (.d (.int .u8 65)))):: .v 15 14::aS [16,17,18,19] 15 true (.v 16 0:: .v 17 3:: .r 18 (.sidx (.t 16) (.t 17)):: .r 19 (.bin .leq (.t 18) (.c (.d (.int .u8 90))))::[]) (.r 20 (.pick (.t 15) (.t 19) (.b false)):: .v 4 20::[]))) (.seq (.reg (.v 21 4:: .r 22 (.not (.t 21)):: .v 23 22::aS [24,25,26,27,28,29,30,31,32,33,34,35,36,37] 23 true (.v 24 3:: .j 25 .eql 24 0:: .v 26 25::aS [27,28,29,30] 26 false (.v 27 0:: .v 28 3:: .r 29 (.sidx (.t 27) (.t 28)):: .r 30 (.bin .lss (.t 29) (.c (.d (.int .u8 48))))::[]) (.r 31 (.pick (.t 26) (.b true) (.t 30)):: .v 32 31::aS [33,34,35,36] 32 false (.v 33 0:: .v 34 3:: .r 35 (.sidx (.t 33) (.t 34)):: .r 36 (.bin .gtr (.t 35) (.c (.d (.int .u8 57))))::[]) (.r 37 (.pick (.t 32) (.b true) (.t 36))::[]))) (.r 38 (.pick (.t 23) (.t 37) (.b false))::[]))) (.cond (.t 38) (.sq [.r 2 (.mv (.b false))] .ret) .skip)))) (.reg [.v 9 3,.j 10 .add 9 1,.v 3 10])))
def jV:SC:= .block 0 (.loop gc)
def lq:SC:=(.sq [.r 2 (.mv (.b false))] (.seq (.sq [.r 3 (.mv (.i 0))] jV) (.sq [.v 39 0,.r 40 (.lenT (.t 39)),.j 41 .leq 40 6,.v 2 41] .ret)))
theorem p9:fits Tryz.prog 146 Tryz.f146 lq [.t 2] 1=true:=oK
def ge:SC:=(.seq (.sq [.v 7 3,.v 8 0,.r 9 (.lenT (.t 8)),.k 10 .lss 7 9] (.cond (.t 10) .skip (.exit 0))) (.seq (.block 1 (.seq (.reg (.v 13 0:: .v 14 3:: .r 15 (.sidx (.t 13) (.t 14)):: .r 16 (.bin .lss (.t 15) (.c (.d (.int .u8 32)))):: .v 17 16::aS [18,19,20,21] 17 false (.v 18 0:: .v 19 3:: .r 20 (.sidx (.t 18) (.t 19)):: .r 21 (.bin .gtr (.t 20) (.c (.d (.int .u8 126))))::[]) (.r 22 (.pick (.t 17) (.b true) (.t 21))::[]))) (.cond (.t 22) (.sq [.r 2 (.mv (.i 3))] .ret) .skip))) (.reg [.v 11 3,.j 12 .add 11 1,.v 3 12])))
def jW:SC:= .block 0 (.loop ge)
def lr:SC:=(.sq [.r 2 (.mv (.i 0))] (.seq (.sq [.v 4 0,.r 5 (.lenT (.t 4)),.j 6 .gtr 5 1000] (.cond (.t 6) (.sq [.r 2 (.mv (.i 2))] .ret) .skip)) (.seq (.sq [.r 3 (.mv (.i 0))] jW) (.sq [.r 2 (.mv (.i 0))] .ret))))
theorem p_:fits Tryz.prog 172 Tryz.f172 lr [.t 2] 1=true:=oK
def cQ:(∀ (B:List UInt8),{m:Option (Bool)//∀ r,m=some r->ac Tryz.prog 90 [.str B] (.bool r)})×(∀ (B:List UInt8) (x1:UInt8) (x2:UInt8),{m:Option (Bool)//∀ r,m=some r->ac Tryz.prog 129 [.str B,.int .u8 (x1).toNat,.int .u8 (x2).toNat] (.bool r)})×(∀ (B:List UInt8) (x1:UInt8),{m:Option (Int)//∀ r,m=some r->ac Tryz.prog 131 [.slice (List.map ej B),.int .u8 (x1).toNat] (.int .i64 r)})×(∀ (B:UInt8),{m:Option (Bool)//∀ r,m=some r->ac Tryz.prog 101 [.int .u8 (B).toNat] (.bool r)})×(∀ (B:List UInt8),{m:Option (Bool)//∀ r,m=some r->ac Tryz.prog 146 [.str B] (.bool r)})×(∀ (B:List UInt8),{m:Option (Int)//∀ r,m=some r->ac Tryz.prog 172 [.str B] (.int .i64 r)}):=by
 refine⟨?g0, ?g1, ?g2, ?g3, ?g4, ?g5⟩
 case' g0=>(intro B;apply Subtype.mk;intro r Z;apply au Tryz.func90 zv;unfold t1)
 case' g1=>(intro B x1 x2;apply Subtype.mk;intro r Z;apply au Tryz.func129 BT;unfold wh)
 case' g2=>(intro B x1;apply Subtype.mk;intro r Z;apply au Tryz.func131 rY;unfold mz)
 case' g3=>(intro B;apply Subtype.mk;intro r Z;apply au Tryz.func101 tl;unfold nU)
 case' g4=>(intro B;apply Subtype.mk;intro r Z;apply au Tryz.func146 p9;unfold lq)
 case' g5=>(intro B;apply Subtype.mk;intro r Z;apply au Tryz.func172 p_;unfold lr)
 all_goals(repeat'(first|(with_reducible first|refine cE ?_|refine cm ?_|refine bu ?_|refine bR ?_|refine dL ?_|refine cN ?_|refine cn ?_|refine cF ?_|refine cO ?_|refine ee ?_|refine bC ?_|refine dq ?_|refine dy ?_)|(with_reducible apply ep Z);(iterate 2 (exact aj));intro _;rfl;intro e Z|(with_reducible apply uD Z);(iterate 2 (exact aj));intro e Z|(with_reducible apply jj);exact aj;(first|exact trivial)|((with_reducible apply ll Z);exact aj;rfl;intro v Z;rotate_left;intro v g Z)|((with_reducible apply sB Z);exact aj;rfl;intro v Z;rotate_left;intro v g Z)|(with_reducible apply lE Z);exact aj;(first|apply sZ _ _);(any_goals(exact nJ));intro x Z|((with_reducible apply bz Z);exact aj;intro Z;rotate_left;intro Z)|(with_reducible apply eH Z);exact lz;exact cY|(with_reducible apply eo Z);exact aj|(with_reducible apply cb Z);intro r Z|(with_reducible apply fl Z);intro r Z|((apply aH (b:=0) (X:=sR) (x:=oJ) rfl (fun(c:SV×SV×SV×SV) (s:Int)=>st [(0,c.1),(1,c.2.1),(2,c.2.2.1),(9,c.2.2.2),(10,.d (.int .i64 s))] []) (c:=(_,_,_,_)) (s0:=_) Z);exact aD;with_reducible refine dc.mk ?_ ?_)|((apply aH (b:=0) (X:=lp) (x:=g_) rfl (fun(c:SV×SV×SV) (s:Int)=>st [(0,c.1),(1,c.2.1),(7,c.2.2),(8,.d (.int .i64 s))] []) (c:=(_,_,_)) (s0:=_) Z);exact aD;with_reducible refine dc.mk ?_ ?_)|apply aH (b:=0) (X:=jV) (x:=gc) rfl (fun(c:SV) (s:Int)=>st [(0,c),(3,.d (.int .i64 s))] []) (c:=_) (s0:=_) Z;exact aD;with_reducible refine dc.mk ?_ ?_|apply aH (b:=0) (X:=jW) (x:=ge) rfl (fun(c:SV) (s:Int)=>st [(0,c),(3,.d (.int .i64 s))] []) (c:=_) (s0:=_) Z;exact aD;with_reducible refine dc.mk ?_ ?_|apply cg (s':=_) Z;exact aD|apply dV (s':=_) Z;exact aD|(with_reducible apply kf Z);intro r Z|((with_reducible apply eI.of);exact aD;(focus(intro _;repeat'(first|(with_reducible first|exact dU|refine bL ?_))));(intro s o Z;first|unfold oJ|unfold g_|unfold gc|unfold ge);rotate_left;intro s Z)|exact He|fail))
def ls (B:List UInt8):Option (Bool):=(cQ.1 B).1
theorem rZ (B:List UInt8):∀ r,ls B=some r->ac Tryz.prog 90 [.str B] (.bool r):=(cQ.1 B).2
def m_ (B:List UInt8) (x1 x2:UInt8):Option (Bool):=(cQ.2.1 B x1 x2).1
theorem t6 (B:List UInt8) (x1 x2:UInt8):∀ r,m_ B x1 x2=some r->ac Tryz.prog 129 [.str B,.int .u8 (x1).toNat,.int .u8 (x2).toNat] (.bool r):=(cQ.2.1 B x1 x2).2
def jF (B:List UInt8) (x1:UInt8):Option (Int):=(cQ.2.2.1 B x1).1
theorem rj (B:List UInt8) (x1:UInt8):∀ r,jF B x1=some r->ac Tryz.prog 131 [.slice (List.map ej B),.int .u8 (x1).toNat] (.int .i64 r):=(cQ.2.2.1 B x1).2
def lc (B:UInt8):Option (Bool):=(cQ.2.2.2.1 B).1
theorem sC (B:UInt8):∀ r,lc B=some r->ac Tryz.prog 101 [.int .u8 (B).toNat] (.bool r):=(cQ.2.2.2.1 B).2
def fz (B:List UInt8):Option (Bool):=(cQ.2.2.2.2.1 B).1
theorem kh (B:List UInt8):∀ r,fz B=some r->ac Tryz.prog 146 [.str B] (.bool r):=(cQ.2.2.2.2.1 B).2
def hZ (B:List UInt8):Option (Int):=(cQ.2.2.2.2.2 B).1
theorem pJ (B:List UInt8):∀ r,hZ B=some r->ac Tryz.prog 172 [.str B] (.int .i64 r):=(cQ.2.2.2.2.2 B).2
def r_:SC:=(.sq [.r 2 (.mv (.b false))] (.sq [.v 4 0,.r 5 (.cvis (.t 4)),.v 3 5] (.seq (.reg (.v 6 0:: .r 7 (.bin .geq (.t 6) (.c (.d (.int .u8 33)))):: .v 8 7::aS [9,10] 8 true (.v 9 0:: .r 10 (.bin .leq (.t 9) (.c (.d (.int .u8 126))))::[]) (.r 11 (.pick (.t 8) (.t 10) (.b false)):: .v 12 11::aS [13,14,15] 12 true (.v 13 3:: .c 14 (.f 90) [.t 13]:: .r 15 (.not (.t 14))::[]) (.r 16 (.pick (.t 12) (.t 15) (.b false)):: .v 17 16::aS [18,19,20] 17 true (.v 18 3:: .c 19 (.f 129) [.t 18,.c (.d (.int .u8 97)),.c (.d (.int .u8 122))]:: .r 20 (.not (.t 19))::[]) (.r 21 (.pick (.t 17) (.t 20) (.b false)):: .v 22 21::aS [23,24,25] 22 true (.v 23 3:: .c 24 (.f 130) [.t 23,.c (.d (.str [46,45,43,95]))]:: .r 25 (.not (.t 24))::[]) (.r 26 (.pick (.t 22) (.t 25) (.b false)):: .v 2 26::[])))))) .ret)))
theorem xD:fits Tryz.prog 87 Tryz.f87 r_ [.t 2] 1=true:=oK
def lu:SC:=(.sq [.r 4 (.mv (.b false))] (.sq [.v 5 0,.v 6 1,.c 7 (.f 131) [.t 5,.t 6],.j 8 .geq 7 0,.v 4 8] .ret))
theorem qG:fits Tryz.prog 88 Tryz.f88 lu [.t 4] 2=true:=oK
def zw:SC:=(.sq [.r 2 (.mv (.b false))] (.seq (.reg (.v 3 0:: .r 4 (.lenT (.t 3)):: .j 5 .geq 4 2:: .v 6 5::aS [7,8,9] 6 true (.v 7 0:: .r 8 (.lenT (.t 7)):: .j 9 .leq 8 6::[]) (.r 10 (.pick (.t 6) (.t 9) (.b false)):: .v 11 10::aS [12,13,14,15] 11 true (.v 12 0:: .r 13 (.sidx (.t 12) (.i 0)):: .c 14 (.f 89) [.c (.d (.str [65,66,67,68,69,70,71,72,73,74,75,76,77,78,79,80,81,82,83,84,85,86,87,88,89,90])),.t 13]:: .j 15 .geq 14 0::[]) (.r 16 (.pick (.t 11) (.t 15) (.b false)):: .v 17 16::aS [18,19] 17 true (.v 18 0:: .c 19 (.f 90) [.t 18]::[]) (.r 20 (.pick (.t 17) (.t 19) (.b false)):: .v 2 20::[]))))) .ret))
theorem EL:fits Tryz.prog 47 Tryz.f47 zw [.t 2] 1=true:=oK
def xW:SC:=(.sq [.r 2 (.mv (.b false))] (.seq (.reg (.v 3 0:: .r 4 (.lenT (.t 3)):: .j 5 .leq 4 1000:: .v 6 5::aS [7,8] 6 true (.v 7 0:: .c 8 (.f 129) [.t 7,.c (.d (.int .u8 32)),.c (.d (.int .u8 126))]::[]) (.r 9 (.pick (.t 6) (.t 8) (.b false)):: .v 2 9::[]))) .ret))
theorem DU:fits Tryz.prog 133 Tryz.f133 xW [.t 2] 1=true:=oK
def fP:SC:=(.seq (.sq [.v 56 5,.v 57 4,.k 58 .lss 56 57] (.cond (.t 58) .skip (.exit 2))) (.seq (.block 3 (.seq (.regD [.v 61 3,.v 62 4,.y 63 1 61 62,.r 64 (.ld1 (.t 63)),.v 65 3,.v 66 5,.y 67 1 65 66,.r 68 (.ld1 (.t 67)),.k 69 .eql 64 68]) (.cond (.t 69) (.sq [.r 2 (.mv (.i 7))] .ret) .skip))) (.reg [.v 59 5,.j 60 .add 59 1,.v 5 60])))
def jl:SC:= .block 2 (.loop fP)
def fQ:SC:=(.seq (.sq [.v 50 4,.v 51 3,.h 52 51,.k 53 .lss 50 52] (.cond (.t 53) .skip (.exit 0))) (.seq (.block 1 (.sq [.r 5 (.mv (.i 0))] jl)) (.reg [.v 54 4,.j 55 .add 54 1,.v 4 55])))
def jm:SC:= .block 0 (.loop fQ)
def kP:SC:=(.sq [.r 1 (.boxI (.t 0)),.r 2 (.mv (.i 0))] (.seq (.seq (.reg (.f 6 0 1:: .l 7 6:: .c 8 (.f 101) [.t 7]:: .r 9 (.not (.t 8)):: .v 10 9::aS [11,12,13,14] 10 false (.f 11 1 1:: .r 12 (.ld1 (.t 11)):: .c 13 (.f 101) [.t 12]:: .r 14 (.not (.t 13))::[]) (.r 15 (.pick (.t 10) (.b true) (.t 14)):: .v 16 15::aS [17,18,19,20] 16 false (.f 17 2 1:: .r 18 (.ld1 (.t 17)):: .c 19 (.f 101) [.t 18]:: .r 20 (.not (.t 19))::[]) (.r 21 (.pick (.t 16) (.b true) (.t 20)):: .v 22 21::aS [23,24,25,26] 22 false (.f 23 4 1:: .r 24 (.ld1 (.t 23)):: .c 25 (.f 101) [.t 24]:: .r 26 (.not (.t 25))::[]) (.r 27 (.pick (.t 22) (.b true) (.t 26)):: .v 28 27::aS [29,30,31,32,33,34,35,36,37] 28 false (.f 29 3 1:: .r 30 (.ld1 (.t 29)):: .r 31 (.bin .neq (.t 30) (.c (.d (.int .u8 0)))):: .v 32 31::aS [33,34,35,36] 32 true (.f 33 3 1:: .r 34 (.ld1 (.t 33)):: .c 35 (.f 101) [.t 34]:: .r 36 (.not (.t 35))::[]) (.r 37 (.pick (.t 32) (.t 36) (.b false))::[])) (.r 38 (.pick (.t 28) (.b true) (.t 37))::[])))))) (.cond (.t 38) (.sq [.r 2 (.mv (.i 3))] .ret) .skip)) (.sq [.f 39 0 1,.l 40 39,.f 41 1 1,.l 42 41,.f 43 2 1,.l 44 43,.f 45 3 1,.l 46 45,.f 47 4 1,.l 48 47,.r 49 (.bslice 1 [.t 40,.t 42,.t 44,.t 46,.t 48]),.v 3 49] (.seq (.sq [.r 4 (.mv (.i 0))] jm) (.sq [.r 2 (.mv (.i 0))] .ret)))))
theorem pK:fits Tryz.prog 60 Tryz.f60 kP [.t 2] 1=true:=oK
def na:SC:=(.sq [.r 2 (.mv (.b false))] (.seq (.reg (.v 3 0:: .r 4 (.lenT (.t 3)):: .j 5 .geq 4 2:: .v 6 5::aS [7,8] 6 true (.v 7 0:: .c 8 (.f 146) [.t 7]::[]) (.r 9 (.pick (.t 6) (.t 8) (.b false)):: .v 2 9::[]))) .ret))
theorem sD:fits Tryz.prog 147 Tryz.f147 na [.t 2] 1=true:=oK
def fc:SC:=(.seq (.sq [.v 35 4,.f 36 0 1,.l 37 36,.v 38 3,.y 39 1 37 38,.l 40 39,.h 41 40,.k 42 .lss 35 41] (.cond (.t 42) .skip (.exit 2))) (.seq (.block 3 (.sq [.f 45 0 1,.l 46 45,.v 47 3,.y 48 1 46 47,.l 49 48,.v 50 4,.y 51 1 49 50,.l 52 51,.c 53 (.f 172) [.t 52],.v 5 53] (.sq [.v 54 5,.j 55 .neq 54 0] (.cond (.t 55) (.sq [.v 56 5,.v 2 56] .ret) .skip)))) (.reg [.v 43 4,.j 44 .add 43 1,.v 4 44])))
def iD:SC:= .block 2 (.loop fc)
def fd:SC:=(.seq (.sq [.v 14 3,.f 15 0 1,.l 16 15,.h 17 16,.k 18 .lss 14 17] (.cond (.t 18) .skip (.exit 0))) (.seq (.block 1 (.seq (.sq [.f 21 0 1,.l 22 21,.v 23 3,.y 24 1 22 23,.l 25 24,.h 26 25,.j 27 .eql 26 0] (.cond (.t 27) (.sq [.r 2 (.mv (.i 9))] .ret) .skip)) (.seq (.sq [.f 28 0 1,.l 29 28,.v 30 3,.y 31 1 29 30,.l 32 31,.h 33 32,.j 34 .gtr 33 20] (.cond (.t 34) (.sq [.r 2 (.mv (.i 2))] .ret) .skip)) (.sq [.r 4 (.mv (.i 0))] iD)))) (.reg [.v 19 3,.j 20 .add 19 1,.v 3 20])))
def iE:SC:= .block 0 (.loop fd)
def jX:SC:=(.sq [.r 1 (.boxI (.t 0)),.r 2 (.mv (.i 0))] (.seq (.sq [.f 6 0 1,.l 7 6,.h 8 7,.j 9 .eql 8 0] (.cond (.t 9) (.sq [.r 2 (.mv (.i 9))] .ret) .skip)) (.seq (.sq [.f 10 0 1,.l 11 10,.h 12 11,.j 13 .gtr 12 20] (.cond (.t 13) (.sq [.r 2 (.mv (.i 2))] .ret) .skip)) (.seq (.sq [.r 3 (.mv (.i 0))] iE) (.sq [.r 2 (.mv (.i 0))] .ret)))))
theorem oN:fits Tryz.prog 149 Tryz.f149 jX [.t 2] 1=true:=oK
def cf:(∀ (B:UInt8),{m:Option (Bool)//∀ r,m=some r->ac Tryz.prog 87 [.int .u8 (B).toNat] (.bool r)})×(∀ (B:List UInt8) (x1:UInt8),{m:Option (Bool)//∀ r,m=some r->ac Tryz.prog 88 [.slice (List.map ej B),.int .u8 (x1).toNat] (.bool r)})×(∀ (B:List UInt8),{m:Option (Bool)//∀ r,m=some r->ac Tryz.prog 47 [.str B] (.bool r)})×(∀ (B:List UInt8),{m:Option (Bool)//∀ r,m=some r->ac Tryz.prog 133 [.str B] (.bool r)})×(∀ (B:ab),{m:Option (Int)//∀ r,m=some r->ac Tryz.prog 60 [.agg (aA B)] (.int .i64 r)})×(∀ (B:List UInt8),{m:Option (Bool)//∀ r,m=some r->ac Tryz.prog 147 [.str B] (.bool r)})×(∀ (B:ak),{m:Option (Int)//∀ r,m=some r->ac Tryz.prog 149 [.agg (ax B)] (.int .i64 r)}):=by
 refine⟨?g0, ?g1, ?g2, ?g3, ?g4, ?g5, ?g6⟩
 case' g0=>(intro B;apply Subtype.mk;intro r Z;apply au Tryz.func87 xD;unfold r_)
 case' g1=>(intro B x1;apply Subtype.mk;intro r Z;apply au Tryz.func88 qG;unfold lu)
 case' g2=>(intro B;apply Subtype.mk;intro r Z;apply au Tryz.func47 EL;unfold zw)
 case' g3=>(intro B;apply Subtype.mk;intro r Z;apply au Tryz.func133 DU;unfold xW)
 case' g4=>(intro B;apply Subtype.mk;intro r Z;apply au Tryz.func60 pK;unfold kP)
 case' g5=>(intro B;apply Subtype.mk;intro r Z;apply au Tryz.func147 sD;unfold na)
 case' g6=>(intro B;apply Subtype.mk;intro r Z;apply au Tryz.func149 oN;unfold jX)
 all_goals(repeat'(first|(with_reducible first|refine cE ?_|refine cm ?_|refine eG ?_|refine bu ?_|refine bR ?_|refine dL ?_|refine cN ?_|refine cn ?_|refine cF ?_|refine cO ?_|refine ee ?_|refine bC ?_|refine dq ?_|refine dy ?_)|(with_reducible apply ep Z);(iterate 2 (exact aj));intro _;rfl;intro e Z|(with_reducible apply uD Z);(iterate 2 (exact aj));intro e Z|(with_reducible apply KH Z (H:=ej));(iterate 2 (exact aj));exact xM;exact aj;intro _;rfl;intro e Z|(with_reducible apply jj);exact aj;(first|exact trivial)|((with_reducible apply ll Z);exact aj;rfl;intro v Z;rotate_left;intro v g Z)|((with_reducible apply sB Z);exact aj;rfl;intro v Z;rotate_left;intro v g Z)|(with_reducible apply lE Z);exact aj;(first|apply rZ _|apply t6 _ _ _|apply tw _ _|apply rj _ _|apply uU _ _|apply sC _|apply kh _|apply pJ _);(any_goals(exact Uj));intro x Z|((with_reducible apply bz Z);exact aj;intro Z;rotate_left;intro Z)|(with_reducible apply eH Z);exact lz;exact cY|(with_reducible apply eo Z);exact aj|(with_reducible apply cb Z);intro r Z|(with_reducible apply fl Z);intro r Z|((apply aH (b:=2) (X:=jl) (x:=fP) rfl (fun(c:SV×SV) (s:Int)=>st [(3,c.1),(4,c.2),(5,.d (.int .i64 s))] []) (c:=(_,_)) (s0:=_) Z);exact aD;with_reducible refine dc.mk ?_ ?_)|apply aH (b:=0) (X:=jm) (x:=fQ) rfl (fun(c:SV) (s:Int)=>st [(3,c),(4,.d (.int .i64 s))] []) (c:=_) (s0:=_) Z;exact aD;with_reducible refine dc.mk ?_ ?_|((apply aH (b:=2) (X:=iD) (x:=fc) rfl (fun(c:SV×SV) (s:Int)=>st [(1,c.1),(3,c.2),(4,.d (.int .i64 s))] []) (c:=(_,_)) (s0:=_) Z);exact aD;with_reducible refine dc.mk ?_ ?_)|apply aH (b:=0) (X:=iE) (x:=fd) rfl (fun(c:SV) (s:Int)=>st [(1,c),(3,.d (.int .i64 s))] []) (c:=_) (s0:=_) Z;exact aD;with_reducible refine dc.mk ?_ ?_|apply cg (s':=_) Z;exact aD|apply dV (s':=_) Z;exact aD|(with_reducible apply kf Z);intro r Z|((with_reducible apply eI.of);exact aD;(focus(intro _;repeat'(first|(with_reducible first|exact dU|refine bL ?_|refine jE ?_)|(with_reducible refine mZ ?_);intro _|(with_reducible refine m8 ?_);intro _)));(intro s o Z;first|unfold fP|unfold fQ|unfold fc|unfold fd);rotate_left;intro s Z)|exact He|fail))
def oO (B:UInt8):Option (Bool):=(cf.1 B).1
theorem wi (B:UInt8):∀ r,oO B=some r->ac Tryz.prog 87 [.int .u8 (B).toNat] (.bool r):=(cf.1 B).2
def h_ (B:List UInt8) (x1:UInt8):Option (Bool):=(cf.2.1 B x1).1
theorem pL (B:List UInt8) (x1:UInt8):∀ r,h_ B x1=some r->ac Tryz.prog 88 [.slice (List.map ej B),.int .u8 (x1).toNat] (.bool r):=(cf.2.1 B x1).2
def wj (B:List UInt8):Option (Bool):=(cf.2.2.1 B).1
theorem wk (B:List UInt8):∀ r,wj B=some r->ac Tryz.prog 47 [.str B] (.bool r):=(cf.2.2.1 B).2
def uK (B:List UInt8):Option (Bool):=(cf.2.2.2.1 B).1
theorem BU (B:List UInt8):∀ r,uK B=some r->ac Tryz.prog 133 [.str B] (.bool r):=(cf.2.2.2.1 B).2
def eW (B:ab):Option (Int):=(cf.2.2.2.2.1 B).1
theorem pi (B:ab):∀ r,eW B=some r->ac Tryz.prog 60 [.agg (aA B)] (.int .i64 r):=(cf.2.2.2.2.1 B).2
def ki (B:List UInt8):Option (Bool):=(cf.2.2.2.2.2.1 B).1
theorem l8 (B:List UInt8):∀ r,ki B=some r->ac Tryz.prog 147 [.str B] (.bool r):=(cf.2.2.2.2.2.1 B).2
def gv (B:ak):Option (Int):=(cf.2.2.2.2.2.2 B).1
theorem n7 (B:ak):∀ r,gv B=some r->ac Tryz.prog 149 [.agg (ax B)] (.int .i64 r):=(cf.2.2.2.2.2.2 B).2
def lF:SC:=(.sq [.k 20 .lss 19 18] (.seq (.cond (.t 20) .skip (.exit 0)) (.seq (.block 1 (.sq [.y 21 1 17 19,.l 22 21,.v 5 22] (.sq [.v 23 5,.c 24 (.f 87) [.t 23],.r 25 (.not (.t 24))] (.cond (.t 25) (.sq [.r 2 (.mv (.i 3))] .ret) .skip)))) (.reg [.j 26 .add 19 1,.v 19 26]))))
def pr:SC:= .block 0 (.loop lF)
def lG:SC:=(.sq [.k 43 .lss 42 41] (.seq (.cond (.t 43) .skip (.exit 2)) (.seq (.block 3 (.sq [.v 44 42,.y 45 1 40 42,.l 46 45,.v 6 44,.v 7 46] (.sq [.v 47 3,.v 48 6,.v 49 3,.h 50 49,.r 51 (.mins (.t 48) [.t 50]),.r 52 (.slc 1 (.t 47) none (some (.t 51))),.v 53 7,.c 54 (.f 88) [.t 52,.t 53]] (.cond (.t 54) (.sq [.r 2 (.mv (.i 7))] .ret) .skip)))) (.reg [.j 55 .add 42 1,.v 42 55]))))
def pu:SC:= .block 2 (.loop lG)
def sa:SC:=(.sq [.r 1 (.boxI (.t 0)),.r 2 (.mv (.i 0))] (.sq [.f 8 0 1,.l 9 8,.f 10 1 1,.l 11 10,.f 12 2 1,.l 13 12,.f 14 4 1,.l 15 14,.r 16 (.bslice 1 [.t 9,.t 11,.t 13,.t 15]),.v 3 16] (.seq (.sq [.v 17 3,.h 18 17,.r 19 (.mv (.i 0))] pr) (.seq (.seq (.reg (.f 27 3 1:: .l 28 27:: .r 29 (.bin .neq (.t 28) (.c (.d (.int .u8 0)))):: .v 30 29::aS [31,32,33,34] 30 true (.f 31 3 1:: .r 32 (.ld1 (.t 31)):: .c 33 (.f 87) [.t 32]:: .r 34 (.not (.t 33))::[]) (.r 35 (.pick (.t 30) (.t 34) (.b false))::[]))) (.cond (.t 35) (.sq [.r 2 (.mv (.i 3))] .ret) .skip)) (.seq (.sq [.v 36 3,.f 37 3 1,.l 38 37,.r 39 (.bslice 1 [.t 38]),.w 40 (.app 5 1 (.t 36) (.t 39)),.h 41 40,.r 42 (.mv (.i 0))] pu) (.sq [.r 2 (.mv (.i 0))] .ret))))))
theorem xE:fits Tryz.prog 46 Tryz.f46 sa [.t 2] 1=true:=oK
def sS:SC:=(.sq [.r 2 (.mv (.i 0))] (.seq (.sq [.v 3 0,.r 4 (.lenT (.t 3)),.j 5 .gtr 4 1000] (.cond (.t 5) (.sq [.r 2 (.mv (.i 2))] .ret) .skip)) (.seq (.sq [.v 6 0,.c 7 (.f 133) [.t 6],.r 8 (.not (.t 7))] (.cond (.t 8) (.sq [.r 2 (.mv (.i 3))] .ret) .skip)) (.sq [.r 2 (.mv (.i 0))] .ret))))
theorem yG:fits Tryz.prog 91 Tryz.f91 sS [.t 2] 1=true:=oK
def gx:SC:=(.seq (.sq [.v 13 3,.f 14 1 1,.l 15 14,.h 16 15,.k 17 .lss 13 16] (.cond (.t 17) .skip (.exit 0))) (.seq (.block 1 (.sq [.f 20 1 1,.l 21 20,.v 22 3,.y 23 1 21 22,.a 24 1 23,.c 25 (.f 149) [.t 24],.v 4 25] (.sq [.v 26 4,.j 27 .neq 26 0] (.cond (.t 27) (.sq [.v 28 4,.v 2 28] .ret) .skip)))) (.reg [.v 18 3,.j 19 .add 18 1,.v 3 19])))
def kj:SC:= .block 0 (.loop gx)
def lK:SC:=(.sq [.r 1 (.boxI (.t 0)),.r 2 (.mv (.i 0))] (.seq (.sq [.f 5 0 1,.l 6 5,.c 7 (.f 147) [.t 6],.r 8 (.not (.t 7))] (.cond (.t 8) (.sq [.r 2 (.mv (.i 5))] .ret) .skip)) (.seq (.sq [.f 9 1 1,.l 10 9,.h 11 10,.j 12 .gtr 11 50] (.cond (.t 12) (.sq [.r 2 (.mv (.i 2))] .ret) .skip)) (.seq (.sq [.r 3 (.mv (.i 0))] kj) (.sq [.r 2 (.mv (.i 0))] .ret)))))
theorem qU:fits Tryz.prog 104 Tryz.f104 lK [.t 2] 1=true:=oK
def jn:(∀ (B:ab),{m:Option (Int)//∀ r,m=some r->ac Tryz.prog 46 [.agg (aA B)] (.int .i64 r)})×(∀ (B:List UInt8),{m:Option (Int)//∀ r,m=some r->ac Tryz.prog 91 [.str B] (.int .i64 r)})×(∀ (B:aa),{m:Option (Int)//∀ r,m=some r->ac Tryz.prog 104 [.agg (af B)] (.int .i64 r)}):=by
 refine⟨?g0, ?g1, ?g2⟩
 case' g0=>(intro B;apply Subtype.mk;intro r Z;apply au Tryz.func46 xE;unfold sa)
 case' g1=>(intro B;apply Subtype.mk;intro r Z;apply au Tryz.func91 yG;unfold sS)
 case' g2=>(intro B;apply Subtype.mk;intro r Z;apply au Tryz.func104 qU;unfold lK)
 all_goals(repeat'(first|(with_reducible first|refine cE ?_|refine cm ?_|refine bu ?_|refine bR ?_|refine dL ?_|refine cN ?_|refine cn ?_|refine cF ?_|refine cO ?_|refine ee ?_|refine bC ?_|refine dq ?_|refine dy ?_)|(with_reducible apply ep Z);(iterate 2 (exact aj));intro _;rfl;intro e Z|(with_reducible apply uE Z);(iterate 3 (exact aj));intro e Z|(with_reducible apply KH Z (H:=ej));(iterate 2 (exact aj));exact xM;exact aj;intro _;rfl;intro e Z|(with_reducible apply P1 Z (H:=ej));(iterate 2 (exact aj));exact xM;(iterate 2 (exact aj));intro e Z|(with_reducible apply jj);exact aj;(first|exact trivial)|(with_reducible apply KF Z);(iterate 2 (exact aj));intro _;rfl;intro e Z|((with_reducible apply ll Z);exact aj;rfl;intro v Z;rotate_left;intro v g Z)|(with_reducible apply lE Z);exact aj;(first|apply wi _|apply pL _ _|apply BU _|apply l8 _|apply n7 _);(any_goals(exact nJ));intro x Z|(with_reducible apply Se Z (H:=ej));(iterate 5 (exact aj));exact xM;exact xM;rfl;decide;intro _;rfl;intro Z|((with_reducible apply bz Z);exact aj;intro Z;rotate_left;intro Z)|(with_reducible apply eH Z);exact lz;exact cY|(with_reducible apply eo Z);exact aj|(with_reducible apply cb Z);intro r Z|(with_reducible apply fl Z);intro r Z|((apply aH (b:=0) (X:=pr) (x:=lF) rfl (fun(c:SV×SV×SV×SV) (s:Int)=>st [(1,c.1),(3,c.2.1),(17,c.2.2.1),(18,c.2.2.2),(19,.d (.int .i64 s))] []) (c:=(_,_,_,_)) (s0:=_) Z);exact aD;with_reducible refine dc.mk ?_ ?_)|((apply aH (b:=2) (X:=pu) (x:=lG) rfl (fun(c:SV×Ch×SV) (s:Int)=>st [(3,c.1),(40,.vec 40),(41,c.2.2),(42,.d (.int .i64 s))] [(40,c.2.1)]) (c:=(_,_,_)) (s0:=_) Z);exact aD;with_reducible refine dc.mk ?_ ?_)|apply aH (b:=0) (X:=kj) (x:=gx) rfl (fun(c:SV) (s:Int)=>st [(1,c),(3,.d (.int .i64 s))] []) (c:=_) (s0:=_) Z;exact aD;with_reducible refine dc.mk ?_ ?_|apply cg (s':=_) Z;exact aD|apply dV (s':=_) Z;exact aD|(with_reducible apply kf Z);intro r Z|((with_reducible apply eI.of);exact aD;(focus(intro _;repeat'(first|(with_reducible first|exact dU|refine bL ?_))));(intro s o Z;first|unfold lF|unfold lG|unfold gx);rotate_left;intro s Z)|exact A0|fail))
def gX (B:ab):Option (Int):=(jn.1 B).1
theorem qH (B:ab):∀ r,gX B=some r->ac Tryz.prog 46 [.agg (aA B)] (.int .i64 r):=(jn.1 B).2
def pM (B:List UInt8):Option (Int):=(jn.2.1 B).1
theorem xF (B:List UInt8):∀ r,pM B=some r->ac Tryz.prog 91 [.str B] (.int .i64 r):=(jn.2.1 B).2
def iF (B:aa):Option (Int):=(jn.2.2 B).1
theorem qI (B:aa):∀ r,iF B=some r->ac Tryz.prog 104 [.agg (af B)] (.int .i64 r):=(jn.2.2 B).2
def kl:SC:=(.sq [.k 32 .lss 31 30] (.seq (.cond (.t 32) .skip (.exit 2)) (.seq (.block 3 (.sq [.y 33 1 29 31,.l 34 33,.v 6 34] (.sq [.v 35 6,.c 36 (.f 91) [.t 35],.v 7 36] (.sq [.v 37 7,.j 38 .neq 37 0] (.cond (.t 38) (.sq [.v 39 7,.v 2 39] .ret) .skip))))) (.reg [.j 40 .add 31 1,.v 31 40]))))
def nV:SC:= .block 2 (.loop kl)
def km:SC:=(.sq [.k 20 .lss 19 18] (.seq (.cond (.t 20) .skip (.exit 0)) (.seq (.block 1 (.sq [.y 21 1 17 19,.l 22 21,.v 4 22] (.seq (.sq [.v 23 4,.h 24 23,.j 25 .eql 24 0] (.cond (.t 25) (.sq [.r 2 (.mv (.i 9))] .ret) .skip)) (.seq (.sq [.v 26 4,.h 27 26,.j 28 .gtr 27 20] (.cond (.t 28) (.sq [.r 2 (.mv (.i 2))] .ret) .skip)) (.sq [.v 29 4,.h 30 29,.r 31 (.mv (.i 0))] nV))))) (.reg [.j 41 .add 19 1,.v 19 41]))))
def nW:SC:= .block 0 (.loop km)
def qJ:SC:=(.sq [.r 1 (.boxI (.t 0)),.r 2 (.mv (.i 0))] (.seq (.sq [.f 8 0 1,.l 9 8,.h 10 9,.j 11 .eql 10 0] (.cond (.t 11) (.sq [.r 2 (.mv (.i 9))] .ret) .skip)) (.seq (.sq [.f 12 0 1,.l 13 12,.h 14 13,.j 15 .gtr 14 20] (.cond (.t 15) (.sq [.r 2 (.mv (.i 2))] .ret) .skip)) (.seq (.sq [.f 16 0 1,.l 17 16,.h 18 17,.r 19 (.mv (.i 0))] nW) (.sq [.r 2 (.mv (.i 0))] .ret)))))
theorem vn:fits Tryz.prog 48 Tryz.f48 qJ [.t 2] 1=true:=oK
def eJ:SC:=(.seq (.sq [.v 8 3,.v 9 0,.h 10 9,.k 11 .lss 8 10] (.cond (.t 11) .skip (.exit 0))) (.seq (.block 1 (.sq [.v 14 0,.v 15 3,.y 16 2 14 15,.a 17 2 16,.c 18 (.f 104) [.t 17],.v 4 18] (.sq [.v 19 4,.j 20 .neq 19 0] (.cond (.t 20) (.sq [.v 21 4,.v 2 21] .ret) .skip)))) (.reg [.v 12 3,.j 13 .add 12 1,.v 3 13])))
def iq:SC:= .block 0 (.loop eJ)
def jo:SC:=(.sq [.r 2 (.mv (.i 0))] (.seq (.sq [.v 5 0,.h 6 5,.j 7 .gtr 6 2000] (.cond (.t 7) (.sq [.r 2 (.mv (.i 2))] .ret) .skip)) (.seq (.sq [.r 3 (.mv (.i 0))] iq) (.sq [.r 2 (.mv (.i 0))] .ret))))
theorem n8:fits Tryz.prog 63 Tryz.f63 jo [.t 2] 1=true:=oK
def nX:(∀ (B:ak),{m:Option (Int)//∀ r,m=some r->ac Tryz.prog 48 [.agg (ax B)] (.int .i64 r)})×(∀ (B:List aa),{m:Option (Int)//∀ r,m=some r->ac Tryz.prog 63 [.slice (List.map af B)] (.int .i64 r)}):=by
 refine⟨?g0, ?g1⟩
 case' g0=>(intro B;apply Subtype.mk;intro r Z;apply au Tryz.func48 vn;unfold qJ)
 case' g1=>(intro B;apply Subtype.mk;intro r Z;apply au Tryz.func63 n8;unfold jo)
 all_goals(repeat'(first|(with_reducible first|refine cE ?_|refine cm ?_|refine bu ?_|refine bR ?_|refine dL ?_|refine cN ?_|refine cn ?_|refine cF ?_|refine cO ?_|refine ee ?_|refine bC ?_|refine dq ?_|refine dy ?_)|(with_reducible apply ep Z);(iterate 2 (exact aj));intro _;rfl;intro e Z|(with_reducible apply jj);exact aj;(first|exact trivial)|(with_reducible apply lE Z);exact aj;(first|apply xF _|apply qI _);(any_goals(exact nJ));intro x Z|((with_reducible apply bz Z);exact aj;intro Z;rotate_left;intro Z)|(with_reducible apply eH Z);exact lz;exact cY|(with_reducible apply cb Z);intro r Z|(with_reducible apply fl Z);intro r Z|((apply aH (b:=2) (X:=nV) (x:=kl) rfl (fun(c:SV×SV×SV×SV×SV) (s:Int)=>st [(17,c.1),(18,c.2.1),(19,c.2.2.1),(29,c.2.2.2.1),(30,c.2.2.2.2),(31,.d (.int .i64 s))] []) (c:=(_,_,_,_,_)) (s0:=_) Z);exact aD;with_reducible refine dc.mk ?_ ?_)|((apply aH (b:=0) (X:=nW) (x:=km) rfl (fun(c:SV×SV) (s:Int)=>st [(17,c.1),(18,c.2),(19,.d (.int .i64 s))] []) (c:=(_,_)) (s0:=_) Z);exact aD;with_reducible refine dc.mk ?_ ?_)|apply aH (b:=0) (X:=iq) (x:=eJ) rfl (fun(c:SV) (s:Int)=>st [(0,c),(3,.d (.int .i64 s))] []) (c:=_) (s0:=_) Z;exact aD;with_reducible refine dc.mk ?_ ?_|apply cg (s':=_) Z;exact aD|apply dV (s':=_) Z;exact aD|(with_reducible apply kf Z);intro r Z|((with_reducible apply eI.of);exact aD;(focus(intro _;repeat'(first|(with_reducible first|exact dU|refine bL ?_|refine jE ?_)|(with_reducible refine mZ ?_);intro _|(with_reducible refine m8 ?_);intro _)));(intro s o Z;first|unfold kl|unfold km|unfold eJ);rotate_left;intro s Z)|exact He|fail))
def mL (B:ak):Option (Int):=(nX.1 B).1
theorem uL (B:ak):∀ r,mL B=some r->ac Tryz.prog 48 [.agg (ax B)] (.int .i64 r):=(nX.1 B).2
def gg (B:List aa):Option (Int):=(nX.2 B).1
theorem iG (B:List aa):∀ r,gg B=some r->ac Tryz.prog 63 [.slice (List.map af B)] (.int .i64 r):=(nX.2 B).2
def jG:SC:=(.sq [.k 29 .lss 28 27] (.seq (.cond (.t 29) .skip (.exit 2)) (.seq (.block 3 (.sq [.y 30 1 26 28,.a 31 1 30,.w 6 (.boxM (.c (.agg [.nils]))),.s 1 6 31] (.sq [.a 32 1 6,.c 33 (.f 48) [.t 32],.v 7 33] (.sq [.v 34 7,.j 35 .neq 34 0] (.cond (.t 35) (.sq [.v 36 7,.v 2 36] .ret) .skip))))) (.reg [.j 37 .add 28 1,.v 28 37]))))
def nb:SC:= .block 2 (.loop jG)
def jH:SC:=(.sq [.k 14 .lss 13 12] (.seq (.cond (.t 14) .skip (.exit 0)) (.seq (.block 1 (.sq [.y 15 2 11 13,.a 16 2 15,.w 4 (.boxM (.c (.agg [.d (.str []),.nils]))),.s 2 4 16] (.seq (.sq [.f 17 0 4,.l 18 17,.c 19 (.f 47) [.t 18],.r 20 (.not (.t 19))] (.cond (.t 20) (.sq [.r 2 (.mv (.i 5))] .ret) .skip)) (.seq (.sq [.f 21 1 4,.l 22 21,.h 23 22,.j 24 .gtr 23 50] (.cond (.t 24) (.sq [.r 2 (.mv (.i 2))] .ret) .skip)) (.sq [.f 25 1 4,.l 26 25,.h 27 26,.r 28 (.mv (.i 0))] nb))))) (.reg [.j 38 .add 13 1,.v 13 38]))))
def nc:SC:= .block 0 (.loop jH)
def pv:SC:=(.sq [.r 2 (.mv (.i 0))] (.seq (.sq [.v 8 0,.h 9 8,.j 10 .gtr 9 2000] (.cond (.t 10) (.sq [.r 2 (.mv (.i 2))] .ret) .skip)) (.seq (.sq [.v 11 0,.h 12 11,.r 13 (.mv (.i 0))] nc) (.sq [.r 2 (.mv (.i 0))] .ret))))
theorem uM:fits Tryz.prog 20 Tryz.f20 pv [.t 2] 1=true:=oK
def wl:(∀ (B:List aa),{m:Option (Int)//∀ r,m=some r->ac Tryz.prog 20 [.slice (List.map af B)] (.int .i64 r)}):=by
 (intro B;apply Subtype.mk;intro r Z;apply au Tryz.func20 uM;unfold pv)
 repeat'(first|(with_reducible first|refine cE ?_|refine cm ?_|refine bu ?_|refine bR ?_|refine dL ?_|refine cN ?_|refine cn ?_|refine cF ?_|refine cO ?_|refine ee ?_|refine bC ?_|refine dq ?_|refine dy ?_)|(with_reducible apply ep Z);(iterate 2 (exact aj));intro _;rfl;intro e Z|(with_reducible apply jj);exact aj;(first|exact trivial)|(with_reducible apply lE Z);exact aj;(first|apply wk _|apply uL _);(any_goals(exact nJ));intro x Z|(with_reducible apply tD);exact aj;(first|exact trivial)|((with_reducible apply bz Z);exact aj;intro Z;rotate_left;intro Z)|(with_reducible apply eH Z);exact lz;exact cY|(with_reducible apply cb Z);intro r Z|(with_reducible apply fl Z);intro r Z|((apply aH (b:=2) (X:=nb) (x:=jG) rfl (fun(c:SV×SV×SV×SV×SV) (s:Int)=>st [(11,c.1),(12,c.2.1),(13,c.2.2.1),(26,c.2.2.2.1),(27,c.2.2.2.2),(28,.d (.int .i64 s))] []) (c:=(_,_,_,_,_)) (s0:=_) Z);exact aD;with_reducible refine dc.mk ?_ ?_)|((apply aH (b:=0) (X:=nc) (x:=jH) rfl (fun(c:SV×SV) (s:Int)=>st [(11,c.1),(12,c.2),(13,.d (.int .i64 s))] []) (c:=(_,_)) (s0:=_) Z);exact aD;with_reducible refine dc.mk ?_ ?_)|apply cg (s':=_) Z;exact aD|apply dV (s':=_) Z;exact aD|(with_reducible apply kf Z);intro r Z|((with_reducible apply eI.of);exact aD;(focus(intro _;repeat'(first|(with_reducible first|exact dU|refine bL ?_|refine jE ?_)|(with_reducible refine mZ ?_);intro _|(with_reducible refine m8 ?_);intro _)));(intro s o Z;first|unfold jG|unfold jH);rotate_left;intro s Z)|exact He|fail)
def l9 (B:List aa):Option (Int):=(wl B).1
theorem nY (B:List aa):∀ r,l9 B=some r->ac Tryz.prog 20 [.slice (List.map af B)] (.int .i64 r):=(wl B).2
end
end Go.Proofs.YtgmnipfafmphaaaGreatDoor
namespace Go.Proofs.YtgmnipfafmphaaaGreatDoor
set_option linter.unusedSimpArgs false
set_option linter.unusedVariables false
open Go.RowKit Go.Lib
theorem uc:∀ (l:List DV),SV.toDVs (dR l)=some l
 |[]=>rfl
 |d::l=>by
  have ih:=uc l
  simp only[dR,VF,SV.toDVs,SV.toDV] at ih⊢
  rw[ih]
end Go.Proofs.YtgmnipfafmphaaaGreatDoor
namespace Go.Proofs.YtgmnipfafmphaaaGreatDoor
set_option linter.unusedSimpArgs false
set_option linter.unusedVariables false
open Go.RowKit Go.Lib
theorem G7:∀ (rows:List (List DV)),(rows.map dR).flatten=dR rows.flatten
 |[]=>rfl
 |r::rows=>by
  have ih:=G7 rows
  simp only[dR,VF,V4,Wq] at ih⊢
  rw[ih]
theorem Oo {P:Program} {f:FuncId} {args:List DV} {rows:List (List DV)} {size e:Nat} (m:mV P f=true) (W:∀ r∈rows,r.length=size) (h:∀ (w:World) (M:Nat->Prop) (vs:List Value),(∀ b,M b->b<w.heap.size)->aM w M args vs->Calls P f vs.toArray w fun ev w'=>∃ v k,ev= .returned v/\w'.ownsRow w.heap.size e size v rows.length k/\aM w M rows.flatten k/\(∀ u∈k,u.oneCell'=true)/\Below w.heap.size w w'):
  bw P f (args.map .d) (.own (.sl e (List.replicate size .sh)) (.slice rows)) (args.map .d):=by
 refine⟨m,fun w M vs F hM B hn hv _ _=> ?_⟩
 have r2:SV.noOwns (args.map SV.d)=true:=oG _ _ (uc args)
 obtain⟨hS,rfl⟩:=az.to_S _ _ _ r2 hv
 have t:=av.toDVs _ _ _ hS (uc args)
 refine(h w _ vs (fun b hb=>by rcases hb with hb|hb;exact(hM b hb).1;cases hb) t).mono ?_
 rintro ev w' ⟨v,k,rfl,ho,p,h1,hB⟩
 have a:∀ b∈gT v,w.heap.size<=b/\b<w'.heap.size:=by
  intro b hb
  rcases ho.2 with⟨rfl,_⟩|⟨g,N,I,rfl,s5,L,_⟩
  ·simp[gT,vr] at hb
  ·simp[gT,vr] at hb
   subst hb
   exact⟨s5,(VV.1 L).1⟩
 have Q:mG w (fun b=>M b\/b∈([]:List Nat)) w' (fun b=>M b\/b∈[]++gT v):=⟨hB.size,fun b hb Z=>⟨hB.block b hb,fun r6=>by
  rcases r6 with r6|r6
  ·exact Z (.inl r6)
  ·have:=(a b (by simpa using r6)).1;omega⟩⟩
 refine⟨v,[],gT v,rfl,az.of_S _ _ (av.of_d (t.ext Q)), ?_, ?_, ?_,Fa.of_below hB⟩
 ·unfold aT f8
  refine⟨rows,k,[],rfl,⟨by simpa using ho.1, ?_⟩,h1,by simpa using W, ?_,by simp⟩
  ·rcases ho.2 with hn|⟨g,N,I,hv,hb,z⟩
   ·exact .inl hn
   ·simp only[VE]
    exact .inr ⟨g,N,I,hv,V0 _,z⟩
  ·refine(p5 (κ:=κ0) (by simpa using W)).1 ?_
   have e1:rows.map (bA (List.replicate size .sh))=rows.map dR:=Wc fun r D=>by
    have:=uG (H:=fun _:Unit=>r) (n:=size) (fun _=>W r D) [()]
    simpa[aY] using this
   rw[e1,G7]
   exact az.of_S _ _ (av.of_d (p.ext Q))
 ·cases r7:vr v with
  |none=>simp[gT,r7]
  |some b=>simp[gT,r7]
 ·intro b hb
  have:=a b (by simpa using hb)
  exact⟨.inr this.1,this.2⟩
end Go.Proofs.YtgmnipfafmphaaaGreatDoor
namespace Go.Proofs.YtgmnipfafmphaaaGreatDoor
set_option linter.unusedSimpArgs false
set_option linter.unusedVariables false
open Go.RowKit Go.Lib
variable {e:Nat}
theorem Eb {w:World} {n m s k:Nat} {v:Value} {xs:List Value} (h:n<=m) (ho:w.ownsRow m e s v k xs):w.ownsRow n e s v k xs:=by
 refine⟨ho.1, ?_⟩
 rcases ho.2 with hn|⟨g,N,I,hv,hb,z⟩
 ·exact .inl hn
 ·exact .inr ⟨g,N,I,hv,Wz h hb,z⟩
theorem LY {P:Program} {f:FuncId} {args:List DV} {rows:List (List DV)} {size:Nat} {n:Int} (m:mV P f=true) (W:∀ r∈rows,r.length=size) (h:∀ (w:World) (M:Nat->Prop) (vs:List Value),(∀ b,M b->b<w.heap.size)->aM w M args vs->z6 w->Calls P f vs.toArray w fun ev w'=>∃ v k,ev= .returned (.tuple #[v,.int .i64 n])/\w'.ownsRow w.heap.size e size v rows.length k/\aM w M rows.flatten k/\(∀ u∈k,u.oneCell'=true)/\Below w.heap.size w w'):
  bw P f (args.map .d) (.tup [.own (.sl e (List.replicate size .sh)) (.slice rows),.d (.int .i64 n)]) (args.map .d):=by
 refine⟨m,fun w M vs F hM B hn hv L _=> ?_⟩
 have r2:SV.noOwns (args.map SV.d)=true:=oG _ _ (uc args)
 obtain⟨hS,rfl⟩:=az.to_S _ _ _ r2 hv
 have t:=av.toDVs _ _ _ hS (uc args)
 refine(h w _ vs (fun b hb=>by rcases hb with hb|hb;exact(hM b hb).1;cases hb) t L).mono ?_
 rintro ev w' ⟨v,k,rfl,ho,p,h1,hB⟩
 have a:∀ b∈gT v,w.heap.size<=b/\b<w'.heap.size:=by
  intro b hb
  rcases ho.2 with⟨rfl,_⟩|⟨g,N,I,rfl,s5,L,_⟩
  ·simp[gT,vr] at hb
  ·simp[gT,vr] at hb
   subst hb
   exact⟨s5,(VV.1 L).1⟩
 have Q:mG w (fun b=>M b\/b∈([]:List Nat)) w' (fun b=>M b\/b∈[]++gT v):=⟨hB.size,fun b hb Z=>⟨hB.block b hb,fun r6=>by
  rcases r6 with r6|r6
  ·exact Z (.inl r6)
  ·have:=(a b (by simpa using r6)).1;omega⟩⟩
 refine⟨_,[],gT v,rfl,az.of_S _ _ (av.of_d (t.ext Q)), ?_, ?_, ?_,Fa.of_below hB⟩
 ·unfold aT
  refine⟨[v,.int .i64 n],rfl, ?_⟩
  simp only[az]
  refine⟨v,_,gT v,[],rfl,(VL _).symm, ?_,_,_,[],[],rfl,rfl, ?_,rfl,rfl⟩
  rotate_left
  ·unfold aT;exact⟨rfl,by simp only[al,bf]⟩
  unfold aT f8
  refine⟨rows,k,[],rfl,⟨by simpa using ho.1, ?_⟩,h1,by simpa using W, ?_,by simp⟩
  ·rcases ho.2 with hn|⟨g,N,I,hv,hb,z⟩
   ·exact .inl hn
   ·simp only[VE]
    exact .inr ⟨g,N,I,hv,V0 _,z⟩
  ·refine(p5 (κ:=κ0) (by simpa using W)).1 ?_
   have e1:rows.map (bA (List.replicate size .sh))=rows.map dR:=Wc fun r D=>by
    have:=uG (H:=fun _:Unit=>r) (n:=size) (fun _=>W r D) [()]
    simpa[aY] using this
   rw[e1,G7]
   exact az.of_S _ _ (av.of_d (p.ext Q))
 ·cases r7:vr v with
  |none=>simp[gT,r7]
  |some b=>simp[gT,r7]
 ·intro b hb
  have:=a b (by simpa using hb)
  exact⟨.inr this.1,this.2⟩
end Go.Proofs.YtgmnipfafmphaaaGreatDoor
namespace Go.Proofs.YtgmnipfafmphaaaGreatDoor
set_option maxRecDepth 100000
set_option linter.unusedSimpArgs false
set_option linter.unusedVariables false
open Go.RowKit Go.Shelf Go.Lib
def nH (x:ab):List UInt8:=[77,82,75,x.fElement,x.fPart,x.fRepeat,if x.fEscape=0 then 32 else x.fEscape,x.fEnd]
noncomputable def kE (B:ab):Option (List UInt8×Int):=(gX B).bind fun c=>if c=0 then some (nH B,0) else some ([],c)
theorem AN (w:World) (C:Array Value) (e:TypeId) (m:Nat×Nat) (j:Nat) (u:Value) (h:C.toList[j]?=some u):(w.alloc (.cells C e m)).cell? ((⟨w.heap.size,0,none⟩:Addr).add j)=some u:=by
 have hh:(w.alloc (.cells C e m)).heap[w.heap.size]?=some (.cells C e m):=by
  show(w.heap.push _)[w.heap.size]?=_
  simp
 rw[Addr.add_lit]
 unfold World.cell?
 rw[hh]
 simpa using h
theorem Ea (w:World) (o:Obj) (C:Array Value) (e:TypeId) (m:Nat×Nat) (j:Nat) (u:Value) (h:C.toList[j]?=some u):((w.alloc o).alloc (.cells C e m)).cell? ((⟨w.heap.size+1,0,none⟩:Addr).add j)=some u:=by
 have hs:(w.alloc o).heap.size=w.heap.size+1:=by show(w.heap.push _).size=_;rw[W6]
 have:=AN (w.alloc o) C e m j u h
 rwa[hs] at this
theorem TH (b:UInt8) (h:((b.toNat:Int)==0)=true):(if b=0 then(32:UInt8) else b)=32:=by
 have h1:(b.toNat:Int)=0:=by simpa using h
 have h2:b=0:=W4.1 (by show b.toNat=0;omega)
 rw[Wy h2]
theorem TI (b:UInt8) (h:((b.toNat:Int)==0)=false):(if b=0 then(32:UInt8) else b)=b:=by
 rw[WU]
 rintro rfl
 simp at h
theorem US:∃ i z,Tryz.prog.info? 5=some i/\i.zero=some z/\i.size=1/\i.bytes=1/\z.cells.size=1:=⟨_,_,rfl,rfl,rfl,rfl,rfl⟩
set_option maxHeartbeats 4000000 in
theorem ES (B:ab) (r:List UInt8×Int) (D:kE B=some r) (w:World) (M:Nat->Prop) (vs:List Value) (hM:∀ b,M b->b<w.heap.size) (hv:aM w M [.agg (aA B)] vs) (L:z6 w):
  Calls Tryz.prog 19 vs.toArray w fun ev w'=>∃ v,ev= .returned (.tuple #[v,.int .i64 r.2])/\w'.ownsRow w.heap.size 5 1 v r.1.length (r.1.map fun b=>(b.toNat:Int)|>Value.int .u8)/\Below w.heap.size w w':=by
 unfold kE at D
 cases hc:gX B with
 |none=>rw[hc] at D;cases D
 |some c=>
 rw[hc] at D
 simp only[Vh] at D
 have Y:=qH B c hc
 simp only[aM,bf,aA] at hv
 obtain⟨u,X,rfl,⟨vs,rfl, -,u0,m,rfl,rfl,u1,s,rfl,rfl,u2,t,rfl,rfl,u3,x,rfl,rfl,u4,A,rfl,rfl,rfl⟩,rfl⟩:=hv
 have f:=Y.2 (w.alloc (.cells #[.int .u8 B.fElement.toNat,.int .u8 B.fPart.toNat,.int .u8 B.fRepeat.toNat,.int .u8 B.fEscape.toNat,.int .u8 B.fEnd.toNat] 43)) M _ (fun b hb=>by have:=hM b hb;show b<(w.heap.push _).size;rw[W6];omega) (by simp only[aM,bf,aA];exact⟨_,_,rfl,⟨_,rfl,by simp[Value.oneCell'],_,_,rfl,rfl,_,_,rfl,rfl,_,_,rfl,rfl,_,_,rfl,rfl,_,_,rfl,rfl,rfl⟩,rfl⟩) (L.below ((Below.refl _ w).alloc (Vs _) _))
 have E:=fun(w:World) (C:Array Value) (n c:Nat)=>Lib.run_convert_bytes_const (P:=Tryz.prog) w 41 5 C n c Tryz.underlying41 Tryz.underlying5
 have F:(w.alloc (.cells #[.int .u8 B.fElement.toNat,.int .u8 B.fPart.toNat,.int .u8 B.fRepeat.toNat,.int .u8 B.fEscape.toNat,.int .u8 B.fEnd.toNat] 43)).heap.size=w.heap.size+1:=by show(w.heap.push _).size=_;rw[W6]
 have r0:∀ k,(w.alloc (.cells #[.int .u8 B.fElement.toNat,.int .u8 B.fPart.toNat,.int .u8 B.fRepeat.toNat,.int .u8 B.fEscape.toNat,.int .u8 B.fEnd.toNat] 43)).cell? ⟨w.heap.size,k,none⟩=(#[.int .u8 B.fElement.toNat,.int .u8 B.fPart.toNat,.int .u8 B.fRepeat.toNat,.int .u8 B.fEscape.toNat,.int .u8 B.fEnd.toNat]:Array Value)[k]?:=by
  intro k
  have hh:(w.alloc (.cells #[.int .u8 B.fElement.toNat,.int .u8 B.fPart.toNat,.int .u8 B.fRepeat.toNat,.int .u8 B.fEscape.toNat,.int .u8 B.fEnd.toNat] 43)).heap[w.heap.size]?=some (.cells #[.int .u8 B.fElement.toNat,.int .u8 B.fPart.toNat,.int .u8 B.fRepeat.toNat,.int .u8 B.fEscape.toNat,.int .u8 B.fEnd.toNat] 43):=by
   show(w.heap.push _)[w.heap.size]?=_
   simp
  unfold World.cell?
  rw[hh]
  rfl
 by_cases h0:c=0
 ·subst h0
  obtain⟨i0,z,hi,y,G,d,R⟩:=US
  go_enter Tryz.func19,Tryz.ntmps19
  go_wp2_with (first|(go_at_call 46;refine f.mono ?_;rintro e w' ⟨v,rfl,V,hB⟩;simp only[bf] at V;subst V;have g:=(hB.cell (p:=⟨w.heap.size,0,none⟩) (by rw[F];exact Nat.lt_succ_self _)).trans (r0 0);have T:=(hB.cell (p:=⟨w.heap.size,1,none⟩) (by rw[F];exact Nat.lt_succ_self _)).trans (r0 1);have c2:=(hB.cell (p:=⟨w.heap.size,2,none⟩) (by rw[F];exact Nat.lt_succ_self _)).trans (r0 2);have S:=(hB.cell (p:=⟨w.heap.size,3,none⟩) (by rw[F];exact Nat.lt_succ_self _)).trans (r0 3);have i:=(hB.cell (p:=⟨w.heap.size,4,none⟩) (by rw[F];exact Nat.lt_succ_self _)).trans (r0 4);dsimp at g T c2 S i;have d0:=fun o=>Lib.cell?_alloc_marked (W:=w') o g;have H:=fun o=>Lib.cell?_alloc_marked (W:=w') o T;have d2:=fun o=>Lib.cell?_alloc_marked (W:=w') o c2;have q:=fun o=>Lib.cell?_alloc_marked (W:=w') o S;have a:=fun o=>Lib.cell?_alloc_marked (W:=w') o i)|(at_builtin;refine wpList_append_grows _ rfl _ _ 41 rfl 5 i0 z 1 1 Tryz.underlying41 hi y G d R oD _ 3 3 [.int .u8 77,.int .u8 82,.int .u8 75] rfl (fun h=>by cases h) rfl (by rintro b ⟨⟩ j u hj;exact Lib.cell?_alloc_marked _ (AN _ _ _ _ j u hj)) _ 5 _ [.int .u8 B.fElement.toNat,.int .u8 B.fPart.toNat,.int .u8 B.fRepeat.toNat,.int .u8 32,.int .u8 B.fEnd.toNat] rfl rfl (by intro j u hj;exact Ea _ _ _ _ _ j u hj) (by simp[Value.oneCell']) oD oD oD ?_)|(at_builtin;refine wpList_append_grows _ rfl _ _ 41 rfl 5 i0 z 1 1 Tryz.underlying41 hi y G d R oD _ 3 3 [.int .u8 77,.int .u8 82,.int .u8 75] rfl (fun h=>by cases h) rfl (by rintro b ⟨⟩ j u hj;exact Lib.cell?_alloc_marked _ (AN _ _ _ _ j u hj)) _ 5 _ [.int .u8 B.fElement.toNat,.int .u8 B.fPart.toNat,.int .u8 B.fRepeat.toNat,.int .u8 B.fEscape.toNat,.int .u8 B.fEnd.toNat] rfl rfl (by intro j u hj;exact Ea _ _ _ _ _ j u hj) (by simp[Value.oneCell']) oD oD oD ?_))
  ·intro v' w2 h9 J
   have he:((B.fEscape.toNat:Int)==0)=true:=by assumption
   rw[Wy trivial] at D
   cases D
   have hW:Below w.heap.size w w':=((Below.refl _ w).alloc (Vs _) _).trans (hB.mono (by rw[F];omega))
   have s0:=hW.size
   have l:Below w.heap.size w w2:=((hW.alloc s0 _).alloc (by show _<=(w'.heap.push _).size;rw[W6];omega) _).grown J (by show _<=((w'.heap.push _).push _).size;rw[W6,W6];omega) (by intro k hk;cases hk)
   go_wp2
   go_ret2
   refine⟨_,rfl, ?_,l⟩
   have h5:=TH _ he
   simp only[nH,h5]
   exact Eb (show w.heap.size<=w'.heap.size+1+1 by omega) h9
  ·intro v' w2 h9 J
   have he:((B.fEscape.toNat:Int)==0)=false:=by assumption
   rw[Wy trivial] at D
   cases D
   have hW:Below w.heap.size w w':=((Below.refl _ w).alloc (Vs _) _).trans (hB.mono (by rw[F];omega))
   have s0:=hW.size
   have l:Below w.heap.size w w2:=((hW.alloc s0 _).alloc (by show _<=(w'.heap.push _).size;rw[W6];omega) _).grown J (by show _<=((w'.heap.push _).push _).size;rw[W6,W6];omega) (by intro k hk;cases hk)
   go_wp2
   go_ret2
   refine⟨_,rfl, ?_,l⟩
   have h5:=TI _ he
   simp only[nH,h5]
   exact Eb (show w.heap.size<=w'.heap.size+1+1 by omega) h9
 ·go_enter Tryz.func19,Tryz.ntmps19
  go_wp2_with (go_at_call 46;refine f.mono ?_;rintro e w' ⟨v,rfl,V,hB⟩;simp only[bf] at V;subst V)
  rw[WU h0] at D
  cases D
  go_ret2
  exact⟨_,rfl,⟨rfl,.inl ⟨rfl,rfl⟩⟩,((Below.refl _ w).alloc (Vs _) _).trans (hB.mono (by rw[F];omega))⟩
theorem yI (B:ab):∀ r,kE B=some r->bw Tryz.prog 19 ([.agg (aA B)].map .d) (.tup [.own (.sl 5 (List.replicate 1 .sh)) (.slice (List.map ej r.1)),.d (.int .i64 r.2)]) ([.agg (aA B)].map .d):=by
 intro r D
 refine LY oK (by intro r D;obtain⟨b,_,rfl⟩:=VT.1 D;rfl) (fun w M vs hM hv L=> ?_)
 refine(ES B r D w M vs hM hv L).mono ?_
 rintro ev w' ⟨v,rfl,ho,hB⟩
 refine⟨v,_,rfl,by rw[Wj];exact ho, ?_, ?_,hB⟩
 ·clear ho D
  induction r.1 with
  |nil=>simp[aM]
  |cons b l ih=>simp only[VF,V4,ej,VG,VC,aM,bf];exact⟨_,_,rfl,rfl,ih⟩
 ·intro u hu
  obtain⟨b,_,rfl⟩:=VT.1 hu
  rfl
theorem zE (B:ab):∀ r,kE B=some r->ac Tryz.prog 19 [.agg (aA B)] (.tup [.slice (List.map ej r.1),.int .i64 r.2]):=fun r D=>(yI B r D).pure rfl
end Go.Proofs.YtgmnipfafmphaaaGreatDoor
namespace Go.Proofs
open Go.Proofs.YtgmnipfafmphaaaGreatDoor
open Go.Shelf
def Tryz.lays32_ren:Go.Shelf.Ren:=⟨fun|32=>167|49=>188|n=>n,fun|30=>41|21=>21|3=>3|0=>0|5=>5|4=>4|33=>207|66=>245|25=>218|69=>248|68=>247|n=>n,fun|2=>4|3=>5|n=>n⟩
theorem Tryz.lays32:Go.Proofs.Lays7.n32 Tryz.prog Tryz.lays32_ren:={
 mixed:=oK
 f32:=Tryz.func167.trans (Wf some oK)
 f49:=Tryz.func188.trans (Wf some oK)
 t0:=Tryz.underlying0
 a0:=Tryz.isAgg0
 z0:=Tryz.sizeOf0
 v0:=Tryz.zeroValue0
 i0:=oK
 t3:=Tryz.underlying3
 a3:=Tryz.isAgg3
 z3:=Tryz.sizeOf3
 v3:=Tryz.zeroValue3
 i3:=oK
 t4:=Tryz.underlying4
 a4:=Tryz.isAgg4
 z4:=Tryz.sizeOf4
 v4:=Tryz.zeroValue4
 i4:=oK
 t5:=Tryz.underlying5
 a5:=Tryz.isAgg5
 z5:=Tryz.sizeOf5
 v5:=Tryz.zeroValue5
 i5:=oK
 t21:=Tryz.underlying21
 a21:=Tryz.isAgg21
 z21:=Tryz.sizeOf21
 v21:=Tryz.zeroValue21
 i21:=oK
 t25:=Tryz.underlying218
 a25:=Tryz.isAgg218
 z25:=Tryz.sizeOf218
 v25:=Tryz.zeroValue218
 i25:=oK
 t30:=Tryz.underlying41
 a30:=Tryz.isAgg41
 z30:=Tryz.sizeOf41
 v30:=Tryz.zeroValue41
 i30:=oK
 t33:=Tryz.underlying207
 a33:=Tryz.isAgg207
 z33:=Tryz.sizeOf207
 v33:=Tryz.zeroValue207
 i33:=oK
 t66:=Tryz.underlying245
 a66:=Tryz.isAgg245
 z66:=Tryz.sizeOf245
 t68:=Tryz.underlying247
 a68:=Tryz.isAgg247
 z68:=Tryz.sizeOf247
 v68:=Tryz.zeroValue247
 i68:=oK
 t69:=Tryz.underlying248
 a69:=Tryz.isAgg248
 z69:=Tryz.sizeOf248
 v69:=Tryz.zeroValue248
 i69:=oK
 g2:=oK
 g3:=by kernel_rfl}
end Go.Proofs
namespace Go.Proofs.YtgmnipfafmphaaaGreatDoor
set_option maxRecDepth 1000000
set_option maxHeartbeats 8000000
set_option linter.unusedSimpArgs false
set_option linter.unusedVariables false
open Go.RowKit Go.Shelf Go.Lib
variable {b off:Nat} {s:ByteArray} {w:World}
def Mo (s:ByteArray) (b off:Nat) (w:World):Prop:=∀ j,j<s.size->w.cell? ⟨b,off+j,none⟩=some (.int .u8 (s.get! j).toNat)
theorem Mo.below {w':World} (h:Mo s b off w) (hb:Below w.heap.size w w'):Mo s b off w':=
 fun j hj=>by rw[hb.cell (block_lt_of_cell (h j hj))];exact h j hj
theorem Mo.tail (h:Mo s b off w) (n:Nat):Mo (s.extract n s.size) b (off+n) w:=
 fun j hj=>by
  rw[Lib.tail_size] at hj
  rw[Lib.tail_get!,Xc]
  exact h (n+j) oM
theorem Oh (s:ByteArray) (pos:Nat) (h:pos<s.size):Lib.decodeGo (s.extract pos s.size)=Utf8.decode s pos:=by
 unfold Lib.decodeGo
 rw[WU (by rw[Lib.tail_size];omega),Lib.tail_decode,WO]
theorem AM (n:Int) (w:World):Calls Tryz.prog 164 #[.int .i64 n] w fun e w'=>e= .returned (.bool (decide (8<n)))/\w'=w:=by
 have t3:=Tryz.underlying3;have a3:=Tryz.isAgg3;have z3:=Tryz.sizeOf3;have v3:=Tryz.zeroValue3
 have t4:=Tryz.underlying4;have a4:=Tryz.isAgg4;have z4:=Tryz.sizeOf4;have v4:=Tryz.zeroValue4
 go_enter Tryz.func164,Tryz.ntmps164
 go_wp2
 go_ret
 exact⟨rfl,rfl⟩
theorem Oi:∀ w,(zeroValue 220).run Tryz.prog w= .ok (.agg (Array.replicate 256 (.bool false))) w:=(zero_of_info (P:=Tryz.prog) (t:=220) (n:=256) oK).1
theorem Iz:(Tryz.prog.info? 220).map (·.size)=some 256:=oK
theorem Qc (c:ByteArray) (w:World) (hs:c.size<4294967281) (d:∀ (j:Nat) b,c.data.toList[j]?=some b->b.toNat<128):
  Calls Tryz.prog 165 #[.string c] w fun e w'=>e= .returned (.tuple #[.agg (Lib.setCells c.data.toList),.bool true])/\w'=w.alloc (.cells (Lib.setCells c.data.toList) 220):=by
 have D:Aside (∀ (j:Nat) b,c.data.toList[j]?=some b->b.toNat<128):=d
 clear d
 have h:=Oi
 have a:=Iz
 have t3:=Tryz.underlying3;have a3:=Tryz.isAgg3;have z3:=Tryz.sizeOf3;have v3:=Tryz.zeroValue3
 have t4:=Tryz.underlying4;have a4:=Tryz.isAgg4;have z4:=Tryz.sizeOf4;have v4:=Tryz.zeroValue4
 have t5:=Tryz.underlying5;have a5:=Tryz.isAgg5;have z5:=Tryz.sizeOf5;have v5:=Tryz.zeroValue5
 have t9:=Tryz.underlying9;have a9:=Tryz.isAgg9;have z9:=Tryz.sizeOf9;have v9:=Tryz.zeroValue9
 have t116:=Tryz.underlying220
 go_enter Tryz.func165,Tryz.ntmps165
 go_wp2
 rw[<-Lib.setCells_nil]
 go_loopg [4] c.size (fun g s4 I=>∃ i:Nat,i+g=c.size/\s4= .int .i64 i/\I=w.alloc (.cells (Lib.setCells (c.data.toList.take i)) 220))
 case atStart=>exact⟨0,by omega,rfl,rfl⟩
 case round=>
  obtain⟨i,M,rfl,rfl⟩:=hrel
  cases gk with
  |zero=>
   obtain rfl:i=c.size:=by omega
   have l:¬ ((c.size:Int)<(c.size:Int)):=by omega
   rw[show c.data.toList.take c.size=c.data.toList from VO (by rw[<-Lib.size_eq];exact Vs _)]
   have k:=run_loadVar_new (P:=Tryz.prog) w 220 (Lib.setCells c.data.toList) 256 4 t116 (by rw[Lib.setCells_size];exact a)
   have F:=Lib.setCells_size c.data.toList
   have q:=run_loadCellsFrom_new (P:=Tryz.prog) w 220 (Lib.setCells c.data.toList) 256 F
   have o:=run_storeCells_new (P:=Tryz.prog) w 220 (Lib.setCells c.data.toList) (Lib.setCells c.data.toList) (by rw[F];exact a) rfl (Lib.setCells_one _)
   go_wp2
   simp[go_sem, -Tryz.isAgg220, -Tryz.sizeOf220]
   simp only[Tryz.isAgg220,Tryz.sizeOf220,Result.andThen,↓reduceIte,q]
   rw[Oper.upon_value]
   go_wp2
   (try simp only[Exit.inBlock,Exit.then])
   refine bodyPost_ret (v:= .tuple #[.agg (Lib.setCells c.data.toList),.bool true]) ?_ rfl ⟨rfl,rfl⟩
   rw[results_cell_tmp rfl]
   simp[asAddr,Result.andThen,k]
  |succ g=>
   have hi:i<c.size:=by omega
   have l:(i:Int)<(c.size:Int):=by omega
   obtain⟨x,hx⟩:∃ x:UInt8,c[i]'hi=x:=⟨_,rfl⟩
   have r6:c.data.toList[i]?=some x:=by rw[<-hx];exact Lib.data_getElem? c i hi
   have p:¬ ((128:Int)<=(x.toNat:Int)):=by have:=D.out i x r6;omega
   have f:(x.toNat:Int)<256:=by have:=D.out i x r6;omega
   have r0:=Lib.setCells_at (c.data.toList.take i) x
   have T:Aside (c.data.toList[i]?=some x):=r6
   clear r6
   go_wp2
   go_roundg g
   case measure=>omega
   case rel=>exact⟨i+1,by omega,by first|rfl|simp,by rw[Xz,T.out];simp only[Option.toList];rw[Lib.setCells_snoc]⟩
theorem Oj (b:Nat) (x:UInt8) (v:Bool) (w:World) (hc:w.cell? ⟨b,x.toNat,none⟩=some (.bool v)):
  Calls Tryz.prog 166 #[.pointer (some ⟨b,0,none⟩),.int .u8 x.toNat] w fun e w'=>e= .returned (.bool v)/\w'=w:=by
 have f:(x.toNat:Int)<256:=by have:=UInt8.toNat_lt x;omega
 have t4:=Tryz.underlying4;have a4:=Tryz.isAgg4;have z4:=Tryz.sizeOf4;have v4:=Tryz.zeroValue4
 have t5:=Tryz.underlying5;have a5:=Tryz.isAgg5;have z5:=Tryz.sizeOf5;have v5:=Tryz.zeroValue5
 have t116:=Tryz.underlying220
 go_enter Tryz.func166,Tryz.ntmps166
 go_wp2
 go_ret
 exact⟨rfl,rfl⟩
theorem Qd (s:ByteArray) (b off N:Nat) (c:ByteArray) (w:World) (z:s.size<=N) (hB:Mo s b off w) (h2:2<=c.size) (h8:8<s.size) (hs:s.size<4294967281) (r3:c.size<4294967281) (d:∀ (j:Nat) b,c.data.toList[j]?=some b->b.toNat<128):
  Calls Tryz.prog 138 #[.slice (some ⟨b,off,none⟩) s.size N,.string c] w fun e w'=>e= .returned (.int .i64 (Lib.indexAny s.data.toList c.data.toList))/\Below w.heap.size w w':=by
 have hM:=Qc c w r3 d
 clear d
 have q:c.toList.isEmpty=false:=by
  rw[Lib.toList_data]
  cases h:c.data.toList with
  |nil=>have:=Lib.size_eq c;rw[h,Vp] at this;omega
  |cons _ _=>rfl
 have C:((s.size:Int)==1)=false:=beq_eq_false_iff_ne.2 oM
 have J:((c.size:Int)==1)=false:=beq_eq_false_iff_ne.2 oM
 have L:decide ((8:Int)<(s.size:Int))=true:=VX oM
 have a:=Iz
 have o:(storeCells ⟨w.heap.size+1,0,none⟩ (Lib.setCells c.data.toList).toList 0).run Tryz.prog ((w.alloc (.cells (Lib.setCells c.data.toList) 220)).alloc (.cells Tryz.zeroCells220 220))= .ok () ((w.alloc (.cells (Lib.setCells c.data.toList) 220)).alloc (.cells (Lib.setCells c.data.toList) 220)):=by
  have:=run_storeCells_new (P:=Tryz.prog) (w.alloc (.cells (Lib.setCells c.data.toList) 220)) 220 Tryz.zeroCells220 (Lib.setCells c.data.toList) (by rw[Lib.setCells_size];exact a) (by rw[Lib.setCells_size];kernel_rfl) (Lib.setCells_one _)
  simpa using this
 have F:=Lib.setCells_size c.data.toList
 have f:∀ x:UInt8,((w.alloc (.cells (Lib.setCells c.data.toList) 220)).alloc (.cells (Lib.setCells c.data.toList) 220)).cell? ⟨w.heap.size+1,x.toNat,none⟩=some (.bool (c.data.toList.contains x)):=fun x=>by
  rw[World.cell?_alloc_at _ _ _ _ oS,Lib.setCells_at]
 have p:Aside (∀ x:UInt8,((w.alloc (.cells (Lib.setCells c.data.toList) 220)).alloc (.cells (Lib.setCells c.data.toList) 220)).cell? ⟨w.heap.size+1,x.toNat,none⟩=some (.bool (c.data.toList.contains x))):=f
 clear f
 have k:Below w.heap.size w ((w.alloc (.cells (Lib.setCells c.data.toList) 220)).alloc (.cells (Lib.setCells c.data.toList) 220)):=((Below.refl _ _).alloc (Vs _) _).alloc oS _
 have HB:Aside (Mo s b off ((w.alloc (.cells (Lib.setCells c.data.toList) 220)).alloc (.cells (Lib.setCells c.data.toList) 220))):=hB.below k
 clear hB
 have t3:=Tryz.underlying3;have a3:=Tryz.isAgg3;have z3:=Tryz.sizeOf3;have v3:=Tryz.zeroValue3
 have t4:=Tryz.underlying4;have a4:=Tryz.isAgg4;have z4:=Tryz.sizeOf4;have v4:=Tryz.zeroValue4
 have t5:=Tryz.underlying5;have a5:=Tryz.isAgg5;have z5:=Tryz.sizeOf5;have v5:=Tryz.zeroValue5
 have t9:=Tryz.underlying9;have a9:=Tryz.isAgg9;have z9:=Tryz.sizeOf9;have v9:=Tryz.zeroValue9
 have t21:=Tryz.underlying21;have a21:=Tryz.isAgg21;have z21:=Tryz.sizeOf21;have v21:=Tryz.zeroValue21
 have t22:=Tryz.underlying41;have a22:=Tryz.isAgg41;have z22:=Tryz.sizeOf41;have v22:=Tryz.zeroValue41
 have t116:=Tryz.underlying220
 have e1:∀ args w,(callFunc 164 args).run Tryz.prog w= .ok (.enter 164 args) w:=enters_of Tryz.func164 oK rfl
 have e2:∀ args w,(callFunc 165 args).run Tryz.prog w= .ok (.enter 165 args) w:=enters_of Tryz.func165 oK rfl
 have e3:∀ args w,(callFunc 166 args).run Tryz.prog w= .ok (.enter 166 args) w:=enters_of Tryz.func166 oK rfl
 go_enter Tryz.func138,Tryz.ntmps138
 go_wp2_with (first
  |(go_at_fn 164;refine(AM _ _).mono ?_;rintro e w' ⟨rfl,G⟩;rw[G,L])
  |(go_at_fn 165;refine hM.mono ?_;rintro e w' ⟨rfl,G⟩;rw[G]))
 clear hM o
 go_loopg [62] s.size (fun g s8 I=>∃ i:Nat,i+g=s.size/\s8= .int .i64 i/\I=((w.alloc (.cells (Lib.setCells c.data.toList) 220)).alloc (.cells (Lib.setCells c.data.toList) 220))/\Lib.NoAny s.data.toList c.data.toList i)
 case atStart=>exact⟨0,by omega,rfl,rfl,Lib.NoAny.zero _ _⟩
 case round=>
  obtain⟨i,M,rfl,rfl,r2⟩:=hrel
  have B:Aside (Lib.NoAny s.data.toList c.data.toList i):=r2
  clear r2
  cases gk with
  |zero=>
   obtain rfl:i=s.size:=by omega
   have l:¬ ((s.size:Int)<(s.size:Int)):=by omega
   go_wp2
   go_ret
   exact⟨by rw[Lib.indexAny_none (by rw[<-Lib.size_eq];exact B.out)];rfl,k⟩
  |succ g=>
   have hi:i<s.size:=by omega
   have l:(i:Int)<(s.size:Int):=by omega
   obtain⟨x,hx⟩:∃ x:UInt8,s[i]'hi=x:=⟨_,rfl⟩
   have r6:s.data.toList[i]?=some x:=by rw[<-hx];exact Lib.data_getElem? s i hi
   have r0:=HB.out i hi
   rw[show s.get! i=x by rw[<-hx];exact get_at s i hi] at r0
   have T:Aside (s.data.toList[i]?=some x):=r6
   clear r6 hx
   have m:=p.out x
   cases n:c.data.toList.contains x<;>rw[n] at m
   ·go_wp2_with (go_at_fn 166;refine(Oj _ x _ _ m).mono ?_;rintro e w' ⟨rfl,G⟩;rw[G])
    go_roundg g
    case measure=>omega
    case rel=>exact⟨i+1,by omega,by first|rfl|simp,rfl,B.out.succ T.out n⟩
   ·go_wp2_with (go_at_fn 166;refine(Oj _ x _ _ m).mono ?_;rintro e w' ⟨rfl,G⟩;rw[G])
    go_ret
    exact⟨by rw[Lib.indexAny_hit B.out T.out n];rfl,k⟩
end Go.Proofs.YtgmnipfafmphaaaGreatDoor
namespace Go.Proofs.YtgmnipfafmphaaaGreatDoor
set_option linter.unusedSimpArgs false
set_option linter.unusedVariables false
open Go.RowKit Go.Shelf Go.Lib
theorem UP (c:Nat) (h1:128<=c) (h2:c<2048):(Utf8.encode (c:Int)).size=2/\128<=((Utf8.encode (c:Int)).get! 0).toNat:=by
 have hv:Utf8.valid (c:Int)=true:=by unfold Utf8.valid;simp;omega
 unfold Utf8.encode
 simp only[hv,VW,Ww]
 rw[WU oM,Wy oM]
 refine⟨rfl, ?_⟩
 show 128<=(UInt8.ofNat (0xC0+c/64)).toNat
 rw[WP (by show 0xC0+c/64<256;omega)]
 omega
theorem UQ (c:Nat) (h1:2048<=c) (h2:c<65536) (hv:Utf8.valid (c:Int)=true):(Utf8.encode (c:Int)).size=3/\128<=((Utf8.encode (c:Int)).get! 0).toNat:=by
 unfold Utf8.encode
 simp only[hv,VW,Ww]
 rw[WU oM,WU oM,Wy oM]
 refine⟨rfl, ?_⟩
 show 128<=(UInt8.ofNat (0xE0+c/4096)).toNat
 rw[WP (by show 0xE0+c/4096<256;omega)]
 omega
theorem UR (c:Nat) (h1:65536<=c) (hv:Utf8.valid (c:Int)=true):(Utf8.encode (c:Int)).size=4/\128<=((Utf8.encode (c:Int)).get! 0).toNat:=by
 have h2:c<=1114111:=by unfold Utf8.valid at hv;simp at hv;omega
 unfold Utf8.encode
 simp only[hv,VW,Ww]
 rw[WU oM,WU oM,WU oM]
 refine⟨rfl, ?_⟩
 show 128<=(UInt8.ofNat (0xF0+c/262144)).toNat
 rw[WP (by show 0xF0+c/262144<256;omega)]
 omega
structure Qe (s:ByteArray) (i r k:Nat):Prop where
 rune:128<=r
 pos:1<=k
 all:∀ j,j<k->i+j<s.size/\128<=(s.get! (i+j)).toNat
 enc:r≠65533->2<=k/\(Utf8.encode (r:Int)).size=k/\128<=((Utf8.encode (r:Int)).get! 0).toNat
theorem Ok (s:ByteArray) (i:Nat) (hi:i<s.size) (h:128<=(s.get! i).toNat):Qe s i (Utf8.decode s i).1 (Utf8.decode s i).2:=by
 have h0:128<=(s.get! (i+0)).toNat:=h
 have hb:=(s.get! (i+0)).toNat_lt
 have bad:Qe s i 65533 1:=⟨by omega,by omega,fun j hj=>(by obtain rfl:j=0:=oM;exact⟨hi,h0⟩),fun h=>absurd rfl h⟩
 unfold Utf8.decode
 simp only[Utf8.runeError]
 obtain⟨F,v2⟩:∃ F,(s.get! (i+0)).toNat=F:=⟨_,rfl⟩
 rw[v2] at h0 hb
 simp only[v2]
 rw[WU oM]
 have a:∀ k,(decide (i+k<s.size)&&(s.get! (i+k)).toNat/64==2)=true->i+k<s.size/\128<=(s.get! (i+k)).toNat:=fun k hk=>by
  simp only[Vj,Vv,Vz] at hk
  exact⟨hk.1,by omega⟩
 split
 ·rename_i h1
  simp only[Vj] at h1
  have T:=a 1 (by simp only[Vj];exact h1.2)
  have D:=h1.1
  simp only[Vz] at D
  split
  ·rename_i hc
   obtain⟨e1,e2⟩:=UP _ hc oM
   exact⟨by omega,by simp,fun j hj=>by
    rcases(show j=0\/j=1 by simp only at hj;omega) with rfl|rfl
    ·exact⟨hi,by rw[v2];exact h0⟩
    ·exact T,fun _=>⟨by simp,e1,e2⟩⟩
  ·exact bad
 ·split
  ·rename_i h1
   simp only[Vj] at h1
   have T:=a 1 (by simp only[Vj];exact h1.1.2)
   have c2:=a 2 (by simp only[Vj];exact h1.2)
   have D:=h1.1.1
   simp only[Vz] at D
   split
   ·rename_i hc
    simp only[Vj,Vv] at hc
    obtain⟨e1,e2⟩:=UQ _ hc.1 oM hc.2
    exact⟨by simp only;omega,by simp,fun j hj=>by
     rcases(show j=0\/j=1\/j=2 by simp only at hj;omega) with rfl|rfl|rfl
     ·exact⟨hi,by rw[v2];exact h0⟩
     ·exact T
     ·exact c2,fun _=>⟨by simp,e1,e2⟩⟩
   ·exact bad
  ·split
   ·rename_i h1
    simp only[Vj] at h1
    have T:=a 1 (by simp only[Vj];exact h1.1.1.2)
    have c2:=a 2 (by simp only[Vj];exact h1.1.2)
    have S:=a 3 (by simp only[Vj];exact h1.2)
    split
    ·rename_i hc
     simp only[Vj,Vv] at hc
     obtain⟨e1,e2⟩:=UR _ hc.1 hc.2
     exact⟨by simp only;omega,by simp,fun j hj=>by
      rcases(show j=0\/j=1\/j=2\/j=3 by simp only at hj;omega) with rfl|rfl|rfl|rfl
      ·exact⟨hi,by rw[v2];exact h0⟩
      ·exact T
      ·exact c2
      ·exact S,fun _=>⟨by simp,e1,e2⟩⟩
    ·exact bad
   ·exact bad
end Go.Proofs.YtgmnipfafmphaaaGreatDoor
namespace Go.Proofs.YtgmnipfafmphaaaGreatDoor
set_option linter.unusedSimpArgs false
set_option linter.unusedVariables false
open Go.RowKit Go.Shelf Go.Lib
theorem KO {c:ByteArray} (d:∀ (j:Nat) b,c.data.toList[j]?=some b->b.toNat<128) {x:UInt8} (hx:128<=x.toNat):c.data.toList.contains x=false:=by
 cases h:c.data.toList.contains x with
 |false=>rfl
 |true=>
  obtain⟨j,hj,he⟩:=WS.1 (List.contains_iff_mem.1 h)
  have:=d j x (by rw[Vu hj,he])
  omega
set_option maxHeartbeats 8000000 in
set_option maxRecDepth 1000000 in
theorem Su (s:ByteArray) (b off N:Nat) (c:ByteArray) (w:World) (z:s.size<=N) (hB:Mo s b off w) (h2:2<=c.size) (h8:s.size=1) (d:∀ (j:Nat) b,c.data.toList[j]?=some b->b.toNat<128):
  Calls Tryz.prog 138 #[.slice (some ⟨b,off,none⟩) s.size N,.string c] w fun e w'=>e= .returned (.int .i64 (Lib.indexAny s.data.toList c.data.toList))/\Below w.heap.size w w':=by
 have D:Aside (∀ (j:Nat) b,c.data.toList[j]?=some b->b.toNat<128):=d
 have q:c.toList.isEmpty=false:=by
  rw[Lib.toList_data]
  cases h:c.data.toList with
  |nil=>have:=Lib.size_eq c;rw[h,Vp] at this;omega
  |cons _ _=>rfl
 have C:((s.size:Int)==1)=true:=beq_iff_eq.2 oM
 have H:(0:Int)<(s.size:Int):=by omega
 obtain⟨x,hx⟩:∃ x:UInt8,s[0]' oM=x:=⟨_,rfl⟩
 have r6:s.data.toList[0]?=some x:=by rw[<-hx];exact Lib.data_getElem? s 0 oM
 have r0:=hB 0 oM
 rw[show s.get! 0=x by rw[<-hx];exact get_at s 0 oM,WO] at r0
 have hl:s.data.toList=[x]:=by
  have hn:s.data.toList.length=1:=by rw[<-Lib.size_eq];exact h8
  cases h:s.data.toList with
  |nil=>rw[h] at hn;simp at hn
  |cons a t=>
   rw[h] at hn r6
   simp at hn r6
   rw[hn,r6]
 rw[hl]
 have E:((x.toNat:Int)).toNat.toUInt8=x:=by simp
 have f:=Lib.contains_iff_indexByte c.data.toList x
 have F:= @KO c d x
 have B:Aside (128<=x.toNat->Lib.indexAny [x] c.data.toList= -1):=fun h=>Lib.indexAny_none (fun j b hj hb=>by
  obtain rfl:j=0:=by simpa using hj
  simp only[VZ,Vi] at hb
  rw[<-hb];exact F h)
 have k:Aside (c.data.toList.contains x=false->Lib.indexAny [x] c.data.toList= -1):=fun h=>Lib.indexAny_none (fun j b hj hb=>by
  obtain rfl:j=0:=by simpa using hj
  simp only[VZ,Vi] at hb
  rw[<-hb];exact h)
 have HT:Aside (c.data.toList.contains x=true->Lib.indexAny [x] c.data.toList=0):=fun h=>Lib.indexAny_hit (Lib.NoAny.zero _ _) (VZ ..) h
 clear d hB hl r6 F hx
 have t3:=Tryz.underlying3;have a3:=Tryz.isAgg3;have z3:=Tryz.sizeOf3;have v3:=Tryz.zeroValue3
 have t4:=Tryz.underlying4;have a4:=Tryz.isAgg4;have z4:=Tryz.sizeOf4;have v4:=Tryz.zeroValue4
 have t5:=Tryz.underlying5;have a5:=Tryz.isAgg5;have z5:=Tryz.sizeOf5;have v5:=Tryz.zeroValue5
 have t9:=Tryz.underlying9;have a9:=Tryz.isAgg9;have z9:=Tryz.sizeOf9;have v9:=Tryz.zeroValue9
 have t21:=Tryz.underlying21;have a21:=Tryz.isAgg21;have z21:=Tryz.sizeOf21;have v21:=Tryz.zeroValue21
 have t22:=Tryz.underlying41;have a22:=Tryz.isAgg41;have z22:=Tryz.sizeOf41;have v22:=Tryz.zeroValue41
 have r3:wrap32 (x.toNat:Int)=(x.toNat:Int):=by have:=UInt8.toNat_lt x;unfold wrap32;omega
 by_cases p:128<=x.toNat
 ·have V:(128:Int)<=(x.toNat:Int):=by omega
  clear f
  go_enter Tryz.func138,Tryz.ntmps138
  go_wp2
  go_loopg [5] c.size (fun g s5 I=>∃ i:Nat,i+g=c.size/\(∃ r,s5= .int .i32 r)/\I=w.iter c i)
  case atStart=>exact⟨0,by omega,⟨_,rfl⟩,rfl⟩
  case round=>
   obtain⟨i,M,⟨r,rfl⟩,rfl⟩:=hrel
   cases gk with
   |zero=>
    obtain rfl:i=c.size:=by omega
    have u:=run_next_end (P:=Tryz.prog) w c c.size
    go_wp2
    go_ret
    exact⟨by rw[B.out p];rfl,(Below.refl _ _).alloc (Vs _) _⟩
   |succ g=>
    have hi:i<c.size:=by omega
    obtain⟨y,hy⟩:∃ y:UInt8,c[i]'hi=y:=⟨_,rfl⟩
    have o:c.data.toList[i]?=some y:=by rw[<-hy];exact Lib.data_getElem? c i hi
    have l:y.toNat<128:=D.out i y o
    have u:=fun ty=>run_next_ascii (P:=Tryz.prog) w c i ty hi (by rw[hy];exact l)
    rw[hy] at u
    clear o hy
    have U:((y.toNat:Int)==65533)=false:=beq_eq_false_iff_ne.2 oM
    go_wp2
    go_roundg g
    case measure=>omega
    case rel=>exact⟨i+1,by omega,⟨_,rfl⟩,rfl⟩
 ·have V:¬ ((128:Int)<=(x.toNat:Int)):=by omega
  cases n:c.data.toList.contains x<;>rw[n] at f
  ·have h9:¬ ((0:Int)<=Lib.indexByte c.data.toList x):=of_decide_eq_false f.symm
   clear f
   go_enter Tryz.func138,Tryz.ntmps138
   go_wp2
   rw[run_callFunc_extern Tryz.func161 oK oK oK (e:=Extern.BytealgIndexByte.indexByte) oK,Lib.run_indexByteString,E]
   simp only[Result.andThen]
   rw[Oper.upon_value]
   go_wp2
   go_ret
   exact⟨by rw[k.out n];rfl,Below.refl _ _⟩
  ·have v0:(0:Int)<=Lib.indexByte c.data.toList x:=Xy f.symm
   clear f
   go_enter Tryz.func138,Tryz.ntmps138
   go_wp2
   rw[run_callFunc_extern Tryz.func161 oK oK oK (e:=Extern.BytealgIndexByte.indexByte) oK,Lib.run_indexByteString,E]
   simp only[Result.andThen]
   rw[Oper.upon_value]
   go_wp2
   go_ret
   exact⟨by rw[HT.out n];rfl,Below.refl _ _⟩
end Go.Proofs.YtgmnipfafmphaaaGreatDoor
namespace Go.Proofs.YtgmnipfafmphaaaGreatDoor
set_option linter.unusedSimpArgs false
set_option linter.unusedVariables false
open Go.RowKit Go.Shelf Go.Lib
variable {c e:ByteArray} {i k:Nat} {s:ByteArray}
theorem zD (d:∀ (j:Nat) b,c.data.toList[j]?=some b->b.toNat<128) (h:NoAny s.data.toList c.data.toList i) (hk:∀ j,j<k->i+j<s.size/\128<=(s.get! (i+j)).toNat):NoAny s.data.toList c.data.toList (i+k):=fun j b hj hb=>by
 by_cases f:j<i
 ·exact h j b f hb
 ·obtain⟨h1,h2⟩:=hk (j - i) oM
  rw[show i+(j - i)=j by omega] at h1 h2
  have E:=Lib.data_getElem? s j h1
  rw[E] at hb
  cases hb
  have h4:=get_at s j h1
  rw[WO] at h4
  rw[h4] at h2
  exact KO d h2
theorem Sv (d:∀ (j:Nat) b,c.data.toList[j]?=some b->b.toNat<128) (hs:1<=e.size) (h:128<=(e.get! 0).toNat):c≠e:=fun he=>by
 subst he
 have h4:=get_at c 0 oM
 rw[WO] at h4
 rw[h4] at h
 have:=d 0 _ (Lib.data_getElem? c 0 oM)
 omega
theorem Qf (h:c≠e):(c.toList==e.toList)=false:=by
 cases hb:c.toList==e.toList with
 |false=>rfl
 |true=>
  have h2:=beq_iff_eq.1 hb
  rw[Lib.toList_data,Lib.toList_data] at h2
  exact absurd (ByteArray.ext (Array.ext' h2)) h
theorem Qg (d:∀ (j:Nat) b,c.data.toList[j]?=some b->b.toNat<128) {r:Nat} (H:Qe s i r k) (D:r≠65533):(c.toList==(Utf8.encode (r:Int)).toList)=false:=
 Qf (Sv d (by obtain⟨q1,q2,_⟩:=H.enc D;omega) (H.enc D).2.2)
theorem Sw:Tryz.prog.globals.findIdx? (·.name== "internal/bytealg.MaxLen")=some 0:=oK
theorem Qh (c e:ByteArray) (w:World) (m:Int) (Z:w.cell? ⟨0,0,none⟩=some (.int .i64 m)) (h2:2<=e.size) (hb:(e.size:Int)<=m) (hc:c.size<=e.size) (U:(e.toList==c.toList)=false) (hs:c.size<4294967281):
  (callFunc 168 #[.string c,.string e]).run Tryz.prog w= .ok (.value (.int .i64 (-1))) w:=by
 rw[run_callFunc_extern Tryz.func168 oK oK oK (e:=Extern.BytealgIndex.index) oK,Lib.run_indexString c e w 0 m Sw Z h2 hb hs,show Lib.index c.data.toList e.data.toList= -1 from Lib.long c e hc U]
 rfl
set_option maxHeartbeats 2000000 in
set_option maxRecDepth 1000000 in
theorem Ol (s:ByteArray) (b off N:Nat) (c:ByteArray) (w:World) (m:Int) (z:s.size<=N) (hB:Mo s b off w) (h2:c.size=2) (h8:s.size<=8) (h1:s.size≠1) (hT:Lib.Utf8Tabs 4 5 w) (Z:w.cell? ⟨0,0,none⟩=some (.int .i64 m)) (d:∀ (j:Nat) b,c.data.toList[j]?=some b->b.toNat<128):
  Calls Tryz.prog 138 #[.slice (some ⟨b,off,none⟩) s.size N,.string c] w fun e w'=>e= .returned (.int .i64 (Lib.indexAny s.data.toList c.data.toList))/\Below w.heap.size w w':=by
 have D:Aside (∀ (j:Nat) b,c.data.toList[j]?=some b->b.toNat<128):=d
 clear d
 have q:c.toList.isEmpty=false:=by
  rw[Lib.toList_data]
  cases h:c.data.toList with
  |nil=>have:=Lib.size_eq c;rw[h,Vp] at this;omega
  |cons _ _=>rfl
 have C:((s.size:Int)==1)=false:=beq_eq_false_iff_ne.2 oM
 have J:((c.size:Int)==1)=false:=beq_eq_false_iff_ne.2 oM
 have L:decide ((8:Int)<(s.size:Int))=false:=VY oM
 have HT:Aside (Lib.Utf8Tabs 4 5 w):=hT
 have HB:Aside (Mo s b off w):=hB
 have HM:Aside (w.cell? ⟨0,0,none⟩=some (.int .i64 m)):=Z
 clear hT hB Z
 have t3:=Tryz.underlying3;have a3:=Tryz.isAgg3;have z3:=Tryz.sizeOf3;have v3:=Tryz.zeroValue3
 have t4:=Tryz.underlying4;have a4:=Tryz.isAgg4;have z4:=Tryz.sizeOf4;have v4:=Tryz.zeroValue4
 have t5:=Tryz.underlying5;have a5:=Tryz.isAgg5;have z5:=Tryz.sizeOf5;have v5:=Tryz.zeroValue5
 have t9:=Tryz.underlying9;have a9:=Tryz.isAgg9;have z9:=Tryz.sizeOf9;have v9:=Tryz.zeroValue9
 have t21:=Tryz.underlying21;have a21:=Tryz.isAgg21;have z21:=Tryz.sizeOf21;have v21:=Tryz.zeroValue21
 have t22:=Tryz.underlying41;have a22:=Tryz.isAgg41;have z22:=Tryz.sizeOf41;have v22:=Tryz.zeroValue41
 have e1:∀ args w,(callFunc 164 args).run Tryz.prog w= .ok (.enter 164 args) w:=enters_of Tryz.func164 oK rfl
 have e2:∀ args w,(callFunc 167 args).run Tryz.prog w= .ok (.enter 167 args) w:=enters_of Tryz.func167 oK rfl
 go_enter Tryz.func138,Tryz.ntmps138
 go_wp2_with (go_at_fn 164;refine(AM _ _).mono ?_;rintro e w' ⟨rfl,G⟩;rw[G,L])
 go_loopg [11,12] s.size (fun gf Y h0 I=>∃ pos:Nat,h0= .int .i64 pos/\(∃ k:Int,Y= .int .i64 k)/\pos<=s.size/\Below w.heap.size w I/\Lib.NoAny s.data.toList c.data.toList pos/\s.size<=pos+gf)
 case atStart=>exact⟨0,rfl,⟨0,rfl⟩,V0 _,Below.refl _ _,Lib.NoAny.zero _ _,by omega⟩
 case round=>
  obtain⟨pos,rfl,⟨k0,rfl⟩,X,r1,r2,S⟩:=hrel
  have B:Aside (Lib.NoAny s.data.toList c.data.toList pos):=r2
  clear r2
  by_cases A:pos<s.size
  ·obtain⟨r,rfl⟩:∃ r,gk=r+1:=⟨gk - 1,by omega⟩
   have r4:(pos:Int)<(s.size:Int):=by omega
   obtain⟨x,hx⟩:∃ x:UInt8,s[pos]'A=x:=⟨_,rfl⟩
   have r6:s.data.toList[pos]?=some x:=by rw[<-hx];exact Lib.data_getElem? s pos A
   have T:Aside (s.data.toList[pos]?=some x):=r6
   have r0:=HB.out.below r1 pos A
   have O:s.get! pos=x:=by rw[<-hx];exact get_at s pos A
   rw[O] at r0
   have E:((x.toNat:Int)).toNat.toUInt8=x:=by simp
   have r3:wrap32 (x.toNat:Int)=(x.toNat:Int):=by have:=UInt8.toNat_lt x;unfold wrap32;omega
   by_cases p:128<=x.toNat
   ·have V:(128:Int)<=(x.toNat:Int):=by omega
    have h4:¬ ((x.toNat:Int)<128):=by omega
    have H:=Ok s pos A (by rw[O];exact p)
    have cD:=Any7.utf8_DecodeRune {Tryz.lays32 with} (s.extract pos s.size) b (off+pos) (N - pos) wr (Utf8Tabs_below HT.out r1) ((HB.out.below r1).tail pos)
    rw[Lib.tail_size,Oh s pos A] at cD
    have h5:=Lib.rune_le s pos
    obtain⟨R,t⟩:∃ R,(Utf8.decode s pos).1=R:=⟨_,rfl⟩
    obtain⟨K,hK⟩:∃ K,(Utf8.decode s pos).2=K:=⟨_,rfl⟩
    rw[t,hK] at cD H
    rw[t] at h5
    have Q:pos+K<=s.size:=by have:=(H.all (K - 1) (by have:=H.pos;omega)).1;have:=H.pos;omega
    have F:Aside (Qe s pos R K):=H
    have r5:=H.rune
    have w4:=H.pos
    clear hx r6 O t hK H
    have h6:∀ W,Below wr.heap.size wr W->W.cell? ⟨0,0,none⟩=some (.int .i64 m):=fun W r7=>((r1.trans (r7.mono r1.size)).cell (block_lt_of_cell HM.out)).trans HM.out
    have HX:Aside (∀ W,Below wr.heap.size wr W->W.cell? ⟨0,0,none⟩=some (.int .i64 m)):=h6
    clear h6
    by_cases t:R=65533
    ·subst t
     go_wp2_with (go_at_fn 167;go_fit cD;rintro e W ⟨rfl,r7⟩)
     have a:Below w.heap.size w W:=r1.trans (r7.mono r1.size)
     go_loopg [15] 2 (fun g h3 I=>∃ i:Nat,i+g=2/\I=W.iter c i/\(∃ v,h3=v))
     case atStart=>exact⟨0,by omega,rfl,_,rfl⟩
     case round=>
      obtain⟨i,M,rfl,v,rfl⟩:=hrel
      cases gk with
      |zero=>
       obtain rfl:i=2:=by omega
       have u:=fun ty=>run_next_end (P:=Tryz.prog) W c 2 ty oM
       go_wp2
       go_roundg r
       case measure=>omega
       case rel=>exact⟨pos+K,by go_num,⟨_,rfl⟩,Q,a.alloc a.size _,zD D.out B.out F.out.all,by omega⟩
      |succ g=>
       have hi:i<c.size:=by omega
       obtain⟨y,hy⟩:∃ y:UInt8,c[i]'hi=y:=⟨_,rfl⟩
       have o:c.data.toList[i]?=some y:=by rw[<-hy];exact Lib.data_getElem? c i hi
       have l:y.toNat<128:=D.out i y o
       have u:=fun ty=>run_next_ascii (P:=Tryz.prog) W c i ty hi (by rw[hy];exact l)
       rw[hy] at u
       clear o hy
       have U:((65533:Int)==(y.toNat:Int))=false:=beq_eq_false_iff_ne.2 oM
       go_wp2
       go_roundg g
       case measure=>omega
       case rel=>exact⟨i+1,by omega,rfl,_,rfl⟩
    ·have h7:=Qg D.out F.out t
     have s1:=(F.out.enc t).1
     have s2:((R:Int)==65533)=false:=beq_eq_false_iff_ne.2 oM
     by_cases w6:K=2
     ·have r8:((2:Int)==(K:Int))=true:=beq_iff_eq.2 oM
      go_wp2_with (go_at_fn 167;go_fit cD;rintro e W ⟨rfl,r7⟩)
      have a:Below w.heap.size w W:=r1.trans (r7.mono r1.size)
      go_roundg r
      case measure=>omega
      case rel=>exact⟨pos+K,by go_num,⟨_,rfl⟩,Q,a,zD D.out B.out F.out.all,by omega⟩
     ·have r8:((2:Int)==(K:Int))=false:=beq_eq_false_iff_ne.2 oM
      by_cases s3:(K:Int)<=m
      ·have r9:Aside (∀ W,Below wr.heap.size wr W->(callFunc 168 #[.string c,.string (Utf8.encode (R:Int))]).run Tryz.prog W= .ok (.value (.int .i64 (-1))) W):=fun W hW=>Qh c _ W m (HX.out W hW) (by rw[(F.out.enc t).2.1];omega) (by rw[(F.out.enc t).2.1];omega) (by rw[(F.out.enc t).2.1];omega) (by rw[Bool.beq_comm];exact h7) oM
       go_wp2_with (go_at_fn 167;go_fit cD;rintro e W ⟨rfl,r7⟩;have s0:=HX.out W r7;have s4:=r9.out W r7)
       have a:Below w.heap.size w W:=r1.trans (r7.mono r1.size)
       go_roundg r
       case measure=>omega
       case rel=>exact⟨pos+K,by go_num,⟨_,rfl⟩,Q,a,zD D.out B.out F.out.all,by omega⟩
      ·go_wp2_with (go_at_fn 167;go_fit cD;rintro e W ⟨rfl,r7⟩;have s0:=HX.out W r7)
       have a:Below w.heap.size w W:=r1.trans (r7.mono r1.size)
       go_loopg [15] 2 (fun g h3 I=>∃ i:Nat,i+g=2/\I=W.iter c i/\(∃ v,h3=v))
       case atStart=>exact⟨0,by omega,rfl,_,rfl⟩
       case round=>
        obtain⟨i,M,rfl,v,rfl⟩:=hrel
        cases gk with
        |zero=>
         obtain rfl:i=2:=by omega
         have u:=fun ty=>run_next_end (P:=Tryz.prog) W c 2 ty oM
         go_wp2
         go_roundg r
         case measure=>omega
         case rel=>exact⟨pos+K,by go_num,⟨_,rfl⟩,Q,a.alloc a.size _,zD D.out B.out F.out.all,by omega⟩
        |succ g=>
         have hi:i<c.size:=by omega
         obtain⟨y,hy⟩:∃ y:UInt8,c[i]'hi=y:=⟨_,rfl⟩
         have o:c.data.toList[i]?=some y:=by rw[<-hy];exact Lib.data_getElem? c i hi
         have l:y.toNat<128:=D.out i y o
         have u:=fun ty=>run_next_ascii (P:=Tryz.prog) W c i ty hi (by rw[hy];exact l)
         rw[hy] at u
         clear o hy
         have U:((R:Int)==(y.toNat:Int))=false:=beq_eq_false_iff_ne.2 oM
         go_wp2
         go_roundg g
         case measure=>omega
         case rel=>exact⟨i+1,by omega,rfl,_,rfl⟩
   ·have V:¬ ((128:Int)<=(x.toNat:Int)):=by omega
    have h4:(x.toNat:Int)<128:=by omega
    have f:=Lib.contains_iff_indexByte c.data.toList x
    clear hx r6 O
    cases n:c.data.toList.contains x<;>rw[n] at f
    ·have h9:¬ ((0:Int)<=Lib.indexByte c.data.toList x):=of_decide_eq_false f.symm
     clear f
     go_wp2_with (rw[run_callFunc_extern Tryz.func161 oK oK oK (e:=Extern.BytealgIndexByte.indexByte) oK,Lib.run_indexByteString,E];simp only[Result.andThen];rw[Oper.upon_value])
     go_roundg r
     case measure=>omega
     case rel=>exact⟨pos+1,by go_num,⟨_,rfl⟩,by omega,r1,B.out.succ T.out n,by omega⟩
    ·have v0:(0:Int)<=Lib.indexByte c.data.toList x:=Xy f.symm
     clear f
     go_wp2_with (rw[run_callFunc_extern Tryz.func161 oK oK oK (e:=Extern.BytealgIndexByte.indexByte) oK,Lib.run_indexByteString,E];simp only[Result.andThen];rw[Oper.upon_value])
     go_ret
     exact⟨by rw[Lib.indexAny_hit B.out T.out n];rfl,r1⟩
  ·obtain rfl:pos=s.size:=by omega
   have r4:¬ ((s.size:Int)<(s.size:Int)):=by omega
   go_wp2
   go_ret
   exact⟨by rw[Lib.indexAny_none (by rw[<-Lib.size_eq];exact B.out)];rfl,r1⟩
end Go.Proofs.YtgmnipfafmphaaaGreatDoor
namespace Go.Proofs.YtgmnipfafmphaaaGreatDoor
set_option linter.unusedSimpArgs false
set_option linter.unusedVariables false
open Go.RowKit Go.Shelf Go.Lib
variable {w:World}
set_option maxHeartbeats 2000000 in
set_option maxRecDepth 1000000 in
theorem Qi (p:Option Addr) (N:Nat) (c:ByteArray) (w:World) (h2:c.size=2):
  Calls Tryz.prog 138 #[.slice p 0 N,.string c] w fun e w'=>e= .returned (.int .i64 (-1))/\w'=w:=by
 have q:c.toList.isEmpty=false:=by
  rw[Lib.toList_data]
  cases h:c.data.toList with
  |nil=>have:=Lib.size_eq c;rw[h,Vp] at this;omega
  |cons _ _=>rfl
 have J:((c.size:Int)==1)=false:=beq_eq_false_iff_ne.2 oM
 have L:decide ((8:Int)<0)=false:=by decide
 have t3:=Tryz.underlying3;have a3:=Tryz.isAgg3;have z3:=Tryz.sizeOf3;have v3:=Tryz.zeroValue3
 have t4:=Tryz.underlying4;have a4:=Tryz.isAgg4;have z4:=Tryz.sizeOf4;have v4:=Tryz.zeroValue4
 have t9:=Tryz.underlying9;have a9:=Tryz.isAgg9;have z9:=Tryz.sizeOf9;have v9:=Tryz.zeroValue9
 have t22:=Tryz.underlying41;have a22:=Tryz.isAgg41;have z22:=Tryz.sizeOf41;have v22:=Tryz.zeroValue41
 have e1:∀ args w,(callFunc 164 args).run Tryz.prog w= .ok (.enter 164 args) w:=enters_of Tryz.func164 oK rfl
 go_enter Tryz.func138,Tryz.ntmps138
 go_wp2_with (go_at_fn 164;refine(AM _ _).mono ?_;rintro e w' ⟨rfl,G⟩;rw[G,L])
 go_loopg [11,12] 0 (fun gf Y h0 I=>h0= .int .i64 0/\I=w/\∃ v,Y=v)
 case atStart=>exact⟨rfl,rfl,_,rfl⟩
 case round=>
  obtain⟨rfl,rfl,v,rfl⟩:=hrel
  go_wp2
  go_ret
  exact⟨rfl,rfl⟩
theorem D9 {w:World} {M:Nat->Prop} {b sz:Nat}:∀ {l:List UInt8} {o:Nat},bd w M (l.map ej) b o sz->∀ (j:Nat) x,l[j]?=some x->w.cell? ⟨b,o+j,none⟩=some (.int .u8 x.toNat)
 |[],o,_,j,x,hx=>by simp at hx
 |y::l,o,h,j,x,hx=>by
  simp only[VF] at h
  unfold bd at h
  obtain⟨h1,h2,E⟩:=h
  have F:sz=1:=by rw[<-h1];rfl
  subst F
  unfold ej b4 at h2
  obtain⟨⟨u,hc,_,D⟩,_⟩:=h2
  unfold bf at D
  subst D
  cases j with
  |zero=>
   simp only[VZ,Vi] at hx
   subst hx
   simpa using hc
  |succ j=>
   have:=D9 E j x (by simpa using hx)
   rwa[show o+1+j=o+(j+1) by omega] at this
theorem Om:∀ c,c<256->([240,240,240,240,240,240,240,240,240,240,240,240,240,240,240,240,240,240,240,240,240,240,240,240,240,240,240,240,240,240,240,240,240,240,240,240,240,240,240,240,240,240,240,240,240,240,240,240,240,240,240,240,240,240,240,240,240,240,240,240,240,240,240,240,240,240,240,240,240,240,240,240,240,240,240,240,240,240,240,240,240,240,240,240,240,240,240,240,240,240,240,240,240,240,240,240,240,240,240,240,240,240,240,240,240,240,240,240,240,240,240,240,240,240,240,240,240,240,240,240,240,240,240,240,240,240,240,240,241,241,241,241,241,241,241,241,241,241,241,241,241,241,241,241,241,241,241,241,241,241,241,241,241,241,241,241,241,241,241,241,241,241,241,241,241,241,241,241,241,241,241,241,241,241,241,241,241,241,241,241,241,241,241,241,241,241,241,241,241,241,241,241,241,241,2,2,2,2,2,2,2,2,2,2,2,2,2,2,2,2,2,2,2,2,2,2,2,2,2,2,2,2,2,2,19,3,3,3,3,3,3,3,3,3,3,3,3,35,3,3,52,4,4,4,68,241,241,241,241,241,241,241,241,241,241,241]:List Int)[c]?=some ((Lib.firstT c:Nat):Int):=by decide+kernel
theorem On:∀ i,i<16->([128,191,160,191,128,159,144,191,128,143,0,0,0,0,0,0,0,0,0,0,0,0,0,0,0,0,0,0,0,0,0,0]:List Int)[2 * i]?=some ((Lib.accLo i:Nat):Int)/\([128,191,160,191,128,159,144,191,128,143,0,0,0,0,0,0,0,0,0,0,0,0,0,0,0,0,0,0,0,0,0,0]:List Int)[2 * i+1]?=some ((Lib.accHi i:Nat):Int):=by decide+kernel
theorem D_ {g:Nat} {k:IntKind} {zs:List Int} (h:rL w (g,k,zs)) (hn:zs≠[]) {c:Nat} {z:Int} (hc:zs[c]?=some z):w.cell? ⟨g,c,none⟩=some (.int k z):=by
 obtain⟨u,f,hh⟩:=h.at hn
 simp only at hh
 unfold World.cell?
 simp only[hh]
 simp[hc]
theorem LX (h:z6 w):Lib.Utf8Tabs 4 5 w:=by
 have h1:=h (4,.u8,[240,240,240,240,240,240,240,240,240,240,240,240,240,240,240,240,240,240,240,240,240,240,240,240,240,240,240,240,240,240,240,240,240,240,240,240,240,240,240,240,240,240,240,240,240,240,240,240,240,240,240,240,240,240,240,240,240,240,240,240,240,240,240,240,240,240,240,240,240,240,240,240,240,240,240,240,240,240,240,240,240,240,240,240,240,240,240,240,240,240,240,240,240,240,240,240,240,240,240,240,240,240,240,240,240,240,240,240,240,240,240,240,240,240,240,240,240,240,240,240,240,240,240,240,240,240,240,240,241,241,241,241,241,241,241,241,241,241,241,241,241,241,241,241,241,241,241,241,241,241,241,241,241,241,241,241,241,241,241,241,241,241,241,241,241,241,241,241,241,241,241,241,241,241,241,241,241,241,241,241,241,241,241,241,241,241,241,241,241,241,241,241,241,241,2,2,2,2,2,2,2,2,2,2,2,2,2,2,2,2,2,2,2,2,2,2,2,2,2,2,2,2,2,2,19,3,3,3,3,3,3,3,3,3,3,3,3,35,3,3,52,4,4,4,68,241,241,241,241,241,241,241,241,241,241,241]) (Vq (i:=0) rfl)
 have h2:=h (5,.u8,[128,191,160,191,128,159,144,191,128,143,0,0,0,0,0,0,0,0,0,0,0,0,0,0,0,0,0,0,0,0,0,0]) (Vq (i:=1) rfl)
 exact⟨fun c hc=>D_ h1 (List.cons_ne_nil _ _) (Om c hc),fun i hi=>⟨D_ h2 (List.cons_ne_nil _ _) (On i hi).1,D_ h2 (List.cons_ne_nil _ _) (On i hi).2⟩⟩
theorem Sx (h:z6 w):∃ m,w.cell? ⟨0,0,none⟩=some (.int .i64 m):=
 rL.int (t:=(0,.i64,[])) (h (0,.i64,[]) (Vq (i:=2) rfl)) rfl
def mt (s c:List UInt8):Option Int:=if s.length<4294967281/\c.length=2/\(c.all fun b=>decide (b.toNat<128))=true then some (Lib.indexAny s c) else none
theorem xJ (s c:List UInt8):∀ r,mt s c=some r->ac Tryz.prog 138 [.slice (s.map ej),.str c] (.int .i64 r):=by
 intro r D
 unfold mt at D
 split at D
 ·rename_i h
  cases D
  obtain⟨h1,h2,E⟩:=h
  refine⟨by kernel_rfl,fun w M vs hM hv k=> ?_⟩
  simp only[aM] at hv
  obtain⟨u,X,rfl,hu,n,g,rfl,i,rfl⟩:=hv
  unfold bf at i
  subst i
  unfold bf at hu
  obtain⟨a,N,rfl,z,d,p⟩:=hu
  simp only[Wj] at z⊢
  have r3:(⟨c.toArray⟩:ByteArray).size=2:=by simpa[ByteArray.size] using h2
  have h6:(⟨c.toArray⟩:ByteArray).data.toList=c:=rfl
  have u6:(⟨s.toArray⟩:ByteArray).data.toList=s:=rfl
  have f:(⟨s.toArray⟩:ByteArray).size=s.length:=by simp[ByteArray.size]
  have l:∀ (j:Nat) b,(⟨c.toArray⟩:ByteArray).data.toList[j]?=some b->b.toNat<128:=fun j b hb=>by
   rw[h6] at hb
   simpa using VN.1 E b (Vq hb)
  have fin:Calls Tryz.prog 138 #[.slice a s.length N,.string ⟨c.toArray⟩] w fun e w'=>e= .returned (.int .i64 (Lib.indexAny s c))/\Below w.heap.size w w':=by
   rcases p with h0|⟨b,o,sz,rfl,q,h9,Q⟩
   ·have h0:s=[]:=by simpa using h0
    subst h0
    refine(Qi a N ⟨c.toArray⟩ w r3).mono ?_
    rintro e w' ⟨rfl,rfl⟩
    exact⟨by rw[Lib.indexAny_none (Lib.NoAny.zero _ _)],Below.refl _ _⟩
   ·have hB:Mo ⟨s.toArray⟩ b o w:=fun j hj=>by
     rw[f] at hj
     have:=D9 Q j s[j] (Vu hj)
     rw[this]
     have L:=get_at ⟨s.toArray⟩ j (by rw[f];exact hj)
     rw[WO] at L
     rw[L];rfl
    have key:Calls Tryz.prog 138 #[.slice (some ⟨b,o,none⟩) (⟨s.toArray⟩:ByteArray).size N,.string ⟨c.toArray⟩] w fun e w'=>e= .returned (.int .i64 (Lib.indexAny (⟨s.toArray⟩:ByteArray).data.toList (⟨c.toArray⟩:ByteArray).data.toList))/\Below w.heap.size w w':=by
     by_cases g1:s.length=1
     ·exact Su _ b o N _ w (by rw[f];exact z) hB oM (by rw[f];exact g1) l
     ·by_cases t:s.length<=8
      ·obtain⟨m,Z⟩:=Sx k
       exact Ol _ b o N _ w m (by rw[f];exact z) hB r3 (by rw[f];exact t) (by rw[f];exact g1) (LX k) Z l
      ·exact Qd _ b o N _ w (by rw[f];exact z) hB oM (by rw[f];omega) (by rw[f];exact h1) oM l
    rw[f] at key
    exact key
  refine fin.mono ?_
  rintro e w' ⟨rfl,hb⟩
  refine⟨_,rfl, ?_,hb⟩
  unfold bf
  rfl
 ·cases D
end Go.Proofs.YtgmnipfafmphaaaGreatDoor
namespace Go.Proofs
open Go.Proofs.YtgmnipfafmphaaaGreatDoor
open Go.Shelf
end Go.Proofs
namespace Go.Proofs.YtgmnipfafmphaaaGreatDoor
set_option linter.unusedSimpArgs false
set_option linter.unusedVariables false
open Go.RowKit Go.Shelf
end Go.Proofs.YtgmnipfafmphaaaGreatDoor
namespace Go.Proofs
open Go.Proofs.YtgmnipfafmphaaaGreatDoor
open Go.Shelf
def Tryz.lays172_ren:Go.Shelf.Ren:=⟨fun|172=>59|244=>99|245=>100|247=>141|279=>142|280=>143|281=>144|282=>145|287=>169|316=>170|171=>43|205=>171|321=>189|322=>190|243=>85|246=>125|283=>156|284=>157|285=>158|286=>159|129=>177|317=>176|318=>178|319=>179|320=>180|337=>191|338=>192|n=>n,fun|9=>9|3=>3|75=>112|76=>113|4=>4|5=>5|167=>200|37=>41|0=>0|85=>201|2=>2|168=>203|53=>212|175=>224|46=>218|210=>228|127=>241|145=>244|143=>242|21=>21|171=>211|173=>215|212=>232|51=>233|20=>20|213=>234|232=>250|233=>251|80=>162|n=>n,fun|15=>1|16=>2|17=>3|18=>6|19=>7|n=>n⟩
theorem Tryz.lays172:Go.Proofs.Lays.n172 Tryz.prog Tryz.lays172_ren:={
 mixed:=oK
 f129:=Tryz.func177.trans (Wf some oK)
 f171:=Tryz.func43.trans (Wf some oK)
 f172:=Tryz.func59.trans (Wf some oK)
 f205:=Tryz.func171.trans (Wf some oK)
 f243:=Tryz.func85.trans (Wf some oK)
 f244:=Tryz.func99.trans (Wf some oK)
 f245:=Tryz.func100.trans (Wf some oK)
 f246:=Tryz.func125.trans (Wf some oK)
 f247:=Tryz.func141.trans (Wf some oK)
 f279:=Tryz.func142.trans (Wf some oK)
 f280:=Tryz.func143.trans (Wf some oK)
 f281:=Tryz.func144.trans (Wf some oK)
 f282:=Tryz.func145.trans (Wf some oK)
 f283:=Tryz.func156.trans (Wf some oK)
 f284:=Tryz.func157.trans (Wf some oK)
 f285:=Tryz.func158.trans (Wf some oK)
 f286:=Tryz.func159.trans (Wf some oK)
 f287:=Tryz.func169.trans (Wf some oK)
 f316:=Tryz.func170.trans (Wf some oK)
 f317:=Tryz.func176.trans (Wf some oK)
 f318:=Tryz.func178.trans (Wf some oK)
 f319:=Tryz.func179.trans (Wf some oK)
 f320:=Tryz.func180.trans (Wf some oK)
 f321:=Tryz.func189.trans (Wf some oK)
 f322:=Tryz.func190.trans (Wf some oK)
 f337:=Tryz.func191.trans (Wf some oK)
 f338:=Tryz.func192.trans (Wf some oK)
 t0:=Tryz.underlying0
 a0:=Tryz.isAgg0
 z0:=Tryz.sizeOf0
 v0:=Tryz.zeroValue0
 t2:=Tryz.underlying2
 a2:=Tryz.isAgg2
 z2:=Tryz.sizeOf2
 v2:=Tryz.zeroValue2
 t3:=Tryz.underlying3
 a3:=Tryz.isAgg3
 z3:=Tryz.sizeOf3
 v3:=Tryz.zeroValue3
 t4:=Tryz.underlying4
 a4:=Tryz.isAgg4
 z4:=Tryz.sizeOf4
 v4:=Tryz.zeroValue4
 t5:=Tryz.underlying5
 a5:=Tryz.isAgg5
 z5:=Tryz.sizeOf5
 v5:=Tryz.zeroValue5
 t9:=Tryz.underlying9
 a9:=Tryz.isAgg9
 z9:=Tryz.sizeOf9
 v9:=Tryz.zeroValue9
 t20:=Tryz.underlying20
 a20:=Tryz.isAgg20
 z20:=Tryz.sizeOf20
 v20:=Tryz.zeroValue20
 t21:=Tryz.underlying21
 a21:=Tryz.isAgg21
 z21:=Tryz.sizeOf21
 v21:=Tryz.zeroValue21
 t37:=Tryz.underlying41
 a37:=Tryz.isAgg41
 z37:=Tryz.sizeOf41
 v37:=Tryz.zeroValue41
 t46:=Tryz.underlying218
 a46:=Tryz.isAgg218
 z46:=Tryz.sizeOf218
 v46:=Tryz.zeroValue218
 t51:=Tryz.underlying233
 a51:=Tryz.isAgg233
 z51:=Tryz.sizeOf233
 v51:=Tryz.zeroValue233
 t53:=Tryz.underlying212
 a53:=Tryz.isAgg212
 z53:=Tryz.sizeOf212
 v53:=Tryz.zeroValue212
 t75:=Tryz.underlying112
 a75:=Tryz.isAgg112
 z75:=Tryz.sizeOf112
 v75:=Tryz.zeroValue112
 t76:=Tryz.underlying113
 a76:=Tryz.isAgg113
 z76:=Tryz.sizeOf113
 v76:=Tryz.zeroValue113
 t85:=Tryz.underlying201
 a85:=Tryz.isAgg201
 z85:=Tryz.sizeOf201
 v85:=Tryz.zeroValue201
 t127:=Tryz.underlying241
 a127:=Tryz.isAgg241
 z127:=Tryz.sizeOf241
 v127:=Tryz.zeroValue241
 t143:=Tryz.underlying242
 a143:=Tryz.isAgg242
 z143:=Tryz.sizeOf242
 v143:=Tryz.zeroValue242
 t145:=Tryz.underlying244
 a145:=Tryz.isAgg244
 z145:=Tryz.sizeOf244
 v145:=Tryz.zeroValue244
 t167:=Tryz.underlying200
 a167:=Tryz.isAgg200
 z167:=Tryz.sizeOf200
 v167:=Tryz.zeroValue200
 t168:=Tryz.underlying203
 a168:=Tryz.isAgg203
 z168:=Tryz.sizeOf203
 v168:=Tryz.zeroValue203
 t171:=Tryz.underlying211
 a171:=Tryz.isAgg211
 z171:=Tryz.sizeOf211
 v171:=Tryz.zeroValue211
 t173:=Tryz.underlying215
 a173:=Tryz.isAgg215
 z173:=Tryz.sizeOf215
 v173:=Tryz.zeroValue215
 t175:=Tryz.underlying224
 a175:=Tryz.isAgg224
 z175:=Tryz.sizeOf224
 v175:=Tryz.zeroValue224
 t210:=Tryz.underlying228
 a210:=Tryz.isAgg228
 z210:=Tryz.sizeOf228
 v210:=Tryz.zeroValue228
 t212:=Tryz.underlying232
 a212:=Tryz.isAgg232
 z212:=Tryz.sizeOf232
 v212:=Tryz.zeroValue232
 t213:=Tryz.underlying234
 a213:=Tryz.isAgg234
 z213:=Tryz.sizeOf234
 t232:=Tryz.underlying250
 a232:=Tryz.isAgg250
 z232:=Tryz.sizeOf250
 v232:=Tryz.zeroValue250
 t233:=Tryz.underlying251
 a233:=Tryz.isAgg251
 z233:=Tryz.sizeOf251
 v233:=Tryz.zeroValue251
 g15:=oK
 g16:=oK
 g17:=oK
 g18:=oK
 g19:=by kernel_rfl}
end Go.Proofs
namespace Go.Proofs.YtgmnipfafmphaaaGreatDoor
set_option linter.unusedSimpArgs false
set_option linter.unusedVariables false
open Go.RowKit Go.Shelf
noncomputable def eU (s:List UInt8):Option Int:=if s.length<=18 then Lib.atoi s else none
theorem lT (s:List UInt8):∀ r,eU s=some r->ac Tryz.prog 59 [.str s] (.tup [.int .i64 r,.raw .nilIface]):=by
 intro r D
 unfold eU at D
 split at D
 ·rename_i h
  refine⟨by kernel_rfl,fun w M vs hM hv k=> ?_⟩
  simp only[aM,bf] at hv
  obtain⟨u,X,rfl,rfl,rfl⟩:=hv
  refine Calls.mono (Any.strconv_Atoi Tryz.lays172 ⟨s.toArray⟩ r (by simpa[ByteArray.size] using h) D w) ?_
  rintro e w' ⟨rfl,t,rfl⟩
  refine⟨_,rfl, ?_,⟨rfl,rfl,rfl,by rw[Lib.bytesWorld_size];omega,fun j hj=>Lib.bytesWorld_at_old w _ t j hj⟩⟩
  unfold bf
  refine⟨_,rfl, ?_⟩
  simp[aM,bf]
 ·cases D
end Go.Proofs.YtgmnipfafmphaaaGreatDoor
