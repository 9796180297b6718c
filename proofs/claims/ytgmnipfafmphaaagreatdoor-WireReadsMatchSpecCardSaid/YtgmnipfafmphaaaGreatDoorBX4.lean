/-
  Laws on the way to the theorem.
-/
import Derived.Test.YtgmnipfafmphaaaGreatDoorBX2
import Derived.Test.YtgmnipfafmphaaaGreatDoorBX3
import Derived.Test.YtgmnipfafmphaaaGreatDoorSXEngRq
namespace Go.Proofs.YtgmnipfafmphaaaGreatDoor
open Go.RowKit
set_option linter.unusedSimpArgs false
set_option linter.unusedVariables false
noncomputable section
set_option maxRecDepth 100000
set_option maxHeartbeats 40000000
structure iy where
 fElement:Int
 fRepeat:Int
 fPart:Int
 deriving DecidableEq
variable {b v0 v2:Int}
def gB (x:iy):List DV:=[.int .i64 x.fElement,.int .i64 x.fRepeat,.int .i64 x.fPart]
attribute [push_cast] gB
theorem zx {d0 H d2:DV} (h0:d0= .int .i64 v0) (h1:H= .int .i64 b) (h2:d2= .int .i64 v2):[d0,H,d2]=gB ⟨v0,b,v2⟩:=by unfold gB;simp only[h0,h1,h2,VG,VC,Vy,VL]
theorem zy {d0 H d2:SV} (h0:gb d0 (.d (.int .i64 v0))) (h1:gb H (.d (.int .i64 b))) (h2:gb d2 (.d (.int .i64 v2))):ae [d0,H,d2] (dR (gB ⟨v0,b,v2⟩)):=by have h:=(ae.append (ae.consS h0 ae.nil) (ae.append (ae.consS h1 ae.nil) (ae.consS h2 ae.nil)));simpa only[gB,dR,Wq,VF,WG,VG,VC,Vy,VL] using h
def pP:SC:=(.sq [.k 11 .lss 10 9] (.seq (.cond (.t 11) .skip (.exit 0)) (.seq (.block 1 (.sq [.y 12 1 8 10,.a 13 1 12,.w 6 (.boxM (.c (.agg [.nils]))),.s 1 6 13] (.seq (.seq (.reg (.f 14 0 6:: .l 15 14:: .h 16 15:: .j 17 .neq 16 1:: .v 18 17::aS [19,20,21,22,23,24] 18 false (.f 19 0 6:: .r 20 (.ld1 (.t 19)):: .r 21 (.idx 1 (.t 20) (.i 0)):: .r 22 (.ld1 (.t 21)):: .h 23 22:: .j 24 .neq 23 1::[]) (.r 25 (.pick (.t 18) (.b true) (.t 24))::[]))) (.cond (.t 25) (.sq [.r 2 (.mv (.c (.nils))),.r 3 (.mv (.b false))] .ret) .skip)) (.reg [.v 26 4,.f 27 0 6,.l 28 27,.r 29 (.idx 1 (.t 28) (.i 0)),.l 30 29,.r 31 (.idx 1 (.t 30) (.i 0)),.l 32 31,.r 33 (.bslice 1 [.t 32]),.w 34 (.app 9 1 (.t 26) (.t 33)),.v 4 34])))) (.reg [.j 35 .add 10 1,.v 10 35]))))
def t8:SC:= .block 0 (.loop pP)
def xX:SC:=(.sq [.r 1 (.boxI (.t 0)),.r 2 (.mv (.c (.nils))),.r 3 (.mv (.b false))] (.sq [.r 4 (.mv (.c (.nils)))] (.seq (.sq [.f 7 1 1,.l 8 7,.h 9 8,.r 10 (.mv (.i 0))] t8) (.sq [.v 36 4,.v 2 36,.r 3 (.mv (.b true))] .ret))))
theorem DW:fits Tryz.prog 58 Tryz.f58 xX [.t 2,.t 3] 1=true:=oK
def zz:SC:=(.sq [.r 2 (.mv (.b false))] (.seq (.reg (.v 3 0:: .r 4 (.lenT (.t 3)):: .j 5 .geq 4 1:: .v 6 5::aS [7,8,9] 6 true (.v 7 0:: .r 8 (.lenT (.t 7)):: .j 9 .leq 8 14::[]) (.r 10 (.pick (.t 6) (.t 9) (.b false)):: .v 11 10::aS [12,13,14] 11 true (.v 12 0:: .c 13 (.f 81) [.t 12,.c (.d (.str [65,66,67,68,69,70,71,72,73,74,75,76,77,78,79,80,81,82,83,84,85,86,87,88,89,90,48,49,50,51,52,53,54,55,56,57,45]))]:: .r 14 (.bin .eql (.t 13) (.c (.d (.str []))))::[]) (.r 15 (.pick (.t 11) (.t 14) (.b false)):: .v 2 15::[])))) .ret))
theorem EM:fits Tryz.prog 36 Tryz.f36 zz [.t 2] 1=true:=oK
def xY:SC:=(.sq [.r 2 (.mv (.b false))] (.seq (.seq (.reg (.v 3 0:: .r 4 (.lenT (.t 3)):: .j 5 .lss 4 1:: .v 6 5::aS [7,8,9] 6 false (.v 7 0:: .r 8 (.lenT (.t 7)):: .j 9 .gtr 8 40::[]) (.r 10 (.pick (.t 6) (.b true) (.t 9)):: .v 11 10::aS [12,13,14] 11 false (.v 12 0:: .r 13 (.sidx (.t 12) (.i 0)):: .r 14 (.bin .lss (.t 13) (.c (.d (.int .u8 97))))::[]) (.r 15 (.pick (.t 11) (.b true) (.t 14)):: .v 16 15::aS [17,18,19] 16 false (.v 17 0:: .r 18 (.sidx (.t 17) (.i 0)):: .r 19 (.bin .gtr (.t 18) (.c (.d (.int .u8 122))))::[]) (.r 20 (.pick (.t 16) (.b true) (.t 19))::[]))))) (.cond (.t 20) (.sq [.r 2 (.mv (.b false))] .ret) .skip)) (.sq [.v 21 0,.c 22 (.f 81) [.t 21,.c (.d (.str [97,98,99,100,101,102,103,104,105,106,107,108,109,110,111,112,113,114,115,116,117,118,119,120,121,122,48,49,50,51,52,53,54,55,56,57,45]))],.r 23 (.bin .eql (.t 22) (.c (.d (.str [])))),.v 2 23] .ret)))
theorem DX:fits Tryz.prog 37 Tryz.f37 xY [.t 2] 1=true:=oK
def va:SC:=(.sq [.r 2 (.mv (.b false))] (.seq (.reg (.v 3 0:: .r 4 (.bin .neq (.t 3) (.c (.d (.str [])))):: .v 5 4::aS [6,7] 5 true (.v 6 0:: .c 7 (.f 129) [.t 6,.c (.d (.int .u8 48)),.c (.d (.int .u8 57))]::[]) (.r 8 (.pick (.t 5) (.t 7) (.b false)):: .v 2 8::[]))) .ret))
theorem AD:fits Tryz.prog 135 Tryz.f135 va [.t 2] 1=true:=oK
def ws:SC:=(.sq [.r 6 (.mv (.b false))] (.seq (.reg (.v 7 0:: .v 8 1:: .k 9 .lss 7 8:: .v 10 9::aS [11,12,13] 10 false (.v 11 0:: .v 12 2:: .k 13 .gtr 11 12::[]) (.r 14 (.pick (.t 10) (.b true) (.t 13)):: .v 6 14::[]))) .ret))
theorem BW:fits Tryz.prog 39 Tryz.f39 ws [.t 6] 3=true:=oK
def wt:SC:=(.sq [.r 2 (.boxI (.t 0)),.r 3 (.boxI (.t 1)),.r 4 (.mv (.c (.d (.str [])))),.r 5 (.mv (.b false))] (.seq (.sq [.f 7 0 3,.l 8 7,.f 9 1 2,.l 10 9,.h 11 10,.k 12 .gtr 8 11] (.cond (.t 12) (.sq [.r 4 (.mv (.c (.d (.str [])))),.r 5 (.mv (.b false))] .ret) .skip)) (.sq [.f 13 1 2,.l 14 13,.f 15 0 3,.l 16 15,.j 17 .sub 16 1,.y 18 1 14 17,.f 19 0 18,.l 20 19,.v 6 20] (.seq (.seq (.regD (.f 21 1 3:: .r 22 (.ld1 (.t 21)):: .v 23 6:: .h 24 23:: .k 25 .gtr 22 24:: .v 26 25::aS [27,28,29,30,31,32,33,34,35,36] 26 false (.f 27 2 3:: .r 28 (.ld1 (.t 27)):: .v 29 6:: .f 30 1 3:: .r 31 (.ld1 (.t 30)):: .j 32 .sub 31 1:: .y 33 1 29 32:: .r 34 (.ld1 (.t 33)):: .h 35 34:: .k 36 .gtr 28 35::[]) (.r 37 (.pick (.t 26) (.b true) (.t 36))::[]))) (.cond (.t 37) (.sq [.r 4 (.mv (.c (.d (.str [])))),.r 5 (.mv (.b false))] .ret) .skip)) (.seq (.regD [.v 38 6,.f 39 1 3,.r 40 (.ld1 (.t 39)),.j 41 .sub 40 1,.y 42 1 38 41,.r 43 (.ld1 (.t 42)),.f 44 2 3,.r 45 (.ld1 (.t 44)),.j 46 .sub 45 1,.y 47 1 43 46,.r 48 (.ld1 (.t 47)),.v 4 48,.r 5 (.mv (.b true))]) .ret)))))
theorem BX:fits Tryz.prog 134 Tryz.f134 wt [.t 4,.t 5] 2=true:=oK
def xZ:SC:=(.sq [.r 0 (.mv (.c (.nils)))] (.sq [.r 1 (.bslice 1 [.c (.d (.str [73,72,68])),.c (.d (.str [71,72,68])),.c (.d (.str [77,72,68]))]),.v 0 1] .ret))
theorem DY:fits Tryz.prog 49 Tryz.f49 xZ [.t 0] 0=true:=oK
def x0:SC:=(.sq [.r 0 (.mv (.c (.nils)))] (.sq [.r 1 (.bslice 1 [.c (.d (.str [73,84,82])),.c (.d (.str [71,84,82])),.c (.d (.str [77,84,82]))]),.v 0 1] .ret))
theorem DZ:fits Tryz.prog 51 Tryz.f51 x0 [.t 0] 0=true:=oK
def bj:(∀ (B:aa),{m:Option ((List (List UInt8))×Bool)//∀ r,m=some r->ac Tryz.prog 58 [.agg (af B)] (.tup [.slice (List.map dr r.1),.bool r.2])})×(∀ (B:List UInt8),{m:Option (Bool)//∀ r,m=some r->ac Tryz.prog 36 [.str B] (.bool r)})×(∀ (B:List UInt8),{m:Option (Bool)//∀ r,m=some r->ac Tryz.prog 37 [.str B] (.bool r)})×(∀ (B:List UInt8),{m:Option (Bool)//∀ r,m=some r->ac Tryz.prog 135 [.str B] (.bool r)})×(∀ (B:Int) (x1:Int) (x2:Int),{m:Option (Bool)//∀ r,m=some r->ac Tryz.prog 39 [.int .i64 B,.int .i64 x1,.int .i64 x2] (.bool r)})×(∀ (B:aa) (x1:iy),{m:Option ((List UInt8)×Bool)//∀ r,m=some r->ac Tryz.prog 134 [.agg (af B),.agg (gB x1)] (.tup [.str r.1,.bool r.2])})×({m:Option ((List (List UInt8)))//∀ r,m=some r->ac Tryz.prog 49 [] (.slice (List.map dr r))})×({m:Option ((List (List UInt8)))//∀ r,m=some r->ac Tryz.prog 51 [] (.slice (List.map dr r))}):=by
 refine⟨?g0, ?g1, ?g2, ?g3, ?g4, ?g5, ?g6, ?g7⟩
 case' g0=>(intro B;apply Subtype.mk;intro r Z;apply au Tryz.func58 DW;unfold xX)
 case' g1=>(intro B;apply Subtype.mk;intro r Z;apply au Tryz.func36 EM;unfold zz)
 case' g2=>(intro B;apply Subtype.mk;intro r Z;apply au Tryz.func37 DX;unfold xY)
 case' g3=>(intro B;apply Subtype.mk;intro r Z;apply au Tryz.func135 AD;unfold va)
 case' g4=>(intro B x1 x2;apply Subtype.mk;intro r Z;apply au Tryz.func39 BW;unfold ws)
 case' g5=>(intro B x1;apply Subtype.mk;intro r Z;apply au Tryz.func134 BX;unfold wt)
 case' g6=>(apply Subtype.mk;intro r Z;apply au Tryz.func49 DY;unfold xZ)
 case' g7=>(apply Subtype.mk;intro r Z;apply au Tryz.func51 DZ;unfold x0)
 all_goals(repeat'(first|(with_reducible first|refine cE ?_|refine cm ?_|refine eG ?_|refine bu ?_|refine bR ?_|refine dL ?_|refine cN ?_|refine cn ?_|refine cF ?_|refine cO ?_|refine ee ?_|refine bC ?_|refine dq ?_|refine dy ?_)|(with_reducible apply ep Z);(iterate 2 (exact aj));intro _;rfl;intro e Z|(with_reducible apply uD Z);(iterate 2 (exact aj));intro e Z|(with_reducible apply jj);exact aj;(first|exact trivial)|((with_reducible apply ll Z);exact aj;rfl;intro v Z;rotate_left;intro v g Z)|((with_reducible apply sB Z);exact aj;rfl;intro v Z;rotate_left;intro v g Z)|(with_reducible apply lE Z);exact aj;(first|apply sZ _ _|apply t6 _ _ _);(any_goals(exact Uj));intro x Z|(with_reducible apply tD);exact aj;(first|exact trivial)|(with_reducible apply qT Z);(iterate 4 (exact aj));exact xM;decide;intro _;rfl;intro Z|((with_reducible apply bz Z);exact aj;intro Z;rotate_left;intro Z)|(with_reducible apply GU Z);exact lz;exact aD;exact Uf|(with_reducible apply eH Z);exact lz;exact xM|(with_reducible apply eo Z);exact aj|(with_reducible apply cb Z);intro r Z|(with_reducible apply fl Z);intro r Z|((apply aH (b:=0) (X:=t8) (x:=pP) rfl (fun(c:SV×SV) (s:(List (List UInt8))×Int)=>st [(4,.vec 4),(8,c.1),(9,c.2),(10,.d (.int .i64 s.2))] [(4,.vec 9 1 (aY dr s.1))]) (c:=(_,_)) (s0:=(_,_)) Z);exact aD;(with_reducible refine dc.mk ?_ ?_);apply bt.trans;exact Ui)|((apply cg (s':=(_,_)) Z);exact aD)|((apply dV (s':=(_,_)) Z);exact aD)|(with_reducible apply kf Z);intro r Z|((with_reducible apply eI.of);exact aD;(focus(intro _;repeat'(first|(with_reducible first|exact dU|refine bL ?_))));(intro s o Z;first|unfold pP);rotate_left;intro s Z)|exact J3|fail))
def mq (B:aa):Option ((List (List UInt8))×Bool):=(bj.1 B).1
theorem ns (B:aa):∀ r,mq B=some r->ac Tryz.prog 58 [.agg (af B)] (.tup [.slice (List.map dr r.1),.bool r.2]):=(bj.1 B).2
def wu (B:List UInt8):Option (Bool):=(bj.2.1 B).1
theorem kw (B:List UInt8):∀ r,wu B=some r->ac Tryz.prog 36 [.str B] (.bool r):=(bj.2.1 B).2
def uP (B:List UInt8):Option (Bool):=(bj.2.2.1 B).1
theorem nu (B:List UInt8):∀ r,uP B=some r->ac Tryz.prog 37 [.str B] (.bool r):=(bj.2.2.1 B).2
def mb (B:List UInt8):Option (Bool):=(bj.2.2.2.1 B).1
theorem sV (B:List UInt8):∀ r,mb B=some r->ac Tryz.prog 135 [.str B] (.bool r):=(bj.2.2.2.1 B).2
def ng (B x1 x2:Int):Option (Bool):=(bj.2.2.2.2.1 B x1 x2).1
theorem pQ (B x1 x2:Int):∀ r,ng B x1 x2=some r->ac Tryz.prog 39 [.int .i64 B,.int .i64 x1,.int .i64 x2] (.bool r):=(bj.2.2.2.2.1 B x1 x2).2
def x3 (B:aa) (x1:iy):Option ((List UInt8)×Bool):=(bj.2.2.2.2.2.1 B x1).1
theorem AE (B:aa) (x1:iy):∀ r,x3 B x1=some r->ac Tryz.prog 134 [.agg (af B),.agg (gB x1)] (.tup [.str r.1,.bool r.2]):=(bj.2.2.2.2.2.1 B x1).2
def oZ:Option ((List (List UInt8))):=(bj.2.2.2.2.2.2.1).1
theorem qW:∀ r,oZ=some r->ac Tryz.prog 49 [] (.slice (List.map dr r)):=(bj.2.2.2.2.2.2.1).2
def o0:Option ((List (List UInt8))):=(bj.2.2.2.2.2.2.2).1
theorem vb:∀ r,o0=some r->ac Tryz.prog 51 [] (.slice (List.map dr r)):=(bj.2.2.2.2.2.2.2).2
def x4:SC:=(.sq [.r 4 (.mv (.i 0)),.r 5 (.mv (.b false))] (.seq (.seq (.reg (.v 8 0:: .r 9 (.lenT (.t 8)):: .v 10 1:: .k 11 .gtr 9 10:: .v 12 11::aS [13,14,15] 12 false (.v 13 0:: .c 14 (.f 135) [.t 13]:: .r 15 (.not (.t 14))::[]) (.r 16 (.pick (.t 12) (.b true) (.t 15)):: .v 17 16::aS [18,19,20,21,22,23,24,25] 17 false (.v 18 0:: .r 19 (.lenT (.t 18)):: .j 20 .gtr 19 1:: .v 21 20::aS [22,23,24] 21 true (.v 22 0:: .r 23 (.sidx (.t 22) (.i 0)):: .r 24 (.bin .eql (.t 23) (.c (.d (.int .u8 48))))::[]) (.r 25 (.pick (.t 21) (.t 24) (.b false))::[])) (.r 26 (.pick (.t 17) (.b true) (.t 25))::[])))) (.cond (.t 26) (.sq [.r 4 (.mv (.i 0)),.r 5 (.mv (.b false))] .ret) .skip)) (.sq [.v 28 0,.c 29 (.f 59) [.t 28],.v 27 29,.e 30 27 0,.e 31 27 1,.v 6 30,.v 7 31] (.seq (.regD [.v 32 6,.v 33 7,.r 34 (.binI .eql (.t 33) (.c (.d (.raw .nilIface)))),.v 4 32,.v 5 34]) .ret))))
theorem D0:fits Tryz.prog 95 Tryz.f95 x4 [.t 4,.t 5] 2=true:=oK
def zA:SC:=(.sq [.r 2 (.mv (.b false))] (.sq [.v 3 0,.c 4 (.f 39) [.t 3,.c (.d (.int .i64 1)),.c (.d (.int .i64 3652059))],.r 5 (.not (.t 4)),.v 2 5] .ret))
theorem EN:fits Tryz.prog 38 Tryz.f38 zA [.t 2] 1=true:=oK
def x5:SC:=(.sq [.r 1 (.boxI (.t 0)),.r 2 (.mv (.c (.d (.str []))))] (.sq [.a 6 2 1,.r 7 (.build [.d (.int .i64 0),.d (.int .i64 0),.d (.int .i64 0)] [(0,1,.c (.d (.int .i64 1))),(1,1,.c (.d (.int .i64 1))),(2,1,.c (.d (.int .i64 1)))]),.c 8 (.f 134) [.t 6,.t 7],.v 5 8,.e 9 5 0,.e 10 5 1,.v 3 9,.v 4 10] (.sq [.v 11 3,.v 2 11] .ret)))
theorem D1:fits Tryz.prog 92 Tryz.f92 x5 [.t 2] 1=true:=oK
def wv:SC:=(.sq [.r 1 (.boxI (.t 0)),.r 2 (.mv (.b false))] (.seq (.sq [.f 5 1 1,.l 6 5,.h 7 6,.j 8 .eql 7 0] (.cond (.t 8) (.sq [.r 2 (.mv (.b false))] .ret) .skip)) (.sq [.f 10 1 1,.l 11 10,.r 12 (.slc 1 (.t 11) none (some (.i 1))),.r 13 (.build [.d (.str []),.nils] [(1,1,.t 12)]),.c 14 (.f 58) [.t 13],.v 9 14,.e 15 9 0,.e 16 9 1,.v 3 15,.v 4 16] (.seq (.reg (.v 17 4:: .v 18 17::aS [19,20,21,22] 18 true (.v 19 3:: .r 20 (.idx 1 (.t 19) (.i 0)):: .r 21 (.ld1 (.t 20)):: .c 22 (.f 36) [.t 21]::[]) (.r 23 (.pick (.t 18) (.t 22) (.b false)):: .v 2 23::[]))) .ret))))
theorem BZ:fits Tryz.prog 94 Tryz.f94 wv [.t 2] 1=true:=oK
def fr:(∀ (B:List UInt8) (x1:Int),{m:Option (Int×Bool)//∀ r,m=some r->ac Tryz.prog 95 [.str B,.int .i64 x1] (.tup [.int .i64 r.1,.bool r.2])})×(∀ (B:Int),{m:Option (Bool)//∀ r,m=some r->ac Tryz.prog 38 [.int .i64 B] (.bool r)})×(∀ (B:aa),{m:Option ((List UInt8))//∀ r,m=some r->ac Tryz.prog 92 [.agg (af B)] (.str r)})×(∀ (B:aa),{m:Option (Bool)//∀ r,m=some r->ac Tryz.prog 94 [.agg (af B)] (.bool r)}):=by
 refine⟨?g0, ?g1, ?g2, ?g3⟩
 case' g0=>(intro B x1;apply Subtype.mk;intro r Z;apply au Tryz.func95 D0;unfold x4)
 case' g1=>(intro B;apply Subtype.mk;intro r Z;apply au Tryz.func38 EN;unfold zA)
 case' g2=>(intro B;apply Subtype.mk;intro r Z;apply au Tryz.func92 D1;unfold x5)
 case' g3=>(intro B;apply Subtype.mk;intro r Z;apply au Tryz.func94 BZ;unfold wv)
 all_goals(repeat'(first|(with_reducible first|refine cE ?_|refine cm ?_|refine eG ?_|refine bR ?_|refine dL ?_|refine cn ?_|refine cF ?_|refine ee ?_|refine dy ?_)|(with_reducible apply ep Z);(iterate 2 (exact aj));intro _;rfl;intro e Z|(with_reducible apply uD Z);(iterate 2 (exact aj));intro e Z|(with_reducible apply wc Z);(iterate 3 (exact aj));intro _;rfl;intro e Z|(with_reducible apply jj);exact aj;(first|exact trivial)|((with_reducible apply ll Z);exact aj;rfl;intro v Z;rotate_left;intro v g Z)|((with_reducible apply sB Z);exact aj;rfl;intro v Z;rotate_left;intro v g Z)|(with_reducible apply lE Z);exact aj;(first|apply sV _|apply lT _|apply pQ _ _ _|apply AE _ _|apply ns _|apply kw _);(any_goals((repeat'(first|rfl|(with_reducible first|apply u_|apply zx|apply BA|apply uF)));done));intro x Z|((with_reducible apply bz Z);exact aj;intro Z;rotate_left;intro Z)|(with_reducible apply GU Z);exact lz;exact aD;exact cY|(with_reducible apply eH Z);exact lz;exact cY|(with_reducible apply eo Z);exact aj|fail))
def o4 (B:List UInt8) (x1:Int):Option (Int×Bool):=(fr.1 B x1).1
theorem vc (B:List UInt8) (x1:Int):∀ r,o4 B x1=some r->ac Tryz.prog 95 [.str B,.int .i64 x1] (.tup [.int .i64 r.1,.bool r.2]):=(fr.1 B x1).2
def qN (B:Int):Option (Bool):=(fr.2.1 B).1
theorem ww (B:Int):∀ r,qN B=some r->ac Tryz.prog 38 [.int .i64 B] (.bool r):=(fr.2.1 B).2
def uQ (B:aa):Option ((List UInt8)):=(fr.2.2.1 B).1
theorem B0 (B:aa):∀ r,uQ B=some r->ac Tryz.prog 92 [.agg (af B)] (.str r):=(fr.2.2.1 B).2
def tp (B:aa):Option (Bool):=(fr.2.2.2 B).1
theorem AF (B:aa):∀ r,tp B=some r->ac Tryz.prog 94 [.agg (af B)] (.bool r):=(fr.2.2.2 B).2
def wx:SC:=(.sq [.r 1 (.boxI (.t 0)),.r 2 (.mv (.b false))] (.sq [.a 10 2 1,.c 11 (.f 58) [.t 10],.v 9 11,.e 12 9 0,.e 13 9 1,.v 3 12,.v 4 13] (.seq (.seq (.reg (.v 14 4:: .r 15 (.not (.t 14)):: .v 16 15::aS [17,18,19] 16 false (.v 17 3:: .h 18 17:: .j 19 .eql 18 0::[]) (.r 20 (.pick (.t 16) (.b true) (.t 19)):: .v 21 20::aS [22,23,24,25,26] 21 false (.v 22 3:: .r 23 (.idx 1 (.t 22) (.i 0)):: .r 24 (.ld1 (.t 23)):: .c 25 (.f 36) [.t 24]:: .r 26 (.not (.t 25))::[]) (.r 27 (.pick (.t 21) (.b true) (.t 26))::[])))) (.cond (.t 27) (.sq [.r 2 (.mv (.b false))] .ret) .skip)) (.seq (.sq [.f 28 0 1,.l 29 28] (.block 0 (.sq [.r 31 (.bin .eql (.t 29) (.c (.d (.str [71,72,68])))),.v 30 31] (.cond (.t 30) (.seq (.reg (.v 32 3:: .h 33 32:: .j 34 .eql 33 2:: .v 35 34::aS [36,37,38,39] 35 true (.v 36 3:: .r 37 (.idx 1 (.t 36) (.i 1)):: .r 38 (.ld1 (.t 37)):: .c 39 (.f 37) [.t 38]::[]) (.r 40 (.pick (.t 35) (.t 39) (.b false)):: .v 2 40::[]))) .ret) (.sq [.r 42 (.bin .eql (.t 29) (.c (.d (.str [77,72,68])))),.v 41 42] (.cond (.t 41) (.seq (.reg (.v 43 3:: .h 44 43:: .j 45 .eql 44 3:: .v 46 45::aS [47,48,49,50] 46 true (.v 47 3:: .r 48 (.idx 1 (.t 47) (.i 1)):: .r 49 (.ld1 (.t 48)):: .c 50 (.f 37) [.t 49]::[]) (.r 51 (.pick (.t 46) (.t 50) (.b false)):: .v 52 51::aS [53,54,55,56] 52 true (.v 53 3:: .r 54 (.idx 1 (.t 53) (.i 2)):: .r 55 (.ld1 (.t 54)):: .c 56 (.f 37) [.t 55]::[]) (.r 57 (.pick (.t 52) (.t 56) (.b false)):: .v 2 57::[])))) .ret) .skip)))))) (.seq (.seq (.reg (.v 58 3:: .h 59 58:: .j 60 .neq 59 6:: .v 61 60::aS [62,63,64,65,66] 61 false (.v 62 3:: .r 63 (.idx 1 (.t 62) (.i 1)):: .r 64 (.ld1 (.t 63)):: .c 65 (.f 37) [.t 64]:: .r 66 (.not (.t 65))::[]) (.r 67 (.pick (.t 61) (.b true) (.t 66)):: .v 68 67::aS [69,70,71,72,73] 68 false (.v 69 3:: .r 70 (.idx 1 (.t 69) (.i 2)):: .r 71 (.ld1 (.t 70)):: .c 72 (.f 37) [.t 71]:: .r 73 (.not (.t 72))::[]) (.r 74 (.pick (.t 68) (.b true) (.t 73)):: .v 75 74::aS [76,77,78,79,80,81,82,83,84,85] 75 false (.v 76 3:: .r 77 (.idx 1 (.t 76) (.i 5)):: .r 78 (.ld1 (.t 77)):: .r 79 (.bin .neq (.t 78) (.c (.d (.str [])))):: .v 80 79::aS [81,82,83,84] 80 true (.v 81 3:: .r 82 (.idx 1 (.t 81) (.i 5)):: .r 83 (.ld1 (.t 82)):: .r 84 (.bin .neq (.t 83) (.c (.d (.str [49]))))::[]) (.r 85 (.pick (.t 80) (.t 84) (.b false))::[])) (.r 86 (.pick (.t 75) (.b true) (.t 85))::[]))))) (.cond (.t 86) (.sq [.r 2 (.mv (.b false))] .ret) .skip)) (.sq [.v 88 3,.r 89 (.idx 1 (.t 88) (.i 3)),.l 90 89,.c 91 (.f 95) [.t 90,.c (.d (.int .i64 9))],.v 87 91,.e 92 87 0,.e 93 87 1,.v 5 92,.v 6 93] (.sq [.v 95 3,.r 96 (.idx 1 (.t 95) (.i 4)),.l 97 96,.c 98 (.f 95) [.t 97,.c (.d (.int .i64 9))],.v 94 98,.e 99 94 0,.e 100 94 1,.v 7 99,.v 8 100] (.seq (.reg (.v 101 6:: .v 102 101::aS [103] 102 true (.v 103 8::[]) (.r 104 (.pick (.t 102) (.t 103) (.b false)):: .v 105 104::aS [106,107] 105 true (.v 106 5:: .c 107 (.f 38) [.t 106]::[]) (.r 108 (.pick (.t 105) (.t 107) (.b false)):: .v 109 108::aS [110,111,112] 109 true (.v 110 7:: .c 111 (.f 39) [.t 110,.c (.d (.int .i64 0)),.c (.d (.int .i64 86399))]:: .r 112 (.not (.t 111))::[]) (.r 113 (.pick (.t 109) (.t 112) (.b false)):: .v 2 113::[]))))) .ret))))))))
theorem B1:fits Tryz.prog 93 Tryz.f93 wx [.t 2] 1=true:=oK
def wy:(∀ (B:aa),{m:Option (Bool)//∀ r,m=some r->ac Tryz.prog 93 [.agg (af B)] (.bool r)}):=by
 (intro B;apply Subtype.mk;intro r Z;apply au Tryz.func93 B1;unfold wx)
 repeat'(first|(with_reducible first|refine cE ?_|refine cm ?_|refine bu ?_|refine bR ?_|refine dL ?_|refine cn ?_|refine cF ?_|refine ee ?_|refine bC ?_|refine dq ?_|refine dy ?_)|(with_reducible apply ep Z);(iterate 2 (exact aj));intro _;rfl;intro e Z|(with_reducible apply jj);exact aj;(first|exact trivial)|((with_reducible apply ll Z);exact aj;rfl;intro v Z;rotate_left;intro v g Z)|((with_reducible apply sB Z);exact aj;rfl;intro v Z;rotate_left;intro v g Z)|(with_reducible apply lE Z);exact aj;(first|apply ns _|apply kw _|apply nu _|apply vc _ _|apply ww _|apply pQ _ _ _);(any_goals(exact nJ));intro x Z|((with_reducible apply bz Z);exact aj;intro Z;rotate_left;intro Z)|(with_reducible apply eH Z);exact lz;exact cY|(with_reducible apply eo Z);exact aj|fail)
def tq (B:aa):Option (Bool):=(wy B).1
theorem AG (B:aa):∀ r,tq B=some r->ac Tryz.prog 93 [.agg (af B)] (.bool r):=(wy B).2
end
