/-
  Texts of mine, one behind the other (SYGP, SYGC, SYGD, SYGE, SYGF, SYGJ, SYGQ, SYGL, SYGM, SYRowM, SYGW, SYPM, SYE1, SYQ1, SYQ2, SYQ3, SYQ4, SYGR, SYY1, SYY2, SYY7, SYY8, SYY9, SYY10, SYKS, SYKSG, SYK1, SYK2a, SYI1, SYUIM).
-/
import Derived.Test.YtgmnipfafmphaaaGreatDoorBY1
import Derived.Test.YtgmnipfafmphaaaGreatDoorBY2
import Derived.Test.YtgmnipfafmphaaaGreatDoorBY3
import Derived.Test.YtgmnipfafmphaaaGreatDoorBY4
import Derived.Test.YtgmnipfafmphaaaGreatDoorBY5
import Derived.Test.YtgmnipfafmphaaaGreatDoorSYEngZz
import Derived.Test.YtgmnipfafmphaaaGreatDoorProg
import Derived.Test.YtgmnipfafmphaaaGreatDoorSYEngRq
import Derived.Test.YtgmnipfafmphaaaGreatDoorSYEngRi
import Derived.Test.YtgmnipfafmphaaaGreatDoorSYEngRj
import Derived.Test.YtgmnipfafmphaaaGreatDoorSYEngRo
import Derived.Test.YtgmnipfafmphaaaGreatDoorCards
import Derived.Test.YtgmnipfafmphaaaGreatDoorTie
import Derived.Test.YtgmnipfafmphaaaGreatDoorSYEngRn
import Derived.Test.YtgmnipfafmphaaaGreatDoorSYEngR
import Derived.Test.YtgmnipfafmphaaaGreatDoorSYPL
import Derived.Test.YtgmnipfafmphaaaGreatDoorSYEngN
import Derived.Lib.ItoaLen
namespace Go.Proofs.YtgmnipfafmphaaaGreatDoor
open Go.RowKit
set_option linter.unusedSimpArgs false
set_option linter.unusedVariables false
noncomputable section
set_option maxRecDepth 100000
set_option maxHeartbeats 40000000
def tB:SC:=(.sq [.w 4 (.boxM (.c (.agg [.d (.str []),.d (.str []),.d (.str []),.d (.int .i64 0),.d (.int .i64 0),.d (.bool false),.nils]))),.w 5 (.boxM (.c (.agg [.d (.int .u8 0),.d (.int .u8 0),.d (.int .u8 0),.d (.int .u8 0),.d (.int .u8 0)]))),.r 6 (.mv (.b false)),.r 7 (.mv (.i 0)),.r 8 (.mv (.i 0))] (.sq [.r 9 (.build [.d (.str []),.d (.str []),.d (.str []),.d (.int .i64 0),.d (.int .i64 0),.d (.bool false),.nils] []),.r 10 (.build [.d (.int .u8 0),.d (.int .u8 0),.d (.int .u8 0),.d (.int .u8 0),.d (.int .u8 0)] []),.v 11 0,.v 12 1,.s 7 4 9,.s 5 5 10,.r 6 (.mv (.b false)),.v 7 11,.v 8 12] .ret))
theorem zj:fits Tryz.prog 23 Tryz.f23 tB [.cell 4 7,.cell 5 5,.t 6,.t 7,.t 8] 2=true:=oK
def tC:SC:=(.sq [.r 4 (.mv (.i 0))] (.seq (.sq [.v 5 0,.l 6 1,.n 7 6,.f 8 8 7,.l 9 8,.h 10 9,.k 11 .lss 5 10] (.cond (.t 11) (.sq [.l 12 1,.n 13 12,.f 14 8 13,.l 15 14,.v 16 0,.y 17 1 15 16,.l 18 17,.j 19 .add 18 8,.v 4 19] .ret) .skip)) (.sq [.l 20 2,.h 21 20,.v 4 21] .ret)))
theorem zk:fits Tryz.prog 26 Tryz.f26 tC [.t 4] 3=true:=oK
def kZ:(∀ (B:Int) (x1:Int),{m:Option (ax×ab×Bool×Int×Int)//∀ r,m=some r->ac Tryz.prog 23 [.int .i64 B,.int .i64 x1] (.tup [.agg (al r.1),.agg (aq r.2.1),.bool r.2.2.1,.int .i64 r.2.2.2.1,.int .i64 r.2.2.2.2])})×(∀ (B:Int) (f:Option aF) (y1:List UInt8),{m:Option (Int)//∀ r,m=some r->ac Tryz.prog 26 [.int .i64 B,.ptr [rn aP f],.ptr ((fA cP) y1)] (.int .i64 r)}):=by
 refine⟨?g0, ?g1⟩
 case' g0=>(intro B x1;apply Subtype.mk;intro r Z;apply av Tryz.func23 zj;unfold tB)
 case' g1=>(intro B f y1;apply Subtype.mk;intro r Z;apply av Tryz.func26 zk;unfold tC)
 all_goals(repeat'(first|with_reducible refine cC ?_|with_reducible refine cv ?_|with_reducible refine b5 ?_|with_reducible refine d9 ?_|with_reducible refine cw ?_|with_reducible refine cE ?_|with_reducible refine dF ?_|with_reducible refine dT ?_|((with_reducible apply fp Z);(iterate 2 (simp only[push_cast,seval];rfl));(intro _;rfl);intro e Z)|((with_reducible apply Io Z);(simp only[push_cast,seval];rfl);intro a Z)|((with_reducible apply iC);(simp only[push_cast,seval];rfl);(first|exact trivial))|((with_reducible apply uB);(simp only[push_cast,seval];rfl);(first|exact trivial))|((with_reducible apply bv Z);(simp only[push_cast,seval];rfl);intro Z;rotate_left;intro Z)|((with_reducible apply LJ Z);(focus(simp only[dE,im,RV.get,push_cast,seval];rfl));(focus(first|(dsimp only;done)));(focus((repeat'(first|rfl|(with_reducible first|apply ny|apply mV|apply Db|apply A1|apply eb|apply lI|apply ec)|(with_reducible apply rk;decide)));done)))|((with_reducible apply eS Z);(focus(simp only[dE,im,RV.get,push_cast,seval];rfl));(focus((repeat'(first|rfl));done)))))
def px (B x1:Int):Option (ax×ab×Bool×Int×Int):=(kZ.1 B x1).1
theorem xX (B x1:Int):∀ r,px B x1=some r->ac Tryz.prog 23 [.int .i64 B,.int .i64 x1] (.tup [.agg (al r.1),.agg (aq r.2.1),.bool r.2.2.1,.int .i64 r.2.2.2.1,.int .i64 r.2.2.2.2]):=(kZ.1 B x1).2
def py (B:Int) (f:Option aF) (y1:List UInt8):Option (Int):=(kZ.2 B f y1).1
theorem xY (B:Int) (f:Option aF) (y1:List UInt8):∀ r,py B f y1=some r->ac Tryz.prog 26 [.int .i64 B,.ptr [rn aP f],.ptr ((fA cP) y1)] (.int .i64 r):=(kZ.2 B f y1).2
def mS:SC:=(.reg [.r 75 (.mkfn 26 [.t 11,.t 1]),.v 12 75])
def np:SC:=(.sq [.k 117 .lss 116 115] (.seq (.cond (.t 117) .skip (.exit 0)) (.seq (.block 1 (.sq [.v 118 116,.y 119 2 114 116,.a 120 2 119,.w 15 (.boxM (.c (.agg [.d (.str []),.nils]))),.v 14 118,.s 2 15 120] (.sq [.f 121 0 15,.l 122 121,.r 123 (.bin .eql (.t 122) (.c (.d (.str [73,72,68]))))] (.cond (.t 123) (.sq [.v 124 7,.v 125 12,.v 126 14,.j 127 .add 126 1,.c 128 (.t 125) [.t 127],.c 129 (.t 124) [.t 128,.c (.d (.int .i64 3))],.e 130 129 0,.e 131 129 1,.e 132 129 2,.e 133 129 3,.e 134 129 4,.s 7 2 130,.s 5 3 131,.v 4 132,.v 5 133,.v 6 134] .ret) .skip)))) (.reg [.j 135 .add 116 1,.v 116 135]))))
def rP:SC:= .block 0 (.loop np)
def wJ:SC:=(.sq [.r 1 (.boxI (.t 0)),.w 2 (.boxM (.c (.agg [.d (.str []),.d (.str []),.d (.str []),.d (.int .i64 0),.d (.int .i64 0),.d (.bool false),.nils]))),.w 3 (.boxM (.c (.agg [.d (.int .u8 0),.d (.int .u8 0),.d (.int .u8 0),.d (.int .u8 0),.d (.int .u8 0)]))),.r 4 (.mv (.b false)),.r 5 (.mv (.i 0)),.r 6 (.mv (.i 0))] (.sq [.r 7 (.mv (.f 23))] (.sq [.l 19 1,.c 20 (.f 24) [.t 19],.v 18 20,.e 21 18 0,.e 22 18 1,.e 23 18 2,.w 8 (.boxM (.c (.agg [.d (.int .u8 0),.d (.int .u8 0),.d (.int .u8 0),.d (.int .u8 0),.d (.int .u8 0)]))),.s 5 8 21,.v 9 22,.v 10 23] (.seq (.sq [.v 24 10,.j 25 .neq 24 0] (.cond (.t 25) (.sq [.v 26 7,.v 27 9,.v 28 10,.c 29 (.t 26) [.t 27,.t 28],.e 30 29 0,.e 31 29 1,.e 32 29 2,.e 33 29 3,.e 34 29 4,.s 7 2 30,.s 5 3 31,.v 4 32,.v 5 33,.v 6 34] .ret) .skip)) (.seq (.sq [.l 35 1,.h 36 35,.j 37 .gtr 36 500000] (.cond (.t 37) (.sq [.v 38 7,.c 39 (.t 38) [.c (.d (.int .i64 0)),.c (.d (.int .i64 2))],.e 40 39 0,.e 41 39 1,.e 42 39 2,.e 43 39 3,.e 44 39 4,.s 7 2 40,.s 5 3 41,.v 4 42,.v 5 43,.v 6 44] .ret) .skip)) (.seq (.regE [.r 46 (.ld1 (.t 1)),.r 47 (.slc 1 (.t 46) (some (.i 8)) none),.r 48 (.ldA 5 (.t 8)),.c 49 (.f 25) [.t 47,.t 48],.v 45 49,.e 50 45 0,.e 51 45 1,.e 52 45 2,.x 11 (.boxM (.c (.d (.raw (.pointer none))))) [(0,46,.ld1 (.t 1)),(1,47,.slc 1 (.t 46) (some (.i 8)) none),(2,48,.ldA 5 (.t 8)),(3,49,.cl 49 [47,48]),(4,45,.mv (.t 49)),(5,50,.ext (.t 45) 0),(6,51,.ext (.t 45) 1),(7,52,.ext (.t 45) 2)],.x 0 (.st 1 (.t 11) (.t 50)) [(6,51,.ext (.t 45) 1),(7,52,.ext (.t 45) 2)],.v 9 51,.v 10 52]) (.seq (.sq [.v 53 10,.j 54 .eql 53 10] (.cond (.t 54) (.sq [.v 55 7,.v 56 9,.j 57 .add 56 8,.v 58 10,.c 59 (.t 55) [.t 57,.t 58],.e 60 59 0,.e 61 59 1,.e 62 59 2,.e 63 59 3,.e 64 59 4,.s 7 2 60,.s 5 3 61,.v 4 62,.v 5 63,.v 6 64] .ret) .skip)) (.seq (.sq [.v 65 10,.j 66 .neq 65 0] (.cond (.t 66) (.sq [.v 67 7,.v 68 10,.c 69 (.t 67) [.c (.d (.int .i64 0)),.t 68],.e 70 69 0,.e 71 69 1,.e 72 69 2,.e 73 69 3,.e 74 69 4,.s 7 2 70,.s 5 3 71,.v 4 72,.v 5 73,.v 6 74] .ret) .skip)) (.seq mS (.seq (.sq [.l 76 11,.n 77 76,.f 78 7 77,.l 79 78,.c 80 (.f 21) [.t 79],.v 13 80] (.sq [.v 81 13,.h 82 81,.j 83 .gtr 82 0] (.cond (.t 83) (.sq [.v 84 7,.v 85 12,.v 86 13,.r 87 (.idx 2 (.t 86) (.i 0)),.f 88 1 87,.l 89 88,.c 90 (.t 85) [.t 89],.c 91 (.t 84) [.t 90,.c (.d (.int .i64 3))],.e 92 91 0,.e 93 91 1,.e 94 91 2,.e 95 91 3,.e 96 91 4,.s 7 2 92,.s 5 3 93,.v 4 94,.v 5 95,.v 6 96] .ret) .skip))) (.seq (.sq [.l 97 11,.n 98 97,.f 99 7 98,.l 100 99,.h 101 100,.j 102 .eql 101 0] (.cond (.t 102) (.sq [.v 103 7,.c 104 (.t 103) [.c (.d (.int .i64 0)),.c (.d (.int .i64 9))],.e 105 104 0,.e 106 104 1,.e 107 104 2,.e 108 104 3,.e 109 104 4,.s 7 2 105,.s 5 3 106,.v 4 107,.v 5 108,.v 6 109] .ret) .skip)) (.seq (.sq [.l 110 11,.n 111 110,.f 112 7 111,.l 113 112,.r 114 (.slc 2 (.t 113) (some (.i 1)) none),.h 115 114,.r 116 (.mv (.i 0))] rP) (.sq [.l 136 11,.n 137 136,.f 138 7 137,.l 139 138,.c 140 (.f 27) [.t 139],.w 16 (.boxM (.c (.agg [.d (.str []),.d (.str []),.d (.str []),.d (.int .i64 0),.d (.int .i64 0),.d (.bool false),.nils]))),.s 7 16 140] (.seq (.sq [.a 141 7 16,.c 142 (.f 17) [.t 141],.v 17 142] (.sq [.v 143 17,.j 144 .neq 143 0] (.cond (.t 144) (.sq [.v 145 7,.v 146 17,.c 147 (.t 145) [.c (.d (.int .i64 0)),.t 146],.e 148 147 0,.e 149 147 1,.e 150 147 2,.e 151 147 3,.e 152 147 4,.s 7 2 148,.s 5 3 149,.v 4 150,.v 5 151,.v 6 152] .ret) .skip))) (.seq (.regE [.r 153 (.ldA 7 (.t 16)),.r 154 (.ldA 5 (.t 8)),.r 155 (.ld1 (.t 11)),.n 156 155,.f 157 9 156,.r 158 (.ld1 (.t 157)),.x 0 (.st 7 (.t 2) (.t 153)) [(1,154,.ldA 5 (.t 8)),(2,155,.ld1 (.t 11)),(3,156,.nilc (.t 155)),(4,157,.fld 9 (.t 156)),(5,158,.ld1 (.t 157))],.x 0 (.st 5 (.t 3) (.t 154)) [(2,155,.ld1 (.t 11)),(3,156,.nilc (.t 155)),(4,157,.fld 9 (.t 156)),(5,158,.ld1 (.t 157))],.v 4 158,.r 5 (.mv (.i 0)),.r 6 (.mv (.i 0))]) .ret)))))))))))))))
theorem Cn:fits Tryz.prog 12 Tryz.f12 wJ [.cell 2 7,.cell 3 5,.t 4,.t 5,.t 6] 1=true:=oK
def f6:(∀ (B:List UInt8),{m:Option (ax×ab×Bool×Int×Int)//∀ r,m=some r->ac Tryz.prog 12 [.slice (List.map cP B)] (.tup [.agg (al r.1),.agg (aq r.2.1),.bool r.2.2.1,.int .i64 r.2.2.2.1,.int .i64 r.2.2.2.2])}):=by
 (intro B;apply Subtype.mk;intro r Z;apply av Tryz.func12 Cn;unfold wJ)
 repeat'(first|((apply P2 (x:=mS) (id:=11) (d:=11));(focus(simp only[push_cast,seval];(try rfl);done));(focus(simp only[push_cast,seval];(try rfl);done));(focus(simp only[push_cast,seval];(try rfl);done));unfold mS)|with_reducible refine cC ?_|with_reducible refine cv ?_|with_reducible refine jH ?_|with_reducible refine bn ?_|with_reducible refine b5 ?_|with_reducible refine d9 ?_|with_reducible refine cN ?_|with_reducible refine cw ?_|with_reducible refine cE ?_|with_reducible refine cO ?_|with_reducible refine dF ?_|with_reducible refine bD ?_|with_reducible refine cR ?_|with_reducible refine dT ?_|((with_reducible apply fp Z);(iterate 2 (simp only[push_cast,seval];rfl));(intro _;rfl);intro e Z)|((with_reducible apply NR Z);(iterate 3 (simp only[push_cast,seval];rfl));(intro _;rfl);intro e he Z)|((with_reducible apply L6 Z);(simp only[push_cast,seval];rfl);intro a ha Z)|((with_reducible apply iC);(simp only[push_cast,seval];rfl);(first|exact trivial))|((with_reducible apply j0 Z);(simp only[push_cast,seval];rfl);(first|apply rU _|apply B6 _ _|apply zg _|apply p9 _|apply jf _);(any_goals((repeat'(first|rfl));done));intro x Z)|((with_reducible apply FS Z);(iterate 2 (simp only[push_cast,seval];rfl));(focus(first|exact xX _ _|exact xY _ _ _));intro x Z)|((with_reducible apply uB);(simp only[push_cast,seval];rfl);(first|exact trivial))|((with_reducible apply B2);(simp only[push_cast,seval];rfl);(first|exact trivial);(focus((repeat'(first|exact bV|((with_reducible apply L7);(focus(simp only[push_cast,seval];rfl));(focus assumption);(focus(first|(simp only[push_cast,seval];done))))|((with_reducible apply NS);(focus(simp only[push_cast,seval];rfl));(focus(simp only[push_cast,seval];rfl));(focus(simp only[push_cast,seval];rfl));(focus(intro _;rfl));(focus(simp only[push_cast,seval];rfl));(focus assumption))|((with_reducible apply cn);(focus(simp only[push_cast,seval];rfl));(focus(first|exact trivial));(focus(simp only[push_cast,seval])))));done)))|((with_reducible apply P3);(iterate 3 (simp only[push_cast,seval];rfl));(focus(first|decide));rfl;(focus((repeat'(first|exact bV|((with_reducible apply cn);(focus(simp only[push_cast,seval];rfl));(focus(first|exact trivial));(focus(simp only[push_cast,seval])))));done)))|((with_reducible apply bv Z);(simp only[push_cast,seval];rfl);intro Z;rotate_left;intro Z)|((with_reducible apply LJ Z);(focus(simp only[dE,im,RV.get,push_cast,seval];rfl));(focus(first|(dsimp only;done)));(focus((repeat'(first|rfl));done)))|((with_reducible apply cp Z);intro r Z)|((with_reducible apply eu Z);intro r Z)|((apply aA (b:=0) (X:=rP) (x:=np) rfl (fun(c:SV×Ch×SV×SV×SV×SV) (s:ax×ab×Int)=>st [(2,.ref 2 0),(3,.ref 3 0),(7,c.1),(8,.ref 8 0),(11,c.2.2.1),(12,c.2.2.2.1),(114,c.2.2.2.2.1),(115,c.2.2.2.2.2),(116,.d (.int .i64 s.2.2))] [(2,.box (dR (al s.1))),(3,.box (dR (aq s.2.1))),(8,c.2.1)]) (c:=(_,_,_,_,_,_)) (s0:=(_,_,_)) Z);(focus(first|(dsimp only;done)));(with_reducible refine cS.mk ?_ ?_))|((apply cr (s':=(_,_,_)) Z);(focus(first|(dsimp only;done))))|((apply ew (s':=(_,_,_)) Z);(focus(first|(dsimp only;done))))|(((with_reducible apply iv Z);intro r Z))|(((with_reducible apply fe.of);(focus(first|(dsimp only;done)));(focus((intro _;repeat'(first|with_reducible exact ea|with_reducible refine b_ ?_))));(intro s o Z;first|unfold np);rotate_left;intro s Z))|(((apply bH;(repeat'(first|with_reducible exact aR|with_reducible exact aS|with_reducible apply aK|with_reducible apply be|((with_reducible apply aV);(focus(first|(simp only[push_cast,seval];rfl)|rfl));(focus((repeat'(first|rfl|(with_reducible first|apply Rg)|(with_reducible apply rk;decide)));done)))|((with_reducible apply Ij);(focus(first|rfl));(focus(first|(simp only[push_cast,seval];rfl)));(focus((repeat'(first|(with_reducible first|apply eb|apply ec)));done)))|((with_reducible apply cZ);(focus(first|(simp only[push_cast,seval];rfl)));(first|with_reducible exact aN rfl|with_reducible apply sO))|(with_reducible first|apply uo|apply cL)));done))))
def f8 (B:List UInt8):Option (ax×ab×Bool×Int×Int):=(f6 B).1
theorem Bo (B:List UInt8):∀ r,f8 B=some r->ac Tryz.prog 12 [.slice (List.map cP B)] (.tup [.agg (al r.1),.agg (aq r.2.1),.bool r.2.2.1,.int .i64 r.2.2.2.1,.int .i64 r.2.2.2.2]):=(f6 B).2
end
structure mn where
 fheaded:Bool
 fref:List UInt8
 fmany:Int
 frefs:List (List UInt8)
 deriving DecidableEq
structure pw where
 flevels:List mn
 fnotes:List ah
 deriving DecidableEq





def ka:SC:=(.sq [.r 0 (.mv (.b false))] (.sq [.r 4 (.build [.d (.int .u8 0),.d (.int .u8 0),.d (.int .u8 0),.d (.int .u8 0),.d (.int .u8 0)] [(0,1,.c (.d (.int .u8 42))),(1,1,.c (.d (.int .u8 58))),(2,1,.c (.d (.int .u8 94))),(3,1,.c (.d (.int .u8 63))),(4,1,.c (.d (.int .u8 126)))]),.c 5 (.f 19) [.t 4],.v 3 5,.e 6 3 0,.e 7 3 1,.v 1 6,.v 2 7] (.seq (.reg (.v 8 2:: .j 9 .eql 8 0:: .v 10 9::bK [11,12,13] 10 true (.v 11 1:: .r 12 (.cvbs (.t 11)):: .r 13 (.bin .eql (.t 12) (.c (.d (.str [77,82,75,42,58,94,63,126]))))::[]) (.r 14 (.pick (.t 10) (.t 13) (.b false)):: .v 0 14::[]))) .ret)))
theorem oU:fits Tryz.prog 7 Tryz.f7 ka [.t 0] 0=true:=oK
set_option maxRecDepth 100000 in
set_option maxHeartbeats 40000000 in
noncomputable def tA:({m:Option (Bool)//∀ r,m=some r->ac Tryz.prog 7 [] (.bool r)}):=by
 (apply Subtype.mk;intro r Z;apply av Tryz.func7 oU;unfold ka)
 repeat'(first|with_reducible refine cC ?_|with_reducible refine cv ?_|with_reducible refine d9 ?_|with_reducible refine cw ?_|with_reducible refine cE ?_|((with_reducible apply Es);(simp only[push_cast,seval];rfl))|((with_reducible apply iC);(simp only[push_cast,seval];rfl);(first|exact trivial))|((with_reducible apply nx Z);(simp only[push_cast,seval];rfl);rfl;intro v Z;rotate_left;intro v g Z)|((with_reducible apply j0 Z);(simp only[push_cast,seval];rfl);(first|apply wP _);(any_goals((repeat'(first|rfl|(with_reducible first|apply mV|apply A1|apply lI)|(with_reducible apply rk;decide)));done));intro x Z)|((with_reducible apply eS Z);(focus(simp only[dE,im,RV.get,push_cast,seval];rfl));(focus((repeat'(first|rfl));done)))|((with_reducible apply fL Z);(simp only[push_cast,seval];rfl)))
noncomputable def il:Option (Bool):=(tA).1
theorem oz:∀ r,il=some r->ac Tryz.prog 7 [] (.bool r):=(tA).2
def fR:SC:=(.sq [.r 4 (.boxI (.t 0)),.r 5 (.boxI (.t 1)),.r 8 (.mv (.b false))] (.sq [.v 19 3,.c 20 (.f 12) [.t 19],.v 18 20,.e 21 18 0,.e 22 18 1,.e 23 18 2,.e 24 18 3,.e 25 18 4,.w 9 (.boxM (.c (.agg [.d (.str []),.d (.str []),.d (.str []),.d (.int .i64 0),.d (.int .i64 0),.d (.bool false),.nils]))),.w 10 (.boxM (.c (.agg [.d (.int .u8 0),.d (.int .u8 0),.d (.int .u8 0),.d (.int .u8 0),.d (.int .u8 0)]))),.s 7 9 21,.s 5 10 22,.v 11 23,.v 12 24,.v 13 25] (.seq (.sq [.v 26 13,.j 27 .eql 26 0] (.cond (.t 27) (.sq [.a 29 7 9,.a 30 5 10,.v 31 11,.c 32 (.f 15) [.t 29,.t 30,.t 31],.v 28 32,.e 33 28 0,.e 34 28 1,.v 14 33,.v 15 34] (.seq (.reg (.v 35 15:: .j 36 .neq 35 0:: .v 37 36::bK [38,39,40,41] 37 false (.v 38 3:: .v 39 14:: .c 40 (.f 16) [.t 38,.t 39]:: .r 41 (.not (.t 40))::[]) (.r 42 (.pick (.t 37) (.b true) (.t 41))::[]))) (.cond (.t 42) (.sq [.r 8 (.mv (.b false))] .ret) .skip))) .skip)) (.sq [.a 44 7 4,.a 45 5 5,.v 46 2,.c 47 (.f 15) [.t 44,.t 45,.t 46],.v 43 47,.e 48 43 0,.e 49 43 1,.v 16 48,.v 13 49] (.seq (.sq [.v 50 13,.j 51 .neq 50 0] (.cond (.t 51) (.seq (.reg (.v 52 16:: .h 53 52:: .j 54 .eql 53 0:: .v 55 54::bK [56] 55 true (.c 56 (.f 7) []::[]) (.r 57 (.pick (.t 55) (.t 56) (.b false)):: .v 8 57::[]))) .ret) .skip)) (.sq [.v 59 16,.c 60 (.f 12) [.t 59],.v 58 60,.e 61 58 0,.e 62 58 1,.e 63 58 2,.e 64 58 3,.e 65 58 4,.s 7 9 61,.s 5 10 62,.v 11 63,.v 17 64,.v 13 65] (.seq (.reg (.v 66 13:: .j 67 .eql 66 0:: .v 68 67::bK [69,70] 68 true (.v 69 17:: .j 70 .eql 69 0::[]) (.r 71 (.pick (.t 68) (.t 70) (.b false)):: .v 72 71::bK [73,74,75] 72 true (.r 73 (.ldA 5 (.t 10)):: .r 74 (.ldA 5 (.t 5)):: .r 75 (.eqs .eql [(.int .u8),(.int .u8),(.int .u8),(.int .u8),(.int .u8)] (.t 73) (.t 74))::[]) (.r 76 (.pick (.t 72) (.t 75) (.b false)):: .v 77 76::bK [78,79,80] 77 true (.v 78 11:: .v 79 2:: .r 80 (.binB .eql (.t 78) (.t 79))::[]) (.r 81 (.pick (.t 77) (.t 80) (.b false)):: .v 82 81::bK [83,84,85] 82 true (.r 83 (.ldA 7 (.t 4)):: .r 84 (.ldA 7 (.t 9)):: .c 85 (.f 14) [.t 83,.t 84]::[]) (.r 86 (.pick (.t 82) (.t 85) (.b false)):: .v 87 86::bK [88] 87 true (.c 88 (.f 7) []::[]) (.r 89 (.pick (.t 87) (.t 88) (.b false)):: .v 8 89::[]))))))) .ret)))))))
theorem jx:fits Tryz.prog 5 Tryz.f5 fR [.t 8] 4=true:=oK
set_option maxRecDepth 100000 in
set_option maxHeartbeats 40000000 in
noncomputable def kY:(∀ (B:ax) (x1:ab) (x2:Bool) (d:List UInt8),{m:Option (Bool)//∀ r,m=some r->ac Tryz.prog 5 [.agg (al B),.agg (aq x1),.bool x2,.slice (List.map cP d)] (.bool r)}):=by
 (intro B x1 x2 d;apply Subtype.mk;intro r Z;apply av Tryz.func5 jx;unfold fR)
 repeat'(first|with_reducible refine cC ?_|with_reducible refine cv ?_|with_reducible refine b5 ?_|with_reducible refine d9 ?_|with_reducible refine cw ?_|with_reducible refine cE ?_|with_reducible refine dF ?_|with_reducible refine dT ?_|((with_reducible apply iC);(simp only[push_cast,seval];rfl);(first|exact trivial))|((with_reducible apply nx Z);(simp only[push_cast,seval];rfl);rfl;intro v Z;rotate_left;intro v g Z)|((with_reducible apply rZ Z);(simp only[push_cast,seval];rfl);rfl;intro v Z;rotate_left;intro v g Z)|((with_reducible apply j0 Z);(simp only[push_cast,seval];rfl);(first|apply Bo _|apply Bg _ _ _|apply xP _ _|apply oz|apply jN _ _);(any_goals((repeat'(first|rfl));done));intro x Z)|((with_reducible apply uB);(simp only[push_cast,seval];rfl);(first|exact trivial))|((with_reducible apply bv Z);(simp only[push_cast,seval];rfl);intro Z;rotate_left;intro Z)|((with_reducible apply eS Z);(focus(simp only[dE,im,RV.get,push_cast,seval];rfl));(focus((repeat'(first|rfl));done)))|((with_reducible apply fL Z);(simp only[push_cast,seval];rfl)))
noncomputable def bf (B:ax) (x1:ab) (x2:Bool) (d:List UInt8):Option (Bool):=(kY B x1 x2 d).1
theorem jj (B:ax) (x1:ab) (x2:Bool) (d:List UInt8):∀ r,bf B x1 x2 d=some r->ac Tryz.prog 5 [.agg (al B),.agg (aq x1),.bool x2,.slice (List.map cP d)] (.bool r):=(kY B x1 x2 d).2
end Go.Proofs.YtgmnipfafmphaaaGreatDoor
namespace Go.Proofs.YtgmnipfafmphaaaGreatDoor
set_option maxRecDepth 100000
open Go.ChangeShapes Go.WideShapes Go.ChangeAt Go.RowKit
set_option linter.unusedSimpArgs false
set_option linter.unusedVariables false
variable {P:Program} {n:Nat} {t:TypeId} {α:Type} {H:α->List DV} {ok:α->Prop}
theorem RG {a b:Bool} (h1:a=true) (h2:b=true):(a&&b)=true:=by rw[h1,h2];rfl
def Wt (P:Program) (n:Nat) (t:TypeId) (H:α->List DV) (ok:α->Prop):Prop:=∀ m J,WT P (m+n) t J->∃ x,J=H x/\ok x
theorem Wt.up (h:Wt P n t H ok) (k:Nat):Wt P (n+k) t H ok:=fun m J hd=>h (m+k) J (by rwa[show m+k+n=m+(n+k) by omega])
def RH (n:Int):Prop:= -9223372036854775808<=n/\n<=9223372036854775807
def HE (s:List UInt8):Prop:=s.length<=9223372036854775807
def RU (_:Bool):Prop:=True
def OJ (_:UInt8):Prop:=True
def Gw (ok:α->Prop) (l:List α):Prop:=l.length<=9223372036854775807/\∀ a∈l,ok a
theorem n0 {O:Array Field} {J:List DV} (hu:P.underlying t=some (.struct O)) (h:WT P (n+1) t J):M1 (WT P n) O.toList J:=by
 simp only[WT,hu] at h;exact h
theorem QK (hu:P.underlying t=some (.int .i64)):Wt P 1 t l_ RH:=by
 intro m J h
 simp only[WT,hu] at h
 obtain⟨k,rfl,G⟩:=h
 refine⟨k,rfl, ?_⟩
 simp[Lit.wf] at G
 have e:IntKind.i64.min= -9223372036854775808:=by decide
 unfold RH;omega
theorem OK (hu:P.underlying t=some (.int .u8)):Wt P 1 t cP OJ:=by
 intro m J h
 simp only[WT,hu] at h
 obtain⟨k,rfl,G⟩:=h
 simp[Lit.wf] at G
 have e:IntKind.u8.min=0:=by decide
 have e2:IntKind.u8.max=255:=by decide
 refine⟨UInt8.ofNat k.toNat, ?_,trivial⟩
 have hk:0<=k/\k<=255:=by omega
 unfold cP
 rw[Ud (by show k.toNat<256;omega)]
 congr 2;omega
theorem OL (hu:P.underlying t=some .bool):Wt P 1 t y0 RU:=by
 intro m J h
 simp only[WT,hu] at h
 obtain⟨b,rfl⟩:=h
 exact⟨b,rfl,trivial⟩
theorem QL (hu:P.underlying t=some .string):Wt P 1 t cX HE:=by
 intro m J h
 simp only[WT,hu] at h
 obtain⟨b,rfl,hl⟩:=h
 exact⟨b,rfl,by unfold HE;unfold maxLen at hl;omega⟩
theorem oH {e:TypeId} (hu:P.underlying t=some (.slice e)) (he:Wt P n e H ok):Wt P (n+1) t (fA H) (Gw ok):=by
 intro m J h
 rw[show m+(n+1)=(m+n)+1 by omega] at h
 simp only[WT,hu] at h
 obtain⟨rows,rfl,hl,D⟩:=h
 have:∀ rows:List (List DV),(∀ r∈rows,WT P (m+n) e r)->∃ l:List α,rows=l.map H/\∀ a∈l,ok a:=by
  intro rows
  induction rows with
  |nil=>intro _;exact⟨[],rfl,by simp⟩
  |cons r rows ih=>
   intro h
   obtain⟨a,rfl,ha⟩:=he m r (h r oS)
   obtain⟨l,rfl,hl⟩:=ih (fun r D=>h r (by simp[D]))
   exact⟨a::l,rfl,by simpa using⟨ha,hl⟩⟩
 obtain⟨l,rfl,r5⟩:=this rows D
 exact⟨l,rfl,by unfold maxLen at hl;simp at hl;omega,r5⟩
theorem Sl:ownKnob Tryz.prog.godebug=none:=oK
theorem OM:laidOutB Tryz.prog=true:=oK
theorem M4:Wt Tryz.prog 1 9 cX HE:=QL Tryz.underlying9
theorem SG:Wt Tryz.prog 1 3 l_ RH:=QK Tryz.underlying3
theorem SH:Wt Tryz.prog 1 4 y0 RU:=OL Tryz.underlying4
theorem Sm:Wt Tryz.prog 2 34 (fA cX) (Gw HE):=oH Tryz.underlying34 M4
theorem Sn:Wt Tryz.prog 3 96 (fA (fA cX)) (Gw (Gw HE)):=oH Tryz.underlying96 Sm
def oI (x:aj):Prop:=(Gw (Gw HE)) x.fRepeats
theorem So:Wt Tryz.prog 4 98 az oI:=by
 intro m J h
 have h:=n0 Tryz.underlying98 h
 simp only[M1] at h
 obtain⟨a0,_,rfl,h0,rfl⟩:=h
 obtain⟨B,rfl,a⟩:=(Sn.up 0) m _ h0
 refine⟨⟨B⟩, ?_,a⟩
 simp only[az,l_,cP,cX,y0,fA,S6,Td,S8,Tg]
theorem Sp:Wt Tryz.prog 5 35 (fA az) (Gw oI):=oH Tryz.underlying35 So
def oJ (x:aa):Prop:=HE x.fTag/\(Gw oI) x.fElements
theorem Sq:Wt Tryz.prog 6 37 ae oJ:=by
 intro m J h
 have h:=n0 Tryz.underlying37 h
 simp only[M1] at h
 obtain⟨a0,_,rfl,h0,M,_,rfl,h1,rfl⟩:=h
 obtain⟨B,rfl,a⟩:=(M4.up 4) m _ h0
 obtain⟨x1,rfl,o1⟩:=(Sp.up 0) m _ h1
 refine⟨⟨B,x1⟩, ?_,a,o1⟩
 simp only[ae,l_,cP,cX,y0,fA,S6,Td,S8,Tg]
theorem Sr:Wt Tryz.prog 7 25 (fA ae) (Gw oJ):=oH Tryz.underlying25 Sq
def oN (x:aG):Prop:=HE x.fRef/\HE x.fKind/\HE x.fVersion/\(Gw oJ) x.fSegments
theorem Ss:Wt Tryz.prog 8 93 ao oN:=by
 intro m J h
 have h:=n0 Tryz.underlying93 h
 simp only[M1] at h
 obtain⟨a0,_,rfl,h0,M,_,rfl,h1,a2,_,rfl,h2,a3,_,rfl,E,rfl⟩:=h
 obtain⟨B,rfl,a⟩:=(M4.up 6) m _ h0
 obtain⟨x1,rfl,o1⟩:=(M4.up 6) m _ h1
 obtain⟨x2,rfl,o2⟩:=(M4.up 6) m _ h2
 obtain⟨d,rfl,o3⟩:=(Sr.up 0) m _ E
 refine⟨⟨B,x1,x2,d⟩, ?_,a,o1,o2,o3⟩
 simp only[ao,l_,cP,cX,y0,fA,S6,Td,S8,Tg]
theorem Su:Wt Tryz.prog 9 74 (fA ao) (Gw oN):=oH Tryz.underlying74 Ss
def rD (x:aT):Prop:=HE x.fRef/\HE x.fKind/\(Gw oN) x.fMessages
theorem Sv:Wt Tryz.prog 10 76 ay rD:=by
 intro m J h
 have h:=n0 Tryz.underlying76 h
 simp only[M1] at h
 obtain⟨a0,_,rfl,h0,M,_,rfl,h1,a2,_,rfl,h2,rfl⟩:=h
 obtain⟨B,rfl,a⟩:=(M4.up 8) m _ h0
 obtain⟨x1,rfl,o1⟩:=(M4.up 8) m _ h1
 obtain⟨x2,rfl,o2⟩:=(Su.up 0) m _ h2
 refine⟨⟨B,x1,x2⟩, ?_,a,o1,o2⟩
 simp only[ay,l_,cP,cX,y0,fA,S6,Td,S8,Tg]
theorem Sw:Wt Tryz.prog 11 22 (fA ay) (Gw rD):=oH Tryz.underlying22 Sv
def iz (x:ax):Prop:=HE x.fRef/\HE x.fSender/\HE x.fReceiver/\RH x.fDay/\RH x.fSecond/\RU x.fTest/\(Gw rD) x.fGroups
theorem Sx:Wt Tryz.prog 12 24 al iz:=by
 intro m J h
 have h:=n0 Tryz.underlying24 h
 simp only[M1] at h
 obtain⟨a0,_,rfl,h0,M,_,rfl,h1,a2,_,rfl,h2,a3,_,rfl,E,a4,_,rfl,h4,a5,_,rfl,h5,b,_,rfl,h6,rfl⟩:=h
 obtain⟨B,rfl,a⟩:=(M4.up 10) m _ h0
 obtain⟨x1,rfl,o1⟩:=(M4.up 10) m _ h1
 obtain⟨x2,rfl,o2⟩:=(M4.up 10) m _ h2
 obtain⟨d,rfl,o3⟩:=(SG.up 10) m _ E
 obtain⟨c,rfl,e⟩:=(SG.up 10) m _ h4
 obtain⟨f,rfl,g⟩:=(SH.up 10) m _ h5
 obtain⟨i,rfl,j⟩:=(Sw.up 0) m _ h6
 refine⟨⟨B,x1,x2,d,c,f,i⟩, ?_,a,o1,o2,o3,e,g,j⟩
 simp only[al,l_,cP,cX,y0,fA,S6,Td,S8,Tg]
theorem QT:Wt Tryz.prog 1 5 cP OJ:=OK Tryz.underlying5
def w_ (x:ab):Prop:=OJ x.fElement/\OJ x.fPart/\OJ x.fRepeat/\OJ x.fEscape/\OJ x.fEnd
theorem Sy:Wt Tryz.prog 2 43 aq w_:=by
 intro m J h
 have h:=n0 Tryz.underlying43 h
 simp only[M1] at h
 obtain⟨a0,_,rfl,h0,M,_,rfl,h1,a2,_,rfl,h2,a3,_,rfl,E,a4,_,rfl,h4,rfl⟩:=h
 obtain⟨B,rfl,a⟩:=(QT.up 0) m _ h0
 obtain⟨x1,rfl,o1⟩:=(QT.up 0) m _ h1
 obtain⟨x2,rfl,o2⟩:=(QT.up 0) m _ h2
 obtain⟨d,rfl,o3⟩:=(QT.up 0) m _ E
 obtain⟨c,rfl,e⟩:=(QT.up 0) m _ h4
 refine⟨⟨B,x1,x2,d,c⟩, ?_,a,o1,o2,o3,e⟩
 simp only[aq,l_,cP,cX,y0,fA,S6,Td,S8,Tg]
theorem Sz:Wt Tryz.prog 2 41 (fA cP) (Gw OJ):=oH Tryz.underlying41 QT
def uf:Nat->DataW Unit->List Value
 |0,_=>[]
 |_+1,.lit (.int k n)=>[.int k n]
 |n+1,.agg ps=>ps.flatMap (uf n)
 |_+1,_=>[]
def oO (l:List Value):Obj->Obj
 | .cells _ t frozen=> .cells l.toArray t frozen
 |o=>o
noncomputable def Gr:Nat:=(World.holding Tryz.prog default ⟨#[],#[],[]⟩).heap.size
noncomputable def yc (os:Os):World:=
 {World.holding Tryz.prog os ⟨#[],#[],[]⟩ with
  heap:=((((((((World.holding Tryz.prog os ⟨#[.cells #[.string ⟨#[118,97,108,117,101,32,111,117,116,32,111,102,32,114,97,110,103,101]⟩] 244,.cells #[.string ⟨#[105,110,118,97,108,105,100,32,115,121,110,116,97,120]⟩] 244],#[],[]⟩).heap.modify 6 (oO (uf 5 Rows.laid_math_bits_deBruijn32tab))).modify 7 (oO (uf 5 Rows.laid_math_bits_deBruijn64tab))).modify 3 (oO (uf 5 Rows.laid_internal_strconv_uint64pow10))).modify 5 (oO (uf 5 Rows.laid_unicode_utf8_acceptRanges))).modify 2 (oO [.iface 242 (.pointer (some ⟨Gr+0,0,none⟩))])).modify 1 (oO [.iface 242 (.pointer (some ⟨Gr+1,0,none⟩))])).modify 4 (oO (uf 5 Rows.laid_unicode_utf8_first)))}
end Go.Proofs.YtgmnipfafmphaaaGreatDoor

namespace Go.Proofs.YtgmnipfafmphaaaGreatDoor
open Go.RowKit
set_option linter.unusedSimpArgs false
set_option linter.unusedVariables false
variable {i:Nat} {α β:Type} {e:α} {l:List α}
theorem gH {t:List α} (hd:l.drop i=e::t):l[i]?=some e/\i<l.length/\l.drop (i+1)=t:=by
 refine⟨?_, ?_, ?_⟩
 ·have:=TX (fun q=>q[0]?) hd
  simpa using this
 ·rcases Ty i l.length with h|h
  ·exact h
  ·rw[Uo h] at hd;cases hd
 ·have:=TX List.tail hd
  simpa using this
theorem gU (hd:l.drop i=[]) (hi:i<=l.length):i=l.length:=by
 have:=TX List.length hd;simp at this;omega
theorem kb {T A:Type} (l:List α) (st:Nat->List α->T) {f:T->Option (T⊕A)} {a:A} (hb:∀ (i:Nat) (e:α),l[i]?=some e->f (st i (l.take i))=some (.inl (st (i+1) (l.take i++[e])))) (he:f (st l.length l)=some (.inr a)):bc f (st 0 [])=some a:=by
 have:=jm (f:=f) (a:=a) (fun i=>st i (l.take i)) l.length (fun i hi=>by
  obtain⟨e,h⟩:=eF hi
  show f (st i (l.take i))=some (.inl (st (i+1) (l.take (i+1))))
  rw[hb i e h,nW h]) (by
  show f (st l.length (l.take l.length))=_
  rw[UJ];exact he)
 simpa using this
def c7 {α β:Type} (f:Nat->α->List β):Nat->List α->List β
 |_,[]=>[]
 |i,x::l=>f i x++c7 f (i+1) l
theorem wQ {α β:Type} (f:Nat->α->List β):∀ (l l2:List α) (i:Nat),c7 f i (l++l2)=c7 f i l++c7 f (i+l.length) l2
 |[],l2,i=>by simp[c7]
 |x::l,l2,i=>by
  simp only[Td,c7,wQ f l l2 (i+1),S6,ST]
  rw[show i+1+l.length=i+(l.length+1) by omega]
theorem vD (f:Nat->α->List β) (l:List α) (e:α):c7 f 0 (l++[e])=c7 f 0 l++f l.length e:=by
 rw[wQ];simp[c7]
theorem Ds {α β:Type} {f:Nat->α->List β} {y:β}:∀ {l:List α} {i:Nat},y∈c7 f i l->∃ k e,l[k]?=some e/\y∈f (i+k) e
 |[],i,h=>by simp[c7] at h
 |x::l,i,h=>by
  simp only[c7,Te] at h
  rcases h with h|h
  ·exact⟨0,x,rfl,by simpa using h⟩
  ·obtain⟨k,e,h1,h2⟩:=Ds h
   exact⟨k+1,e,by simpa using h1,by rwa[show i+(k+1)=i+1+k by omega]⟩
theorem uc {α β:Type} {f:Nat->α->List β} {b:Nat}:∀ (l:List α) (i:Nat),(∀ i e,e∈l->(f i e).length<=b)->(c7 f i l).length<=l.length * b
 |[],_,_=>by simp[c7]
 |x::l,i,C=>by
  have h1:=C i x oS
  have h2:=uc l (i+1) (fun i e he=>C i e (by simp[he]))
  simp only[c7,SS,ST,T8,Nat.one_mul]
  omega
theorem qN (h:l[i]?=some e):(l.take i).length=i:=by
 obtain⟨hi, -⟩:=SY.1 h
 simp;omega
theorem cB (h:l[i]?=some e):i<l.length:=(SY.1 h).1
theorem nX {f:Nat->α->List β} {P:β->Prop} (h:∀ i e,e∈l->∀ y∈f i e,P y):∀ y∈c7 f i l,P y:=fun y hy=>by
 obtain⟨k,e,h1,h2⟩:=Ds hy
 exact h _ e (SW h1) y h2
theorem bU {R:Type} {n:Nat} {m:Option R} (h:n<=137438953472):mh (lG n) m=m:=BJ (IB h)
theorem wR {x:α} (h:x∈l.take i):x∈l:=Tv h
theorem Fg {α β R:Type} (l:List α) (g:List β) (f:α->List β) (B:Nat) (hB:(g++l.flatMap f).length<=B) {F:List β×Int->Option ((List β×Int)⊕((List β×Int)⊕R))} (K:List β×Int->Option R) (hb:∀ (i:Nat) e (out:List β),l[i]?=some e->out.length+(f e).length<=B->F (out,(i:Int))=some (.inl (out++f e,((i+1:Nat):Int)))) (he:∀ out,F (out,(l.length:Int))=some (.inr (.inl (out,(l.length:Int))))):
  (bc F (g,0)).bind (c3 K)=K (g++l.flatMap f,(l.length:Int)):=by
 refine co (a:= .inl (g++l.flatMap f,(l.length:Int))) ?_ rfl
 have h:=kb (f:=F) (a:= .inl (g++l.flatMap f,(l.length:Int))) l (fun i q=>(g++q.flatMap f,(i:Int))) (fun i e h=> ?_) (he _)
 ·simpa using h
 ·have I:(g++(l.take i).flatMap f).length+(f e).length<=B:=by
   have h1:l.flatMap f=(l.take i).flatMap f++(f e++(l.drop (i+1)).flatMap f):=by
    conv=>lhs;rw[<-Tl i l]
    rw[UV,T_ (cB h)]
    rw[Tu]
    have:l[i]'(cB h)=e:=by
     have:=S0 (cB h)
     rw[h] at this;exact(Uq this).symm
    rw[this]
   rw[h1] at hB
   simp only[SS] at hB⊢
   omega
  rw[hb i e _ h I]
  simp[S6]
theorem vT {α β:Type} {H:α->List DV} {f:α->List β}:∀ {l:List α},(∀ a∈l,(f a).length<=f_ (H a))->(l.flatMap f).length<=rY (l.map H)
 |[],_=>by simp
 |a::l,h=>by
  have h1:=h a oS
  have h2:=vT (l:=l) fun b hb=>h b (by simp[hb])
  simp only[Tu,SS,Tc,rY]
  omega
def PK (t:List UInt8):aj:=⟨[[t]]⟩
theorem zt (tag:List UInt8) (ts:List (List UInt8)) (h:ts.length<=1000):nf tag ts=some ⟨tag,ts.map PK⟩:=by
 unfold nf sZ;dsimp only
 refine co (a:= .inl (tag,ts.map PK,(ts.length:Int))) (kb ts (fun i q=>(tag,q.map PK,(i:Int))) (fun i e he=> ?_) ?_) rfl
 ·have hi:=cB he
  simp only[br hi,S4,aw,he,SQ,bB i oM]
  rw[bU oT,TY]
  rfl
 ·simp only[aB,S7];rfl
abbrev i64 (n:Int):Prop:= -9223372036854775808<=n/\n<=9223372036854775807
theorem DN {n:Int} (h:i64 n):l3 n=some (Lib.itoa n):=by unfold l3;rw[U4 h]
theorem tU {α β:Type} {f:α->List β}:∀ {l:List α} {i:Nat} {e:α},l[i]?=some e->(f e).length<=(l.flatMap f).length
 |[],i,e,h=>by simp at h
 |a::l,0,e,h=>by simp at h;subst h;simp
 |a::l,i+1,e,h=>by
  have:=tU (f:=f) (l:=l) (i:=i) (e:=e) (by simpa using h)
  simp only[Tu,SS];omega
def eG (b:UInt8):Bool:= !(decide ((b.toNat:Int)<33)||decide (126<(b.toNat:Int))||decide ((b.toNat:Int)=46)||decide ((b.toNat:Int)=45)||decide ((b.toNat:Int)=43)||decide ((b.toNat:Int)=95))&& !(decide (65<=(b.toNat:Int))&&decide ((b.toNat:Int)<=90)||decide (97<=(b.toNat:Int))&&decide ((b.toNat:Int)<=122)||decide (48<=(b.toNat:Int))&&decide ((b.toNat:Int)<=57))
theorem J0 {α R:Type} (l:List α) (h:α->Option R) {f:Int->Option (Int⊕(Int⊕R))} (hb:∀ (i:Nat) (e:α),l[i]?=some e->f (i:Int)=(match h e with|some a=>some (.inr (.inr a))|none=>some (.inl ((i+1:Nat):Int)))) (he:f (l.length:Int)=some (.inr (.inl (l.length:Int)))):bc f 0=some (match l.findSome? h with|some a=> .inr a|none=> .inl (l.length:Int)):=by
 have:∀ (t:List α) (i:Nat),l.drop i=t->i<=l.length->bc f (i:Int)=some (match t.findSome? h with|some a=> .inr a|none=> .inl (l.length:Int)):=by
  intro t
  induction t with
  |nil=>
   intro i hd hi
   have:i=l.length:=by have:=TX List.length hd;simp at this;omega
   subst this
   rw[b3,he]
   rfl
  |cons e t ih=>
   intro i hd hi
   have h1:l[i]?=some e:=by
    have:=TX (fun q=>q[0]?) hd
    simpa using this
   have h2:i<l.length:=by
    rcases Ty i l.length with h|h
    ·exact h
    ·rw[Uo h] at hd;cases hd
   have E:l.drop (i+1)=t:=by
    have:=TX List.tail hd
    simpa using this
   rw[b3,hb i e h1,U9]
   cases h e with
   |some a=>rfl
   |none=>exact ih (i+1) E h2
 exact this l 0 rfl (TK _)
theorem vE (l:List UInt8) (lo hi:UInt8) (hl:l.length<9223372036854775807):j1 l lo hi=some (match l.findSome? fun x=>if(decide ((x.toNat:Int)<(lo.toNat:Int))||decide ((hi.toNat:Int)<(x.toNat:Int)))=true then some false else none with|some b=>b|none=>true):=by
 unfold j1 f3;dsimp only
 refine co (J0 l (fun x=>if(decide ((x.toNat:Int)<(lo.toNat:Int))||decide ((hi.toNat:Int)<(x.toNat:Int)))=true then some false else none) (fun i e h=> ?_) ?_) ?_
 ·obtain⟨h5, -⟩:=SY.1 h
  simp only[br h5,S4,aw,h,SQ,bT,bB i oM]
  cases(decide ((e.toNat:Int)<(lo.toNat:Int))||decide ((hi.toNat:Int)<(e.toNat:Int)))<;>rfl
 ·simp only[aB,S7];rfl
 ·cases l.findSome? _<;>rfl
theorem J1 (b:UInt8) (h:b.toNat<128):(Utf8.encode (b.toNat:Int)).data.toList=[b]:=by
 have:∀ n:Fin 128,(Utf8.encode ((n.1:Nat):Int)).data.toList=[UInt8.ofNat n.1]:=by decide
 have:=this ⟨b.toNat,h⟩
 rw[this]
 simp
def tN:List UInt8:=[65,66,67,68,69,70,71,72,73,74,75,76,77,78,79,80,81,82,83,84,85,86,87,88,89,90,48,49,50,51,52,53,54,55,56,57]
theorem nK (l:List UInt8) (hl:l.length<=9223372036854775807):iE l=some (decide (Lib.trimS l tN=[])):=by
 unfold iE f3;dsimp only
 have:fx l tN=some (Lib.trimS l tN):=by unfold fx;rw[U4 ⟨hl,by decide,by decide⟩]
 simp only[tN] at this⊢
 rw[this]
 rfl
def Rw (b:UInt8):Bool:= !decide (Lib.trimS [b] tN=[])&& !(match[b].findSome? fun x=>if(decide ((x.toNat:Int)<97)||decide ((122:Int)<(x.toNat:Int)))=true then some false else none with|some b=>b|none=>true)&& !Lib.containsAny [b] [46,45,43,95]
theorem J5:(List.range 256).all (fun n=>decide (n<33)||decide (126<n)||(Rw (UInt8.ofNat n)==eG (UInt8.ofNat n)))=true:=oK
theorem QA (b:UInt8):lL b=some (eG b):=by
 unfold lL eL;dsimp only
 by_cases h:33<=b.toNat/\b.toNat<=126
 ·have hc:gy [b] [46,45,43,95]=some (Lib.containsAny [b] [46,45,43,95]):=by
   unfold gy
   rw[U4 ⟨by simp,by simp,by simp;omega,by decide⟩]
  have G:=Ti.1 J5 b.toNat (TN.2 b.toNat_lt)
  have hb:UInt8.ofNat b.toNat=b:=by simp
  rw[hb] at G
  have H:decide ((33:Int)<=(b.toNat:Int))=true:=by simp;omega
  have d2:decide ((b.toNat:Int)<=126)=true:=by simp;omega
  have q:decide (b.toNat<33)=false:=by simp;omega
  have a:decide (126<b.toNat)=false:=by simp;omega
  simp only[q,a,T7,S_] at G
  rw[<-G]
  simp only[J1 b oM,nK [b] oS,vE [b] _ _ oS,hc,cx,SQ,H,d2,T1]
  rfl
 ·have Z:eG b=false:=by
   unfold eG
   have:(decide ((b.toNat:Int)<33)||decide (126<(b.toNat:Int)))=true:=by simp;omega
   rw[this]
   simp
  have d:(decide ((33:Int)<=(b.toNat:Int))&&decide ((b.toNat:Int)<=126))=false:=by simp;omega
  rw[Z]
  simp only[cx,SQ,d]
  rfl
def wU (x:UInt8):Bool:=decide ((x.toNat:Int)<32)||decide (126<(x.toNat:Int))
def kd (t:List UInt8):Int:=if 1000<t.length then 2 else match t.findSome? (fun x=>if wU x=true then some (3:Int) else none) with|some a=>a|none=>0
theorem rS {α A B:Type} (p:α->Bool) (a:A) (b:B):∀ (l:List α),(l.findSome? (fun x=>if p x=true then some a else none)=none/\l.findSome? (fun x=>if p x=true then some b else none)=none)\/(l.findSome? (fun x=>if p x=true then some a else none)=some a/\l.findSome? (fun x=>if p x=true then some b else none)=some b)
 |[]=> .inl ⟨rfl,rfl⟩
 |x::l=>by
  rw[U9,U9]
  cases h:p x with
  |true=>exact .inr ⟨by simp,by simp⟩
  |false=>simpa using rS p a b l
theorem QB (t:List UInt8):mK t=some (kd t):=by
 unfold mK kQ;dsimp only
 unfold kd
 by_cases h:1000<t.length
 ·have:decide ((1000:Int)<(t.length:Int))=true:=by simp;omega
  simp only[this,S4,h,TB]
 ·have h1:decide ((1000:Int)<(t.length:Int))=false:=by simp;omega
  have h2:decide ((t.length:Int)<=1000)=true:=by simp;omega
  have hT:rp t=some (match t.findSome? fun x=>if wU x=true then some false else none with|some b=>b|none=>true):=by
   unfold rp eL;dsimp only
   simp only[h2,vE t _ _ oM,cx,SQ,T1]
   rfl
  simp only[h1,S7,h,Tq,hT,SQ]
  rcases rS wU (3:Int) false t with⟨e1,e2⟩|⟨e1,e2⟩<;>rw[e1,e2]<;>rfl
def jB {α:Type} (h:α->Int):List α->Int
 |[]=>0
 |e::l=>if h e=0 then jB h l else h e
theorem oF {α R:Type} (l:List α) (h:α->Int) (ret:Int->R) (k:Int->Option R) {f:Int->Option (Int⊕(Int⊕R))} (hb:∀ (i:Nat) (e:α),l[i]?=some e->f (i:Int)=if h e=0 then some (.inl ((i+1:Nat):Int)) else some (.inr (.inr (ret (h e))))) (he:f (l.length:Int)=some (.inr (.inl (l.length:Int)))):(bc f 0).bind (c3 k)=if jB h l=0 then k (l.length:Int) else some (ret (jB h l)):=by
 have:∀ (t:List α) (i:Nat),l.drop i=t->i<=l.length->bc f (i:Int)=if jB h t=0 then some (.inl (l.length:Int)) else some (.inr (ret (jB h t))):=by
  intro t
  induction t with
  |nil=>
   intro i hd hi
   have:=gU hd hi
   subst this
   rw[b3,he]
   rfl
  |cons e t ih=>
   intro i hd hi
   obtain⟨h1,h2,E⟩:=gH hd
   rw[b3,hb i e h1]
   by_cases h0:h e=0
   ·simp only[jB,h0,TB];exact ih (i+1) E h2
   ·simp only[jB,h0,Tq]
 have e0:bc f 0=if jB h l=0 then some (.inl (l.length:Int)) else some (.inr (ret (jB h l))):=this l 0 rfl (TK _)
 rw[e0]
 by_cases h0:jB h l=0
 ·rw[U4 h0,U4 h0];rfl
 ·rw[if_neg h0,if_neg h0];rfl
theorem fc {α:Type} {h:α->Int}:∀ {l:List α},jB h l=0->∀ e∈l,h e=0
 |[],_,e,he=>by cases he
 |x::l,hl,e,he=>by
  simp only[jB] at hl
  split at hl
  ·rename_i h0
   rcases Tf.1 he with rfl|he
   ·exact h0
   ·exact fc hl e he
  ·rename_i h0;exact absurd hl h0
def ya (l:List (List UInt8)):Int:=if l.length=0 then 9 else if 20<l.length then 2 else jB kd l
def mr (e:aj):Int:=if e.fRepeats.length=0 then 9 else if 20<e.fRepeats.length then 2 else jB ya e.fRepeats
theorem QC (e:aj):jJ e=some (mr e):=by
 unfold jJ sU;dsimp only
 unfold mr
 by_cases h0:e.fRepeats.length=0
 ·have c:decide ((e.fRepeats.length:Int)=0)=true:=UU oM
  simp only[c,S4,U4 h0]
 ·have d0:decide ((e.fRepeats.length:Int)=0)=false:=TZ oM
  by_cases h1:20<e.fRepeats.length
  ·have H:decide ((20:Int)<(e.fRepeats.length:Int))=true:=UU oM
   simp only[d0,H,S4,S7,h0,h1,TB,Tq]
  ·have H:decide ((20:Int)<(e.fRepeats.length:Int))=false:=TZ oM
   simp only[d0,H,S7,h0,h1,Tq]
   refine(oF e.fRepeats ya (fun a=>a) _ (fun i l he=> ?_) ?_).trans ?_
   ·have hi:=cB he
    simp only[br hi,S4,aw,he,SQ,bB i oM,ya]
    by_cases g0:l.length=0
    ·have g:decide ((l.length:Int)=0)=true:=UU oM
     simp only[g,S4,U4 g0];rfl
    ·have g:decide ((l.length:Int)=0)=false:=TZ oM
     by_cases g1:20<l.length
     ·have T:decide ((20:Int)<(l.length:Int))=true:=UU oM
      simp only[g,T,S4,S7,g0,g1,TB,Tq];rfl
     ·have T:decide ((20:Int)<(l.length:Int))=false:=TZ oM
      simp only[g,T,S7,g0,g1,Tq]
      refine(oF l kd (fun a=> .inr (.inr a)) _ (fun j t ht=> ?_) ?_).trans ?_
      ·have hj:=cB ht
       simp only[br hj,S4,aw,he,ht,SQ,bB j oM,QB]
       by_cases hz:kd t=0<;>simp[hz,h_]
      ·simp only[aw,he,SQ,aB,S7];rfl
      ·split<;>rfl
   ·simp only[aB,S7];rfl
   ·split<;>simp_all
theorem ke {p:UInt8->Bool}:∀ {l:List UInt8},l.dropWhile p=[]↔∀ x∈l,p x=true
 |[]=>by simp
 |a::l=>by
  rw[UG]
  by_cases h:p a=true
  ·simp[h,ke (l:=l)]
  ·simp[h]
theorem l6 {p:UInt8->Bool} {a:UInt8} {r:List UInt8}:∀ {l:List UInt8},l.dropWhile p=a::r->p a=false
 |[],h=>by simp at h
 |b::l,h=>by
  rw[UG] at h
  by_cases Y:p b=true
  ·simp only[Y,TB] at h;exact l6 h
  ·simp only[Y] at h
   simp at h;rw[<-h.1];simpa using Y
theorem Gc (l cs:List UInt8):Lib.trimS l cs=[]↔∀ x∈l,cs.contains x=true:=by
 unfold Lib.trimS Lib.trimLeftS Lib.trimRightS
 constructor
 ·intro h
  have h1:List.dropWhile (fun x=>cs.contains x) l.reverse=[]:=by
   cases D:List.dropWhile (fun x=>cs.contains x) l.reverse with
   |nil=>rfl
   |cons a r=>
    exfalso
    have h2:=l6 D
    rw[D,ke] at h
    have E:=h a oS
    rw[h2] at E;cases E
  rw[ke] at h1
  intro x hx
  exact h1 x (by simpa using hx)
 ·intro h
  have h1:List.dropWhile (fun x=>cs.contains x) l.reverse=[]:=ke.2 fun x hx=>h x (by simpa using hx)
  rw[h1];rfl
def zm (b:UInt8):Bool:=decide (65<=(b.toNat:Int))&&decide ((b.toNat:Int)<=90)
def wV (b:UInt8):Bool:=zm b|| !(decide ((b.toNat:Int)<48)||decide (57<(b.toNat:Int)))
theorem Mw:(List.range 256).all (fun n=>tN.contains (UInt8.ofNat n)==wV (UInt8.ofNat n))=true:=oK
theorem OB (b:UInt8):tN.contains b=wV b:=by
 have:=Ti.1 Mw b.toNat (TN.2 b.toNat_lt)
 have hb:UInt8.ofNat b.toNat=b:=by simp
 rw[hb] at this
 simpa using this
def Gd:List UInt8:=[65,66,67,68,69,70,71,72,73,74,75,76,77,78,79,80,81,82,83,84,85,86,87,88,89,90]
theorem Mx:(List.range 256).all (fun n=>decide (0<=Lib.indexByte Gd (UInt8.ofNat n))==zm (UInt8.ofNat n))=true:=oK
theorem OC (b:UInt8):decide (0<=Lib.indexByte Gd b)=zm b:=by
 have:=Ti.1 Mx b.toNat (TN.2 b.toNat_lt)
 have hb:UInt8.ofNat b.toNat=b:=by simp
 rw[hb] at this
 simpa using this
theorem BK (l:List UInt8):decide (Lib.trimS l tN=[])=l.all wV:=by
 rw[TV,S5,Gc,Ti]
 simp only[OB]
def nq:List UInt8->Bool
 |[]=>false
 |b::l=>decide (1<=l.length)&&decide (l.length<=5)&&zm b&&l.all wV
theorem Pk (l:List UInt8) (hl:l.length<=9223372036854775807):sS l=some (nq l):=by
 unfold sS eL;dsimp only
 cases l with
 |nil=>rfl
 |cons b l=>
  have hg:b4 (b::l) 0=some b:=rfl
  have hi:nD Gd b=some (Lib.indexByte Gd b):=rfl
  have hu:([65,66,67,68,69,70,71,72,73,74,75,76,77,78,79,80,81,82,83,84,85,86,87,88,89,90]:List UInt8)=Gd:=rfl
  simp only[nK (b::l) hl,BK,hg,hu,hi,SQ,cx,OC,nq]
  have h1:decide ((2:Int)<=((b::l).length:Int))=decide (1<=l.length):=by simp only[ST];congr 1;apply propext;omega
  have h2:decide (((b::l).length:Int)<=6)=decide (l.length<=5):=by simp only[ST];congr 1;apply propext;omega
  rw[h1,h2]
  cases hb:zm b with
  |false=>simp
  |true=>simp[wV,hb]
def ut (s:aa):Int:=if nq s.fTag=false then 5 else if 50<s.fElements.length then 2 else jB mr s.fElements
def et (l:List aa):Int:=if 2000<l.length then 2 else jB ut l
def nZ (l:List aa):Prop:=∀ s∈l,s.fTag.length<=9223372036854775807
theorem EH (l:List aa) (hs:nZ l):jd l=some (et l):=by
 unfold jd sV;dsimp only
 unfold et
 by_cases h1:2000<l.length
 ·have H:decide ((2000:Int)<(l.length:Int))=true:=UU oM
  simp only[H,S4,h1,TB]
 ·have H:decide ((2000:Int)<(l.length:Int))=false:=TZ oM
  simp only[H,S7,h1,Tq]
  refine(oF l ut (fun a=>a) _ (fun i s y=> ?_) ?_).trans ?_
  ·have hi:=cB y
   have w:=hs s (SW y)
   simp only[br hi,S4,aw,y,SQ,bB i oM,Pk s.fTag oM,ut]
   by_cases ht:nq s.fTag=false
   ·simp[ht,h_]
   ·replace ht:nq s.fTag=true:=by simpa using ht
    simp only[ht,S9,S7,Bool.true_eq_false,Tq]
    by_cases h1:50<s.fElements.length
    ·have H:decide ((50:Int)<(s.fElements.length:Int))=true:=UU oM
     simp only[H,S4,h1,TB];rfl
    ·have H:decide ((50:Int)<(s.fElements.length:Int))=false:=TZ oM
     simp only[H,S7,h1,Tq]
     refine(oF s.fElements mr (fun a=> .inr (.inr a)) _ (fun i e he=> ?_) ?_).trans ?_
     ·have hi:=cB he
      simp only[br hi,S4,aw,he,SQ,bB i oM,QC]
      by_cases hz:mr e=0<;>simp[hz,h_]
     ·simp only[aB,S7];rfl
     ·split<;>rfl
  ·simp only[aB,S7];rfl
  ·split<;>simp_all
end Go.Proofs.YtgmnipfafmphaaaGreatDoor

namespace Go.Proofs.YtgmnipfafmphaaaGreatDoor
open Go.RowKit
set_option linter.unusedSimpArgs false
set_option linter.unusedVariables false
def l7 (n lo hi:Int):Bool:=decide (n<lo)||decide (hi<n)
theorem BZ (n lo hi:Int):j9 n lo hi=some (l7 n lo hi):=by
 unfold j9 aZ;dsimp only
 simp only[bT,SQ,l7]
def yd:List UInt8:=[65,66,67,68,69,70,71,72,73,74,75,76,77,78,79,80,81,82,83,84,85,86,87,88,89,90,48,49,50,51,52,53,54,55,56,57,45]
theorem l8 {p:UInt8->Bool}:∀ {l:List UInt8},l.dropWhile p=[]↔∀ x∈l,p x=true
 |[]=>by simp
 |a::l=>by
  rw[UG]
  by_cases h:p a=true
  ·simp[h,l8 (l:=l)]
  ·simp[h]
theorem rT {p:UInt8->Bool} {a:UInt8} {r:List UInt8}:∀ {l:List UInt8},l.dropWhile p=a::r->p a=false
 |[],h=>by simp at h
 |b::l,h=>by
  rw[UG] at h
  by_cases Y:p b=true
  ·simp only[Y,TB] at h;exact rT h
  ·simp only[Y] at h
   simp at h;rw[<-h.1];simpa using Y
theorem Kl (l cs:List UInt8):Lib.trimS l cs=[]↔∀ x∈l,cs.contains x=true:=by
 unfold Lib.trimS Lib.trimLeftS Lib.trimRightS
 constructor
 ·intro h
  have h1:List.dropWhile (fun x=>cs.contains x) l.reverse=[]:=by
   cases D:List.dropWhile (fun x=>cs.contains x) l.reverse with
   |nil=>rfl
   |cons a r=>
    exfalso
    have h2:=rT D
    rw[D,l8] at h
    have E:=h a oS
    rw[h2] at E;cases E
  rw[l8] at h1
  intro x hx
  exact h1 x (by simpa using hx)
 ·intro h
  have h1:List.dropWhile (fun x=>cs.contains x) l.reverse=[]:=l8.2 fun x hx=>h x (by simpa using hx)
  rw[h1];rfl
def EN (b:UInt8):Bool:=yd.contains b
def dU (s:List UInt8):Bool:=decide (1<=s.length/\s.length<=14)&&s.all EN
theorem MW (s:List UInt8):decide (Lib.trimS s yd=[])=s.all EN:=by
 rw[TV,S5,Kl,Ti];rfl
theorem OW (s:List UInt8) (hs:s.length<=9223372036854775807):fx s yd=some (Lib.trimS s yd):=by
 unfold fx
 rw[U4 ⟨hs,by decide,by decide⟩]
theorem qR (s:List UInt8) (hs:s.length<=9223372036854775807):tl s=some (dU s):=by
 have ht:=OW s hs
 have ha:=MW s
 unfold yd at ht ha
 unfold tl aZ;dsimp only
 simp only[ht,SQ,ha,cx]
 congr 1;unfold dU
 rw[TV];simp;omega
def hp (f:Nat->Int):Nat->Nat->Int
 |_,0=>0
 |i,n+1=>if f i≠0 then f i else hp f (i+1) n
theorem tQ {f:Nat->Int}:∀ (i n k:Nat),k<=n->(∀ j,i<=j->j<i+k->f j=0)->hp f i n=hp f (i+k) (n - k)
 |i,n,0,_,_=>by simp
 |i,0,k+1,h,_=>by omega
 |i,n+1,k+1,h,hz=>by
  have h1:=hz i oM oM
  simp only[hp,h1,ne_eq,not_true_eq_false,Tq]
  rw[tQ (i+1) n k oM (fun j hj r3=>hz j oM oM)]
  congr 1<;>omega
theorem tR {α:Type} (l:List α) (n:Nat) (h:n<=l.length):cz l 0 (n:Int)=some (l.take n):=by
 unfold cz
 rw[U4 oM];simp
variable {α:Type}
abbrev MX:Nat:=9223372036854775807
theorem EO {S:Type} (st:Nat->S) {n:Nat} {g:Nat->Int} {f:S->Option (S⊕(S⊕Int))} (C:∀ i,i<n->f (st i)=if g i=0 then some (.inl (st (i+1))) else some (.inr (.inr (g i)))) (he:f (st n)=some (.inr (.inl (st n)))) (K:S->Option Int):(bc f (st 0)).bind (c3 K)=if hp g 0 n=0 then K (st n) else some (hp g 0 n):=by
 have h:=oE (f:=f) (z:= .inl (st n)) st n (fun i=>if g i=0 then none else some (.inr (g i))) (fun i hi hg=>by
  rw[C i hi]
  by_cases hz:g i=0
  ·rw[U4 hz]
  ·simp only[hz,Tq] at hg;cases hg) (fun i a hi hg=>by
  rw[C i hi]
  by_cases hz:g i=0
  ·simp only[hz,TB] at hg;cases hg
  ·simp only[hz,Tq,SN] at hg;rw[if_neg hz,hg]) he
 rw[h]
 rcases l5 (fun i=>if g i=0 then(none:Option (S⊕Int)) else some (.inr (g i))) n with⟨h1,h2⟩|⟨k,a,h1,h2,E,h4⟩
 ·have:hp g 0 n=0:=by
   rw[tQ 0 n n oM (fun j _ hj=>by
    have:=h2 j oM
    by_cases hz:g j=0
    ·exact hz
    ·simp only[hz,Tq] at this;cases this)]
   simp[hp]
  rw[h1,U4 this];rfl
 ·have hz:g k≠0:=by intro hz;simp only[hz,TB] at E;cases E
  have:hp g 0 n=g k:=by
   rw[tQ 0 n k oM (fun j _ hj=>by
    have:=h2 j oM
    by_cases hz:g j=0
    ·exact hz
    ·simp only[hz,Tq] at this;cases this)]
   obtain⟨m,Z⟩:∃ m,n - k=m+1:=⟨n - k - 1,by omega⟩
   rw[Z,Tx]
   simp only[hp,hz,ne_eq,not_false_eq_true,TB]
  rw[h4,this,if_neg hz]
  simp only[hz,Tq,SN] at E
  rw[<-E];rfl
def B0 (l:List α) (q:α->Bool) (c:Int) (k:Nat):Int:=match l[k]? with|some o=>if q o=true then c else 0|none=>0
theorem HI (l:List α) (q:α->Bool) (c:Int) (hc:c≠0) (i:Nat) (hi:i<=l.length):
  hp (B0 l q c) 0 i=if(l.take i).any q=true then c else 0:=by
 have:∀ d k,k+d=i->hp (B0 l q c) k d=if((l.take i).drop k).any q=true then c else 0:=by
  intro d
  induction d with
  |zero=>
   intro k hk
   have:(l.take i).drop k=[]:=Uo (by rw[Th];omega)
   rw[this];simp[hp]
  |succ d ih=>
   intro k hk
   obtain⟨e,he⟩:=eF (l:=l) (i:=k) oM
   have ht:(l.take i)[k]?=some e:=by rw[Um oM,he]
   have hd:(l.take i).drop k=e::(l.take i).drop (k+1):=by
    have X:=cB ht
    rw[T_ X]
    congr 1
    rw[S0 X] at ht;simpa using ht
   simp only[hp,B0,he]
   rw[hd,List.any_cons,ih (k+1) oM]
   cases hq:q e<;>simp[hc]
 have:=this i 0 oM
 simpa using this
def HJ (b:UInt8):Bool:=decide (97<=(b.toNat:Int))&&decide ((b.toNat:Int)<=122)
def B1 (b:UInt8):Bool:=HJ b||(decide ((b.toNat:Int)=45)||(decide (48<=(b.toNat:Int))&&decide ((b.toNat:Int)<=57)))
def ug:List UInt8:=[97,98,99,100,101,102,103,104,105,106,107,108,109,110,111,112,113,114,115,116,117,118,119,120,121,122,48,49,50,51,52,53,54,55,56,57,45]
theorem Km:(List.range 256).all (fun n=>ug.contains (UInt8.ofNat n)==B1 (UInt8.ofNat n))=true:=by decide+kernel
theorem MY (b:UInt8):ug.contains b=B1 b:=by
 have:=Ti.1 Km b.toNat (TN.2 b.toNat_lt)
 have hb:UInt8.ofNat b.toNat=b:=by simp
 rw[hb] at this
 simpa using this
theorem Kn (l:List UInt8):decide (Lib.trimS l ug=[])=l.all B1:=by
 rw[TV,S5,Gc,Ti]
 simp only[MY]
def cH:List UInt8->Bool
 |[]=>false
 |b::l=>decide (l.length<=39)&&HJ b&&l.all B1
theorem pB (l:List UInt8) (hl:l.length<=MX):rv l=some (cH l):=by
 have ht:fx l ug=some (Lib.trimS l ug):=by
  unfold fx
  rw[U4 ⟨hl,by decide,by decide⟩]
 have hu:([97,98,99,100,101,102,103,104,105,106,107,108,109,110,111,112,113,114,115,116,117,118,119,120,121,122,48,49,50,51,52,53,54,55,56,57,45]:List UInt8)=ug:=rfl
 unfold rv aZ;dsimp only
 rw[hu]
 cases l with
 |nil=>rfl
 |cons b l=>
  have hg:b4 (b::l) 0=some b:=rfl
  simp only[hg,SQ,bT,ht,Kn,cH]
  have h1:decide (((b::l).length:Int)<1)=false:=by simp only[ST];apply TZ;omega
  have h2:decide (40<((b::l).length:Int))= !decide (l.length<=39):=by simp only[ST];rw[TV];simp<;>omega
  have E:(decide ((b.toNat:Int)<97)||decide (122<(b.toNat:Int)))= !HJ b:=by unfold HJ;rw[TV];simp
  rw[h1,h2,T7,Bool.or_assoc,E]
  cases hb:HJ b with
  |false=>simp
  |true=>cases decide (l.length<=39)<;>simp[B1,hb]

theorem OX (n k:Nat):decide ((k:Int)<(n:Int))=decide (k<n):=by congr 1;apply propext;omega

variable {s:aa}
theorem qL {α:Type} {h:α->Int}:∀ {l:List α},(∀ e∈l,h e=0)->jB h l=0
 |[],_=>rfl
 |e::l,hl=>by
  unfold jB
  rw[U4 (hl e oS)]
  exact qL fun e he=>hl e (by simp[he])
theorem BB {l:List (List UInt8)}:ya l=0↔(1<=l.length/\l.length<=20/\∀ t∈l,kd t=0):=by
 unfold ya
 by_cases h1:l.length=0
 ·simp[h1]
 ·by_cases h2:20<l.length
  ·simp[h1,h2];omega
  ·rw[if_neg h1,if_neg h2]
   exact⟨fun h=>⟨by omega,by omega,fc h⟩,fun h=>qL h.2.2⟩
theorem x6 {e:aj}:mr e=0↔(1<=e.fRepeats.length/\e.fRepeats.length<=20/\∀ t∈e.fRepeats,ya t=0):=by
 unfold mr
 by_cases h1:e.fRepeats.length=0
 ·simp[h1]
 ·by_cases h2:20<e.fRepeats.length
  ·simp[h1,h2];omega
  ·rw[if_neg h1,if_neg h2]
   exact⟨fun h=>⟨by omega,by omega,fc h⟩,fun h=>qL h.2.2⟩
theorem BC:ut s=0↔(nq s.fTag=true/\s.fElements.length<=50/\∀ e∈s.fElements,mr e=0):=by
 unfold ut
 by_cases h1:nq s.fTag=false
 ·simp[h1]
 ·by_cases h2:50<s.fElements.length
  ·simp[h1,h2];intro h;omega
  ·rw[if_neg h1,if_neg h2]
   exact⟨fun h=>⟨by simpa using h1,by omega,fc h⟩,fun h=>qL h.2.2⟩
theorem Mj (h:ut s=0):ph s:=by
 obtain⟨_,h2,E⟩:=BC.1 h
 refine⟨by omega,fun e he=> ?_⟩
 obtain⟨_,h5,h6⟩:=x6.1 (E e he)
 refine⟨by omega,fun p Y=> ?_⟩
 obtain⟨_,h8,_⟩:=BB.1 (h6 p Y)
 omega
theorem BD (l:List (List UInt8)) (hl:l.length<=137438953472):fY l l=some true:=by
 unfold fY a8;dsimp only
 simp only[TA,S9,S7]
 refine co (a:= .inl (l.length:Int)) (jm (fun i=>(i:Int)) l.length (fun i hi=> ?_) ?_) rfl
 ·obtain⟨e,he⟩:=eF hi
  simp only[br hi,S4,aw,he,SQ,TA,S9,S7,bB i oM]
 ·simp only[aB,S7];rfl
theorem EE (x:aa) (hx:ph x):fq x x=some true:=by
 obtain⟨h1,h2⟩:=hx
 unfold fq gM;dsimp only
 simp only[TA,S9,bT,UB,SQ,S7]
 refine co (a:= .inl (x.fElements.length:Int)) (jm (fun i=>(i:Int)) x.fElements.length (fun i hi=> ?_) ?_) rfl
 ·obtain⟨e,he⟩:=eF hi
  obtain⟨E,h4⟩:=h2 e (SW he)
  simp only[br hi,S4,aw,he,SQ,TA,S9,S7,bB i oM]
  refine co (a:= .inl (e.fRepeats.length:Int)) (jm (fun i=>(i:Int)) e.fRepeats.length (fun k hk=> ?_) ?_) rfl
  ·obtain⟨p,Y⟩:=eF hk
   simp only[br hk,S4,aw,Y,SQ,BD p (h4 p (SW Y)),S9,S7,bB k oM]
  ·simp only[aB,S7];rfl
 ·simp only[aB,S7];rfl
theorem Cp (l:List aa) (hl:l.length<=137438953472) (hx:∀ x∈l,ph x):e9 l l=some true:=by
 unfold e9 kU;dsimp only
 simp only[TA,S9,S7]
 refine co (a:= .inl (l.length:Int)) (jm (fun i=>(i:Int)) l.length (fun i hi=> ?_) ?_) rfl
 ·obtain⟨e,he⟩:=eF hi
  simp only[br hi,S4,aw,he,SQ,EE e (hx e (SW he)),S9,S7,bB i oM]
 ·simp only[aB,S7];rfl
theorem Iz {l:List aa} (h:et l=0):l.length<=2000/\∀ x∈l,ut x=0:=by
 unfold et at h
 by_cases h1:2000<l.length
 ·simp[h1] at h
 ·rw[if_neg h1] at h;exact⟨by omega,fc h⟩
end Go.Proofs.YtgmnipfafmphaaaGreatDoor

namespace Go.Proofs.YtgmnipfafmphaaaGreatDoor
open Go.RowKit
set_option linter.unusedSimpArgs false
set_option linter.unusedVariables false
abbrev Ms:=aG
abbrev Gp:=aT
abbrev Ix:=ax
structure Rn (m:Ms):Prop where
 ref:m.fRef.length<=MX
 kind:m.fKind.length<=MX
 ver:m.fVersion.length<=MX
 len:m.fSegments.length<=1048576
 tags:nZ m.fSegments
structure Ro (g:Gp):Prop where
 ref:g.fRef.length<=MX
 kind:g.fKind.length<=MX
 len:g.fMessages.length<=1048576
 msg:∀ m∈g.fMessages,Rn m
structure JT (x:Ix):Prop where
 ref:x.fRef.length<=MX
 snd:x.fSender.length<=MX
 rcv:x.fReceiver.length<=MX
 len:x.fGroups.length<=1048576
 grp:∀ g∈x.fGroups,Ro g
theorem k8 {f:Nat->Int}:∀ {n i:Nat},hp f i n=0->∀ j,i<=j->j<i+n->f j=0
 |0,i,_,j,h1,h2=>by omega
 |n+1,i,h,j,h1,h2=>by
  unfold hp at h
  by_cases hz:f i=0
  ·rw[if_neg (by simpa using hz)] at h
   rcases Ty i j with X|v0
   ·exact k8 h j oM oM
   ·obtain rfl:j=i:=by omega
    exact hz
  ·rw[U4 hz] at h;exact absurd h hz
theorem Mf (l:List Gp) (hl:l.length<=MX) (A:FuncId) (T:List DV) (d:Gp->Option Bool) (h1) (q:Gp->Bool) (hq:∀ a,d a=some (q a)):
  a_ l A T d h1=some (l.any q):=by
 unfold MX at hl
 unfold a_ gM;dsimp only
 unfold ca a8;dsimp only
 generalize C:(fun s:Int=>_)=f
 have key:=oE (f:=f) (z:= .inl (l.length:Int)) (fun i:Nat=>(i:Int)) l.length (fun i=>match l[i]? with|some o=>if q o=true then some (.inr (i:Int)) else none|none=>none) (fun i hi hg=>by
  subst C
  obtain⟨e,he⟩:=eF hi
  simp only[he] at hg
  cases hb:q e with
  |true=>simp[hb] at hg
  |false=>simp only[br hi,S4,aw,he,SQ,hq,hb,S7,bB i oM]) (fun i a hi hg=>by
  subst C
  obtain⟨e,he⟩:=eF hi
  simp only[he] at hg
  cases hb:q e with
  |false=>simp[hb] at hg
  |true=>
   simp only[hb,TB,SN] at hg
   simp only[br hi,S4,aw,he,SQ,hq,hb,<-hg];rfl) (by
  subst C
  simp only[aB,S7];rfl)
 rw[show((0:Nat):Int)=0 from rfl] at key
 rw[key]
 rcases l5 (fun i=>match l[i]? with|some o=>if q o=true then some (.inr (i:Int)) else none|none=>(none:Option (Int⊕Int))) l.length with⟨h1,h2⟩|⟨k,a,h1,h2,E,h4⟩
 ·rw[h1]
  have:l.any q=false:=by
   rw[UE]
   intro x hx
   obtain⟨i,hi,rfl⟩:=TM.1 hx
   have:=h2 i hi
   simp only[S0 hi] at this
   intro hb;simp[hb] at this
  rw[this];rfl
 ·rw[h4]
  obtain⟨e,he⟩:=eF h1
  simp only[he] at E
  cases hb:q e with
  |false=>simp[hb] at E
  |true=>
   simp only[hb,TB,SN] at E
   have:l.any q=true:=UM.2 ⟨e,SW he,hb⟩
   rw[this,<-E]
   simp[c3]
theorem Mg (l:List Ms) (hl:l.length<=MX) (A:FuncId) (T:List DV) (d:Ms->Option Bool) (h1) (q:Ms->Bool) (hq:∀ a,d a=some (q a)):
  aX l A T d h1=some (l.any q):=by
 unfold MX at hl
 unfold aX gM;dsimp only
 unfold bO a8;dsimp only
 generalize C:(fun s:Int=>_)=f
 have key:=oE (f:=f) (z:= .inl (l.length:Int)) (fun i:Nat=>(i:Int)) l.length (fun i=>match l[i]? with|some o=>if q o=true then some (.inr (i:Int)) else none|none=>none) (fun i hi hg=>by
  subst C
  obtain⟨e,he⟩:=eF hi
  simp only[he] at hg
  cases hb:q e with
  |true=>simp[hb] at hg
  |false=>simp only[br hi,S4,aw,he,SQ,hq,hb,S7,bB i oM]) (fun i a hi hg=>by
  subst C
  obtain⟨e,he⟩:=eF hi
  simp only[he] at hg
  cases hb:q e with
  |false=>simp[hb] at hg
  |true=>
   simp only[hb,TB,SN] at hg
   simp only[br hi,S4,aw,he,SQ,hq,hb,<-hg];rfl) (by
  subst C
  simp only[aB,S7];rfl)
 rw[show((0:Nat):Int)=0 from rfl] at key
 rw[key]
 rcases l5 (fun i=>match l[i]? with|some o=>if q o=true then some (.inr (i:Int)) else none|none=>(none:Option (Int⊕Int))) l.length with⟨h1,h2⟩|⟨k,a,h1,h2,E,h4⟩
 ·rw[h1]
  have:l.any q=false:=by
   rw[UE]
   intro x hx
   obtain⟨i,hi,rfl⟩:=TM.1 hx
   have:=h2 i hi
   simp only[S0 hi] at this
   intro hb;simp[hb] at this
  rw[this];rfl
 ·rw[h4]
  obtain⟨e,he⟩:=eF h1
  simp only[he] at E
  cases hb:q e with
  |false=>simp[hb] at E
  |true=>
   simp only[hb,TB,SN] at E
   have:l.any q=true:=UM.2 ⟨e,SW he,hb⟩
   rw[this,<-E]
   simp[c3]
theorem wN (l:List (List UInt8)) (t:List UInt8) (hl:l.length<=1048576):cj l t=some (l.any fun e=>decide (t=e)):=by
 unfold cj a8;dsimp only
 unfold dQ ji;dsimp only
 generalize C:(fun s:Int=>_)=f
 have key:=oE (f:=f) (z:= .inl (l.length:Int)) (fun i:Nat=>(i:Int)) l.length (fun i=>match l[i]? with|some o=>if t=o then some (.inr (i:Int)) else none|none=>none) (fun i hi hg=>by
  subst C
  obtain⟨e,he⟩:=eF hi
  simp only[he] at hg
  have hb:¬ t=e:=fun h=>by simp[h] at hg
  simp only[br hi,S4,aw,he,SQ,hb,UO,S7,bB i oM]) (fun i a hi hg=>by
  subst C
  obtain⟨e,he⟩:=eF hi
  simp only[he] at hg
  by_cases hb:t=e
  ·simp only[hb,TB,SN] at hg
   simp only[br hi,S4,aw,he,SQ,hb,TA,<-hg];rfl
  ·simp[hb] at hg) (by
  subst C
  simp only[aB,S7];rfl)
 rw[show((0:Nat):Int)=0 from rfl] at key
 rw[key]
 rcases l5 (fun i=>match l[i]? with|some o=>if t=o then some (.inr (i:Int)) else none|none=>(none:Option (Int⊕Int))) l.length with⟨h1,h2⟩|⟨k,a,h1,h2,E,h4⟩
 ·rw[h1]
  have:(l.any fun e=>decide (t=e))=false:=by
   rw[UE]
   intro x hx
   obtain⟨i,hi,rfl⟩:=TM.1 hx
   have:=h2 i hi
   simp only[S0 hi] at this
   intro hb
   have h6:=UT hb
   rw[U4 h6] at this;cases this
  rw[this];rfl
 ·rw[h4]
  obtain⟨e,he⟩:=eF h1
  simp only[he] at E
  by_cases hb:t=e
  ·simp only[hb,TB,SN] at E
   have:(l.any fun e=>decide (t=e))=true:=UM.2 ⟨e,SW he,UU hb⟩
   rw[this,<-E]
   simp[c3]
  ·simp[hb] at E
def Bx:List (List UInt8):=[[73,72,68],[71,72,68],[77,72,68]]
def Bz:List (List UInt8):=[[73,84,82],[71,84,82],[77,84,82]]
def x4 (t:List UInt8):Bool:=(Bx.any fun e=>decide (t=e))||(Bz.any fun e=>decide (t=e))
theorem Qr (t:List UInt8):cj [[73,72,68],[71,72,68],[77,72,68]] t=some (Bx.any fun e=>decide (t=e)):=wN _ t oD
theorem Qs (t:List UInt8):cj [[73,84,82],[71,84,82],[77,84,82]] t=some (Bz.any fun e=>decide (t=e)):=wN _ t oD
def RN (a b c:Bool) (O:Int) (e:Bool):Int:=bif !a then 3 else bif b then 5 else bif c then 7 else bif !decide (O=0) then O else bif e then 4 else 0
def RP (m:Ms) (a:Bool):Int:=RN (dU m.fRef) (!cH m.fKind|| !cH m.fVersion) a (et m.fSegments) (m.fSegments.any fun s=>x4 s.fTag)
theorem Oj:lX=some [[73,72,68],[71,72,68],[77,72,68]]:=by unfold lX aZ;dsimp only
theorem Ok:lY=some [[73,84,82],[71,84,82],[77,84,82]]:=by unfold lY aZ;dsimp only
theorem Ol (l:List aa):(if hp (B0 l (fun s=>x4 s.fTag) 4) 0 l.length=0 then some 0 else some (hp (B0 l (fun s=>x4 s.fTag) 4) 0 l.length))=some (bif l.any fun s=>x4 s.fTag then(4:Int) else 0):=by
 rw[HI l _ 4 oD l.length (SZ _),UJ]
 cases l.any fun s=>x4 s.fTag<;>rfl
theorem Rp (m:Ms) (h:Rn m) (l:List Ms) (hl:l.length<=MX):jM m l=some (RP m (l.any fun o=>decide (o.fRef=m.fRef))):=by
 have I:=h.len
 have h1:∀ a,iP a m=some (decide (a.fRef=m.fRef)):=fun a=>by unfold iP a8;dsimp only
 unfold jM kU;dsimp only
 simp only[bT,SQ,qR _ h.ref,pB _ h.kind,pB _ h.ver,Mg l hl _ _ _ _ _ h1,EH _ h.tags]
 unfold RP RN
 cases dU m.fRef with
 |false=>rfl
 |true=>
 cases(!cH m.fKind|| !cH m.fVersion) with
 |true=>rfl
 |false=>
 cases(l.any fun o=>decide (o.fRef=m.fRef)) with
 |true=>rfl
 |false=>
 cases hz:decide (et m.fSegments=0) with
 |false=>rfl
 |true=>
 simp only[S9,S7,Oj,Ok,SQ,Qr,Qs,bT]
 refine(EO (fun i:Nat=>(i:Int)) (n:=m.fSegments.length) (g:=B0 m.fSegments (fun s=>x4 s.fTag) 4) (fun i hi=> ?_) (by simp only[aB,S7];rfl) _).trans (Ol _)
 obtain⟨e,he⟩:=eF hi
 simp only[br hi,S4,aw,he,SQ,bB i oM,B0]
 change (bif x4 e.fTag then _ else _)=_
 by_cases hb:x4 e.fTag=true<;>simp[hb,h_]
def JU (l:List Ms) (i:Nat):Int:=match l[i]? with
 |some m=>RP m ((l.take i).any fun o=>decide (o.fRef=m.fRef))
 |none=>0
def RQ (a b c:Bool) (fm:Int):Int:=bif !a then 3 else bif !b then 5 else bif c then 7 else fm
def RR (g:Gp) (a:Bool):Int:=RQ (dU g.fRef) (cH g.fKind) a (hp (JU g.fMessages) 0 g.fMessages.length)
theorem Om (a:Int):(if a=0 then some 0 else some a)=some a:=by split<;>simp_all
theorem Dq {α:Type} (l:List α) {i:Nat} (h:i<=l.length):cz l ((none:Option Int).getD 0) ((some (i:Int)).getD (l.length:Int))=some (l.take i):=tR l i h
theorem Rq (g:Gp) (h:Ro g) (l:List Gp) (hl:l.length<=MX):lU g l=some (RR g (l.any fun o=>decide (o.fRef=g.fRef))):=by
 have I:=h.len
 have h1:∀ a,jL a g=some (decide (a.fRef=g.fRef)):=fun a=>by unfold jL a8;dsimp only
 unfold lU kV;dsimp only
 simp only[SQ,qR _ h.ref,pB _ h.kind,Mf l hl _ _ _ _ _ h1]
 unfold RR RQ
 cases dU g.fRef with
 |false=>rfl
 |true=>
 cases cH g.fKind with
 |false=>rfl
 |true=>
 cases(l.any fun o=>decide (o.fRef=g.fRef)) with
 |true=>rfl
 |false=>
 simp only[S9,S7]
 refine(EO (fun i:Nat=>(i:Int)) (n:=g.fMessages.length) (g:=JU g.fMessages) (fun i hi=> ?_) (by simp only[aB,S7];rfl) _).trans (Om _)
 obtain⟨e,he⟩:=eF hi
 have hs:=h.msg e (SW he)
 simp only[br hi,S4,aw,he,SQ,Dq g.fMessages (Nat.le_of_lt hi),Rp e hs _ (show(g.fMessages.take i).length<=MX by rw[Th];unfold MX;omega),bB i oM,JU]
 generalize RP e _=a
 by_cases ha:a=0<;>simp[ha,h_]
def F_ (l:List Gp) (i:Nat):Int:=match l[i]? with
 |some g=>RR g ((l.take i).any fun o=>decide (o.fRef=g.fRef))
 |none=>0
def BA (l:List Ms) (n:Int):Int:=l.foldl (fun n m=>IntKind.i64.wrap (n+IntKind.i64.wrap (2+(m.fSegments.length:Int)))) n
def x5 (l:List Gp):Int×Int:=l.foldl (fun s g=>(IntKind.i64.wrap (s.1+(g.fMessages.length:Int)),BA g.fMessages (IntKind.i64.wrap (s.2+2)))) (0,2)
def RS (a b c d:Bool) (f:Int) (e:Bool):Int:=bif !a then 3 else bif b then 5 else bif c then 1 else bif d then 2 else if f=0 then(bif e then 2 else 0) else f
def Iy (x:Ix):Int:=RS (dU x.fRef) (!cH x.fSender|| !cH x.fReceiver) (l7 x.fDay 1 3652059||l7 x.fSecond 0 86399) (decide (50<x.fGroups.length)) (hp (F_ x.fGroups) 0 x.fGroups.length)
 (decide (200<(x5 x.fGroups).1)||decide (2000<(x5 x.fGroups).2))
theorem Mh (l:List Ms) (hl:l.length<=1048576) (n:Int) {R:Type} {f:Int×Int->Option ((Int×Int)⊕((Int×Int)⊕R))} (K:Int×Int->Option R) (C:∀ (i:Nat) e (a:Int),l[i]?=some e->f (a,(i:Int))=some (.inl (IntKind.i64.wrap (a+IntKind.i64.wrap (2+(e.fSegments.length:Int))),((i+1:Nat):Int)))) (he:∀ a,f (a,(l.length:Int))=some (.inr (.inl (a,(l.length:Int))))):
  (bc f (n,0)).bind (c3 K)=K (BA l n,(l.length:Int)):=by
 refine co (a:= .inl (BA l n,(l.length:Int))) (kb l (fun i q=>(BA q n,(i:Int))) (fun i e h=> ?_) (he _)) rfl
 rw[C i e _ h]
 unfold BA
 rw[List.foldl_append];rfl
theorem Mi (x:Ix) (h:JT x):po x=some (x5 x.fGroups):=by
 have I:=h.len
 unfold po a8;dsimp only
 refine co (a:= .inl ((x5 x.fGroups).1,(x5 x.fGroups).2,(x.fGroups.length:Int))) (kb x.fGroups (fun i q=>((x5 q).1,(x5 q).2,(i:Int))) (fun i e he=> ?_) (by simp only[aB,S7];rfl)) rfl
 have hi:=cB he
 have hg:=(h.grp e (SW he)).len
 simp only[br hi,S4,aw,he,SQ]
 refine(Mh e.fMessages hg _ _ (fun k m a Z=> ?_) (fun a=>by simp only[aB,S7];rfl)).trans ?_
 ·have hk:=cB Z
  simp only[br hk,S4,aw,Z,SQ,bB k oM]
 ·simp only[bB i oM]
  unfold x5
  rw[List.foldl_append];rfl
theorem Rr (x:Ix) (h:JT x):ij x=some (Iy x):=by
 have I:=h.len
 have b:ng x.fDay=some (!l7 x.fDay 1 3652059):=by unfold ng ee;dsimp only;simp only[BZ,Option.bind_some]
 unfold ij kW;dsimp only
 rw[show decide ((50:Int)<(x.fGroups.length:Int))=decide (50<x.fGroups.length) from OX x.fGroups.length 50]
 simp only[SQ,bT,qR _ h.ref,pB _ h.snd,pB _ h.rcv,b,BZ,Bool.not_not,Mi x h]
 unfold Iy RS
 cases dU x.fRef with
 |false=>rfl
 |true=>
 cases(!cH x.fSender|| !cH x.fReceiver) with
 |true=>rfl
 |false=>
 cases(l7 x.fDay 1 3652059||l7 x.fSecond 0 86399) with
 |true=>rfl
 |false=>
 cases decide (50<x.fGroups.length) with
 |true=>rfl
 |false=>
 simp only[S9,S7]
 refine(EO (fun i:Nat=>(i:Int)) (n:=x.fGroups.length) (g:=F_ x.fGroups) (fun i hi=> ?_) (by simp only[aB,S7];rfl) _).trans ?_
 ·obtain⟨e,he⟩:=eF hi
  have hs:=h.grp e (SW he)
  simp only[br hi,S4,aw,he,SQ,Dq x.fGroups (Nat.le_of_lt hi),Rq e hs _ (show(x.fGroups.take i).length<=MX by rw[Th];unfold MX;omega),bB i oM,F_]
  generalize RR e _=a
  by_cases ha:a=0<;>simp[ha,h_]
 ·by_cases hq:hp (F_ x.fGroups) 0 x.fGroups.length=0
  ·rw[U4 hq,U4 hq]
   cases decide (200<(x5 x.fGroups).1)<;>cases decide (2000<(x5 x.fGroups).2)<;>rfl
  ·rw[if_neg hq,if_neg hq]
def ED (l:List aa):Prop:=l.length<=137438953472/\∀ s∈l,ph s
theorem On {l:List aa} (h:et l=0):ED l:=by
 obtain⟨h1,h2⟩:=Iz h
 exact⟨by omega,fun s hs=>Mj (h2 s hs)⟩
theorem Ga (l:List aa) (h:ED l):nl l=some l:=by
 obtain⟨h1,h2⟩:=h
 have hc:aL l=some l:=by
  unfold aL
  rw[U4 h1]
 unfold nl a8;dsimp only
 rw[hc]
 simp only[SQ]
 refine co (a:= .inl (l,(l.length:Int))) (jm (fun i:Nat=>(l,(i:Int))) l.length (fun i hi=> ?_) ?_) rfl
 ·obtain⟨e,he⟩:=eF hi
  have Z:l4 e=some e:=by unfold l4;rw[U4 (h2 e (SW he))]
  have hs:l.set i e=l:=by
   obtain⟨h5,rfl⟩:=SY.1 he
   exact List.set_getElem_self h5
  simp only[br hi,S4,aw,he,SQ,Ue,Z,hs,bB i oM]
 ·simp only[aB,S7];rfl
set_option maxHeartbeats 1000000
variable {P:List UInt8->Prop} {a:Bool} {b:List UInt8} {c e:Bool} {g:Gp} {i:Nat} {t:List UInt8} {x:Ix}
theorem F4 {b d:Bool} {f:Int} (h:RS a b c d f e=0):a=true/\b=false/\c=false/\d=false/\f=0/\e=false:=by
 unfold RS at h
 cases a<;>cases b<;>cases c<;>cases d<;>first|(cases h;done)|skip
 by_cases hz:f=0
 ·cases e
  ·exact⟨rfl,rfl,rfl,rfl,hz,rfl⟩
  ·simp[hz] at h
 ·simp[hz] at h
theorem Bp {b:Bool} {fm:Int} (h:RQ a b c fm=0):a=true/\b=true/\c=false/\fm=0:=by
 unfold RQ at h
 cases a<;>cases b<;>cases c<;>first|(cases h;done)|exact⟨rfl,rfl,rfl,h⟩
theorem F5 {b:Bool} {O:Int} (h:RN a b c O e=0):a=true/\b=false/\c=false/\O=0/\e=false:=by
 unfold RN at h
 cases a<;>cases b<;>cases c<;>first|(cases h;done)|skip
 by_cases hz:O=0
 ·cases e
  ·exact⟨rfl,rfl,rfl,hz,rfl⟩
  ·simp[hz] at h
 ·simp[hz] at h
structure SD (m:Ms):Prop where
 ref:dU m.fRef=true
 kind:cH m.fKind=true
 ver:cH m.fVersion=true
 segs:et m.fSegments=0
 env:∀ s∈m.fSegments,x4 s.fTag=false
structure SE (g:Gp):Prop where
 ref:dU g.fRef=true
 kind:cH g.fKind=true
 msg:∀ m∈g.fMessages,SD m
structure Qn (x:Ix):Prop where
 ref:dU x.fRef=true
 snd:cH x.fSender=true
 rcv:cH x.fReceiver=true
 day:l7 x.fDay 1 3652059=false
 sec:l7 x.fSecond 0 86399=false
 len:x.fGroups.length<=50
 grp:∀ g∈x.fGroups,SE g
 many:(x5 x.fGroups).1<=200
 segs:(x5 x.fGroups).2<=2000
theorem t_ {b:Bool} (h:(a||b)=false):a=false/\b=false:=by cases a<;>cases b<;>first|exact⟨rfl,rfl⟩|cases h
theorem rA (h:(!a)=false):a=true:=by cases a<;>first|rfl|cases h
theorem L8 {l:List Ms} {m:Ms} (Z:l[i]?=some m) (h:JU l i=0):SD m:=by
 unfold JU at h
 simp only[Z] at h
 obtain⟨h1,h2,_,h4,h5⟩:=F5 h
 obtain⟨k1,k2⟩:=t_ h2
 refine⟨h1,rA k1,rA k2,h4,fun s hs=> ?_⟩
 cases hb:x4 s.fTag with
 |false=>rfl
 |true=>rw[UE] at h5;exact absurd hb (h5 s hs)
theorem L9 {l:List Gp} (hg:l[i]?=some g) (h:F_ l i=0):SE g:=by
 unfold F_ at h
 simp only[hg] at h
 obtain⟨h1,h2,_,h4⟩:=Bp h
 refine⟨h1,h2,fun m Z=> ?_⟩
 obtain⟨k,hk,rfl⟩:=TM.1 Z
 exact L8 (S0 hk) (k8 h4 k oM oM)
theorem Bq (h:Iy x=0):Qn x:=by
 obtain⟨h1,h2,E,h4,h5,h6⟩:=F4 h
 obtain⟨k1,k2⟩:=t_ h2
 obtain⟨k3,k4⟩:=t_ E
 obtain⟨k5,k6⟩:=t_ h6
 refine⟨h1,rA k1,rA k2,k3,k4,by have:=of_decide_eq_false h4;omega,fun g hg=> ?_,by have:=of_decide_eq_false k5;omega,by have:=of_decide_eq_false k6;omega⟩
 obtain⟨k,hk,rfl⟩:=TM.1 hg
 exact L9 (S0 hk) (k8 h5 k oM oM)
abbrev N_ (tag:List UInt8) (ts:List (List UInt8)):aa:=⟨tag,ts.map PK⟩
def Co (m:Ms):List aa:=N_ [77,72,68] [m.fRef,m.fKind,m.fVersion]::(m.fSegments++[N_ [77,84,82] [Lib.itoa ((m.fSegments.length:Int)+2),m.fRef]])
def Br (g:Gp):List aa:=N_ [71,72,68] [g.fRef,g.fKind]::(g.fMessages.flatMap Co++[N_ [71,84,82] [Lib.itoa (g.fMessages.length:Int),g.fRef]])
def ki (x:Ix):List aa:=
 N_ [73,72,68] [x.fRef,x.fSender,x.fReceiver,Lib.itoa x.fDay,Lib.itoa x.fSecond,bif x.fTest then[49] else[]]::(x.fGroups.flatMap Br++[N_ [73,84,82] [Lib.itoa (x.fGroups.length:Int),x.fRef]])
theorem kJ (m:Ms):(Co m).length=m.fSegments.length+2:=by unfold Co;simp
theorem kK (g:Gp):(Br g).length=(g.fMessages.flatMap Co).length+2:=by unfold Br;simp only[ST,SS,S3]
theorem jk (x:Ix):(ki x).length=(x.fGroups.flatMap Br).length+2:=by unfold ki;simp only[ST,SS,S3]
theorem Oa (m:Ms):(Co m).length<=f_ (ao m):=by
 have h1:=vT (l:=m.fSegments) (H:=ae) (f:=fun a=>[a]) (fun a _=>by simp only[ae,f_,B3,Tw];omega)
 have h2:(m.fSegments.flatMap fun a=>[a]).length=m.fSegments.length:=by simp
 rw[kJ]
 simp only[ao,f_,B3]
 omega
theorem Ob (g:Gp):(Br g).length<=f_ (ay g):=by
 have h1:=vT (l:=g.fMessages) (H:=ao) (f:=Co) (fun a _=>Oa a)
 rw[kK]
 simp only[ay,f_,B3]
 omega
theorem zC (x:Ix):(ki x).length<=f_ (al x):=by
 have h1:=vT (l:=x.fGroups) (H:=ay) (f:=Br) (fun a _=>Ob a)
 rw[jk]
 simp only[al,f_,B3]
 omega
theorem EB (tag:List UInt8) (n:Int) (ref:List UInt8) (h:i64 n):tb tag n ref=some (N_ tag [Lib.itoa n,ref]):=by
 unfold tb ta;dsimp only
 simp only[DN h,SQ,zt tag [Lib.itoa n,ref] oS]
structure Oc (x:Ix):Prop where
 day:i64 x.fDay
 sec:i64 x.fSecond
 len:(ki x).length<=1048576
theorem wK:g.fMessages.length<=(g.fMessages.flatMap Co).length:=by
 induction g.fMessages with
 |nil=>simp
 |cons m l ih=>simp only[Tu,SS,ST,kJ];omega
theorem wL:x.fGroups.length<=(x.fGroups.flatMap Br).length:=by
 induction x.fGroups with
 |nil=>simp
 |cons m l ih=>simp only[Tu,SS,ST,kK];omega
theorem Hs (x:Ix) (hn:Oc x) (D:Qn x):nn x=some (ki x):=by
 have I:=zC x
 have hb:=hn.len
 have L:=jk x
 have hg:=wL (x:=x)
 unfold nn tc;dsimp only
 have hc:∀ t:List UInt8,nf [73,72,68] [x.fRef,x.fSender,x.fReceiver,Lib.itoa x.fDay,Lib.itoa x.fSecond,t]=some (N_ [73,72,68] [x.fRef,x.fSender,x.fReceiver,Lib.itoa x.fDay,Lib.itoa x.fSecond,t]):=fun t=>zt _ _ oS
 cases ht:x.fTest
 all_goals
  simp only[S4,S7,DN hn.day,DN hn.sec,SQ,hc]
  refine(Fg x.fGroups [_] Br 1048576 (by simp only[SS,Tw];omega) _ ?_ ?_).trans ?_
  rotate_left
  ·intro out;simp only[aB,S7];rfl
  ·simp only[c3,EB [73,84,82] (x.fGroups.length:Int) x.fRef ⟨by omega,by omega⟩,SQ]
   rw[bU (by simp only[SS,Tw,ST,S3];omega)]
   unfold ki;rw[ht];rfl
  intro i g out hi ho
  have s7:=cB hi
  have a:=D.grp g (SW hi)
  rw[kK] at ho
  have j:=wK (g:=g)
  simp only[br s7,S4,aw,hi,SQ,zt [71,72,68] [g.fRef,g.fKind] oS,bB i oM]
  rw[bU (by simp only[ST,S3];omega)]
  refine(Fg g.fMessages (out++[_]) Co 1048576 (by simp only[SS,Tw];omega) _ ?_ ?_).trans ?_
  rotate_left
  ·intro out;simp only[aB,S7];rfl
  ·simp only[c3,EB [71,84,82] (g.fMessages.length:Int) g.fRef ⟨by omega,by omega⟩,SQ]
   rw[bU (by simp only[SS,Tw,ST,S3];omega)]
   simp[Br,S6]
  intro k m o hk J
  have r1:=cB hk
  have b:=a.msg m (SW hk)
  rw[kJ] at J
  simp only[br r1,S4,aw,hk,SQ,zt [77,72,68] [m.fRef,m.fKind,m.fVersion] oS,Ga _ (On b.segs),bB k oM,bh ((m.fSegments.length:Int)+2) oM oM,EB [77,84,82] ((m.fSegments.length:Int)+2) m.fRef ⟨by omega,by omega⟩]
  rw[bU (by simp only[ST,S3];omega),bU (by simp only[SS,ST,S3];omega),bU (by simp only[SS,ST,S3];omega)]
  simp[Co,S6]
theorem Bs (h1:t.length<=1000) (h2:∀ b∈t,wU b=false):kd t=0:=by
 unfold kd
 rw[if_neg oM]
 have:t.findSome? (fun x=>if wU x=true then some (3:Int) else none)=none:=by
  rw[List.findSome?_eq_none_iff]
  intro b hb
  rw[h2 b hb];rfl
 rw[this]
theorem L_:∀ b∈yd,wU b=false:=by decide
theorem p_ (h:dU t=true):kd t=0:=by
 unfold dU at h
 simp only[SR,S5,Ti] at h
 refine Bs oM fun b hb=> ?_
 have:=h.2 b hb
 unfold EN at this
 exact L_ b (by simpa using this)
theorem F6 {b:UInt8} (h:HJ b=true):wU b=false:=by
 unfold HJ at h;unfold wU
 simp only[SR,S5] at h
 simp only[TS,Tk]
 omega
theorem Ht {b:UInt8} (h:B1 b=true):wU b=false:=by
 unfold B1 at h
 simp only[TE,SR,S5] at h
 rcases h with h|h
 ·exact F6 h
 ·unfold wU
  simp only[TS,Tk]
  omega
theorem qH (h:cH t=true):kd t=0:=by
 cases t with
 |nil=>rfl
 |cons b l=>
  unfold cH at h
  simp only[SR,S5,Ti] at h
  refine Bs (by simp only[ST];omega) fun c hc=> ?_
  rcases Tf.1 hc with rfl|hc
  ·exact F6 h.1.2
  ·exact Ht (h.2 c hc)
theorem Ma:∀ (u:Nat),∀ b∈Lib.decDigits u,48<=b.toNat/\b.toNat<=57:=by
 intro u
 induction u using Nat.strongRecOn with
 |_ u ih=>
  intro b hb
  rw[Lib.decDigits] at hb
  have hd:∀ k,k<10->(UInt8.ofNat (48+k)).toNat=48+k:=fun k hk=>by rw[Ud (by show 48+k<256;omega)]
  split at hb
  ·rename_i h
   simp only[Tj] at hb;subst hb
   rw[hd u h];omega
  ·rename_i h
   rcases Te.1 hb with hb|hb
   ·exact ih (u/10) oM b hb
   ·simp only[Tj] at hb;subst hb
    rw[hd (u%10) oM];omega
theorem qI {n:Int} (h:i64 n):kd (Lib.itoa n)=0:=by
 have hl:=Lib.itoa_length_le n h.1 h.2
 have hd:∀ (u:Nat) (b:UInt8),b∈Lib.decDigits u->wU b=false:=fun u b hb=>by
  have:=Ma u b hb
  unfold wU
  simp only[TS,Tk]
  omega
 refine Bs oM fun b hb=> ?_
 unfold Lib.itoa at hb
 split at hb
 ·rcases Tf.1 hb with rfl|hb
  ·rfl
  ·exact hd _ b hb
 ·exact hd _ b hb
theorem nV {tag:List UInt8} {ts:List (List UInt8)} (ht:nq tag=true) (hl:ts.length<=50) (hs:∀ t∈ts,kd t=0):ut (N_ tag ts)=0:=by
 refine BC.2 ⟨ht,by simpa using hl,fun e he=> ?_⟩
 obtain⟨t,a,rfl⟩:=Tp.1 he
 refine x6.2 ⟨by simp[PK],by simp[PK],fun p Y=> ?_⟩
 simp only[PK,Tj] at Y
 subst Y
 exact BB.2 ⟨by simp,by simp,fun q hq=>by simp only[Tj] at hq;subst hq;exact hs q a⟩
theorem Rm {a c:List UInt8} (ha:P a) (hb:P b) (hc:P c):∀ t∈[a,b,c],P t:=by
 intro t ht;simp at ht;rcases ht with rfl|rfl|rfl<;>assumption
theorem two {a:List UInt8} (ha:P a) (hb:P b):∀ t∈[a,b],P t:=by
 intro t ht;simp at ht;rcases ht with rfl|rfl<;>assumption
theorem Is (hn:Oc x) (D:Qn x):∀ s∈ki x,ut s=0:=by
 have I:=zC x
 have hb:=hn.len
 have L:=jk x
 have hg:=wL (x:=x)
 intro s hs
 unfold ki at hs
 rcases Tf.1 hs with rfl|hs
 ·refine nV oD oS fun t ht=> ?_
  simp at ht
  rcases ht with rfl|rfl|rfl|rfl|rfl|rfl
  ·exact p_ D.ref
  ·exact qH D.snd
  ·exact qH D.rcv
  ·exact qI hn.day
  ·exact qI hn.sec
  ·cases x.fTest<;>rfl
 ·rcases Te.1 hs with hs|hs
  ·obtain⟨g,d,hs⟩:=Ut.1 hs
   have a:=D.grp g d
   have e:(Br g).length<=(x.fGroups.flatMap Br).length:=by
    obtain⟨i,hi,rfl⟩:=TM.1 d
    exact tU (S0 hi)
   rw[kK] at e
   have j:=wK (g:=g)
   unfold Br at hs
   rcases Tf.1 hs with rfl|hs
   ·exact nV oD oS (two (p_ a.ref) (qH a.kind))
   ·rcases Te.1 hs with hs|hs
    ·obtain⟨m,u7,hs⟩:=Ut.1 hs
     have b:=a.msg m u7
     have s3:(Co m).length<=(g.fMessages.flatMap Co).length:=by
      obtain⟨i,hi,rfl⟩:=TM.1 u7
      exact tU (S0 hi)
     rw[kJ] at s3
     unfold Co at hs
     rcases Tf.1 hs with rfl|hs
     ·exact nV oD oS (Rm (p_ b.ref) (qH b.kind) (qH b.ver))
     ·rcases Te.1 hs with hs|hs
      ·exact(Iz b.segs).2 s hs
      ·simp only[Tj] at hs;subst hs
       exact nV oD oS (two (qI ⟨by omega,by omega⟩) (p_ b.ref))
    ·simp only[Tj] at hs;subst hs
     exact nV oD oS (two (qI ⟨by omega,by omega⟩) (p_ a.ref))
  ·simp only[Tj] at hs;subst hs
   exact nV oD oS (two (qI ⟨by omega,by omega⟩) (p_ D.ref))
theorem It:∀ (l:List Ms) (n:Int),0<=n->n+((l.flatMap Co).length:Int)<=1000000000->BA l n=n+((l.flatMap Co).length:Int)
 |[],n,_,_=>by simp[BA]
 |m::l,n,h0,h=>by
  simp only[Tu,SS,kJ] at h⊢
  have e:BA (m::l) n=BA l (IntKind.i64.wrap (n+IntKind.i64.wrap (2+(m.fSegments.length:Int)))):=rfl
  rw[e,bh (2+(m.fSegments.length:Int)) oM oM,bh _ oM oM,It l _ oM oM]
  omega
theorem Mb:∀ (l:List Gp) (a b:Int),0<=b->b+((l.flatMap Br).length:Int)<=1000000000->
  (l.foldl (fun s g=>(IntKind.i64.wrap (s.1+(g.fMessages.length:Int)),BA g.fMessages (IntKind.i64.wrap (s.2+2)))) (a,b)).2=b+((l.flatMap Br).length:Int)
 |[],a,b,_,_=>by simp
 |g::l,a,b,h0,h=>by
  simp only[Tu,SS,kK] at h⊢
  rw[US]
  have e:BA g.fMessages (IntKind.i64.wrap (b+2))=b+2+((g.fMessages.flatMap Co).length:Int):=by
   rw[bh _ oM oM,It _ _ oM oM]
  rw[Mb l _ _ (by simp only[e];omega) (by simp only[e];omega)]
  simp only[e];omega
theorem JO (hn:Oc x) (D:Qn x):et (ki x)=0:=by
 have I:=zC x
 have hb:=hn.len
 have L:=jk x
 have hc:(x5 x.fGroups).2=2+((x.fGroups.flatMap Br).length:Int):=Mb x.fGroups 0 2 oM oM
 have:=D.segs
 unfold et
 rw[if_neg oM]
 exact qL (Is hn D)
theorem xc {α:Type} {H:α->List DV} (h:∀ a,1<=f_ (H a)):∀ (l:List α),l.length<=rY (l.map H)
 |[]=>by simp
 |x::l=>by
  have h1:=h x
  have h2:=xc h l
  simp only[Tc,rY,ST]
  omega
theorem BX {r:List DV}:∀ {rows:List (List DV)},r∈rows->f_ r<=rY rows
 |[],h=>by cases h
 |x::rows,h=>by
  simp only[rY]
  rcases Tf.1 h with rfl|h
  ·omega
  ·have:=BX h;omega
theorem RK (x:Ix) (o:iz x) (hb:f_ (al x)<=1048576):JT x:=by
 obtain⟨o1,o2,o3,_,_,_,a⟩:=o
 have h0:x.fGroups.length<=rY (x.fGroups.map ay):=xc (fun m=>by simp only[ay,f_,B3];omega) _
 simp only[al,f_,B3] at hb
 refine⟨o1,o2,o3,by omega,fun g hg=> ?_⟩
 obtain⟨g1,g2,g3⟩:=a.2 g hg
 have h1:f_ (ay g)<=rY (x.fGroups.map ay):=BX (UF hg)
 have h2:g.fMessages.length<=rY (g.fMessages.map ao):=xc (fun m=>by simp only[ao,f_,B3];omega) _
 simp only[ay,f_,B3] at h1
 refine⟨g1,g2,by omega,fun m Z=> ?_⟩
 obtain⟨m1,m2,m3,m4⟩:=g3.2 m Z
 have E:f_ (ao m)<=rY (g.fMessages.map ao):=BX (UF Z)
 have h4:m.fSegments.length<=rY (m.fSegments.map ae):=xc (fun m=>by simp only[ae,f_,B3];omega) _
 simp only[ao,f_,B3] at E
 exact⟨m1,m2,m3,by omega,fun s hs=>(m4.2 s hs).1⟩
theorem SA (x:Ix) (o:iz x) (hb:f_ (al x)<=1048576):Oc x:=⟨o.2.2.2.1,o.2.2.2.2.1,TW (zC x) hb⟩
end Go.Proofs.YtgmnipfafmphaaaGreatDoor
