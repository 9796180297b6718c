/-
  Laws on the way to the theorem.
-/
import Derived.Test.YteaolfcegaidpaaGreatDoorBZ2
import Derived.Test.YteaolfcegaidpaaGreatDoorBZ5
import Derived.Test.YteaolfcegaidpaaGreatDoorCards
import Derived.Test.YteaolfcegaidpaaGreatDoorTie
import Derived.Test.YteaolfcegaidpaaGreatDoorSZEngNr
import Derived.Test.YteaolfcegaidpaaGreatDoorSZEngRn
import Derived.Lib.Bytealg
namespace Go.Proofs.YteaolfcegaidpaaGreatDoor
open Go.RowKit
set_option linter.unusedSimpArgs false
set_option linter.unusedVariables false
noncomputable section
set_option maxRecDepth 100000
set_option maxHeartbeats 40000000
def l1:SC:=(.sq [.r 2 (.boxI (.t 0)),.r 3 (.boxI (.t 1)),.r 4 (.mv (.b false))] (.seq (.sq [.f 5 1 2,.l 6 5,.r 7 (.bin .neq (.t 6) (.c (.d (.str []))))] (.cond (.t 7) (.sq [.f 8 0 3,.l 9 8,.f 10 1 2,.l 11 10,.k 12 .eql 9 11,.v 4 12] .ret) .skip)) (.seq (.reg (.f 13 0 3:: .l 14 13:: .r 15 (.bin .eql (.t 14) (.c (.d (.str [])))):: .v 16 15::aV [17,18,19,20,21,22] 16 true (.f 17 1 3:: .f 18 0 17:: .r 19 (.ld1 (.t 18)):: .f 20 0 2:: .r 21 (.ld1 (.t 20)):: .k 22 .eql 19 21::[]) (.r 23 (.pick (.t 16) (.t 22) (.b false)):: .v 4 23::[]))) .ret)))
theorem sT:fits Tryz.prog 85 Tryz.f85 l1 [.t 4] 2=true:=oK
def vF:(∀ (D:ai) (x1:ad),{m:Option (Bool)//∀ r,m=some r->aa Tryz.prog 85 [.agg (ak D),.agg (ae x1)] (.bool r)}):=by
 (intro D x1;apply Subtype.mk;intro r Z;apply ag Tryz.func85 sT;unfold l1)
 repeat'(first|with_reducible refine bn ?_|with_reducible refine bl ?_|with_reducible refine aZ ?_|with_reducible refine bF ?_|with_reducible refine bm ?_|with_reducible refine bo ?_|with_reducible refine bI ?_|with_reducible refine cF ?_|((with_reducible apply fi);(simp only[push_cast,seval];rfl);(first|exact trivial))|((with_reducible apply eh Z);(simp only[push_cast,seval];rfl);rfl;intro v Z;rotate_left;intro v g Z)|((with_reducible apply aI Z);(simp only[push_cast,seval];rfl);intro Z;rotate_left;intro Z)|((with_reducible apply bP Z);(focus(simp only[cE,eS,RV.get,push_cast,seval];rfl));(focus((repeat'(first|rfl));done)))|((with_reducible apply b5 Z);(simp only[push_cast,seval];rfl)))
def iD (D:ai) (x1:ad):Option (Bool):=(vF D x1).1
theorem rK (D:ai) (x1:ad):∀ r,iD D x1=some r->aa Tryz.prog 85 [.agg (ak D),.agg (ae x1)] (.bool r):=(vF D x1).2
def oj:SC:=(.seq (.seq (.regD (.v 18 2:: .h 19 18:: .j 20 .gtr 19 0:: .v 21 20::aV [22,23,24,25] 21 true (.v 22 9:: .f 23 3 8:: .r 24 (.ld1 (.t 23)):: .k 25 .lss 22 24::[]) (.r 26 (.pick (.t 21) (.t 25) (.b false)):: .v 27 26::aV [28,29,30,31,32,33,34] 27 true (.v 28 2:: .r 29 (.idx 4 (.t 28) (.i 0)):: .f 30 0 29:: .r 31 (.ld1 (.t 30)):: .f 32 1 8:: .r 33 (.ld1 (.t 32)):: .k 34 .eql 31 33::[]) (.r 35 (.pick (.t 27) (.t 34) (.b false)):: .v 36 35::aV [37,38,39,40,41,42,43,44] 36 true (.v 37 2:: .r 38 (.idx 4 (.t 37) (.i 0)):: .f 39 1 38:: .f 40 0 39:: .r 41 (.ld1 (.t 40)):: .f 42 0 8:: .r 43 (.ld1 (.t 42)):: .k 44 .eql 41 43::[]) (.r 45 (.pick (.t 36) (.t 44) (.b false))::[]))))) (.cond (.t 45) .skip (.exit 2))) (.block 3 (.seq (.seq (.regD (.f 46 1 8:: .r 47 (.ld1 (.t 46)):: .r 48 (.bin .neq (.t 47) (.c (.d (.str [])))):: .v 49 48::aV [50,51,52,53,54,55,56,57,58] 49 true (.r 50 (.ldA 4 (.t 3)):: .f 51 4 8:: .r 52 (.ld1 (.t 51)):: .v 53 2:: .r 54 (.idx 4 (.t 53) (.i 0)):: .f 55 3 54:: .r 56 (.ld1 (.t 55)):: .c 57 (.f 37) [.t 50,.t 52,.t 56]:: .r 58 (.not (.t 57))::[]) (.r 59 (.pick (.t 49) (.t 58) (.b false))::[]))) (.cond (.t 59) (.sq [.r 6 (.mv (.b false))] .ret) .skip)) (.seq (.sq [.f 60 1 8,.l 61 60,.r 62 (.bin .eql (.t 61) (.c (.d (.str []))))] (.cond (.t 62) (.sq [.a 64 4 3,.f 65 0 8,.l 66 65,.c 67 (.f 84) [.t 64,.t 66],.v 63 67,.e 68 63 0,.e 69 63 1,.w 10 (.boxM (.c (.agg [.d (.str []),.nils]))),.s 2 10 68,.v 11 69] (.seq (.regD [.r 70 (.ldA 2 (.t 10)),.v 71 2,.r 72 (.idx 4 (.t 71) (.i 0)),.f 73 1 72,.r 74 (.ldA 2 (.t 73)),.c 75 (.f 27) [.t 70,.t 74],.h 76 75,.j 77 .gtr 76 0]) (.cond (.t 77) (.sq [.r 6 (.mv (.b false))] .ret) .skip))) .skip)) (.sq [.v 78 9,.j 79 .add 78 1,.v 9 79] (.reg [.v 80 2,.r 81 (.slc 4 (.t 80) (some (.i 1)) none),.v 2 81]))))))
def tZ:SC:= .block 2 (.loop oj)
def ol:SC:=(.sq [.k 15 .lss 14 13] (.seq (.cond (.t 15) .skip (.exit 0)) (.seq (.block 1 (.sq [.y 16 5 12 14,.a 17 5 16,.w 8 (.boxM (.c (.agg [.d (.str []),.d (.str []),.d (.int .i64 0),.d (.int .i64 0),.nils]))),.s 5 8 17] (.sq [.r 9 (.mv (.i 0))] (.seq tZ (.sq [.v 82 9,.f 83 2 8,.l 84 83,.k 85 .lss 82 84] (.cond (.t 85) (.sq [.r 6 (.mv (.b false))] .ret) .skip)))))) (.reg [.j 86 .add 14 1,.v 14 86]))))
def t1:SC:= .block 0 (.loop ol)
def xU:SC:=(.sq [.r 3 (.boxI (.t 0)),.r 6 (.mv (.b false))] (.seq (.sq [.v 12 1,.h 13 12,.r 14 (.mv (.i 0))] t1) (.sq [.v 87 2,.h 88 87,.j 89 .eql 88 0,.v 6 89] .ret)))
theorem Cz:fits Tryz.prog 37 Tryz.f37 xU [.t 6] 3=true:=oK
def vG:((∀ (D:aj) (x1:List ai) (x2:List ad),{m:Option (Bool)//∀ r,m=some r->aa Tryz.prog 37 [.agg (aC D),.slice (List.map ak x1),.slice (List.map ae x2)] (.bool r)}))->((∀ (D:aj) (x1:List ai) (x2:List ad),{m:Option (Bool)//∀ r,m=some r->aa Tryz.prog 37 [.agg (aC D),.slice (List.map ak x1),.slice (List.map ae x2)] (.bool r)})):=by
 intro ih
 have pk:∀ (D:aj) (x1:List ai) (x2:List ad),∀ r,(ih D x1 x2).1=some r->aa Tryz.prog 37 [.agg (aC D),.slice (List.map ak x1),.slice (List.map ae x2)] (.bool r):=fun D x1 x2=>(ih D x1 x2).2
 (intro D x1 x2;apply Subtype.mk;intro r Z;apply ag Tryz.func37 Cz;unfold xU)
 repeat'(first|with_reducible refine bn ?_|with_reducible refine bl ?_|with_reducible refine l5 ?_|with_reducible refine aX ?_|with_reducible refine aZ ?_|with_reducible refine bF ?_|with_reducible refine bN ?_|with_reducible refine bm ?_|with_reducible refine bo ?_|with_reducible refine bO ?_|with_reducible refine bI ?_|with_reducible refine a8 ?_|with_reducible refine bE ?_|with_reducible refine cF ?_|((with_reducible apply cA Z);(iterate 2 (simp only[push_cast,seval];rfl));(intro _;rfl);intro e Z)|((with_reducible apply Bh Z);(iterate 3 (simp only[push_cast,seval];rfl));(intro _;rfl);intro e Z)|((with_reducible apply fi);(simp only[push_cast,seval];rfl);(first|exact trivial))|((with_reducible apply eh Z);(simp only[push_cast,seval];rfl);rfl;intro v Z;rotate_left;intro v g Z)|((with_reducible apply dD Z);(simp only[push_cast,seval];rfl);(first|apply pk _ _ _|apply tN _ _|apply Ao _ _);(any_goals((repeat'(first|rfl));done));intro x Z)|((with_reducible apply wi);(simp only[push_cast,seval];rfl);(first|exact trivial))|((with_reducible apply aI Z);(simp only[push_cast,seval];rfl);intro Z;rotate_left;intro Z)|((with_reducible apply bP Z);(focus(simp only[cE,eS,RV.get,push_cast,seval];rfl));(focus((repeat'(first|rfl));done)))|((with_reducible apply b5 Z);(simp only[push_cast,seval];rfl))|((with_reducible apply br Z);intro r Z)|((with_reducible apply b8 Z);intro r Z)|((apply av (b:=2) (X:=tZ) (x:=oj) rfl (fun(c:SV×Ch×SV×SV×SV) (s:(List ad)×Int)=>st [(2,.d (.slice (List.map ae s.1))),(3,c.1),(8,.ref 8 0),(9,.d (.int .i64 s.2)),(12,c.2.2.1),(13,c.2.2.2.1),(14,c.2.2.2.2)] [(8,c.2.1)]) (c:=(_,_,_,_,_)) (s0:=(_,_)) Z);(focus(first|(dsimp only;done)));(with_reducible refine cc.mk ?_ ?_))|((apply av (b:=0) (X:=t1) (x:=ol) rfl (fun(c:SV×SV×SV) (s:(List ad)×Int)=>st [(2,.d (.slice (List.map ae s.1))),(3,c.1),(12,c.2.1),(13,c.2.2),(14,.d (.int .i64 s.2))] []) (c:=(_,_,_)) (s0:=(_,_)) Z);(focus(first|(dsimp only;done)));(with_reducible refine cc.mk ?_ ?_))|((apply bz (F:=(_,_)) Z);(focus(first|(dsimp only;done))))|((apply co (F:=(_,_)) Z);(focus(first|(dsimp only;done))))|(((with_reducible apply dQ Z);intro r Z))|(((with_reducible apply cM.of);(focus(first|(dsimp only;done)));(focus((intro _;repeat'(first|with_reducible exact bd|with_reducible refine aB ?_|with_reducible refine cz ?_|((with_reducible refine c2 ?_);intro _)|((with_reducible refine dZ ?_);intro _)))));(intro s o Z;first|unfold oj|unfold ol);rotate_left;intro s Z))|(((apply a7;(repeat'(first|with_reducible exact aw|with_reducible exact ax|with_reducible apply aq|with_reducible apply a1|((with_reducible apply aS);(focus(first|(simp only[push_cast,seval];rfl)));(focus((repeat'(first|rfl));done)))|((with_reducible apply b7);(focus(first|(simp only[push_cast,seval];rfl)));(first|with_reducible exact be rfl))));done))))
def rL (fu:Nat):(∀ (D:aj) (x1:List ai) (x2:List ad),{m:Option (Bool)//∀ r,m=some r->aa Tryz.prog 37 [.agg (aC D),.slice (List.map ak x1),.slice (List.map ae x2)] (.bool r)}):=Nat.rec (fun D x1 x2=>⟨none,fun r h=>by cases h⟩) (fun _ ih=>vG ih) fu
def pG (fu:Nat) (D:aj) (x1:List ai) (x2:List ad):Option (Bool):=((rL fu) D x1 x2).1
theorem zx (fu:Nat) (D:aj) (x1:List ai) (x2:List ad):((rL fu) D x1 x2).1=pG fu D x1 x2:=rfl
theorem zy (fu:Nat) (D:aj) (x1:List ai) (x2:List ad):pG (fu+1) D x1 x2=((vG (rL fu)) D x1 x2).1:=rfl
theorem pk (fu:Nat) (D:aj) (x1:List ai) (x2:List ad):∀ r,pG fu D x1 x2=some r->aa Tryz.prog 37 [.agg (aC D),.slice (List.map ak x1),.slice (List.map ae x2)] (.bool r):=((rL fu) D x1 x2).2
def xV:SC:=(.sq [.r 2 (.boxI (.t 0)),.r 4 (.mv (.b false)),.r 5 (.mv (.i 0))] (.seq (.sq [.a 8 4 2,.c 9 (.f 24) [.t 8],.v 6 9] (.sq [.v 10 6,.j 11 .neq 10 0] (.cond (.t 11) (.sq [.v 12 6,.r 4 (.mv (.b false)),.v 5 12] .ret) .skip))) (.seq (.sq [.v 13 1,.c 14 (.f 18) [.t 13],.v 7 14] (.sq [.v 15 7,.j 16 .neq 15 0] (.cond (.t 16) (.sq [.v 17 7,.r 4 (.mv (.b false)),.v 5 17] .ret) .skip))) (.sq [.a 18 4 2,.f 19 3 2,.l 20 19,.v 21 1,.c 22 (.f 37) [.t 18,.t 20,.t 21],.v 4 22,.r 5 (.mv (.i 0))] .ret))))
theorem CA:fits Tryz.prog 16 Tryz.f16 xV [.t 4,.t 5] 2=true:=oK
def vH:(∀ (D:aj) (x1:List ad),{m:Option (Bool×Int)//∀ r,m=some r->aa Tryz.prog 16 [.agg (aC D),.slice (List.map ae x1)] (.tup [.bool r.1,.int .i64 r.2])}):=by
 (intro D x1;apply Subtype.mk;intro r Z;apply ag Tryz.func16 CA;unfold xV)
 repeat'(first|with_reducible refine bn ?_|with_reducible refine bl ?_|with_reducible refine aZ ?_|with_reducible refine bF ?_|with_reducible refine bm ?_|with_reducible refine bo ?_|with_reducible refine bI ?_|with_reducible refine cF ?_|((with_reducible apply fi);(simp only[push_cast,seval];rfl);(first|exact trivial))|((with_reducible apply dD Z);(simp only[push_cast,seval];rfl);(first|apply uU _|apply gY _|apply pk FU _ _ _);(any_goals((repeat'(first|rfl));done));intro x Z)|((with_reducible apply aI Z);(simp only[push_cast,seval];rfl);intro Z;rotate_left;intro Z)|((with_reducible apply iu Z);(focus(simp only[cE,eS,RV.get,push_cast,seval];rfl));(focus(first|(dsimp only;done)));(focus((repeat'(first|rfl));done))))
def uo (D:aj) (x1:List ad):Option (Bool×Int):=(vH D x1).1
theorem BA (D:aj) (x1:List ad):∀ r,uo D x1=some r->aa Tryz.prog 16 [.agg (aC D),.slice (List.map ae x1)] (.tup [.bool r.1,.int .i64 r.2]):=(vH D x1).2
def gL:SC:=(.seq (.seq (.regD (.v 17 7:: .v 18 2:: .h 19 18:: .k 20 .lss 17 19:: .v 21 20::aV [22,23,24,25,26,27,28,29,30] 21 true (.v 22 1:: .v 23 8:: .y 24 5 22 23:: .r 25 (.ldA 5 (.t 24)):: .v 26 2:: .v 27 7:: .y 28 4 26 27:: .r 29 (.ldA 4 (.t 28)):: .c 30 (.f 85) [.t 25,.t 29]::[]) (.r 31 (.pick (.t 21) (.t 30) (.b false))::[]))) (.cond (.t 31) .skip (.exit 2))) (.block 3 (.seq (.sq [.v 32 1,.v 33 8,.y 34 5 32 33,.f 35 1 34,.l 36 35,.r 37 (.bin .neq (.t 36) (.c (.d (.str []))))] (.cond (.t 37) (.seq (.regD [.r 38 (.ldA 4 (.t 3)),.v 39 1,.v 40 8,.y 41 5 39 40,.f 42 4 41,.r 43 (.ld1 (.t 42)),.v 44 2,.v 45 7,.y 46 4 44 45,.f 47 3 46,.r 48 (.ld1 (.t 47)),.c 49 (.f 38) [.t 38,.t 43,.t 48],.r 50 (.not (.t 49))]) (.cond (.t 50) (.sq [.r 6 (.mv (.b false))] .ret) .skip)) (.seq (.regD [.r 51 (.ldA 4 (.t 3)),.v 52 1,.v 53 8,.y 54 5 52 53,.f 55 0 54,.r 56 (.ld1 (.t 55)),.c 57 (.f 82) [.t 51,.t 56],.v 10 57]) (.seq (.regD (.v 58 10:: .j 59 .lss 58 0:: .v 60 59::aV [61,62,63,64,65,66,67,68,69,70,71,72,73] 60 false (.f 61 2 3:: .r 62 (.ld1 (.t 61)):: .v 63 10:: .y 64 2 62 63:: .r 65 (.ldA 2 (.t 64)):: .v 66 2:: .v 67 7:: .y 68 4 66 67:: .f 69 1 68:: .r 70 (.ldA 2 (.t 69)):: .c 71 (.f 30) [.t 65,.t 70]:: .h 72 71:: .j 73 .gtr 72 0::[]) (.r 74 (.pick (.t 60) (.b true) (.t 73))::[]))) (.cond (.t 74) (.sq [.r 6 (.mv (.b false))] .ret) .skip))))) (.sq [.v 75 9,.j 76 .add 75 1,.v 9 76] (.reg [.v 77 7,.j 78 .add 77 1,.v 7 78])))))
def lf:SC:= .block 2 (.loop gL)
def gM:SC:=(.seq (.sq [.v 11 8,.v 12 1,.h 13 12,.k 14 .lss 11 13] (.cond (.t 14) .skip (.exit 0))) (.seq (.block 1 (.sq [.r 9 (.mv (.i 0))] (.seq lf (.seq (.regD [.v 79 9,.v 80 1,.v 81 8,.y 82 5 80 81,.f 83 2 82,.r 84 (.ld1 (.t 83)),.v 85 1,.v 86 8,.y 87 5 85 86,.f 88 3 87,.r 89 (.ld1 (.t 88)),.c 90 (.f 86) [.t 79,.t 84,.t 89],.r 91 (.not (.t 90))]) (.cond (.t 91) (.sq [.r 6 (.mv (.b false))] .ret) .skip))))) (.reg [.v 15 8,.j 16 .add 15 1,.v 8 16])))
def lg:SC:= .block 0 (.loop gM)
def nv:SC:=(.sq [.r 3 (.boxI (.t 0)),.r 6 (.mv (.b false))] (.sq [.r 7 (.mv (.i 0))] (.seq (.sq [.r 8 (.mv (.i 0))] lg) (.sq [.v 92 7,.v 93 2,.h 94 93,.k 95 .eql 92 94,.v 6 95] .ret))))
theorem uq:fits Tryz.prog 38 Tryz.f38 nv [.t 6] 3=true:=oK
def vI:((∀ (D:aj) (x1:List ai) (x2:List ad),{m:Option (Bool)//∀ r,m=some r->aa Tryz.prog 38 [.agg (aC D),.slice (List.map ak x1),.slice (List.map ae x2)] (.bool r)}))->((∀ (D:aj) (x1:List ai) (x2:List ad),{m:Option (Bool)//∀ r,m=some r->aa Tryz.prog 38 [.agg (aC D),.slice (List.map ak x1),.slice (List.map ae x2)] (.bool r)})):=by
 intro ih
 have hG:∀ (D:aj) (x1:List ai) (x2:List ad),∀ r,(ih D x1 x2).1=some r->aa Tryz.prog 38 [.agg (aC D),.slice (List.map ak x1),.slice (List.map ae x2)] (.bool r):=fun D x1 x2=>(ih D x1 x2).2
 (intro D x1 x2;apply Subtype.mk;intro r Z;apply ag Tryz.func38 uq;unfold nv)
 repeat'(first|with_reducible refine bn ?_|with_reducible refine bl ?_|with_reducible refine l5 ?_|with_reducible refine aX ?_|with_reducible refine aZ ?_|with_reducible refine bF ?_|with_reducible refine bN ?_|with_reducible refine bm ?_|with_reducible refine bo ?_|with_reducible refine bO ?_|with_reducible refine bI ?_|with_reducible refine a8 ?_|with_reducible refine bE ?_|with_reducible refine cF ?_|((with_reducible apply cA Z);(iterate 2 (simp only[push_cast,seval];rfl));(intro _;rfl);intro e Z)|((with_reducible apply fi);(simp only[push_cast,seval];rfl);(first|exact trivial))|((with_reducible apply eh Z);(simp only[push_cast,seval];rfl);rfl;intro v Z;rotate_left;intro v g Z)|((with_reducible apply oF Z);(simp only[push_cast,seval];rfl);rfl;intro v Z;rotate_left;intro v g Z)|((with_reducible apply dD Z);(simp only[push_cast,seval];rfl);(first|apply rK _ _|apply hG _ _ _|apply lp _ _|apply sX _ _|apply c5 _ _ _);(any_goals((repeat'(first|rfl|(with_reducible first|apply sS|apply jS|apply sg|apply fk)));done));intro x Z)|((with_reducible apply aI Z);(simp only[push_cast,seval];rfl);intro Z;rotate_left;intro Z)|((with_reducible apply bP Z);(focus(simp only[cE,eS,RV.get,push_cast,seval];rfl));(focus((repeat'(first|rfl));done)))|((with_reducible apply b5 Z);(simp only[push_cast,seval];rfl))|((with_reducible apply br Z);intro r Z)|((with_reducible apply b8 Z);intro r Z)|((apply av (b:=2) (X:=lf) (x:=gL) rfl (fun(c:SV×SV×SV×SV) (s:Int×Int)=>st [(1,c.1),(2,c.2.1),(3,c.2.2.1),(7,.d (.int .i64 s.1)),(8,c.2.2.2),(9,.d (.int .i64 s.2))] []) (c:=(_,_,_,_)) (s0:=(_,_)) Z);(focus(first|(dsimp only;done)));(with_reducible refine cc.mk ?_ ?_))|((apply av (b:=0) (X:=lg) (x:=gM) rfl (fun(c:SV×SV×SV) (s:Int×Int)=>st [(1,c.1),(2,c.2.1),(3,c.2.2),(7,.d (.int .i64 s.1)),(8,.d (.int .i64 s.2))] []) (c:=(_,_,_)) (s0:=(_,_)) Z);(focus(first|(dsimp only;done)));(with_reducible refine cc.mk ?_ ?_))|((apply bz (F:=(_,_)) Z);(focus(first|(dsimp only;done))))|((apply co (F:=(_,_)) Z);(focus(first|(dsimp only;done))))|(((with_reducible apply dQ Z);intro r Z))|(((with_reducible apply cM.of);(focus(first|(dsimp only;done)));(focus((intro _;repeat'(first|with_reducible exact bd|with_reducible refine aB ?_|with_reducible refine cz ?_|((with_reducible refine c2 ?_);intro _)|((with_reducible refine dZ ?_);intro _)))));(intro s o Z;first|unfold gL|unfold gM);rotate_left;intro s Z))|(((apply a7;(repeat'(first|with_reducible exact aw|with_reducible exact ax|with_reducible apply aq|((with_reducible apply aS);(focus(first|(simp only[push_cast,seval];rfl)));(focus((repeat'(first|rfl));done)))));done))))
def rM (fu:Nat):(∀ (D:aj) (x1:List ai) (x2:List ad),{m:Option (Bool)//∀ r,m=some r->aa Tryz.prog 38 [.agg (aC D),.slice (List.map ak x1),.slice (List.map ae x2)] (.bool r)}):=Nat.rec (fun D x1 x2=>⟨none,fun r h=>by cases h⟩) (fun _ ih=>vI ih) fu
def ge (fu:Nat) (D:aj) (x1:List ai) (x2:List ad):Option (Bool):=((rM fu) D x1 x2).1
theorem rN (fu:Nat) (D:aj) (x1:List ai) (x2:List ad):((rM fu) D x1 x2).1=ge fu D x1 x2:=rfl
theorem rO (fu:Nat) (D:aj) (x1:List ai) (x2:List ad):ge (fu+1) D x1 x2=((vI (rM fu)) D x1 x2).1:=rfl
theorem hG (fu:Nat) (D:aj) (x1:List ai) (x2:List ad):∀ r,ge fu D x1 x2=some r->aa Tryz.prog 38 [.agg (aC D),.slice (List.map ak x1),.slice (List.map ae x2)] (.bool r):=((rM fu) D x1 x2).2
def nw:SC:=(.sq [.r 2 (.boxI (.t 0)),.r 4 (.mv (.b false)),.r 5 (.mv (.i 0))] (.seq (.sq [.a 8 4 2,.c 9 (.f 33) [.t 8],.v 6 9] (.sq [.v 10 6,.j 11 .neq 10 0] (.cond (.t 11) (.sq [.v 12 6,.r 4 (.mv (.b false)),.v 5 12] .ret) .skip))) (.seq (.sq [.v 13 1,.c 14 (.f 19) [.t 13],.v 7 14] (.sq [.v 15 7,.j 16 .neq 15 0] (.cond (.t 16) (.sq [.v 17 7,.r 4 (.mv (.b false)),.v 5 17] .ret) .skip))) (.sq [.a 18 4 2,.f 19 3 2,.l 20 19,.v 21 1,.c 22 (.f 38) [.t 18,.t 20,.t 21],.v 4 22,.r 5 (.mv (.i 0))] .ret))))
theorem ur:fits Tryz.prog 17 Tryz.f17 nw [.t 4,.t 5] 2=true:=oK
def vJ:(∀ (D:aj) (x1:List ad),{m:Option (Bool×Int)//∀ r,m=some r->aa Tryz.prog 17 [.agg (aC D),.slice (List.map ae x1)] (.tup [.bool r.1,.int .i64 r.2])}):=by
 (intro D x1;apply Subtype.mk;intro r Z;apply ag Tryz.func17 ur;unfold nw)
 repeat'(first|with_reducible refine bn ?_|with_reducible refine bl ?_|with_reducible refine aZ ?_|with_reducible refine bF ?_|with_reducible refine bm ?_|with_reducible refine bo ?_|with_reducible refine bI ?_|with_reducible refine cF ?_|((with_reducible apply fi);(simp only[push_cast,seval];rfl);(first|exact trivial))|((with_reducible apply dD Z);(simp only[push_cast,seval];rfl);(first|apply oa _|apply e4 _|apply hG FU _ _ _);(any_goals((repeat'(first|rfl));done));intro x Z)|((with_reducible apply aI Z);(simp only[push_cast,seval];rfl);intro Z;rotate_left;intro Z)|((with_reducible apply iu Z);(focus(simp only[cE,eS,RV.get,push_cast,seval];rfl));(focus(first|(dsimp only;done)));(focus((repeat'(first|rfl));done))))
def jP (D:aj) (x1:List ad):Option (Bool×Int):=(vJ D x1).1
theorem tq (D:aj) (x1:List ad):∀ r,jP D x1=some r->aa Tryz.prog 17 [.agg (aC D),.slice (List.map ae x1)] (.tup [.bool r.1,.int .i64 r.2]):=(vJ D x1).2
end
def fd:SC:=(.sq [.r 2 (.boxI (.t 0)),.r 4 (.mv (.b false))] (.sq [.v 14 1,.c 15 (.f 14) [.t 14],.v 13 15,.e 16 13 0,.e 17 13 1,.v 5 16,.v 6 17] (.sq [.v 19 1,.c 20 (.f 15) [.t 19],.v 18 20,.e 21 18 0,.e 22 18 1,.v 7 21,.v 8 22] (.sq [.a 24 4 2,.v 25 1,.c 26 (.f 16) [.t 24,.t 25],.v 23 26,.e 27 23 0,.e 28 23 1,.v 9 27,.v 10 28] (.sq [.a 30 4 2,.v 31 1,.c 32 (.f 17) [.t 30,.t 31],.v 29 32,.e 33 29 0,.e 34 29 1,.v 11 33,.v 12 34] (.seq (.reg (.v 35 1:: .c 36 (.f 18) [.t 35]:: .v 37 1:: .c 38 (.f 19) [.t 37]:: .k 39 .eql 36 38:: .v 40 39::aV [41,42,43] 40 true (.v 41 5:: .v 42 7:: .c 43 (.f 20) [.t 41,.t 42]::[]) (.r 44 (.pick (.t 40) (.t 43) (.b false)):: .v 45 44::aV [46,47,48] 45 true (.v 46 6:: .v 47 8:: .k 48 .eql 46 47::[]) (.r 49 (.pick (.t 45) (.t 48) (.b false)):: .v 50 49::aV [51,52,53] 50 true (.v 51 9:: .v 52 11:: .r 53 (.binB .eql (.t 51) (.t 52))::[]) (.r 54 (.pick (.t 50) (.t 53) (.b false)):: .v 55 54::aV [56,57,58] 55 true (.v 56 10:: .v 57 12:: .k 58 .eql 56 57::[]) (.r 59 (.pick (.t 55) (.t 58) (.b false)):: .v 60 59::aV [61] 60 true (.c 61 (.f 10) []::[]) (.r 62 (.pick (.t 60) (.t 61) (.b false)):: .v 4 62::[]))))))) .ret))))))
theorem ki:fits Tryz.prog 5 Tryz.f5 fd [.t 4] 2=true:=oK
set_option maxRecDepth 100000 in
set_option maxHeartbeats 40000000 in
noncomputable def vK:(∀ (D:aj) (x1:List ad),{m:Option (Bool)//∀ r,m=some r->aa Tryz.prog 5 [.agg (aC D),.slice (List.map ae x1)] (.bool r)}):=by
 (intro D x1;apply Subtype.mk;intro r Z;apply ag Tryz.func5 ki;unfold fd)
 repeat'(first|(with_reducible first|refine bn ?_|refine bl ?_|refine bF ?_|refine bm ?_|refine bo ?_|refine cF ?_)|(with_reducible apply fi);exact bj;(first|exact trivial)|((with_reducible apply eh Z);exact bj;rfl;intro v Z;rotate_left;intro v g Z)|(with_reducible apply dD Z);exact bj;(first|apply Bz _|apply tp _|apply BA _ _|apply tq _ _|apply gY _|apply e4 _|apply nL _ _|apply sR);(any_goals(exact yi));intro x Z|(with_reducible apply bP Z);exact AM;exact rj|(with_reducible apply b5 Z);exact bj|fail)
noncomputable def cu (D:aj) (x1:List ad):Option (Bool):=(vK D x1).1
theorem j4 (D:aj) (x1:List ad):∀ r,cu D x1=some r->aa Tryz.prog 5 [.agg (aC D),.slice (List.map ae x1)] (.bool r):=(vK D x1).2
end Go.Proofs.YteaolfcegaidpaaGreatDoor
namespace Go.Proofs.YteaolfcegaidpaaGreatDoor
set_option maxRecDepth 100000
open Go.ChangeShapes Go.WideShapes Go.ChangeAt Go.RowKit
set_option linter.unusedSimpArgs false
set_option linter.unusedVariables false
variable {O:List DV} {P:Program} {e:TypeId} {n:Nat} {t:TypeId} {α:Type} {H:α->List DV} {ok:α->Prop}
theorem RH {a b:Bool} (h1:a=true) (h2:b=true):(a&&b)=true:=by rw[h1,h2];rfl
def Wt (P:Program) (n:Nat) (t:TypeId) (H:α->List DV) (ok:α->Prop):Prop:=∀ m O,WT P (m+n) t O->∃ x,O=H x/\ok x
theorem Wt.up (h:Wt P n t H ok) (k:Nat):Wt P (n+k) t H ok:=fun m O hd=>h (m+k) O (by rwa[show m+k+n=m+(n+k) by omega])
def O_ (n:Int):Prop:= -9223372036854775808<=n/\n<=9223372036854775807
def Kf (s:List UInt8):Prop:=s.length<=9223372036854775807
def Sc (_:Bool):Prop:=True
def EZ (ok:α->Prop) (l:List α):Prop:=l.length<=9223372036854775807/\∀ a∈l,ok a
theorem nH {fs:Array Field} (hu:P.underlying t=some (.struct fs)) (h:WT P (n+1) t O):JR (WT P n) fs.toList O:=by
 simp only[WT,hu] at h;exact h
theorem QJ (hu:P.underlying t=some (.int .i64)):Wt P 1 t wB O_:=by
 intro m O h
 simp only[WT,hu] at h
 obtain⟨k,rfl,G⟩:=h
 refine⟨k,rfl, ?_⟩
 simp[Lit.wf] at G
 have e:IntKind.i64.min= -9223372036854775808:=by decide
 unfold O_;omega
theorem Pa (hu:P.underlying t=some .bool):Wt P 1 t Cn Sc:=by
 intro m O h
 simp only[WT,hu] at h
 obtain⟨b,rfl⟩:=h
 exact⟨b,rfl,trivial⟩
theorem QK (hu:P.underlying t=some .string):Wt P 1 t bS Kf:=by
 intro m O h
 simp only[WT,hu] at h
 obtain⟨b,rfl,hl⟩:=h
 exact⟨b,rfl,by unfold Kf;unfold maxLen at hl;omega⟩
theorem vb (hu:P.underlying t=some (.slice e)) (J:Wt P n e H ok):Wt P (n+1) t (fy H) (EZ ok):=by
 intro m O h
 rw[show m+(n+1)=(m+n)+1 by omega] at h
 simp only[WT,hu] at h
 obtain⟨rows,rfl,hl,hr⟩:=h
 have:∀ rows:List (List DV),(∀ r∈rows,WT P (m+n) e r)->∃ l:List α,rows=l.map H/\∀ a∈l,ok a:=by
  intro rows
  induction rows with
  |nil=>intro _;exact⟨[],rfl,by simp⟩
  |cons r rows ih=>
   intro h
   obtain⟨a,rfl,ha⟩:=J m r (h r oS)
   obtain⟨l,rfl,hl⟩:=ih (fun r hr=>h r (by simp[hr]))
   exact⟨a::l,rfl,by simpa using⟨ha,hl⟩⟩
 obtain⟨l,rfl,N⟩:=this rows hr
 exact⟨l,rfl,by unfold maxLen at hl;simp at hl;omega,N⟩
theorem Sq:ownKnob Tryz.prog.godebug=none:=oK
theorem Pb:laidOutB Tryz.prog=true:=oK
def PQ (P:Program) (t:TypeId) (H:α->List DV) (ok:α->Prop):Prop:=∀ m O,WT P m t O->∃ x,O=H x/\ok x
theorem Wt.all (h:Wt P n t H ok):PQ P t H ok:=fun m O G=>h m O (GD oM G)
theorem Kg {P:Program} {e:TypeId} {α:Type} {H:α->List DV} {ok:α->Prop} {m:Nat} (J:∀ r,WT P m e r->∃ x,r=H x/\ok x):∀ rows:List (List DV),(∀ r∈rows,WT P m e r)->∃ l:List α,rows=l.map H/\∀ a∈l,ok a
 |[],_=>⟨[],rfl,by simp⟩
 |r::rows,h=>by
  obtain⟨a,rfl,ha⟩:=J r (h r oS)
  obtain⟨l,rfl,hl⟩:=Kg J rows (fun r hr=>h r (by simp[hr]))
  exact⟨a::l,rfl,by simpa using⟨ha,hl⟩⟩
theorem G8 {m:Nat} (hu:P.underlying t=some (.slice e)) (J:∀ r m',m'<=m->WT P m' e r->∃ x,r=H x/\ok x) (h:WT P m t O):
  ∃ l:List α,O=fy H l/\l.length<=9223372036854775807/\∀ a∈l,ok a:=by
 cases m with
 |zero=>simp[WT] at h
 |succ m=>
  simp only[WT,hu] at h
  obtain⟨rows,rfl,hl,hr⟩:=h
  obtain⟨l,rfl,N⟩:=Kg (fun r G=>J r m oM G) rows hr
  exact⟨l,rfl,by unfold maxLen at hl;simp at hl;omega,N⟩
theorem Ih (hu:P.underlying t=some (.slice e)) (J:PQ P e H ok):PQ P t (fy H) (EZ ok):=fun m O h=>by
 obtain⟨l,h1,h2,E⟩:=G8 hu (fun r m' _ G=>J m' r G) h
 exact⟨l,h1,h2,E⟩
theorem PR:Wt Tryz.prog 1 9 bS Kf:=QK Tryz.underlying9
theorem SF:Wt Tryz.prog 1 4 Cn Sc:=Pa Tryz.underlying4
theorem Rd:Wt Tryz.prog 1 3 wB O_:=QJ Tryz.underlying3
theorem RI:Wt Tryz.prog 2 69 (fy bS) (EZ Kf):=vb Tryz.underlying69 PR
def tc (x:aM):Prop:=Sc x.fNeeded/\O_ x.fType/\O_ x.fMin/\O_ x.fMax/\(EZ Kf) x.fCodes
theorem RJ:Wt Tryz.prog 3 178 bT tc:=by
 intro m O h
 have h:=nH Tryz.underlying178 h
 simp only[JR] at h
 obtain⟨a0,_,rfl,h0,M,_,rfl,h1,a2,_,rfl,h2,a3,_,rfl,E,a4,_,rfl,h4,rfl⟩:=h
 obtain⟨D,rfl,a⟩:=(SF.up 1) m _ h0
 obtain⟨x1,rfl,o1⟩:=(Rd.up 1) m _ h1
 obtain⟨x2,rfl,o2⟩:=(Rd.up 1) m _ h2
 obtain⟨d,rfl,o3⟩:=(Rd.up 1) m _ E
 obtain⟨i,rfl,b⟩:=(RI.up 0) m _ h4
 refine⟨⟨D,x1,x2,d,i⟩, ?_,a,o1,o2,o3,b⟩
 simp only[bT,wB,EU,bS,Cn,fy,S4,S_,Tb,Tg]
theorem RK:Wt Tryz.prog 4 119 (fy bT) (EZ tc):=vb Tryz.underlying119 RJ
def oB (x:ay):Prop:=Sc x.fNeeded/\O_ x.fMost/\(EZ tc) x.fParts
theorem RL:Wt Tryz.prog 5 121 bq oB:=by
 intro m O h
 have h:=nH Tryz.underlying121 h
 simp only[JR] at h
 obtain⟨a0,_,rfl,h0,M,_,rfl,h1,a2,_,rfl,h2,rfl⟩:=h
 obtain⟨D,rfl,a⟩:=(SF.up 3) m _ h0
 obtain⟨x1,rfl,o1⟩:=(Rd.up 3) m _ h1
 obtain⟨x2,rfl,o2⟩:=(RK.up 0) m _ h2
 refine⟨⟨D,x1,x2⟩, ?_,a,o1,o2⟩
 simp only[bq,wB,EU,bS,Cn,fy,S4,S_,Tb,Tg]
theorem Sr:Wt Tryz.prog 6 22 (fy bq) (EZ oB):=vb Tryz.underlying22 RL
def oC (x:az):Prop:=Kf x.fTag/\(EZ oB) x.fElements
theorem Ss:Wt Tryz.prog 7 24 aA oC:=by
 intro m O h
 have h:=nH Tryz.underlying24 h
 simp only[JR] at h
 obtain⟨a0,_,rfl,h0,M,_,rfl,h1,rfl⟩:=h
 obtain⟨D,rfl,a⟩:=(PR.up 5) m _ h0
 obtain⟨x1,rfl,o1⟩:=(Sr.up 0) m _ h1
 refine⟨⟨D,x1⟩, ?_,a,o1⟩
 simp only[aA,wB,EU,bS,Cn,fy,S4,S_,Tb,Tg]
theorem Su:Wt Tryz.prog 8 39 (fy aA) (EZ oC):=vb Tryz.underlying39 Ss
inductive lv:ai->Prop
 |mk {x:ai}:Kf x.fTag->Kf x.fName->O_ x.fMin->O_ x.fMax->x.fItems.length<=9223372036854775807->(∀ a∈x.fItems,lv a)->lv x
theorem Ns:∀ n m,m<=n->∀ O,WT Tryz.prog m 111 O->∃ x:ai,O=ak x/\lv x
 |n,0,_,O,h=>by simp[WT] at h
 |0,m+1,Z,O,h=>by omega
 |n+1,m+1,Z,O,h=>by
  have h:=nH Tryz.underlying111 h
  simp only[JR] at h
  obtain⟨a0,_,rfl,h0,M,_,rfl,h1,a2,_,rfl,h2,a3,_,rfl,E,a4,_,rfl,h4,rfl⟩:=h
  obtain⟨D,rfl,a⟩:=PR.all m _ h0
  obtain⟨x1,rfl,o1⟩:=PR.all m _ h1
  obtain⟨x2,rfl,o2⟩:=Rd.all m _ h2
  obtain⟨d,rfl,o3⟩:=Rd.all m _ E
  obtain⟨i,rfl,b,q4⟩:=G8 Tryz.underlying40 (fun r m' hr G=>Ns n m' oM r G) h4
  refine⟨⟨D,x1,x2,d,i⟩, ?_,.mk a o1 o2 o3 b q4⟩
  rw[uv];simp only[wB,EU,bS,Cn,fy,S4,S_,Tb,Tg]
theorem RM:PQ Tryz.prog 111 ak lv:=fun m O h=>Ns m m (S0 _) O h
theorem Sv:PQ Tryz.prog 40 (fy ak) (EZ lv):=Ih Tryz.underlying40 RM
def pI (x:aj):Prop:=Kf x.fKind/\Kf x.fVersion/\(EZ oC) x.fDefs/\(EZ lv) x.fItems
theorem Sw:PQ Tryz.prog 42 aC pI:=by
 intro m O h
 cases m with
 |zero=>simp[WT] at h
 |succ m=>
 have h:=nH Tryz.underlying42 h
 simp only[JR] at h
 obtain⟨a0,_,rfl,h0,M,_,rfl,h1,a2,_,rfl,h2,a3,_,rfl,E,rfl⟩:=h
 obtain⟨D,rfl,a⟩:=PR.all m _ h0
 obtain⟨x1,rfl,o1⟩:=PR.all m _ h1
 obtain⟨x2,rfl,o2⟩:=Su.all m _ h2
 obtain⟨d,rfl,o3⟩:=Sv m _ E
 refine⟨⟨D,x1,x2,d⟩, ?_,a,o1,o2,o3⟩
 simp only[aC,wB,EU,bS,Cn,fy,S4,S_,Tb,Tg]
theorem RN:Wt Tryz.prog 3 112 (fy (fy bS)) (EZ (EZ Kf)):=vb Tryz.underlying112 RI
def td (x:bK):Prop:=(EZ (EZ Kf)) x.fRepeats
theorem RO:Wt Tryz.prog 4 114 aF td:=by
 intro m O h
 have h:=nH Tryz.underlying114 h
 simp only[JR] at h
 obtain⟨a0,_,rfl,h0,rfl⟩:=h
 obtain⟨D,rfl,a⟩:=(RN.up 0) m _ h0
 refine⟨⟨D⟩, ?_,a⟩
 simp only[aF,wB,EU,bS,Cn,fy,S4,S_,Tb,Tg]
theorem Sx:Wt Tryz.prog 5 25 (fy aF) (EZ td):=vb Tryz.underlying25 RO
def yc (x:af):Prop:=Kf x.fTag/\(EZ td) x.fElements
theorem Sy:Wt Tryz.prog 6 27 al yc:=by
 intro m O h
 have h:=nH Tryz.underlying27 h
 simp only[JR] at h
 obtain⟨a0,_,rfl,h0,M,_,rfl,h1,rfl⟩:=h
 obtain⟨D,rfl,a⟩:=(PR.up 4) m _ h0
 obtain⟨x1,rfl,o1⟩:=(Sx.up 0) m _ h1
 refine⟨⟨D,x1⟩, ?_,a,o1⟩
 simp only[al,wB,EU,bS,Cn,fy,S4,S_,Tb,Tg]
inductive gx:ad->Prop
 |mk {x:ad}:Kf x.fName->yc x.fSegment->x.fKids.length<=9223372036854775807->(∀ a∈x.fKids,gx a)->gx x
theorem PS:∀ n m,m<=n->∀ O,WT Tryz.prog m 73 O->∃ x:ad,O=ae x/\gx x
 |n,0,_,O,h=>by simp[WT] at h
 |0,m+1,Z,O,h=>by omega
 |n+1,m+1,Z,O,h=>by
  have h:=nH Tryz.underlying73 h
  simp only[JR] at h
  obtain⟨a0,_,rfl,h0,M,_,rfl,h1,a2,_,rfl,h2,rfl⟩:=h
  obtain⟨D,rfl,a⟩:=PR.all m _ h0
  obtain⟨x1,rfl,o1⟩:=Sy.all m _ h1
  obtain⟨x2,rfl,o2,H⟩:=G8 Tryz.underlying50 (fun r m' hr G=>PS n m' oM r G) h2
  refine⟨⟨D,x1,x2⟩, ?_,.mk a o1 o2 H⟩
  rw[q_];simp only[wB,EU,bS,Cn,fy,S4,S_,Tb,Tg]
theorem Sz:PQ Tryz.prog 73 ae gx:=fun m O h=>PS m m (S0 _) O h
theorem SA:PQ Tryz.prog 50 (fy ae) (EZ gx):=Ih Tryz.underlying50 Sz
def yx:Nat->DataW Unit->List Value
 |0,_=>[]
 |_+1,.lit (.int k n)=>[.int k n]
 |n+1,.agg ps=>ps.flatMap (yx n)
 |_+1,_=>[]
def te (l:List Value):Obj->Obj
 | .cells _ t frozen=> .cells l.toArray t frozen
 |o=>o
noncomputable def Ii:Nat:=(World.holding Tryz.prog default ⟨#[],#[],[]⟩).heap.size
noncomputable def BF (os:Os):World:=
 {World.holding Tryz.prog os ⟨#[],#[],[]⟩ with
  heap:=((((((((World.holding Tryz.prog os ⟨#[.cells #[.string ⟨#[118,97,108,117,101,32,111,117,116,32,111,102,32,114,97,110,103,101]⟩] 290,.cells #[.string ⟨#[105,110,118,97,108,105,100,32,115,121,110,116,97,120]⟩] 290],#[],[]⟩).heap.modify 6 (te (yx 5 Rows.laid_math_bits_deBruijn32tab))).modify 7 (te (yx 5 Rows.laid_math_bits_deBruijn64tab))).modify 5 (te (yx 5 Rows.laid_internal_strconv_uint64pow10))).modify 2 (te (yx 5 Rows.laid_unicode_utf8_acceptRanges))).modify 4 (te [.iface 288 (.pointer (some ⟨Ii+0,0,none⟩))])).modify 3 (te [.iface 288 (.pointer (some ⟨Ii+1,0,none⟩))])).modify 1 (te (yx 5 Rows.laid_unicode_utf8_first)))}
end Go.Proofs.YteaolfcegaidpaaGreatDoor
namespace Go.Proofs.YteaolfcegaidpaaGreatDoor
open Go.RowKit
set_option linter.unusedSimpArgs false
set_option linter.unusedVariables false
variable {A T:Type} {i:Nat} {α:Type} {e:α} {f:T->Option (T⊕A)} {l:List α}
def Eh {α S A:Type} (g:Nat->S->α->Option (S⊕A)) (B:S->Option A):List α->Nat->S->Option A
 |[],_,s=>B s
 |e::l,i,s=>match g i s e with
  |some (.inl F)=>Eh g B l (i+1) F
  |some (.inr a)=>some a
  |none=>none
theorem yv {t:List α} (hd:l.drop i=e::t):l[i]?=some e/\i<l.length/\l.drop (i+1)=t:=by
 refine⟨?_, ?_, ?_⟩
 ·have:=congrArg (fun q=>q[0]?) hd
  simpa using this
 ·rcases Th i l.length with h|h
  ·exact h
  ·rw[UB h] at hd;cases hd
 ·have:=congrArg List.tail hd
  simpa using this
theorem rQ (hd:l.drop i=[]) (hi:i<=l.length):i=l.length:=by
 have:=congrArg List.length hd;simp at this;omega
theorem FW {S:Type} (l:List α) (mk:Nat->S->T) (g:Nat->S->α->Option (S⊕A)) (B:S->Option A) (hb:∀ (i:Nat) (e:α) (s:S),l[i]?=some e->f (mk i s)=(match g i s e with|some (.inl F)=>some (.inl (mk (i+1) F))|some (.inr a)=>some (.inr a)|none=>none)) (J:∀ s,f (mk l.length s)=(B s).map .inr) (s:S):bJ f (mk 0 s)=Eh g B l 0 s:=by
 have:∀ (t:List α) (i:Nat) (s:S),l.drop i=t->i<=l.length->bJ f (mk i s)=Eh g B t i s:=by
  intro t
  induction t with
  |nil=>
   intro i s hd hi
   have:=rQ hd hi
   subst this
   rw[bV,J]
   simp only[Eh]
   cases B s<;>rfl
  |cons e t ih=>
   intro i s hd hi
   obtain⟨h1,h2,E⟩:=yv hd
   rw[bV,hb i e s h1]
   simp only[Eh]
   cases g i s e with
   |none=>rfl
   |some o=>
    cases o with
    |inr a=>rfl
    |inl F=>exact ih (i+1) F E h2
 exact this l 0 s rfl (To _)
theorem ls (l:List α) (st:Nat->List α->T) {a:A} (hb:∀ (i:Nat) (e:α),l[i]?=some e->f (st i (l.take i))=some (.inl (st (i+1) (l.take i++[e])))) (J:f (st l.length l)=some (.inr a)):bJ f (st 0 [])=some a:=by
 have:=ta (f:=f) (a:=a) (fun i=>st i (l.take i)) l.length (fun i hi=>by
  obtain⟨e,h⟩:=dY hi
  show f (st i (l.take i))=some (.inl (st (i+1) (l.take (i+1))))
  rw[hb i e h,eu h]) (by
  show f (st l.length (l.take l.length))=_
  rw[TV];exact J)
 simpa using this
def dK {α β:Type} (f:Nat->α->List β):Nat->List α->List β
 |_,[]=>[]
 |i,x::l=>f i x++dK f (i+1) l
theorem Ay {α β:Type} (f:Nat->α->List β):∀ (l l2:List α) (i:Nat),dK f i (l++l2)=dK f i l++dK f (i+l.length) l2
 |[],l2,i=>by simp[dK]
 |x::l,l2,i=>by
  simp only[S_,dK,Ay f l l2 (i+1),S4,S6]
  rw[show i+1+l.length=i+(l.length+1) by omega]
theorem px {β:Type} (f:Nat->α->List β) (l:List α) (e:α):dK f 0 (l++[e])=dK f 0 l++f l.length e:=by
 rw[Ay];simp[dK]
theorem yw {α β:Type} {f:Nat->α->List β} {y:β}:∀ {l:List α} {i:Nat},y∈dK f i l->∃ k e,l[k]?=some e/\y∈f (i+k) e
 |[],i,h=>by simp[dK] at h
 |x::l,i,h=>by
  simp only[dK,Ta] at h
  rcases h with h|h
  ·exact⟨0,x,rfl,by simpa using h⟩
  ·obtain⟨k,e,h1,h2⟩:=yw h
   exact⟨k+1,e,by simpa using h1,by rwa[show i+(k+1)=i+1+k by omega]⟩
theorem ew {α β:Type} {f:Nat->α->List β} {b:Nat}:∀ (l:List α) (i:Nat),(∀ i e,e∈l->(f i e).length<=b)->(dK f i l).length<=l.length * b
 |[],_,_=>by simp[dK]
 |x::l,i,hf=>by
  have h1:=hf i x oS
  have h2:=ew l (i+1) (fun i e J=>hf i e (by simp[J]))
  simp only[dK,SW,S6,T2,Nat.one_mul]
  omega
theorem va (h:l[i]?=some e):(l.take i).length=i:=by
 obtain⟨hi, -⟩:=SY.1 h
 simp;omega
theorem bM (h:l[i]?=some e):i<l.length:=(SY.1 h).1
theorem dc {R:Type} {n:Nat} {m:Option R} (h:n<=137438953472):iZ (sf n) m=m:=eq (OY h)
theorem Ig {x:α} (h:x∈l.take i):x∈l:=Tm h
variable {A R S X α:Type} {f:S->Option (S⊕A)} {k:A->Option R}
theorem mI {c:Option R} (st:X->S) (g:X->Nat) (P:X->Prop) (h:∀ x,P x->(∃ y,P y/\g y<g x/\f (st x)=some (.inl (st y)))\/(∃ a,f (st x)=some (.inr a)/\k a=c)) (x:X) (hx:P x):(bJ f (st x)).bind k=c:=by
 have:∀ n x,g x<=n->P x->(bJ f (st x)).bind k=c:=by
  intro n
  induction n with
  |zero=>
   intro x hn hx
   rcases h x hx with⟨y,_,h2,_⟩|⟨a,h1,h2⟩
   ·omega
   ·rw[bV,h1];exact h2
  |succ n ih=>
   intro x hn hx
   rcases h x hx with⟨y,h1,h2,E⟩|⟨a,h1,h2⟩
   ·rw[bV,E];exact ih y oM h1
   ·rw[bV,h1];exact h2
 exact this (g x) x (S0 _) hx
theorem lu {C:R->Prop} (st:X->S) (g:X->Nat) (P:X->Prop) (h:∀ x,P x->(∃ y,P y/\g y<g x/\f (st x)=some (.inl (st y)))\/(∃ a c,f (st x)=some (.inr a)/\k a=some c/\C c)) (x:X) (hx:P x):∃ c,(bJ f (st x)).bind k=some c/\C c:=by
 have:∀ n x,g x<=n->P x->∃ c,(bJ f (st x)).bind k=some c/\C c:=by
  intro n
  induction n with
  |zero=>
   intro x hn hx
   rcases h x hx with⟨y,_,h2,_⟩|⟨a,c,h1,h2,E⟩
   ·omega
   ·rw[bV,h1];exact⟨c,h2,E⟩
  |succ n ih=>
   intro x hn hx
   rcases h x hx with⟨y,h1,h2,E⟩|⟨a,c,h1,h2,E⟩
   ·rw[bV,E];exact ih y oM h1
   ·rw[bV,h1];exact⟨c,h2,E⟩
 exact this (g x) x (S0 _) hx
theorem py (l:List α) (q:α->Bool) (a:R) {f:Int->Option (Int⊕(Int⊕R))} {K:Int->Option R} (hb:∀ (i:Nat) (e:α),l[i]?=some e->f (i:Int)=if q e=true then some (.inl ((i+1:Nat):Int)) else some (.inr (.inr a))) (J:f (l.length:Int)=some (.inr (.inl (l.length:Int)))):
  (bJ f 0).bind (bX K)=if l.all q=true then K (l.length:Int) else some a:=by
 refine mI (X:=Nat) (fun i=>((i:Nat):Int)) (fun i=>l.length - i) (fun i=>i<=l.length/\(l.take i).all q=true) ?_ 0 ⟨To _,rfl⟩
 rintro i ⟨h1,h2⟩
 rcases Th i l.length with hi|hi
 ·obtain⟨e,hx⟩:=dY hi
  cases hq:q e with
  |true=>
   refine .inl ⟨i+1,⟨hi, ?_⟩,by omega,by rw[hb i e hx,hq];rfl⟩
   rw[eu hx,List.all_append,h2]
   simp[hq]
  |false=>
   refine .inr ⟨_,by rw[hb i e hx,hq];rfl, ?_⟩
   have:l.all q=false:=by
    rw[List.all_eq_false]
    exact⟨e,ST hx,by rw[hq];decide⟩
   rw[this];rfl
 ·have hl:i=l.length:=by omega
  subst hl
  rw[TV] at h2
  refine .inr ⟨_,J, ?_⟩
  rw[h2];rfl
theorem Lo (l:List α) (x:α) (h:l.length<9223372036854775807):cm (l++[x]) (IntKind.i64.wrap (((l++[x]).length:Int) - 1))=some x/\(IntKind.i64.wrap (((l++[x]).length:Int) - 1)).toNat=l.length:=by
 have e:IntKind.i64.wrap (((l++[x]).length:Int) - 1)=((l.length:Nat):Int):=by
  rw[SW,Tq,bp _ oM oM];omega
 rw[e,ap,TK (S0 _),Va]
 exact⟨rfl,by omega⟩
def zG:List UInt8:=[65,66,67,68,69,70,71,72,73,74,75,76,77,78,79,80,81,82,83,84,85,86,87,88,89,90,48,49,50,51,52,53,54,55,56,57]
theorem GZ (l:List UInt8) (hl:l.length<=9223372036854775807):rf l=some (decide (Lib.trimS l zG=[])):=by
 unfold rf bC;dsimp only
 have:ep l zG=some (Lib.trimS l zG):=by unfold ep;rw[Ub ⟨hl,by decide,by decide⟩]
 simp only[zG] at this⊢
 rw[this]
 rfl
theorem pH {p:UInt8->Bool}:∀ {l:List UInt8},l.dropWhile p=[]↔∀ x∈l,p x=true
 |[]=>by simp
 |a::l=>by
  rw[List.dropWhile_cons]
  by_cases h:p a=true
  ·simp[h,pH (l:=l)]
  ·simp[h]
theorem yb {p:UInt8->Bool} {a:UInt8} {r:List UInt8}:∀ {l:List UInt8},l.dropWhile p=a::r->p a=false
 |[],h=>by simp at h
 |b::l,h=>by
  rw[List.dropWhile_cons] at h
  by_cases hp:p b=true
  ·simp only[hp,T6] at h;exact yb h
  ·simp only[hp] at h
   simp at h;rw[<-h.1];simpa using hp
theorem Ef (l cs:List UInt8):Lib.trimS l cs=[]↔∀ x∈l,cs.contains x=true:=by
 unfold Lib.trimS Lib.trimLeftS Lib.trimRightS
 constructor
 ·intro h
  have h1:List.dropWhile (fun x=>cs.contains x) l.reverse=[]:=by
   cases hr:List.dropWhile (fun x=>cs.contains x) l.reverse with
   |nil=>rfl
   |cons a r=>
    exfalso
    have h2:=yb hr
    rw[hr,pH] at h
    have E:=h a oS
    rw[h2] at E;cases E
  rw[pH] at h1
  intro x hx
  exact h1 x (by simpa using hx)
 ·intro h
  have h1:List.dropWhile (fun x=>cs.contains x) l.reverse=[]:=pH.2 fun x hx=>h x (by simpa using hx)
  rw[h1];rfl
def BE (b:UInt8):Bool:=decide (65<=(b.toNat:Int))&&decide ((b.toNat:Int)<=90)
def Aw (b:UInt8):Bool:=BE b|| !(decide ((b.toNat:Int)<48)||decide (57<(b.toNat:Int)))
theorem Nc:(List.range 256).all (fun n=>zG.contains (UInt8.ofNat n)==Aw (UInt8.ofNat n))=true:=oK
theorem OW (b:UInt8):zG.contains b=Aw b:=by
 have:=Tp.1 Nc b.toNat (T7.2 b.toNat_lt)
 have hb:UInt8.ofNat b.toNat=b:=by simp
 rw[hb] at this
 simpa using this
def Ie:List UInt8:=[65,66,67,68,69,70,71,72,73,74,75,76,77,78,79,80,81,82,83,84,85,86,87,88,89,90]
theorem Nd:(List.range 256).all (fun n=>decide (0<=Lib.indexByte Ie (UInt8.ofNat n))==BE (UInt8.ofNat n))=true:=oK
theorem OX (b:UInt8):decide (0<=Lib.indexByte Ie b)=BE b:=by
 have:=Tp.1 Nd b.toNat (T7.2 b.toNat_lt)
 have hb:UInt8.ofNat b.toNat=b:=by simp
 rw[hb] at this
 simpa using this
theorem Nf (l:List UInt8):decide (Lib.trimS l zG=[])=l.all Aw:=by
 rw[Ti,SU,Ef,Tp]
 simp only[OW]
def CG:List UInt8->Bool
 |[]=>false
 |b::l=>decide (1<=l.length)&&decide (l.length<=5)&&BE b&&l.all Aw
theorem J9 (l:List UInt8) (hl:l.length<=9223372036854775807):ua l=some (CG l):=by
 unfold ua ny;dsimp only
 cases l with
 |nil=>rfl
 |cons b l=>
  have hg:cm (b::l) 0=some b:=rfl
  have hi:ru Ie b=some (Lib.indexByte Ie b):=rfl
  have hu:([65,66,67,68,69,70,71,72,73,74,75,76,77,78,79,80,81,82,83,84,85,86,87,88,89,90]:List UInt8)=Ie:=rfl
  simp only[GZ (b::l) hl,Nf,hg,hu,hi,SQ,aY,OX,CG]
  have h1:decide ((2:Int)<=((b::l).length:Int))=decide (1<=l.length):=by simp only[S6];congr 1;apply propext;omega
  have h2:decide (((b::l).length:Int)<=6)=decide (l.length<=5):=by simp only[S6];congr 1;apply propext;omega
  rw[h1,h2]
  cases hb:BE b with
  |false=>simp
  |true=>simp[Aw,hb]
def G0 (i:Nat) (b:UInt8):Bool:=BE b||(decide (i≠0)&&Aw b)
theorem Ng (l:List UInt8) (hl:l.length<=9223372036854775807):go l=some ((match l with|[]=>true|b::l=>BE b&&l.all Aw)&&decide (l.length<=6)):=by
 unfold go bC;dsimp only
 have key:=FW (f:=fun s=>bif decide (s<(l.length:Int)) then(cm l s).bind fun e=>(hY (decide (65<=(e.toNat:Int))) ((cm l s).bind fun e=>some (decide ((e.toNat:Int)<=90)))).bind fun v=>(hY (!v) ((DY (decide (s=0)) ((cm l s).bind fun e=>some (decide ((e.toNat:Int)<48)))).bind fun v=>(DY v ((cm l s).bind fun e=>some (decide (57<(e.toNat:Int))))).bind fun v=>some v)).bind fun v=>bif v then cb (cb (some false)) else some (Sum.inl (IntKind.i64.wrap (s+1))) else cb (some (Sum.inl s)))
  l (fun i (_:Unit)=>(i:Int)) (fun i _ e=>if G0 i e=true then some (.inl ()) else some (.inr (.inr false))) (fun _=>some (Sum.inl (l.length:Int))) (fun i e s J=> ?_) (fun s=> ?_) ()
 ·rw[show((0:Nat):Int)=0 from rfl] at key
  rw[key]
  have h2:∀ (t:List UInt8) (i:Nat),0<i->Eh (fun i (_:Unit) e=>if G0 i e=true then some (.inl ()) else some (.inr (.inr false))) (fun _=>some (Sum.inl (l.length:Int))) t i ()=if t.all Aw=true then some (Sum.inl (l.length:Int)) else some (.inr false):=by
   intro t
   induction t with
   |nil=>intro i _;rfl
   |cons b t ih=>
    intro i hi
    simp only[Eh]
    have:G0 i b=Aw b:=by
     unfold G0
     rw[TG (show i≠0 by omega),S8]
     unfold Aw
     cases BE b<;>simp
    rw[this]
    cases hb:Aw b with
    |true=>simp only[T6,ih (i+1) oM,Uy,hb,S8]
    |false=>simp[hb]
  cases l with
  |nil=>rfl
  |cons b l=>
   simp only[Eh]
   have E:G0 0 b=BE b:=by unfold G0;cases BE b<;>simp
   have h4:decide (((b::l).length:Int)<=6)=decide ((b::l).length<=6):=by congr 1;apply propext;omega
   rw[E]
   cases hb:BE b with
   |false=>simp[bX,hb]
   |true=>
    simp only[T6]
    rw[h2 l 1 oM]
    cases hl:l.all Aw with
    |true=>simp[bX,hb,h4];omega
    |false=>simp[bX,hb]
 ·have hi:=bM J
  simp only[bg hi,SZ,ap,J,SQ,aY,bR,bQ i oM]
  have h0:decide ((i:Int)=0)=decide (i=0):=by congr 1;apply propext;omega
  have h1:(!(decide (65<=(e.toNat:Int))&&decide ((e.toNat:Int)<=90))&&(decide ((i:Int)=0)||decide ((e.toNat:Int)<48)||decide (57<(e.toNat:Int))))= !G0 i e:=by
   rw[h0]
   unfold G0 Aw BE
   cases decide (65<=(e.toNat:Int))<;>cases decide ((e.toNat:Int)<=90)<;>by_cases v8:i=0<;>simp[v8]
  rw[h1]
  cases G0 i e<;>rfl
 ·simp only[ao,S2];rfl
theorem Nh (l:List UInt8) (hl:l.length<=9223372036854775807):jk l=some (CG l):=by
 unfold jk ny;dsimp only
 simp only[Ng l hl,SQ,aY]
 cases l with
 |nil=>rfl
 |cons b l=>
  have h1:decide ((2:Int)<=((b::l).length:Int))=decide (1<=l.length):=by simp only[S6];congr 1;apply propext;omega
  have h2:decide ((b::l).length<=6)=decide (l.length<=5):=by simp only[S6];congr 1;apply propext;omega
  rw[h1,h2]
  simp only[CG]
  cases BE b<;>cases l.all Aw<;>simp
variable {a b:List UInt8}
theorem zK:∀ a b:List UInt8,(Lib.compareBytes a b=0/\a=b)\/(Lib.compareBytes a b= -1/\Op.bytesLess a b=true)\/(Lib.compareBytes a b=1/\Op.bytesLess b a=true)
 |[],[]=> .inl ⟨rfl,rfl⟩
 |[],_::_=> .inr (.inl ⟨rfl,rfl⟩)
 |_::_,[]=> .inr (.inr ⟨rfl,rfl⟩)
 |a::u,b::v=>by
  unfold Lib.compareBytes Op.bytesLess
  by_cases h1:a<b
  ·simp[h1]
  ·by_cases h2:b<a
   ·simp[h1,h2]
   ·have e:a=b:=by
     rw[UInt8.lt_iff_toNat_lt] at h1 h2
     exact UInt8.toNat_inj.1 oM
    subst e
    have:=zK u v
    simpa[h1] using this
theorem lB:∀ a:List UInt8,Op.bytesLess a a=false
 |[]=>rfl
 |a::l=>by simp[Op.bytesLess,lB l]
theorem wL:∀ {a b c:List UInt8},Op.bytesLess a b=true->Op.bytesLess b c=true->Op.bytesLess a c=true
 |_,[],_,h,_=>by simp[Op.bytesLess] at h
 |_,_::_,[],_,h=>by simp[Op.bytesLess] at h
 |[],_::_,_::_,_,_=>rfl
 |a::u,b::v,c::w,h,k=>by
  simp only[Op.bytesLess,Tn,SU,SR,S1] at h k⊢
  rcases h with h|⟨rfl,h⟩
  ·rcases k with k|⟨rfl,k⟩
   ·exact .inl (UInt8.lt_trans h k)
   ·exact .inl h
  ·rcases k with k|⟨rfl,k⟩
   ·exact .inl k
   ·exact .inr ⟨rfl,wL h k⟩
theorem L1 (h:Op.bytesLess a b=true):Op.bytesLess b a=false:=by
 cases hb:Op.bytesLess b a with
 |false=>rfl
 |true=>have:=wL h hb;rw[lB] at this;cases this
theorem P1 (a b:List UInt8):a=b\/Op.bytesLess a b=true\/Op.bytesLess b a=true:=by
 rcases zK a b with h|h|h
 ·exact .inl h.2
 ·exact .inr (.inl h.2)
 ·exact .inr (.inr h.2)
theorem PE:Lib.compareBytes a b<0↔Op.bytesLess a b=true:=by
 rcases zK a b with⟨h,e⟩|⟨h,e⟩|⟨h,e⟩
 ·subst e;rw[h,lB];simp
 ·rw[h,e];simp
 ·rw[h,L1 e];simp
theorem Ri:Lib.compareBytes a b=0↔a=b:=by
 rcases zK a b with⟨h,e⟩|⟨h,e⟩|⟨h,e⟩
 ·subst e;rw[h];simp
 ·rw[h];constructor
  ·intro h;omega
  ·rintro rfl;rw[lB] at e;cases e
 ·rw[h];constructor
  ·intro h;omega
  ·rintro rfl;rw[lB] at e;cases e
def L2 (l:List (List UInt8)):Prop:=∀ i a b,l[i]?=some a->l[i+1]?=some b->Op.bytesLess a b=true
theorem L2.lt {l:List (List UInt8)} (h:L2 l):∀ {i j:Nat} {a b:List UInt8},i<j->l[i]?=some a->l[j]?=some b->Op.bytesLess a b=true:=by
 intro i j a b V ha hb
 obtain⟨k,rfl⟩:∃ k,j=i+1+k:=⟨j - (i+1),by omega⟩
 clear V
 induction k generalizing b with
 |zero=>exact h i a b ha hb
 |succ k ih=>
  have h9:i+1+k<l.length:=by have:=(SY.1 hb).1;omega
  have hc:=S3 h9
  exact wL (ih hc) (h _ _ _ hc hb)
variable {α:Type}
abbrev MX:Nat:=9223372036854775807
abbrev Sl:=ai
variable {x:Sl}
inductive Hi:Sl->Prop
 |mk {x:Sl}:x.fTag.length<=MX->x.fName.length<=MX->x.fItems.length<=MX->(∀ a∈x.fItems,Hi a)->Hi x
theorem Hi.tag (h:Hi x):x.fTag.length<=MX:=by cases h;assumption
theorem Hi.name (h:Hi x):x.fName.length<=MX:=by cases h;assumption
theorem Hi.items (h:Hi x):∀ a∈x.fItems,Hi a:=by cases h;assumption
def oE (x:Sl):Bool:=CG x.fTag&&decide (x.fName=[])&&decide (x.fItems=[])
def qO (x:Sl):Bool:= !decide (x.fName=[])&&decide (x.fTag=[])&&(match x.fItems with|[]=>false|y::_=>oE y&&decide (y.fMin=1)&&decide (y.fMax=1))
def ec (x:Sl):List UInt8:=match x.fItems with|[]=>x.fTag|y::_=>y.fTag
theorem Ij (l:List α):decide ((l.length:Int)=0)=decide (l=[]):=by
 cases l with
 |nil=>rfl
 |cons a l=>simp;omega
theorem Nu (l:List α):decide (0<(l.length:Int))= !decide (l=[]):=by
 cases l with
 |nil=>rfl
 |cons a l=>simp
theorem PU (x:Sl) (h:Hi x):na x=some (oE x):=by
 unfold na nA;dsimp only
 rw[J9 _ h.tag]
 simp only[SQ,aY,Ij];rfl
theorem PV (x:Sl) (h:Hi x):gp x=some (oE x):=by
 unfold gp nA;dsimp only
 rw[Nh _ h.tag]
 simp only[SQ,aY,Ij];rfl
theorem RS (x:Sl) (h:Hi x):pu x=some (qO x):=by
 unfold pu nB;dsimp only
 simp only[aY,SQ,Nu]
 unfold qO
 cases hx:x.fItems with
 |nil=>simp[hY]
 |cons y l=>
  have hy:=h.items y (by rw[hx];exact Tl ..)
  have hg:cm (y::l) 0=some y:=rfl
  simp only[hg,SQ,fj,PU y hy,aY]
  simp only[reduceCtorEq,Um,Tw,UY,Bool.and_assoc]
theorem RT (x:Sl) (h:Hi x):hN x=some (qO x):=by
 unfold hN nB;dsimp only
 simp only[aY,SQ,Nu]
 unfold qO
 rw[Bool.and_comm (decide (x.fTag=[]))]
 cases hx:x.fItems with
 |nil=>simp[hY]
 |cons y l=>
  have hy:=h.items y (by rw[hx];exact Tl ..)
  have hg:cm (y::l) 0=some y:=rfl
  simp only[hg,SQ,fj,PV y hy,aY]
  simp only[reduceCtorEq,Um,Tw,UY,Bool.and_assoc]
theorem QO (x:Sl):gS x=some (ec x):=by
 unfold gS bC;dsimp only
 unfold ec
 rw[Nu]
 cases x.fItems with
 |nil=>rfl
 |cons y l=>rfl
def Lw (x:Sl):Prop:=oE x=true\/qO x=true
theorem Lw.seg (h:Lw x) (hn:x.fName=[]):oE x=true:=by
 rcases h with h|h
 ·exact h
 ·simp[qO,hn] at h
theorem Lw.grp (h:Lw x) (hn:x.fName≠[]):qO x=true:=by
 rcases h with h|h
 ·simp[oE,hn] at h
 ·exact h
theorem Nv (h:Lw x):io x=some (ec x):=by
 unfold io bC;dsimp only
 unfold ec
 by_cases hn:x.fName=[]
 ·have hs:=h.seg hn
  simp only[oE,SR,SU] at hs
  rw[hs.2,TG hn];rfl
 ·have hg:=h.grp hn
  rw[TW hn]
  unfold qO at hg
  cases hx:x.fItems with
  |nil=>rw[hx] at hg;simp at hg
  |cons y l=>rfl
abbrev Df:=az
def AA (l:List Df):Prop:=L2 (l.map (·.fTag))
def aK (l:List Df) (t:List UInt8):Bool:=l.any fun d=>decide (d.fTag=t)
theorem Ik (s:aj) (t:List UInt8) (hl:s.fDefs.length<=1000):∃ n,c_ s t=some n/\decide (n<0)= !aK s.fDefs t/\(aK s.fDefs t=true->∃ d,cm s.fDefs n=some d/\d∈s.fDefs/\d.fTag=t):=by
 unfold c_ bC;dsimp only
 have:=lu (X:=Nat) (R:=Int) (C:=fun n=>decide (n<0)= !aK s.fDefs t/\(aK s.fDefs t=true->∃ d,cm s.fDefs n=some d/\d∈s.fDefs/\d.fTag=t)) (f:=fun i:Int=>bif decide (i<(s.fDefs.length:Int)) then(cm s.fDefs i).bind fun e=>bif decide (e.fTag=t) then cb (cb (some i)) else some (Sum.inl (IntKind.i64.wrap (i+1))) else cb (some (Sum.inl i))) (k:=bX fun _=>some (-1))
  (fun i=>(i:Int)) (fun i=>s.fDefs.length - i) (fun i=>i<=s.fDefs.length/\(s.fDefs.take i).any (fun d=>decide (d.fTag=t))=false) (by
   rintro i ⟨h1,h2⟩
   rcases Th i s.fDefs.length with hi|hi
   ·obtain⟨d,hd⟩:=dY hi
    simp only[bg hi,SZ,ap,hd,SQ,bQ i oM]
    by_cases Y:d.fTag=t
    ·refine .inr ⟨_,(i:Int),by rw[TG Y];rfl,rfl, ?_,fun _=>⟨d,by rw[ap];exact hd,ST hd,Y⟩⟩
     have:aK s.fDefs t=true:=by
      unfold aK;rw[Uu];exact⟨d,ST hd,by simpa using Y⟩
     rw[this,TW oM];rfl
    ·exact .inl ⟨i+1,⟨hi,by rw[eu hd,List.any_append,h2];simp[Y]⟩,by omega,by rw[TW Y];rfl⟩
   ·have m:i=s.fDefs.length:=by omega
    subst m
    rw[TV] at h2
    have hv:aK s.fDefs t=false:=h2
    refine .inr ⟨_, -1,by simp only[ao,S2];rfl,rfl, ?_,fun h=> ?_⟩
    ·rw[hv];rfl
    ·rw[hv] at h;cases h) 0 ⟨To _,rfl⟩
 exact this
theorem Pd (s:aj) (t:List UInt8) (hl:s.fDefs.length<=1000):∃ n,c_ s t=some n/\decide (n<0)= !aK s.fDefs t:=by
 obtain⟨n,h1,h2, -⟩:=Ik s t hl
 exact⟨n,h1,h2⟩
variable {c:Int} {g:List Int} {i:Nat} {l:List Int} {m n t x:Int}
def cJ:List Int->Int
 |[]=>0
 |x::l=>x+4294967296 * cJ l
def uy (l:List Int):Prop:=∀ x∈l,0<=x/\x<4294967296
def N9 (l:List Int):Prop:=∀ x,l.getLast?=some x->x≠0
theorem uy.tail (h:uy (x::l)):uy l:=fun y hy=>h y (Tz _ hy)
theorem uy.app {a b:List Int} (h:uy a) (k:uy b):uy (a++b):=fun x hx=>(Ta.1 hx).elim (h x) (k x)
theorem uy.get (h:uy l) (hx:l[i]?=some x):0<=x/\x<4294967296:=h x (ST hx)
theorem uy.set (h:uy l) (i:Nat) (hx:0<=x/\x<4294967296):uy (l.set i x):=fun y hy=>by
 rcases List.mem_or_eq_of_mem_set hy with hy|rfl
 ·exact h y hy
 ·exact hx
theorem Py:uy []:=fun x hx=>by simp at hx
theorem Pz (n:Nat):uy (List.replicate n 0):=fun x hx=>by
 rw[List.eq_of_mem_replicate hx];omega
theorem yh:∀ a b:List Int,cJ (a++b)=cJ a+4294967296^a.length * cJ b
 |[],b=>by simp[cJ]
 |x::a,b=>by
  simp only[S_,cJ,yh a b,S6,U_,UK]
  rw[U0,<-Int.mul_assoc,Int.mul_comm (4294967296^a.length) 4294967296]
theorem KC:∀ {l:List Int},uy l->0<=cJ l
 |[],_=>T1 _
 |x::l,h=>by
  have h1:=h x (Tl ..)
  have h2:=KC h.tail
  unfold cJ;omega
theorem IC:∀ n,cJ (List.replicate n 0)=0
 |0=>rfl
 |n+1=>by simp[U5,cJ,IC n]
theorem EC:∀ {l:List Int} {i:Nat} {y:Int} (x:Int),l[i]?=some y->cJ (l.set i x)=cJ l+4294967296^i * (x - y)
 |[],i,y,x,h=>by simp at h
 |z::l,0,y,x,h=>by
  simp at h;subst h
  simp only[List.set_cons_zero,cJ,Int.pow_zero];omega
 |z::l,i+1,y,x,h=>by
  simp only[TS] at h
  simp only[List.set_cons_succ,cJ,EC x h,U_,UK]
  rw[U0,<-Int.mul_assoc,Int.mul_comm (4294967296^i) 4294967296]
theorem ED (x:Int):cJ [x]=x:=by simp[cJ]
theorem Hd:∀ {l:List Int},uy l->N9 l->l≠[]->4294967296^(l.length - 1)<=cJ l
 |[],_,_,h=>absurd rfl h
 |[x],h,n,_=>by
  have h1:=h x (Tl ..)
  have h2:=n x rfl
  simp only[cJ,S6,TN,TJ,Va,Int.pow_zero];omega
 |x::y::l,h,n,_=>by
  have h1:=h x (Tl ..)
  have h2:=Hd (l:=y::l) h.tail (fun z hz=>n z (by simpa[List.getLast?_cons_cons] using hz)) oS
  have e:(x::y::l).length - 1=(y::l).length - 1+1:=by simp
  rw[e,U_]
  have E:cJ (x::y::l)=x+4294967296 * cJ (y::l):=rfl
  omega
theorem ID (h:uy l) (n:N9 l):cJ l=0↔l.length=0:=by
 constructor
 ·intro hv
  by_cases J:l=[]
  ·simp[J]
  ·have h1:=Hd h n J
   have h2:(0:Int)<4294967296^(l.length - 1):=Int.pow_pos oM
   omega
 ·intro hl
  rw[Te.1 hl];rfl
theorem LP (h:uy l) (n:N9 l) (hl:2<l.length):18446744073709551616<=cJ l:=by
 have h1:=Hd h n (by intro e;rw[e] at hl;simp at hl)
 obtain⟨k,hk⟩:∃ k,l.length - 1=2+k:=⟨l.length - 3,by omega⟩
 rw[hk,Int.pow_add] at h1
 have h2:(0:Int)<4294967296^k:=Int.pow_pos oM
 omega
theorem LQ {j:Nat} {o:Int} (ho:g[j]?=some o) (Y:t=c+(o+m)):
  cJ (g.set j (t%4294967296))+4294967296^(j+1) * (t/4294967296)=cJ g+4294967296^j * (c+m):=by
 rw[EC _ ho,U_,Int.mul_assoc,U0,<-UK]
 congr 2
 omega
theorem LR (Y:t=c+m):
  cJ (g++[t%4294967296])+4294967296^(g.length+1) * (t/4294967296)=cJ g+4294967296^g.length * (c+m):=by
 rw[yh,ED,U_,Int.mul_assoc,U0,<-UK]
 congr 2
 omega
theorem yz (h:l[i]?=some x):cJ (l.take (i+1))=cJ (l.take i)+4294967296^i * x:=by
 have h9:=(SY.1 h).1
 rw[List.take_add_one,h,yh,Tc,U9 oM]
 simp[cJ]
theorem He (h0:0<=n) (h1:n<18446744073709551616):IntKind.u64.wrap n=n:=by
 have e:IntKind.u64.wrap n=n%18446744073709551616:=by simp[IntKind.wrap,IntKind.bits,IntKind.signed]
 rw[e];omega
theorem Rc (n:Int):IntKind.u32.wrap n=n%4294967296:=by simp[IntKind.wrap,IntKind.bits,IntKind.signed]
theorem PA {y:Int} (hx:0<=x/\x<4294967296) (hy:0<=y/\y<4294967296):Hl .or .u64 x (y * 4294967296)=x+4294967296 * y:=by
 obtain⟨a,rfl⟩:=Int.eq_ofNat_of_zero_le hx.1
 obtain⟨b,rfl⟩:=Int.eq_ofNat_of_zero_le hy.1
 have ha:a<2^32:=by have:=hx.2;omega
 have hb:b<2^32:=by have:=hy.2;omega
 have e1:(BitVec.ofInt IntKind.u64.bits (a:Int)).toNat=a:=by
  rw[BitVec.ofInt_natCast,BitVec.toNat_ofNat];exact Nat.mod_eq_of_lt (by show a<2^64;omega)
 have e2:(BitVec.ofInt IntKind.u64.bits ((b:Int) * 4294967296)).toNat=b * 4294967296:=by
  have:((b:Int) * 4294967296)=((b * 4294967296:Nat):Int):=by omega
  rw[this,BitVec.ofInt_natCast,BitVec.toNat_ofNat];exact Nat.mod_eq_of_lt (by show _<2^64;omega)
 have e3:b<<<32+a=b<<<32|||a:=Nat.shiftLeft_add_eq_or_of_lt ha b
 have B:b<<<32=b * 4294967296:=Nat.shiftLeft_eq b 32
 simp only[Hl,BitVec.toNat_or,e1,e2]
 rw[Nat.or_comm,<-B,<-e3,B,He oM oM]
 omega
theorem KD (hx:0<=x/\x<4294967296):Hl .or .u64 0 x=x:=by
 obtain⟨a,rfl⟩:=Int.eq_ofNat_of_zero_le hx.1
 have e1:(BitVec.ofInt IntKind.u64.bits (a:Int)).toNat=a:=by
  rw[BitVec.ofInt_natCast,BitVec.toNat_ofNat];exact Nat.mod_eq_of_lt (by show a<2^64;omega)
 have K:(BitVec.ofInt IntKind.u64.bits (0:Int)).toNat=0:=by decide
 simp only[Hl,BitVec.toNat_or,e1,K,Nat.zero_or]
 exact He oM oM
def cR (n:Int):List UInt8->Int
 |[]=>n
 |c::l=>cR (10 * n+((c.toNat:Int) - 48)) l
def wg (l:List UInt8):Prop:=∀ c∈l,48<=c.toNat/\c.toNat<=57
theorem CT:∀ {l:List UInt8} {n:Int},wg l->0<=n->n<=cR n l
 |[],n,_,_=>T1 _
 |c::l,n,h,h0=>by
  have h1:=h c (Tl ..)
  have:=CT (l:=l) (n:=10 * n+((c.toNat:Int) - 48)) (fun x hx=>h x (Tz _ hx)) oM
  unfold cR;omega
theorem CU {l:List UInt8} (h:wg l) (h0:0<=n):0<=cR n l:=Int.le_trans h0 (CT h h0)
theorem EE:∀ (a b:List UInt8) (n:Int),cR n (a++b)=cR (cR n a) b
 |[],b,n=>rfl
 |c::a,b,n=>by simp only[S_,cR];exact EE a b _
variable {n:Nat} {v:Int} {x:aO}
theorem LN (l:List Int) (h:uy l) (hl:l.length<=1000):∃ t,qV l=some t/\uy t/\N9 t/\cJ t=cJ l/\t.length<=l.length:=by
 unfold qV ey;dsimp only
 refine lu (X:=List Int) (C:=fun t=>uy t/\N9 t/\cJ t=cJ l/\t.length<=l.length) (fun x=>x) (fun x=>x.length) (fun x=>uy x/\cJ x=cJ l/\x.length<=l.length) ?_ l ⟨h,rfl,S0 _⟩
 rintro x ⟨h1,h2,E⟩
 rcases List.eq_nil_or_concat x with rfl|⟨y,a,rfl⟩
 ·exact .inr ⟨.inl [],[],rfl,rfl,h1,(fun x hx=>by simp at hx),h2,E⟩
 ·simp only[List.concat_eq_append] at *
  obtain⟨g1,g2⟩:=Lo y a (by simp at E;omega)
  have hp:decide (0<(((y++[a]).length:Nat):Int))=true:=by simp
  have hv:cJ (y++[a])=cJ y+4294967296^y.length * a:=by rw[yh,ED]
  by_cases ha:a=0
  ·refine .inl ⟨y,⟨fun z hz=>h1 z (Uh _ hz), ?_,by simp at E;omega⟩,by simp, ?_⟩
   ·rw[<-h2,hv,ha];simp
   ·have gs:dP (y++[a]) ((none:Option Int).getD 0) ((some (IntKind.i64.wrap (((y++[a]).length:Int) - 1))).getD (((y++[a]).length:Nat):Int))=some y:=by
     have e:IntKind.i64.wrap (((y++[a]).length:Int) - 1)=((y.length:Nat):Int):=by
      rw[SW,Tq,bp _ oM (by simp at E;omega)];omega
     rw[e]
     simp only[T8,TI,dP]
     rw[Ub ⟨T1 _,by omega,by simp;omega⟩]
     simp
    subst ha
    simp only[hp,hY,SZ,g1,SQ,Ue,gs]
  ·refine .inr ⟨.inl (y++[a]),y++[a], ?_,rfl,h1, ?_,h2,E⟩
   ·simp only[hp,hY,SZ,g1,SQ,ha,Um,S2];rfl
   ·intro z hz;simp at hz;rw[<-hz];exact ha
theorem Hc (b:Bool) (l:List Int) (h:uy l) (hl:l.length<=1000):∃ t,vx b l=some ⟨b&&decide (cJ l≠0),t⟩/\uy t/\N9 t/\cJ t=cJ l/\t.length<=l.length:=by
 obtain⟨t,h1,h2,E,h4,h5⟩:=LN l h hl
 refine⟨t, ?_,h2,E,h4,h5⟩
 unfold vx xh;dsimp only
 rw[h1]
 simp only[SQ,aY]
 have:decide (0<((t.length:Nat):Int))=decide (cJ l≠0):=by
  rw[<-h4]
  have:=ID h2 E
  by_cases hz:cJ t=0
  ·rw[hz];have:=this.1 hz;simp[this]
  ·have hn:t.length≠0:=fun e=>hz (this.2 e)
   simp only[ne_eq,hz,not_false_eq_true,Ue,SU];omega
 rw[this]
structure BH (x:aO) (v:Int) (n:Nat):Prop where
 neg:x.fneg=false
 ok:uy x.fabs
 nz:N9 x.fabs
 val:cJ x.fabs=v
 len:x.fabs.length<=n
theorem BH.nn (h:BH x v n):0<=v:=h.val▸KC h.ok
theorem Q9 (n:Int) (h0:0<=n) (h1:n<4294967296):∃ x,vy n=some x/\BH x n 1:=by
 unfold vy ez;dsimp only
 have hd:decide (n<0)=false:=by simp;omega
 have e1:IntKind.u64.wrap n=n:=He h0 oM
 have e2:IntKind.u32.wrap n=n:=by rw[Rc];omega
 have e3:IntKind.u32.wrap (n/4294967296)=0:=by rw[Rc];omega
 simp only[hd,S2,e1,e2,e3]
 have N:uy [n,0]:=fun x hx=>by simp at hx;omega
 obtain⟨t,k1,k2,k3,k4,k5⟩:=Hc false [n,0] N oS
 rw[eq (pR.2 ⟨by omega,by simp[IntKind.bits]⟩),k1]
 have hv:cJ [n,0]=n:=by simp[cJ]
 refine⟨_,rfl,by simp,k2,k3,by rw[k4,hv], ?_⟩
 show t.length<=1
 rcases Th 1 t.length with h|h
 ·exfalso
  have:=Hd k2 k3 (by intro e;rw[e] at h;simp at h)
  rw[k4,hv] at this
  obtain⟨k,hk⟩:∃ k,t.length - 1=1+k:=⟨t.length - 2,by omega⟩
  rw[hk,Int.pow_add] at this
  have h2:(0:Int)<4294967296^k:=Int.pow_pos oM
  omega
 ·exact h
theorem IB (a b:List Int) (ha:uy a) (hb:uy b) (hl:b.length<=a.length) (h0:a.length<=999) {f:List Int×Int×Int->Option ((List Int×Int×Int)⊕((List Int×Int×Int)⊕List Int))} {r:Option (List Int)} (hr:r=(bJ f ([],0,0)).bind (bX fun s=>iZ (sf (s.fst.length+[IntKind.u32.wrap s.snd.fst].length)) (some (s.fst++[IntKind.u32.wrap s.snd.fst])))) (hf:∀ (o:List Int) (c:Int) (i:Nat) (x:Int),a[i]?=some x->0<=c->c<=1->o.length=i->f (o,c,(i:Int))=some (.inl (o++[(c+x+(b[i]?).getD 0)%4294967296],(c+x+(b[i]?).getD 0)/4294967296,((i+1:Nat):Int)))) (J:∀ o c,f (o,c,(a.length:Int))=some (.inr (.inl (o,c,(a.length:Int))))):
  ∃ o,r=some o/\uy o/\cJ o=cJ a+cJ b/\o.length=a.length+1:=by
 rw[hr]
 have g:cJ (b.take a.length)=cJ b:=by rw[Tr hl]
 refine lu (X:=List Int×Int) (C:=fun o=>uy o/\cJ o=cJ a+cJ b/\o.length=a.length+1) (fun x=>(x.1,x.2,(x.1.length:Int))) (fun x=>a.length - x.1.length)
  (fun x=>x.1.length<=a.length/\uy x.1/\0<=x.2/\x.2<=1/\cJ x.1+4294967296^x.1.length * x.2=cJ (a.take x.1.length)+cJ (b.take x.1.length)) ?_ ([],0) ⟨To _,Py,T1 _,by omega,by simp[cJ]⟩
 rintro⟨o,c⟩ ⟨h1,h2,E,h4,h5⟩
 simp only at h1 h2 E h4 h5⊢
 rcases Th o.length a.length with hi|hi
 ·obtain⟨x,hx⟩:=dY hi
  have d:=ha.get hx
  obtain⟨y,hy,A,j⟩:∃ y,(b[o.length]?).getD 0=y/\(0<=y/\y<4294967296)/\cJ (b.take (o.length+1))=cJ (b.take o.length)+4294967296^o.length * y:=by
   cases h6:b[o.length]? with
   |none=>
    have:b.length<=o.length:=T4.1 h6
    refine⟨0,rfl,by omega, ?_⟩
    rw[Tr this,Tr oM];simp
   |some y=>exact⟨y,rfl,hb.get h6,yz h6⟩
  refine .inl ⟨(o++[(c+x+y)%4294967296],(c+x+y)/4294967296),⟨by simp;omega, ?_,by simp only;omega,by simp only;omega, ?_⟩,by simp;omega, ?_⟩
  ·exact h2.app fun z hz=>by simp at hz;omega
  ·simp only[SW,Tq]
   rw[LR (c:=c) (m:=x+y) oM,yz hx,j,UK,UK]
   omega
  ·rw[hf o c o.length x hx E h4 rfl,hy]
   simp
 ·have hl:o.length=a.length:=by omega
  refine .inr ⟨_,o++[c],by rw[hl];exact J o c, ?_,h2.app fun z hz=>by simp at hz;omega, ?_,by simp;omega⟩
  ·have G:IntKind.u32.wrap c=c:=by rw[Rc];omega
   simp only[bX,G]
   exact dc oT
  ·rw[yh,ED,h5,hl,TV,g]
theorem R4 (a b:List Int) (ha:uy a) (hb:uy b) (h1:a.length<=999) (h2:b.length<=999):∃ o,xg a b=some o/\uy o/\cJ o=cJ a+cJ b/\o.length=max a.length b.length+1:=by
 have key:∀ (a b:List Int) (i:Nat) (x c:Int) (o:List Int),uy a->uy b->a.length<=999->a[i]?=some x->0<=c->c<=1->o.length=i->
   (bif decide ((i:Int)<(a.length:Int)) then(cm a (i:Int)).bind fun e=>bif decide ((i:Int)<(b.length:Int)) then(cm b (i:Int)).bind fun F=>iZ (sf (o.length+[IntKind.u32.wrap (IntKind.u64.wrap (IntKind.u64.wrap (c+IntKind.u64.wrap e)+IntKind.u64.wrap F))].length)) (iZ (IE IntKind.u64 32) (some (Sum.inl (o++[IntKind.u32.wrap (IntKind.u64.wrap (IntKind.u64.wrap (c+IntKind.u64.wrap e)+IntKind.u64.wrap F))],IntKind.u64.wrap (IntKind.u64.wrap (c+IntKind.u64.wrap e)+IntKind.u64.wrap F)/4294967296,IntKind.i64.wrap ((i:Int)+1)))))
    else iZ (sf (o.length+[IntKind.u32.wrap (IntKind.u64.wrap (c+IntKind.u64.wrap e))].length)) (iZ (IE IntKind.u64 32) (some (Sum.inl (o++[IntKind.u32.wrap (IntKind.u64.wrap (c+IntKind.u64.wrap e))],IntKind.u64.wrap (c+IntKind.u64.wrap e)/4294967296,IntKind.i64.wrap ((i:Int)+1)))))
   else cb (some (Sum.inl (o,c,(i:Int)))):Option ((List Int×Int×Int)⊕((List Int×Int×Int)⊕List Int)))=some (.inl (o++[(c+x+(b[i]?).getD 0)%4294967296],(c+x+(b[i]?).getD 0)/4294967296,((i+1:Nat):Int))):=by
  intro a b i x c o ha hb hl hx h0 h1 ho
  have hi:=bM hx
  have d:=ha.get hx
  have e1:IntKind.u64.wrap x=x:=He d.1 oM
  have e2:IntKind.u64.wrap (c+x)=c+x:=He oM oM
  have l:IE IntKind.u64 32=some ():=pR.2 ⟨by omega,by simp[IntKind.bits]⟩
  simp only[bg hi,SZ,ap,hx,SQ,e1,e2,bQ i oM,eq l]
  cases h6:b[i]? with
  |none=>
   have:b.length<=i:=T4.1 h6
   have hd:decide ((i:Int)<(b.length:Int))=false:=by simp;omega
   simp only[hd,S2,T8,Rc,Int.add_zero]
   rw[dc oT]
  |some y=>
   have f:=bM h6
   have A:=hb.get h6
   have e3:IntKind.u64.wrap y=y:=He A.1 oM
   have B:IntKind.u64.wrap (c+x+y)=c+x+y:=He oM oM
   simp only[bg f,SZ,SQ,e3,B,TI,Rc]
   rw[dc oT]
 have r8:∀ n:Nat,n<=999->Rp 0 (IntKind.i64.wrap ((n:Int)+1))=some ():=fun n hn=>by
  rw[bQ n oM];exact DH.2 ⟨T1 _,by omega,by omega⟩
 unfold xg ey;dsimp only
 by_cases h9:a.length<b.length
 ·have hd:decide ((a.length:Int)<(b.length:Int))=true:=by simpa using h9
  simp only[hd,SZ]
  rw[eq (r8 _ h2)]
  exact(IB b a hb ha oM h2 (by rfl) (by intro o c i x hx k1 k2 k3;exact key b a i x c o hb ha h2 hx k1 k2 k3) (by intro o c;simp only[ao,S2];rfl)).imp fun o h=>⟨h.1,h.2.1,by have:=h.2.2.1;omega,by have:=h.2.2.2;omega⟩
 ·have hd:decide ((a.length:Int)<(b.length:Int))=false:=by simpa using h9
  simp only[hd,S2]
  rw[eq (r8 _ h1)]
  exact(IB a b ha hb oM h1 (by rfl) (by intro o c i x hx k1 k2 k3;exact key a b i x c o ha hb h1 hx k1 k2 k3) (by intro o c;simp only[ao,S2];rfl)).imp fun o h=>⟨h.1,h.2.1,h.2.2.1,by have:=h.2.2.2;omega⟩
theorem Q_ {y:aO} {w:Int} {m:Nat} (hx:BH x v n) (hy:BH y w m) (hn:n<=900) (Z:m<=900):∃ z,dL x y=some z/\BH z (v+w) (max n m+1):=by
 unfold dL ez;dsimp only
 obtain⟨o,k1,k2,k3,k4⟩:=R4 x.fabs y.fabs hx.ok hy.ok (by have:=hx.len;omega) (by have:=hy.len;omega)
 obtain⟨t,N,H,q3,q4,q5⟩:=Hc false o k2 (by have:=hx.len;have:=hy.len;omega)
 simp only[hx.neg,hy.neg,Ue,SZ,k1,SQ,N]
 refine⟨_,rfl,by simp,H,q3,by rw[q4,k3,hx.val,hy.val], ?_⟩
 show t.length<=_
 have:=hx.len;have:=hy.len;omega
variable {n:Nat} {v:Int} {x:aO}
theorem LO {e y:Int} (J:0<=e/\e<4294967296) (hy:0<=y/\y<4294967296):0<=e * y/\e * y<=18446744065119617025:=by
 refine⟨Int.mul_nonneg J.1 hy.1, ?_⟩
 have:=Int.mul_le_mul (show e<=4294967295 by omega) (show y<=4294967295 by omega) hy.1 oM
 omega
theorem Ra {i k:Nat} (h:i+k<=2000):IntKind.i64.wrap ((i:Int)+(k:Int))=((i+k:Nat):Int):=by rw[bp _ oM oM];simp
theorem Pw {y:aO} {w:Int} {m:Nat} (hx:BH x v n) (hy:BH y w m) (hn:n+m<=900):∃ z,dw x y=some z/\BH z (v * w) (n+m):=by
 have P:=hx.len;have T:=hy.len
 have ox:=hx.ok;have Q:=hy.ok
 have D:=hx.val;have S:=hy.val
 have L:=hx.neg;have M:=hy.neg
 have nX:∀ (b:Bool),(b=b):=fun _=>rfl
 obtain⟨xn,h⟩:=x
 obtain⟨yn,a⟩:=y
 simp only at P T ox Q D S L M
 subst L;subst M
 unfold dw ez;dsimp only
 have K:IntKind.i64.wrap ((h.length:Int)+(a.length:Int))=((h.length+a.length:Nat):Int):=Ra oM
 have l:IE IntKind.u64 32=some ():=pR.2 ⟨by omega,by simp[IntKind.bits]⟩
 simp only[K,T_,Ue,S7]
 rw[eq (DH.2 ⟨by omega,T1 _,by omega⟩)]
 refine lu (X:=List Int×Nat) (C:=fun z:aO=>BH z (v * w) (n+m)) (fun s=>(s.1,(s.2:Int))) (fun s=>h.length - s.2)
  (fun s=>s.2<=h.length/\s.1.length=h.length+a.length/\uy s.1/\cJ s.1=cJ (h.take s.2) * cJ a/\∀ j z,s.2+a.length<=j->s.1[j]?=some z->z=0) ?_ (List.replicate (h.length+a.length) 0,0)
  ⟨To _,by simp,Pz _,by simp[IC,cJ],fun j z _ hz=>by
   simp only[List.getElem?_replicate] at hz
   split at hz
   ·simpa using hz.symm
   ·cases hz⟩
 rintro⟨g,i⟩ ⟨h1,h2,E,h4,h5⟩
 simp only at h1 h2 E h4 h5⊢
 rcases Th i h.length with hi|hi
 ·obtain⟨e,J⟩:=dY hi
  have G:=ox.get J
  have e1:IntKind.u64.wrap e=e:=He G.1 oM
  have d:∃ r:(List Int×Int)⊕((List Int×Int)⊕aO),_=some r/\∃ o,r= .inl (o,((i+1:Nat):Int))/\o.length=h.length+a.length/\uy o/\cJ o=cJ (h.take (i+1)) * cJ a/\∀ j z,i+1+a.length<=j->o[j]?=some z->z=0:=
   lu (R:=(List Int×Int)⊕((List Int×Int)⊕aO)) (X:=(List Int×Int)×Nat) (f:=fun u:List Int×Int×Int=>
     bif decide (u.snd.snd<(a.length:Int)) then(cm a u.snd.snd).bind fun F=>(cm u.fst (IntKind.i64.wrap ((i:Int)+u.snd.snd))).bind fun U=>u.fst[(IntKind.i64.wrap ((i:Int)+u.snd.snd)).toNat]?.bind fun I=>(cm u.fst (IntKind.i64.wrap ((i:Int)+u.snd.snd))).bind fun V=>u.fst[(IntKind.i64.wrap ((i:Int)+u.snd.snd)).toNat]?.bind fun W=>
      iZ (IE IntKind.u64 32) (some (Sum.inl (u.fst.set (IntKind.i64.wrap ((i:Int)+u.snd.snd)).toNat (IntKind.u32.wrap (IntKind.u64.wrap (u.snd.fst+IntKind.u64.wrap (IntKind.u64.wrap I+IntKind.u64.wrap (IntKind.u64.wrap e * IntKind.u64.wrap F))))),IntKind.u64.wrap (u.snd.fst+IntKind.u64.wrap (IntKind.u64.wrap I+IntKind.u64.wrap (IntKind.u64.wrap e * IntKind.u64.wrap F)))/4294967296,IntKind.i64.wrap (u.snd.snd+1))))
     else cb (some (Sum.inl (u.fst,u.snd.fst,u.snd.snd))))
    (k:=bX fun u:List Int×Int×Int=>(cm u.fst (IntKind.i64.wrap ((i:Int)+(a.length:Int)))).bind fun e=>u.fst[(IntKind.i64.wrap ((i:Int)+(a.length:Int))).toNat]?.bind fun e=>some (Sum.inl (u.fst.set (IntKind.i64.wrap ((i:Int)+(a.length:Int))).toNat (IntKind.u32.wrap u.snd.fst),IntKind.i64.wrap ((i:Int)+1))))
    (fun s=>(s.1.1,s.1.2,(s.2:Int))) (fun s=>a.length - s.2)
    (fun s=>s.2<=a.length/\s.1.1.length=h.length+a.length/\uy s.1.1/\(0<=s.1.2/\s.1.2<4294967296)/\cJ s.1.1+4294967296^(i+s.2) * s.1.2=cJ g+4294967296^i * (e * cJ (a.take s.2))/\∀ j z,i+a.length<=j->s.1.1[j]?=some z->z=0) (by
     rintro⟨⟨o,c⟩,k⟩ ⟨N,H,q3,q4,q5,q⟩
     simp only at N H q3 q4 q5 q⊢
     rcases Th k a.length with hk|hk
     ·obtain⟨y,hy⟩:=dY hk
      have A:=Q.get hy
      obtain⟨p,hp⟩:∃ p,o[i+k]?=some p:=dY oM
      have kp:=q3.get hp
      have Y:=LO G A
      have e2:IntKind.u64.wrap y=y:=He A.1 oM
      have e3:IntKind.u64.wrap p=p:=He kp.1 oM
      have B:IntKind.u64.wrap (e * y)=e * y:=He Y.1 oM
      have Z:IntKind.u64.wrap (p+e * y)=p+e * y:=He oM oM
      have e6:IntKind.u64.wrap (c+(p+e * y))=c+(p+e * y):=He oM oM
      have O:IntKind.i64.wrap ((i:Int)+(k:Int))=((i+k:Nat):Int):=Ra oM
      refine .inl ⟨((o.set (i+k) ((c+(p+e * y))%4294967296),(c+(p+e * y))/4294967296),k+1),⟨hk,by simpa using H,q3.set _ oM,by simp only;omega, ?_,fun j z hj hz=> ?_⟩,by simp only;omega, ?_⟩
      ·simp only
       rw[<-UZ,LQ hp rfl,yz hy,UK,<-U0,q5,UK,UK,Int.pow_add,U0]
       congr 2
       ac_rfl
      ·simp only at hz
       rw[List.getElem?_set_ne oM] at hz
       exact q j z hj hz
      ·simp only[bg hk,SZ,ap,hy,SQ,O,T_,hp,e1,e2,e3,B,Z,e6,Rc,bQ k oM]
       rw[eq l]
     ·have hl:k=a.length:=by omega
      subst hl
      obtain⟨p,hp⟩:∃ p,o[i+a.length]?=some p:=dY oM
      have hz:=q _ p (S0 _) hp
      subst hz
      have O:IntKind.i64.wrap ((i:Int)+(a.length:Int))=((i+a.length:Nat):Int):=Ra oM
      have e8:IntKind.u32.wrap c=c:=by rw[Rc];omega
      rw[TV] at q5
      refine .inr ⟨_,_,by simp only[ao,S2];rfl,by simp only[bX,O,ap,T_,hp,SQ,e8,bQ i oM];rfl,_,rfl,by simpa using H,q3.set _ q4, ?_,fun j z hj hz=> ?_⟩
      ·rw[EC _ hp,Int.sub_zero,q5,h4,yz J,Int.add_mul]
       congr 1
       ac_rfl
      ·rw[List.getElem?_set_ne oM] at hz
       exact q j z oM hz)
    ((g,0),0) ⟨To _,h2,E,⟨T1 _,by simp⟩,by simp[cJ],h5⟩
  obtain⟨r,hr,o,rfl,g1,g2,g3,g4⟩:=d
  refine .inl ⟨(o,i+1),⟨hi,g1,g2,g3,g4⟩,by simp only;omega, ?_⟩
  simp only[bg hi,SZ,ap,J,SQ]
  exact hr
 ·have hl:i=h.length:=by omega
  subst hl
  rw[TV] at h4
  obtain⟨t,k1,k2,k3,k4,k5⟩:=Hc false g E oM
  refine .inr ⟨_,_,by simp only[ao,S2];rfl,by simp only[bX,k1,SQ];rfl, ?_⟩
  exact⟨by simp,k2,k3,by rw[k4,h4,D,S],by show t.length<=n+m;omega⟩
theorem Px (hx:BH x v n) (hn:n<=900) (hv:v≠0):∃ t,cd x=some ⟨true,t⟩/\uy t/\N9 t/\cJ t=v/\t.length<=n:=by
 unfold cd ez;dsimp only
 have P:=hx.len
 obtain⟨t,k1,k2,k3,k4,k5⟩:=Hc (!x.fneg) x.fabs hx.ok oM
 refine⟨t, ?_,k2,k3,k4.trans hx.val,by omega⟩
 rw[k1,hx.neg,hx.val]
 simp[hv]
theorem Rb (hx:BH x v n):cq x=some (if v=0 then 0 else 1):=by
 unfold cq ey;dsimp only
 have h:=ID hx.ok hx.nz
 rw[hx.val] at h
 simp only[hx.neg,S2]
 by_cases hv:v=0
 ·have hl:=h.1 hv
  rw[Ub hv,hl];rfl
 ·have hl:x.fabs.length≠0:=fun e=>hv (h.2 e)
  rw[Ul hv,TW (show¬ ((x.fabs.length:Int)=0) by omega)];rfl
theorem R5 (b:Bool) (l:List Int) (h:uy l) (hz:N9 l) (m:Int) (h0:0<=m) (h1:m<9223372036854775807):∃ r,f2 ⟨b,l⟩ m=some (r,decide (cJ l<=m)):=by
 unfold f2 ey;dsimp only
 by_cases hl:2<l.length
 ·have hg:=LP h hz hl
  have hd:decide (2<((l.length:Nat):Int))=true:=by simp;omega
  have hv:decide (cJ l<=m)=false:=by simp;omega
  rw[hd,hv];exact⟨_,rfl⟩
 ·have hd:decide (2<((l.length:Nat):Int))=false:=by simp;omega
  rw[hd]
  simp only[S2]
  have G:IntKind.u64.wrap m=m:=He h0 oM
  have g:∀ u:Int,u=cJ l->∃ r,(bif decide (IntKind.u64.wrap m<u) then some ((0:Int),false) else bif b then some (IntKind.i64.wrap (0 - IntKind.i64.wrap u),true) else some (IntKind.i64.wrap u,true))=some (r,decide (cJ l<=m)):=by
   intro u hu
   rw[G,hu]
   by_cases hc:m<cJ l
   ·rw[TG hc,show decide (cJ l<=m)=false by simp;omega];exact⟨_,rfl⟩
   ·rw[TW hc,show decide (cJ l<=m)=true by simp;omega]
    cases b<;>exact⟨_,rfl⟩
  have s0:IntKind.i64.wrap (32 * 0)=0:=by rw[bp _ oM oM];rfl
  have p:IntKind.i64.wrap (32 * (0+1))=32:=by rw[bp _ oM oM];rfl
  have s2:IntKind.i64.wrap (0+1)=1:=by rw[bp _ oM oM];rfl
  have s3:IntKind.i64.wrap (32 * 1)=32:=by rw[bp _ oM oM];rfl
  have s4:IntKind.i64.wrap (1+1)=2:=by rw[bp _ oM oM];rfl
  have a:IE IntKind.u64 0=some ():=pR.2 ⟨by omega,by simp[IntKind.bits]⟩
  have c:IE IntKind.u64 32=some ():=pR.2 ⟨by omega,by simp[IntKind.bits]⟩
  match l,h,hz,hl with
  |[],_,_,_=>
   rw[bV]
   have d0:decide ((0:Int)<(([]:List Int).length:Int))=false:=by simp
   simp only[d0,S2,cb,TL,SQ,bX]
   exact g 0 rfl
  |[x],h,_,_=>
   have d:=h x oS
   have e1:IntKind.u64.wrap x=x:=He d.1 oM
   rw[bV]
   have o:decide ((0:Int)<(([x]:List Int).length:Int))=true:=by simp
   have d2:decide ((1:Int)<(([x]:List Int).length:Int))=false:=by simp
   have g1:cm [x] 0=some x:=rfl
   simp only[o,SZ,g1,SQ,s0,s2,eq a,Int.toNat_zero,Int.pow_zero,Int.mul_one,e1,KD d]
   rw[bV]
   simp only[d2,S2,cb,TL,SQ,bX]
   exact g x (by simp[cJ])
  |[x,y],h,_,_=>
   have d:=h x oS
   have A:=h y oS
   have e1:IntKind.u64.wrap x=x:=He d.1 oM
   have e2:IntKind.u64.wrap y=y:=He A.1 oM
   have e3:IntKind.u64.wrap (y * 4294967296)=y * 4294967296:=He oM oM
   rw[bV]
   have o:decide ((0:Int)<(([x,y]:List Int).length:Int))=true:=by simp
   have d2:decide ((1:Int)<(([x,y]:List Int).length:Int))=true:=by simp
   have f:decide ((2:Int)<(([x,y]:List Int).length:Int))=false:=by simp
   have g1:cm [x,y] 0=some x:=rfl
   have g2:cm [x,y] 1=some y:=rfl
   simp only[o,SZ,g1,SQ,s0,s2,eq a,Int.toNat_zero,Int.pow_zero,Int.mul_one,e1,KD d]
   rw[bV]
   have e:(2:Int)^(32:Int).toNat=4294967296:=by decide
   simp only[d2,SZ,g2,SQ,s3,s4,eq c,e2,e,e3,PA d A]
   rw[bV]
   simp only[f,S2,cb,TL,SQ,bX]
   exact g _ (by simp[cJ])
  |_::_::_::_,_,_,hl=>simp at hl
variable {l:List UInt8}
def qR (lo hi c:UInt8):Bool:=decide (lo.toNat<=c.toNat)&&decide (c.toNat<=hi.toNat)
theorem F_ (l:List UInt8) (lo hi:UInt8) (hl:l.length<=1000000):uw l lo hi=some (l.all (qR lo hi)):=by
 unfold uw bC;dsimp only
 refine(py l (qR lo hi) false (fun i e J=> ?_) ?_).trans ?_
 ·have h5:=bM J
  have h1:(decide ((e.toNat:Int)<(lo.toNat:Int))||decide ((hi.toNat:Int)<(e.toNat:Int)))= !qR lo hi e:=by
   unfold qR;rw[Ti];simp
  simp only[bg h5,SZ,ap,J,SQ,bR,bQ i oM,h1]
  cases qR lo hi e<;>rfl
 ·simp only[ao,S2];rfl
 ·cases l.all (qR lo hi)<;>rfl
def iq (c:UInt8):Bool:=decide (48<=c.toNat)&&decide (c.toNat<=57)
def pK (l:List UInt8):Bool:= !decide (l=[])&&l.all iq
theorem nf (h:pK l=true):wg l:=fun c hc=>by
 simp only[pK,SR,Tp] at h
 have:=h.2 c hc
 simpa[iq] using this
theorem CV (h:pK l=true):l≠[]:=by
 intro e;subst e;simp[pK] at h
theorem zI (l:List UInt8) (hl:l.length<=1000000):n3 l=some (pK l):=by
 unfold n3 ni;dsimp only
 rw[F_ l _ _ hl]
 simp only[SQ,aY]
 rfl
theorem CW (l:List UInt8) (hl:l.length<=1000000):gC l=some (pK l):=by
 unfold gC nk;dsimp only
 unfold pK
 cases hd:decide (l=[]) with
 |true=>rfl
 |false=>
  simp only[S2,Tw,S8]
  refine(py l iq false (fun i e J=> ?_) ?_).trans ?_
  ·have h5:=bM J
   have h1:(decide ((e.toNat:Int)<48)||decide (57<(e.toNat:Int)))= !iq e:=by
    unfold iq;rw[Ti];simp
    omega
   simp only[bg h5,SZ,ap,J,SQ,bR,bQ i oM,h1]
   cases iq e<;>rfl
  ·simp only[ao,S2];rfl
  ·cases l.all iq<;>rfl
def PB:List UInt8->Int
 |[]=>0
 |c::_=>c.toNat
def AN (l:List UInt8):Bool:=pK l&&(decide ((l.length:Int)=1)|| !decide (PB l=48))
theorem Fa (h:l≠[]):∃ c,cm l 0=some c/\PB l=(c.toNat:Int):=by
 cases l with
 |nil=>exact absurd rfl h
 |cons c l=>exact⟨c,rfl,rfl⟩
theorem KE (l:List UInt8) (hl:l.length<=1000000):o_ l=some (AN l):=by
 unfold o_ nj;dsimp only
 rw[zI l hl]
 unfold AN
 cases hd:pK l with
 |false=>rfl
 |true=>
  obtain⟨c,hc,hh⟩:=Fa (CV hd)
  simp only[SQ,hc,bR,hh,aY,S8]
theorem w8 {e:UInt8} (h:48<=e.toNat/\e.toNat<=57):IntKind.u8.wrap ((e.toNat:Int) - 48)=(e.toNat:Int) - 48:=by
 have:IntKind.u8.wrap ((e.toNat:Int) - 48)=((e.toNat:Int) - 48)%256:=by simp[IntKind.wrap,IntKind.bits,IntKind.signed]
 rw[this];omega
theorem Fb (l:List UInt8) (c:UInt8):cR 0 (l++[c])=10 * cR 0 l+((c.toNat:Int) - 48):=by rw[EE];rfl
theorem wg.take (h:wg l) (n:Nat):wg (l.take n):=fun c hc=>h c (Tm hc)
theorem KF (h:wg l) (n:Nat):cR 0 (l.take n)<=cR 0 l:=by
 have h1:=CT (l:=l.drop n) (n:=cR 0 (l.take n)) (fun c hc=>h c (TE hc)) (CU (h.take n) (T1 _))
 rw[<-EE,Tf] at h1
 exact h1
theorem CX (l:List UInt8) (h:wg l) (hl:l.length<=1000):∃ r,ei l=some (r,decide (cR 0 l<=1000000000000000))/\(cR 0 l<=1000000000000000->r=cR 0 l):=by
 unfold ei nk;dsimp only
 have key:∃ c:Int×Bool,_=some c/\∃ r,c=(r,decide (cR 0 l<=1000000000000000))/\(cR 0 l<=1000000000000000->r=cR 0 l):=lu (X:=Nat) (R:=Int×Bool) (C:=fun c=>∃ r,c=(r,decide (cR 0 l<=1000000000000000))/\(cR 0 l<=1000000000000000->r=cR 0 l))
  (f:=fun s:Int×Int=>bif decide (s.snd<(l.length:Int)) then(cm l s.snd).bind fun e=>bif decide (1000000000000000<IntKind.i64.wrap (IntKind.i64.wrap (10 * s.fst)+IntKind.i64.wrap (IntKind.u8.wrap ((e.toNat:Int) - 48)))) then cb (cb (some (0,false))) else some (Sum.inl (IntKind.i64.wrap (IntKind.i64.wrap (10 * s.fst)+IntKind.i64.wrap (IntKind.u8.wrap ((e.toNat:Int) - 48))),IntKind.i64.wrap (s.snd+1))) else cb (some (Sum.inl (s.fst,s.snd))))
  (k:=bX fun s:Int×Int=>some (s.fst,true))
  (fun i=>(cR 0 (l.take i),(i:Int))) (fun i=>l.length - i) (fun i=>i<=l.length/\cR 0 (l.take i)<=1000000000000000) (by
   rintro i ⟨h1,h2⟩
   have h0:=CU (h.take i) (T1 _)
   rcases Th i l.length with hi|hi
   ·obtain⟨e,J⟩:=dY hi
    have G:=h e (ST J)
    have hs:cR 0 (l.take (i+1))=10 * cR 0 (l.take i)+((e.toNat:Int) - 48):=by rw[eu J,Fb]
    simp only[bg hi,SZ,ap,J,SQ,w8 G,bQ i oM]
    rw[bp (10 * cR 0 (l.take i)) oM oM,bp ((e.toNat:Int) - 48) oM oM,bp _ oM oM,<-hs]
    by_cases hc:1000000000000000<cR 0 (l.take (i+1))
    ·have:=KF h (i+1)
     refine .inr ⟨_,_,by rw[TG hc];rfl,rfl,0, ?_,fun hh=>by omega⟩
     rw[TW oM]
    ·exact .inl ⟨i+1,⟨hi,by omega⟩,by omega,by rw[TW hc];rfl⟩
   ·have m:i=l.length:=by omega
    subst m
    rw[TV] at h2⊢
    refine .inr ⟨_,_,by simp only[ao,S2];rfl,rfl,cR 0 l, ?_,fun _=>rfl⟩
    rw[TG h2]) 0 ⟨To _,by simp[cR]⟩
 obtain⟨c,hc,r,rfl,hr⟩:=key
 exact⟨r,hc,hr⟩
def N3 (neg:Bool) (v:Int):Bool:=(!neg||decide (v≠0))&&decide (v<=1000000000000000)
theorem LV (b:Bool) (l:List Int) (p:Int) (h:uy l) (hz:N9 l):∃ d e,ef ⟨b,l⟩ p=some (d,e)/\decide (e=0)=decide (cJ l<=1000000000000000):=by
 unfold ef ni;dsimp only
 obtain⟨r,hr⟩:=R5 b l h hz 1000000000000000 oM oM
 rw[hr]
 cases decide (cJ l<=1000000000000000)<;>exact⟨_,_,rfl,rfl⟩
theorem Ga {n:Nat} (h:n<=1000):Le n=some ():=by unfold Le;rw[Ub oM]
theorem PY (neg:Bool) (a b:List UInt8) (h:wg (a++b)) (hl:(a++b).length<=50):∃ d e,pE neg a b=some (d,e)/\decide (e=0)=N3 neg (cR 0 (a++b)):=by
 unfold pE nj;dsimp only
 obtain⟨x,hx,L⟩:=Q9 0 oM oM
 obtain⟨t,Y,n⟩:=Q9 10 oM oM
 have h8:a.length+b.length<=1000:=by rw[SW] at hl;omega
 simp only[hx,SQ,eq (Ga h8),Y]
 generalize a++b=l at h hl
 have key:∃ c:cK×Int,_=some c/\decide (c.2=0)=N3 neg (cR 0 l):=lu (X:=aO×Nat) (R:=cK×Int) (C:=fun c=>decide (c.2=0)=N3 neg (cR 0 l))
  (f:=fun s:aO×Int=>bif decide (s.snd<(l.length:Int)) then(dw s.fst t).bind fun x=>(cm l s.snd).bind fun e=>(vy (IntKind.i64.wrap (IntKind.u8.wrap ((e.toNat:Int) - 48)))).bind fun j=>(dL x j).bind fun x=>some (Sum.inl (x,IntKind.i64.wrap (s.snd+1))) else cb (some (Sum.inl (s.fst,s.snd))))
  (k:=bX fun s:aO×Int=>bif neg then(cq s.fst).bind fun x=>bif decide (x=0) then some ({fUnits:=0,fPlaces:=0},10) else(cd s.fst).bind fun x=>(ef x (b.length:Int)).bind fun x=>some (x.fst,x.snd) else(ef s.fst (b.length:Int)).bind fun x=>some (x.fst,x.snd))
  (fun s=>(s.1,(s.2:Int))) (fun s=>l.length - s.2) (fun s=>s.2<=l.length/\BH s.1 (cR 0 (l.take s.2)) (2 * s.2+1)) (by
   rintro⟨x,i⟩ ⟨h1,h2⟩
   simp only at h1 h2⊢
   rcases Th i l.length with hi|hi
   ·obtain⟨e,J⟩:=dY hi
    have G:=h e (ST J)
    obtain⟨y,hy,M⟩:=Pw h2 n oM
    obtain⟨d,hd,o⟩:=Q9 ((e.toNat:Int) - 48) oM oM
    obtain⟨z,hz,nz⟩:=Q_ M o oM oM
    refine .inl ⟨(z,i+1),⟨hi, ?_⟩,by simp only;omega, ?_⟩
    ·have e1:cR 0 (l.take (i+1))=cR 0 (l.take i) * 10+((e.toNat:Int) - 48):=by rw[eu J,Fb];omega
     rw[e1]
     exact⟨nz.neg,nz.ok,nz.nz,nz.val,by have:=nz.len;simp only;omega⟩
    ·simp only[bg hi,SZ,ap,J,SQ,w8 G,bQ i oM,hy]
     rw[bp ((e.toNat:Int) - 48) oM oM,hd]
     simp only[SQ,hz]
   ·have m:i=l.length:=by omega
    subst m
    rw[TV] at h2
    have h0:=h2.nn
    have r8:∀ c:cK×Int,(bif neg then(cq x).bind fun j=>bif decide (j=0) then some (({fUnits:=0,fPlaces:=0}:cK),(10:Int)) else(cd x).bind fun x=>(ef x (b.length:Int)).bind fun x=>some (x.fst,x.snd) else(ef x (b.length:Int)).bind fun x=>some (x.fst,x.snd))=some c->True:=fun _ _=>trivial
    have g:∃ c:cK×Int,(bif neg then(cq x).bind fun j=>bif decide (j=0) then some (({fUnits:=0,fPlaces:=0}:cK),(10:Int)) else(cd x).bind fun x=>(ef x (b.length:Int)).bind fun x=>some (x.fst,x.snd) else(ef x (b.length:Int)).bind fun x=>some (x.fst,x.snd))=some c/\decide (c.2=0)=N3 neg (cR 0 l):=by
     cases neg with
     |false=>
      obtain⟨d,e,k1,k2⟩:=LV x.fneg x.fabs b.length h2.ok h2.nz
      rw[h2.val] at k2
      exact⟨(d,e),by simp only[S2];rw[show ef x (b.length:Int)=some (d,e) from k1];rfl,by simp only[N3,Tw,Bool.true_or,S8];exact k2⟩
     |true=>
      rw[Rb h2]
      simp only[SZ,SQ]
      by_cases hv:cR 0 l=0
      ·rw[Ub hv,hv];exact⟨_,rfl,rfl⟩
      ·rw[Ul hv]
       obtain⟨u,k1,k2,k3,k4,k5⟩:=Px h2 oM hv
       obtain⟨d,e,N,H⟩:=LV true u b.length k2 k3
       rw[k4] at H
       refine⟨(d,e), ?_, ?_⟩
       ·rw[k1];simp only[SQ,N];rfl
       ·simp only[N3,S7,Tx,hv,ne_eq,not_false_eq_true,Ue,S8];exact H
    obtain⟨c,k1,k2⟩:=g
    exact .inr ⟨.inl (x,(l.length:Int)),c,by simp only[ao,S2];rfl,k1,k2⟩) (x,0) ⟨To _,by simpa[cR] using L⟩
 obtain⟨⟨d,e⟩,hc,hr⟩:=key
 exact⟨d,e,hc,hr⟩
def IF (s:List UInt8):Bool:=
 let c:=Lib.cut (Lib.trimPrefix s [45]) [46]
 decide (s.length<=40)&&(AN c.1&&(!c.2.2||(pK c.2.1&&decide (c.2.1.length<=9)))&&N3 (Lib.hasPrefix s [45]) (cR 0 (c.1++c.2.1)))
theorem JD (s sep:List UInt8):(Lib.cut s sep).1.length<=s.length/\(Lib.cut s sep).2.1.length<=s.length/\(Lib.cut s sep).1.length+(Lib.cut s sep).2.1.length<=s.length/\((Lib.cut s sep).2.2=false->(Lib.cut s sep).2.1=[]):=by
 unfold Lib.cut
 split
 ·refine⟨?_, ?_, ?_,fun h=>by cases h⟩
  ·simp only[Tc];omega
  ·simp only[TH];omega
  ·simp only[Tc,TH];omega
 ·exact⟨S0 _,by simp,by simp,fun _=>rfl⟩
theorem vf (s p:List UInt8):(Lib.trimPrefix s p).length<=s.length:=by
 unfold Lib.trimPrefix
 split
 ·simp only[TH];omega
 ·exact S0 _
theorem IG (s:List UInt8) (k:s.length<=1000):∃ d e,kn s=some (d,e)/\decide (e=0)=IF s:=by
 by_cases hs:s.length<=40
 case neg=>
  unfold kn tG;dsimp only
  have hp:=vf s [45]
  have g:eg (Lib.trimPrefix s [45]) [46]=some (Lib.cut (Lib.trimPrefix s [45]) [46]):=by unfold eg;rw[Ub oM]
  have hd:decide (40<((s.length:Nat):Int))=true:=by simp;omega
  simp only[et,SQ,g,hd]
  refine⟨_,_,rfl, ?_⟩
  unfold IF
  rw[TW hs];rfl
 unfold kn tG;dsimp only
 have hp:=vf s [45]
 obtain⟨c1,z,u,j⟩:=JD (Lib.trimPrefix s [45]) [46]
 have g:eg (Lib.trimPrefix s [45]) [46]=some (Lib.cut (Lib.trimPrefix s [45]) [46]):=by unfold eg;rw[Ub oM]
 have hd:decide (40<((s.length:Nat):Int))=false:=by simp;omega
 simp only[et,SQ,g,hd]
 unfold IF
 rw[TG hs,S8]
 generalize Lib.cut (Lib.trimPrefix s [45]) [46]=c at c1 z u j
 obtain⟨a,b,p⟩:=c
 simp only at c1 z u j⊢
 rw[KE a oM,zI b oM]
 simp only[SQ,bR,aY,Tx]
 cases ha:AN a with
 |false=>exact⟨_,_,rfl,rfl⟩
 |true=>
  simp only[S7,Tx,S8]
  have i:wg a:=nf (by unfold AN at ha;simp only[SR] at ha;exact ha.1)
  have B:wg b->∃ d e,(pE (Lib.hasPrefix s [45]) a b).bind (fun x=>some (x.fst,x.snd))=some (d,e)/\decide (e=0)=N3 (Lib.hasPrefix s [45]) (cR 0 (a++b)):=fun m=>by
   obtain⟨d,e,k1,k2⟩:=PY (Lib.hasPrefix s [45]) a b (fun x hx=>(Ta.1 hx).elim (i x) (m x)) (by rw[SW];omega)
   exact⟨d,e,by rw[k1];rfl,k2⟩
  cases p with
  |false=>
   have hb:=j rfl
   subst hb
   simp only[TY,S2,Tw,Bool.true_or,S8]
   exact B (fun x hx=>by simp at hx)
  |true=>
   simp only[S8,S7,Tx]
   cases hb:pK b with
   |false=>exact⟨_,_,rfl,rfl⟩
   |true=>
    by_cases h9:b.length<=9
    ·have e1:decide (9<((b.length:Nat):Int))=false:=by simp;omega
     simp only[e1,S7,UN,S2,TG h9,UY,S8]
     exact B (nf hb)
    ·have e1:decide (9<((b.length:Nat):Int))=true:=by simp;omega
     simp only[e1,Bool.or_true,SZ,TW h9,UL,TY]
     exact⟨_,_,rfl,rfl⟩
theorem Fc:∀ {l:List UInt8},wg l->(cR 0 l=0↔∀ c∈l,([48]:List UInt8).contains c=true)
 |[],_=>by simp[cR]
 |c::l,h=>by
  have hc:=h c (Tl ..)
  have hl:wg l:=fun x hx=>h x (Tz _ hx)
  have ih:=Fc hl
  have b:([48]:List UInt8).contains c=true↔c.toNat=48:=by
   simp only[List.contains_cons,List.contains_nil,UN,S1]
   constructor
   ·rintro rfl;rfl
   ·intro e;exact UInt8.toNat_inj.1 (by simpa using e)
  have hd:cR 0 (c::l)=cR ((c.toNat:Int) - 48) l:=by show cR (10 * 0+_) l=_;simp
  rw[hd]
  by_cases a:c.toNat=48
  ·rw[a]
   show cR 0 l=0↔_
   rw[ih]
   constructor
   ·intro k x hx
    rcases S9.1 hx with rfl|hx
    ·exact b.2 a
    ·exact k x hx
   ·exact fun k x hx=>k x (Tz _ hx)
  ·constructor
   ·intro k
    have:=CT (l:=l) (n:=(c.toNat:Int) - 48) hl oM
    omega
   ·intro k
    exact absurd (b.1 (k c (Tl ..))) a
theorem IH (s:List UInt8) (k:s.length<=1000):∃ d e,ej s=some (d,e)/\decide (e=0)=IF s:=by
 by_cases hs:s.length<=40
 case neg=>
  unfold ej tH;dsimp only
  have hp:=vf s [45]
  have g:eg (Lib.trimPrefix s [45]) [46]=some (Lib.cut (Lib.trimPrefix s [45]) [46]):=by unfold eg;rw[Ub oM]
  have hd:decide (40<((s.length:Nat):Int))=true:=by simp;omega
  simp only[et,SQ,g,hd]
  refine⟨_,_,rfl, ?_⟩
  unfold IF
  rw[TW hs];rfl
 unfold ej tH;dsimp only
 have hp:=vf s [45]
 obtain⟨c1,z,u,j⟩:=JD (Lib.trimPrefix s [45]) [46]
 have g:eg (Lib.trimPrefix s [45]) [46]=some (Lib.cut (Lib.trimPrefix s [45]) [46]):=by unfold eg;rw[Ub oM]
 have hd:decide (40<((s.length:Nat):Int))=false:=by simp;omega
 simp only[et,SQ,g,hd,S2]
 unfold IF
 rw[TG hs,S8]
 generalize Lib.cut (Lib.trimPrefix s [45]) [46]=c at c1 z u j
 generalize Lib.hasPrefix s [45]=neg
 obtain⟨a,b,p⟩:=c
 simp only at c1 z u j⊢
 rw[CW a oM,CW b oM,eq (Ga (show a.length+b.length<=1000 by omega)),eq (Ga (show a.length+b.length<=1000 by omega))]
 simp only[SQ,bR]
 unfold AN
 cases ha:pK a with
 |false=>exact⟨_,_,rfl,rfl⟩
 |true=>
  obtain⟨c,hc,hh⟩:=Fa (CV ha)
  have o:a.length≠0:=fun e=>CV ha (Te.1 e)
  simp only[hc,hh,SQ,aY,bR,S7,Tx,S8]
  have h1:(decide (1<((a.length:Nat):Int))&&decide ((c.toNat:Int)=48))= !(decide (((a.length:Nat):Int)=1)|| !decide ((c.toNat:Int)=48)):=by
   rw[Ti];simp;omega
  rw[h1]
  cases G:(decide (((a.length:Nat):Int)=1)|| !decide ((c.toNat:Int)=48)) with
  |false=>exact⟨_,_,rfl,rfl⟩
  |true=>
   simp only[S7,Tx,S8]
   have i:=nf ha
   have B:wg b->∃ d e,((hY neg ((ep (a++b) [48]).bind fun x=>some (decide (x=[])))).bind fun v=>bif v then some (({fUnits:=0,fPlaces:=0}:cK),(10:Int)) else(ei (a++b)).bind fun h=>bif !h.snd then some ({fUnits:=0,fPlaces:=0},1) else bif neg then some ({fUnits:=IntKind.i64.wrap (0 - h.fst),fPlaces:=(b.length:Int)},0) else some ({fUnits:=h.fst,fPlaces:=(b.length:Int)},0))=some (d,e)/\decide (e=0)=N3 neg (cR 0 (a++b)):=fun m=>by
    have f:wg (a++b):=fun x hx=>(Ta.1 hx).elim (i x) (m x)
    have n:(a++b).length<=40:=by rw[SW];omega
    generalize q:a++b=l at f n⊢
    have Y:ep l [48]=some (Lib.trimS l [48]):=by unfold ep;rw[Ub ⟨by omega,by simp,by decide⟩]
    have hz:decide (Lib.trimS l [48]=[])=decide (cR 0 l=0):=by
     rw[Ti,SU,SU,Ef,Fc f]
    obtain⟨r,hr, -⟩:=CX l f oM
    rw[Y,hr]
    simp only[SQ,aY,hz]
    unfold N3
    cases neg with
    |false=>
     simp only[TY,S2,Tw,Bool.true_or,S8]
     cases decide (cR 0 l<=1000000000000000)<;>exact⟨_,_,rfl,rfl⟩
    |true=>
     simp only[S8,S7,Tx]
     by_cases hv:cR 0 l=0
     ·rw[TG hv,TW (show¬ cR 0 l≠0 by simp[hv])];exact⟨_,_,rfl,rfl⟩
     ·rw[TW hv,TG (show cR 0 l≠0 from hv)]
      cases decide (cR 0 l<=1000000000000000)<;>exact⟨_,_,rfl,rfl⟩
   cases p with
   |false=>
    have hb:=j rfl
    subst hb
    simp only[TY,Tw,Bool.true_or,S8]
    exact B (fun x hx=>by simp at hx)
   |true=>
    simp only[S8,S7,Tx]
    cases hb:pK b with
    |false=>exact⟨_,_,rfl,rfl⟩
    |true=>
     by_cases h9:b.length<=9
     ·have e1:decide (9<((b.length:Nat):Int))=false:=by simp;omega
      simp only[e1,S7,UN,S2,TG h9,UY,S8]
      exact B (nf hb)
     ·have e1:decide (9<((b.length:Nat):Int))=true:=by simp;omega
      simp only[e1,Bool.or_true,SZ,TW h9,UL,TY]
      exact⟨_,_,rfl,rfl⟩
end Go.Proofs.YteaolfcegaidpaaGreatDoor
