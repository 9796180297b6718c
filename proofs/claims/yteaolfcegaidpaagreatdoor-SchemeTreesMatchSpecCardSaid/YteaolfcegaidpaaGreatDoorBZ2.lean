/-
  Laws on the way to the theorem.
-/
import Derived.Test.YteaolfcegaidpaaGreatDoorBZ1
import Derived.Shelf.SlicesE.Clone
import Derived.Shelf.SlGeneric
import Derived.Ground.SlgnProg
import Derived.Test.YteaolfcegaidpaaGreatDoorSZEngRv
namespace Go.Proofs.YteaolfcegaidpaaGreatDoor
open Go.RowKit
set_option linter.unusedSimpArgs false
set_option linter.unusedVariables false
noncomputable section
set_option maxRecDepth 100000
set_option maxHeartbeats 40000000
structure aT where
 fmany:Int
 deriving DecidableEq
def a_ (x:aT):List DV:=[.int .i64 x.fmany]
attribute [push_cast] a_
theorem oc {d0:SV} {v0:Int} (h0:vt d0 (.d (.int .i64 v0))):bw [d0] (d7 [.sh] (a_ ⟨v0⟩)):=by have h:=(bw.consS h0 bw.nil);simp only[push_cast,seval,dR] at h⊢;exact h
def tS (a:Int):List SV:=[.d (.int .i64 a)]
attribute [push_cast] tS
structure ad where
 fName:List UInt8
 fSegment:af
 fKids:List ad
mutual
def uk:ad->List DV
 |⟨v0,a,v2⟩=>[.str v0]++al a++[.slice (iC v2)]
def iC:List ad->List (List DV)
 |[]=>[]
 |x::l=>uk x::iC l
end
def ae (x:ad):List DV:=[.str x.fName]++al x.fSegment++[.slice (iC x.fKids)]
theorem Bx (x:ad):uk x=ae x:=by cases x;simp only[uk,ae]
theorem tT:∀ l:List ad,iC l=List.map ae l
 |[]=>by simp only[iC,Ui]
 |x::l=>by simp only[iC,S5,tT l,Bx]
theorem q_ (x:ad):ae x=[.str x.fName]++al x.fSegment++[.slice (List.map ae x.fKids)]:=by show([.str x.fName]++al x.fSegment++[.slice (iC x.fKids)]:List DV)=_;simp only[tT]
attribute [push_cast] q_
theorem ra (x:ad):(⟨x.fName,x.fSegment,x.fKids⟩:ad)=x:=by cases x;rfl
theorem sS {d0 o d2 f:DV} {v0:List UInt8} {a:af} {v2:List ad} (h0:d0= .str v0) (h1:[o,d2]=al a) (h2:f= .slice (List.map ae v2)):[d0,o,d2,f]=ae ⟨v0,a,v2⟩:=by rw[q_];simp only[h0,<-h1,h2,S_,Tb,S4,Tg]
def uW:SC:=(.sq [.r 1 (.boxI (.t 0)),.r 2 (.mv (.b false))] (.seq (.reg (.f 3 0 1:: .l 4 3:: .r 5 (.bin .eql (.t 4) (.c (.d (.str [])))):: .v 6 5::aV [7,8,9,10] 6 true (.f 7 1 1:: .r 8 (.ld1 (.t 7)):: .h 9 8:: .j 10 .eql 9 0::[]) (.r 11 (.pick (.t 6) (.t 10) (.b false)):: .v 2 11::[]))) .ret))
theorem An:fits Tryz.prog 128 Tryz.f128 uW [.t 2] 1=true:=oK
def eJ:SC:=(.seq (.sq [.v 11 5,.v 12 0,.h 13 12,.k 14 .lss 11 13] (.cond (.t 14) .skip (.exit 0))) (.seq (.block 1 (.seq (.regD [.v 17 0,.v 18 5,.y 19 1 17 18,.r 20 (.ld1 (.t 19)),.v 21 1,.v 22 5,.y 23 1 21 22,.r 24 (.ld1 (.t 23)),.k 25 .neq 20 24]) (.cond (.t 25) (.sq [.r 4 (.mv (.b false))] .ret) .skip))) (.reg [.v 15 5,.j 16 .add 15 1,.v 5 16])))
def iO:SC:= .block 0 (.loop eJ)
def j1:SC:=(.sq [.r 4 (.mv (.b false))] (.seq (.sq [.v 6 0,.h 7 6,.v 8 1,.h 9 8,.k 10 .neq 7 9] (.cond (.t 10) (.sq [.r 4 (.mv (.b false))] .ret) .skip)) (.seq (.sq [.r 5 (.mv (.i 0))] iO) (.sq [.r 4 (.mv (.b true))] .ret))))
theorem p3:fits Tryz.prog 88 Tryz.f88 j1 [.t 4] 2=true:=oK
def nq:(∀ (D:af),{m:Option (Bool)//∀ r,m=some r->aa Tryz.prog 128 [.agg (al D)] (.bool r)})×(∀ (D:List (List UInt8)) (x1:List (List UInt8)),{m:Option (Bool)//∀ r,m=some r->aa Tryz.prog 88 [.slice (List.map bS D),.slice (List.map bS x1)] (.bool r)}):=by
 refine⟨?g0, ?g1⟩
 case' g0=>(intro D;apply Subtype.mk;intro r Z;apply ag Tryz.func128 An;unfold uW)
 case' g1=>(intro D x1;apply Subtype.mk;intro r Z;apply ag Tryz.func88 p3;unfold j1)
 all_goals(repeat'(first|with_reducible refine bn ?_|with_reducible refine bl ?_|with_reducible refine l5 ?_|with_reducible refine aX ?_|with_reducible refine aZ ?_|with_reducible refine bF ?_|with_reducible refine bN ?_|with_reducible refine bm ?_|with_reducible refine bo ?_|with_reducible refine bO ?_|with_reducible refine bI ?_|with_reducible refine a8 ?_|with_reducible refine bE ?_|with_reducible refine cF ?_|((with_reducible apply cA Z);(iterate 2 (simp only[push_cast,seval];rfl));(intro _;rfl);intro e Z)|((with_reducible apply fi);(simp only[push_cast,seval];rfl);(first|exact trivial))|((with_reducible apply eh Z);(simp only[push_cast,seval];rfl);rfl;intro v Z;rotate_left;intro v g Z)|((with_reducible apply aI Z);(simp only[push_cast,seval];rfl);intro Z;rotate_left;intro Z)|((with_reducible apply bP Z);(focus(simp only[cE,eS,RV.get,push_cast,seval];rfl));(focus((repeat'(first|rfl));done)))|((with_reducible apply b5 Z);(simp only[push_cast,seval];rfl))|((with_reducible apply br Z);intro r Z)|((with_reducible apply b8 Z);intro r Z)|((apply av (b:=0) (X:=iO) (x:=eJ) rfl (fun(c:SV×SV) (s:Int)=>st [(0,c.1),(1,c.2),(5,.d (.int .i64 s))] []) (c:=(_,_)) (s0:=_) Z);(focus(first|(dsimp only;done)));(with_reducible refine cc.mk ?_ ?_))|((apply bz (F:=_) Z);(focus(first|(dsimp only;done))))|((apply co (F:=_) Z);(focus(first|(dsimp only;done))))|(((with_reducible apply dQ Z);intro r Z))|(((with_reducible apply cM.of);(focus(first|(dsimp only;done)));(focus((intro _;repeat'(first|with_reducible exact bd|with_reducible refine aB ?_))));(intro s o Z;first|unfold eJ);rotate_left;intro s Z))|(((apply a7;(repeat'(first|with_reducible exact aw|with_reducible exact ax|with_reducible apply aq|((with_reducible apply aS);(focus(first|(simp only[push_cast,seval];rfl)));(focus((repeat'(first|rfl));done)))));done)))))
def rb (D:af):Option (Bool):=(nq.1 D).1
theorem zu (D:af):∀ r,rb D=some r->aa Tryz.prog 128 [.agg (al D)] (.bool r):=(nq.1 D).2
def ga (D x1:List (List UInt8)):Option (Bool):=(nq.2 D x1).1
theorem pi (D x1:List (List UInt8)):∀ r,ga D x1=some r->aa Tryz.prog 88 [.slice (List.map bS D),.slice (List.map bS x1)] (.bool r):=(nq.2 D x1).2
def eK:SC:=(.seq (.sq [.v 14 8,.v 15 0,.h 16 15,.k 17 .lss 14 16] (.cond (.t 17) .skip (.exit 0))) (.seq (.block 1 (.sq [.v 20 0,.v 21 8,.y 22 4 20 21,.a 23 4 22,.w 9 (.boxM (.c (.agg [.d (.str []),.d (.str []),.nils,.nils]))),.s 4 9 23] (.seq (.sq [.f 24 0 9,.l 25 24,.r 26 (.bin .eql (.t 25) (.c (.d (.str []))))] (.cond (.t 26) (.reg [.v 27 2,.j 28 .add 27 1,.v 2 28]) .skip)) (.seq (.seq (.reg (.v 29 2:: .j 30 .gtr 29 2000:: .v 31 30::aV [32,33] 31 false (.v 32 1:: .j 33 .gtr 32 6::[]) (.r 34 (.pick (.t 31) (.b true) (.t 33))::[]))) (.cond (.t 34) (.sq [.v 35 2,.v 6 35,.r 7 (.mv (.i 2))] .ret) .skip)) (.seq (.seq (.reg (.f 36 0 9:: .l 37 36:: .r 38 (.bin .neq (.t 37) (.c (.d (.str [])))):: .v 39 38::aV [40,41,42,43] 39 true (.f 40 0 9:: .r 41 (.ld1 (.t 40)):: .c 42 (.f 75) [.t 41]:: .r 43 (.not (.t 42))::[]) (.r 44 (.pick (.t 39) (.t 43) (.b false))::[]))) (.cond (.t 44) (.sq [.v 45 2,.v 6 45,.r 7 (.mv (.i 5))] .ret) .skip)) (.seq (.reg (.f 46 1 9:: .f 47 0 46:: .l 48 47:: .r 49 (.bin .eql (.t 48) (.c (.d (.str [])))):: .v 50 49::aV [51,52,53,54,55] 50 true (.f 51 1 9:: .f 52 1 51:: .r 53 (.ld1 (.t 52)):: .h 54 53:: .j 55 .eql 54 0::[]) (.r 56 (.pick (.t 50) (.t 55) (.b false)):: .v 10 56::[]))) (.seq (.seq (.reg (.f 57 0 9:: .l 58 57:: .r 59 (.bin .eql (.t 58) (.c (.d (.str [])))):: .v 60 59::aV [61,62,63,64] 60 true (.f 61 3 9:: .r 62 (.ld1 (.t 61)):: .h 63 62:: .j 64 .gtr 63 0::[]) (.r 65 (.pick (.t 60) (.t 64) (.b false)):: .v 66 65::aV [67,68,69,70,71,72,73,74,75,76,77,78,79,80,81,82,83,84,85,86,87] 66 false (.f 67 0 9:: .r 68 (.ld1 (.t 67)):: .r 69 (.bin .neq (.t 68) (.c (.d (.str [])))):: .v 70 69::aV [71,72,73,74,75,76,77,78,79,80,81,82,83,84,85,86] 70 true (.v 71 10:: .r 72 (.not (.t 71)):: .v 73 72::aV [74,75,76,77] 73 false (.f 74 3 9:: .r 75 (.ld1 (.t 74)):: .h 76 75:: .j 77 .eql 76 0::[]) (.r 78 (.pick (.t 73) (.b true) (.t 77)):: .v 79 78::aV [80,81,82,83,84,85] 79 false (.f 80 3 9:: .r 81 (.ld1 (.t 80)):: .r 82 (.idx 4 (.t 81) (.i 0)):: .f 83 0 82:: .r 84 (.ld1 (.t 83)):: .r 85 (.bin .neq (.t 84) (.c (.d (.str []))))::[]) (.r 86 (.pick (.t 79) (.b true) (.t 85))::[]))) (.r 87 (.pick (.t 70) (.t 86) (.b false))::[])) (.r 88 (.pick (.t 66) (.b true) (.t 87))::[])))) (.cond (.t 88) (.sq [.v 89 2,.v 6 89,.r 7 (.mv (.i 3))] .ret) .skip)) (.seq (.sq [.f 90 0 9,.l 91 90,.r 92 (.bin .eql (.t 91) (.c (.d (.str []))))] (.cond (.t 92) (.sq [.f 93 1 9,.a 94 2 93,.c 95 (.f 29) [.t 94],.v 11 95] (.sq [.v 96 11,.j 97 .neq 96 0] (.cond (.t 97) (.sq [.v 98 2,.v 99 11,.v 6 98,.v 7 99] .ret) .skip))) .skip)) (.sq [.f 101 3 9,.l 102 101,.v 103 1,.j 104 .add 103 1,.v 105 2,.c 106 (.f 40) [.t 102,.t 104,.t 105],.v 100 106,.e 107 100 0,.e 108 100 1,.v 12 107,.v 13 108] (.seq (.sq [.v 109 13,.j 110 .neq 109 0] (.cond (.t 110) (.sq [.v 111 12,.v 112 13,.v 6 111,.v 7 112] .ret) .skip)) (.reg [.v 113 12,.v 2 113]))))))))))) (.reg [.v 18 8,.j 19 .add 18 1,.v 8 19])))
def iP:SC:= .block 0 (.loop eK)
def j2:SC:=(.sq [.r 6 (.mv (.i 0)),.r 7 (.mv (.i 0))] (.seq (.sq [.r 8 (.mv (.i 0))] iP) (.sq [.v 114 2,.v 6 114,.r 7 (.mv (.i 0))] .ret)))
theorem p4:fits Tryz.prog 40 Tryz.f40 j2 [.t 6,.t 7] 3=true:=oK
def tU:((∀ (D:List ad) (x1:Int) (x2:Int),{m:Option (Int×Int)//∀ r,m=some r->aa Tryz.prog 40 [.slice (List.map ae D),.int .i64 x1,.int .i64 x2] (.tup [.int .i64 r.1,.int .i64 r.2])}))->((∀ (D:List ad) (x1:Int) (x2:Int),{m:Option (Int×Int)//∀ r,m=some r->aa Tryz.prog 40 [.slice (List.map ae D),.int .i64 x1,.int .i64 x2] (.tup [.int .i64 r.1,.int .i64 r.2])})):=by
 intro ih
 have e0:∀ (D:List ad) (x1:Int) (x2:Int),∀ r,(ih D x1 x2).1=some r->aa Tryz.prog 40 [.slice (List.map ae D),.int .i64 x1,.int .i64 x2] (.tup [.int .i64 r.1,.int .i64 r.2]):=fun D x1 x2=>(ih D x1 x2).2
 (intro D x1 x2;apply Subtype.mk;intro r Z;apply ag Tryz.func40 p4;unfold j2)
 repeat'(first|with_reducible refine bn ?_|with_reducible refine bl ?_|with_reducible refine aX ?_|with_reducible refine aZ ?_|with_reducible refine bF ?_|with_reducible refine bN ?_|with_reducible refine bm ?_|with_reducible refine bo ?_|with_reducible refine bO ?_|with_reducible refine bI ?_|with_reducible refine a8 ?_|with_reducible refine bE ?_|with_reducible refine cF ?_|((with_reducible apply cA Z);(iterate 2 (simp only[push_cast,seval];rfl));(intro _;rfl);intro e Z)|((with_reducible apply fi);(simp only[push_cast,seval];rfl);(first|exact trivial))|((with_reducible apply eh Z);(simp only[push_cast,seval];rfl);rfl;intro v Z;rotate_left;intro v g Z)|((with_reducible apply oF Z);(simp only[push_cast,seval];rfl);rfl;intro v Z;rotate_left;intro v g Z)|((with_reducible apply dD Z);(simp only[push_cast,seval];rfl);(first|apply gn _|apply qM _|apply e0 _ _ _);(any_goals((repeat'(first|rfl));done));intro x Z)|((with_reducible apply wi);(simp only[push_cast,seval];rfl);(first|exact trivial))|((with_reducible apply aI Z);(simp only[push_cast,seval];rfl);intro Z;rotate_left;intro Z)|((with_reducible apply iu Z);(focus(simp only[cE,eS,RV.get,push_cast,seval];rfl));(focus(first|(dsimp only;done)));(focus((repeat'(first|rfl));done)))|((with_reducible apply b5 Z);(simp only[push_cast,seval];rfl))|((with_reducible apply br Z);intro r Z)|((with_reducible apply b8 Z);intro r Z)|((apply av (b:=0) (X:=iP) (x:=eK) rfl (fun(c:SV×SV) (s:Int×Int)=>st [(0,c.1),(1,c.2),(2,.d (.int .i64 s.1)),(8,.d (.int .i64 s.2))] []) (c:=(_,_)) (s0:=(_,_)) Z);(focus(first|(dsimp only;done)));(with_reducible refine cc.mk ?_ ?_))|((apply bz (F:=(_,_)) Z);(focus(first|(dsimp only;done))))|((apply co (F:=(_,_)) Z);(focus(first|(dsimp only;done))))|(((with_reducible apply dQ Z);intro r Z))|(((with_reducible apply cM.of);(focus(first|(dsimp only;done)));(focus((intro _;repeat'(first|with_reducible exact bd|with_reducible refine aB ?_))));(intro s o Z;first|unfold eK);rotate_left;intro s Z))|(((apply a7;(repeat'(first|with_reducible exact aw|with_reducible exact ax|with_reducible apply aq|((with_reducible apply aS);(focus(first|(simp only[push_cast,seval];rfl)));(focus((repeat'(first|rfl));done)))));done))))
def tV (fu:Nat):(∀ (D:List ad) (x1:Int) (x2:Int),{m:Option (Int×Int)//∀ r,m=some r->aa Tryz.prog 40 [.slice (List.map ae D),.int .i64 x1,.int .i64 x2] (.tup [.int .i64 r.1,.int .i64 r.2])}):=Nat.rec (fun D x1 x2=>⟨none,fun r h=>by cases h⟩) (fun _ ih=>tU ih) fu
def cC (fu:Nat) (D:List ad) (x1 x2:Int):Option (Int×Int):=((tV fu) D x1 x2).1
theorem ib (fu:Nat) (D:List ad) (x1 x2:Int):((tV fu) D x1 x2).1=cC fu D x1 x2:=rfl
theorem ic (fu:Nat) (D:List ad) (x1 x2:Int):cC (fu+1) D x1 x2=((tU (tV fu)) D x1 x2).1:=rfl
theorem e0 (fu:Nat) (D:List ad) (x1 x2:Int):∀ r,cC fu D x1 x2=some r->aa Tryz.prog 40 [.slice (List.map ae D),.int .i64 x1,.int .i64 x2] (.tup [.int .i64 r.1,.int .i64 r.2]):=((tV fu) D x1 x2).2
def j3:SC:=(.sq [.r 2 (.mv (.i 0))] (.sq [.v 6 0,.c 7 (.f 40) [.t 6,.c (.d (.int .i64 0)),.c (.d (.int .i64 0))],.v 5 7,.e 8 5 0,.e 9 5 1,.v 3 8,.v 4 9] (.sq [.v 10 4,.v 2 10] .ret)))
theorem p5:fits Tryz.prog 19 Tryz.f19 j3 [.t 2] 1=true:=oK
def d_:SC:=(.seq (.sq [.v 47 8,.v 48 6,.h 49 48,.k 50 .lss 47 49] (.cond (.t 50) .skip (.exit 2))) (.seq (.block 3 (.seq (.regD [.v 53 6,.v 54 8,.y 55 1 53 54,.r 56 (.ld1 (.t 55)),.v 57 7,.v 58 8,.y 59 1 57 58,.r 60 (.ld1 (.t 59)),.c 61 (.f 88) [.t 56,.t 60],.r 62 (.not (.t 61))]) (.cond (.t 62) (.sq [.r 4 (.mv (.b false))] .ret) .skip))) (.reg [.v 51 8,.j 52 .add 51 1,.v 8 52])))
def he:SC:= .block 2 (.loop d_)
def ea:SC:=(.seq (.sq [.v 23 5,.f 24 1 2,.l 25 24,.h 26 25,.k 27 .lss 23 26] (.cond (.t 27) .skip (.exit 0))) (.seq (.block 1 (.seq (.regD [.f 30 1 2,.r 31 (.ld1 (.t 30)),.v 32 5,.y 33 1 31 32,.f 34 0 33,.r 35 (.ld1 (.t 34)),.f 36 1 3,.r 37 (.ld1 (.t 36)),.v 38 5,.y 39 1 37 38,.f 40 0 39,.r 41 (.ld1 (.t 40)),.v 6 35,.v 7 41]) (.seq (.sq [.v 42 6,.h 43 42,.v 44 7,.h 45 44,.k 46 .neq 43 45] (.cond (.t 46) (.sq [.r 4 (.mv (.b false))] .ret) .skip)) (.sq [.r 8 (.mv (.i 0))] he)))) (.reg [.v 28 5,.j 29 .add 28 1,.v 5 29])))
def hm:SC:= .block 0 (.loop ea)
def jh:SC:=(.sq [.r 2 (.boxI (.t 0)),.r 3 (.boxI (.t 1)),.r 4 (.mv (.b false))] (.seq (.seq (.reg (.f 9 0 2:: .l 10 9:: .f 11 0 3:: .l 12 11:: .k 13 .neq 10 12:: .v 14 13::aV [15,16,17,18,19,20,21] 14 false (.f 15 1 2:: .r 16 (.ld1 (.t 15)):: .h 17 16:: .f 18 1 3:: .r 19 (.ld1 (.t 18)):: .h 20 19:: .k 21 .neq 17 20::[]) (.r 22 (.pick (.t 14) (.b true) (.t 21))::[]))) (.cond (.t 22) (.sq [.r 4 (.mv (.b false))] .ret) .skip)) (.seq (.sq [.r 5 (.mv (.i 0))] hm) (.sq [.r 4 (.mv (.b true))] .ret))))
theorem oO:fits Tryz.prog 41 Tryz.f41 jh [.t 4] 2=true:=oK
def nr:(∀ (D:List ad),{m:Option (Int)//∀ r,m=some r->aa Tryz.prog 19 [.slice (List.map ae D)] (.int .i64 r)})×(∀ (D:af) (x1:af),{m:Option (Bool)//∀ r,m=some r->aa Tryz.prog 41 [.agg (al D),.agg (al x1)] (.bool r)}):=by
 refine⟨?g0, ?g1⟩
 case' g0=>(intro D;apply Subtype.mk;intro r Z;apply ag Tryz.func19 p5;unfold j3)
 case' g1=>(intro D x1;apply Subtype.mk;intro r Z;apply ag Tryz.func41 oO;unfold jh)
 all_goals(repeat'(first|with_reducible refine bn ?_|with_reducible refine bl ?_|with_reducible refine l5 ?_|with_reducible refine aX ?_|with_reducible refine aZ ?_|with_reducible refine bF ?_|with_reducible refine bN ?_|with_reducible refine bm ?_|with_reducible refine bo ?_|with_reducible refine bO ?_|with_reducible refine bI ?_|with_reducible refine a8 ?_|with_reducible refine bE ?_|with_reducible refine cF ?_|((with_reducible apply cA Z);(iterate 2 (simp only[push_cast,seval];rfl));(intro _;rfl);intro e Z)|((with_reducible apply fi);(simp only[push_cast,seval];rfl);(first|exact trivial))|((with_reducible apply oF Z);(simp only[push_cast,seval];rfl);rfl;intro v Z;rotate_left;intro v g Z)|((with_reducible apply dD Z);(simp only[push_cast,seval];rfl);(first|apply e0 FU _ _ _|apply pi _ _);(any_goals((repeat'(first|rfl));done));intro x Z)|((with_reducible apply aI Z);(simp only[push_cast,seval];rfl);intro Z;rotate_left;intro Z)|((with_reducible apply bP Z);(focus(simp only[cE,eS,RV.get,push_cast,seval];rfl));(focus((repeat'(first|rfl));done)))|((with_reducible apply b5 Z);(simp only[push_cast,seval];rfl))|((with_reducible apply br Z);intro r Z)|((with_reducible apply b8 Z);intro r Z)|((apply av (b:=2) (X:=he) (x:=d_) rfl (fun(c:SV×SV×SV×SV×SV) (s:Int)=>st [(2,c.1),(3,c.2.1),(5,c.2.2.1),(6,c.2.2.2.1),(7,c.2.2.2.2),(8,.d (.int .i64 s))] []) (c:=(_,_,_,_,_)) (s0:=_) Z);(focus(first|(dsimp only;done)));(with_reducible refine cc.mk ?_ ?_))|((apply av (b:=0) (X:=hm) (x:=ea) rfl (fun(c:SV×SV) (s:Int)=>st [(2,c.1),(3,c.2),(5,.d (.int .i64 s))] []) (c:=(_,_)) (s0:=_) Z);(focus(first|(dsimp only;done)));(with_reducible refine cc.mk ?_ ?_))|((apply bz (F:=_) Z);(focus(first|(dsimp only;done))))|((apply co (F:=_) Z);(focus(first|(dsimp only;done))))|(((with_reducible apply dQ Z);intro r Z))|(((with_reducible apply cM.of);(focus(first|(dsimp only;done)));(focus((intro _;repeat'(first|with_reducible exact bd|with_reducible refine aB ?_|with_reducible refine cz ?_|((with_reducible refine c2 ?_);intro _)|((with_reducible refine dZ ?_);intro _)))));(intro s o Z;first|unfold d_|unfold ea);rotate_left;intro s Z))|(((apply a7;(repeat'(first|with_reducible exact aw|with_reducible exact ax|with_reducible apply aq|((with_reducible apply aS);(focus(first|(simp only[push_cast,seval];rfl)));(focus((repeat'(first|rfl));done)))));done)))))
def gb (D:List ad):Option (Int):=(nr.1 D).1
theorem e4 (D:List ad):∀ r,gb D=some r->aa Tryz.prog 19 [.slice (List.map ae D)] (.int .i64 r):=(nr.1 D).2
def ft (D x1:af):Option (Bool):=(nr.2 D x1).1
theorem og (D x1:af):∀ r,ft D x1=some r->aa Tryz.prog 41 [.agg (al D),.agg (al x1)] (.bool r):=(nr.2 D x1).2
def dt:SC:=(.sq [.k 13 .lss 12 11] (.seq (.cond (.t 13) .skip (.exit 0)) (.seq (.block 1 (.sq [.y 14 4 10 12,.a 15 4 14,.w 8 (.boxM (.c (.agg [.d (.str []),.d (.str []),.nils,.nils]))),.s 4 8 15] (.sq [.v 16 0,.a 17 4 8,.v 18 2,.p (some 19) (.f 87) [.t 16,.t 17,.t 18],.v 9 19] (.sq [.v 20 9,.j 21 .neq 20 0] (.cond (.t 21) (.sq [.v 22 9,.v 6 22] .ret) .skip))))) (.reg [.j 23 .add 12 1,.v 12 23]))))
def fU:SC:= .block 0 (.loop dt)
def ht:SC:=(.sq [.r 6 (.mv (.i 0))] (.seq (.sq [.v 10 1,.h 11 10,.r 12 (.mv (.i 0))] fU) (.sq [.r 6 (.mv (.i 0))] .ret)))
theorem mZ:fits Tryz.prog 39 Tryz.f39 ht [.t 6] 3=true:=oK
def gr:SC:=(.sq [.r 4 (.boxI (.t 1)),.r 6 (.mv (.i 0))] (.seq (.sq [.f 7 0 4,.l 8 7,.r 9 (.bin .eql (.t 8) (.c (.d (.str []))))] (.cond (.t 9) (.reg [.v 10 0,.n 11 10,.f 12 0 11,.l 13 12,.j 14 .add 13 1,.n 15 10,.f 16 0 15,.s 1 16 14]) .skip)) (.seq (.block 0 (.seq (.reg (.v 18 0:: .n 19 18:: .f 20 0 19:: .l 21 20:: .j 22 .gtr 21 2000:: .v 23 22::aV [24,25] 23 false (.v 24 2:: .j 25 .gtr 24 6::[]) (.r 26 (.pick (.t 23) (.b true) (.t 25)):: .v 17 26::[]))) (.cond (.t 17) (.sq [.r 6 (.mv (.i 2))] .ret) (.seq (.reg (.f 28 0 4:: .l 29 28:: .r 30 (.bin .neq (.t 29) (.c (.d (.str [])))):: .v 31 30::aV [32,33,34,35] 31 true (.f 32 0 4:: .r 33 (.ld1 (.t 32)):: .c 34 (.f 47) [.t 33]:: .r 35 (.not (.t 34))::[]) (.r 36 (.pick (.t 31) (.t 35) (.b false)):: .v 27 36::[]))) (.cond (.t 27) (.sq [.r 6 (.mv (.i 5))] .ret) (.seq (.reg (.f 38 0 4:: .l 39 38:: .r 40 (.bin .eql (.t 39) (.c (.d (.str [])))):: .v 41 40::aV [42,43,44,45] 41 true (.f 42 3 4:: .r 43 (.ld1 (.t 42)):: .h 44 43:: .j 45 .gtr 44 0::[]) (.r 46 (.pick (.t 41) (.t 45) (.b false)):: .v 37 46::[]))) (.cond (.t 37) (.sq [.r 6 (.mv (.i 3))] .ret) (.seq (.reg (.f 48 0 4:: .l 49 48:: .r 50 (.bin .neq (.t 49) (.c (.d (.str [])))):: .v 51 50::aV [52,53,54,55,56,57,58,59,60,61,62,63,64,65,66,67,68,69] 51 true (.f 52 1 4:: .r 53 (.ldA 2 (.t 52)):: .c 54 (.f 128) [.t 53]:: .r 55 (.not (.t 54)):: .v 56 55::aV [57,58,59,60] 56 false (.f 57 3 4:: .r 58 (.ld1 (.t 57)):: .h 59 58:: .j 60 .eql 59 0::[]) (.r 61 (.pick (.t 56) (.b true) (.t 60)):: .v 62 61::aV [63,64,65,66,67,68] 62 false (.f 63 3 4:: .r 64 (.ld1 (.t 63)):: .r 65 (.idx 4 (.t 64) (.i 0)):: .f 66 0 65:: .r 67 (.ld1 (.t 66)):: .r 68 (.bin .neq (.t 67) (.c (.d (.str []))))::[]) (.r 69 (.pick (.t 62) (.b true) (.t 68))::[]))) (.r 70 (.pick (.t 51) (.t 69) (.b false)):: .v 47 70::[]))) (.cond (.t 47) (.sq [.r 6 (.mv (.i 3))] .ret) (.sq [.f 72 0 4,.l 73 72,.r 74 (.bin .eql (.t 73) (.c (.d (.str [])))),.v 71 74] (.cond (.t 71) (.sq [.f 75 1 4,.a 76 2 75,.r 77 (.bslice 2 [.t 76]),.c 78 (.f 26) [.t 77],.v 6 78] .ret) .skip))))))))))) (.sq [.v 79 0,.f 80 3 4,.l 81 80,.v 82 2,.j 83 .add 82 1,.p (some 84) (.f 39) [.t 79,.t 81,.t 83],.v 6 84] .ret))))
theorem md:fits Tryz.prog 87 Tryz.f87 gr [.t 6] 3=true:=oK
def p6:((∀ (D:aT) (x1:List ad) (x2:Int),{m:Option ((Int)×aT)//∀ r,m=some r->bB Tryz.prog 39 (.own (.pt [.sh]) (.ptr (a_ D))::List.map SV.d ([.slice (List.map ae x1),.int .i64 x2]:List DV)) (.d (.int .i64 r.1)) (.own (.pt [.sh]) (.ptr (a_ r.2))::List.map SV.d ([.slice (List.map ae x1),.int .i64 x2]:List DV))})×(∀ (D:aT) (x1:ad) (x2:Int),{m:Option ((Int)×aT)//∀ r,m=some r->bB Tryz.prog 87 (.own (.pt [.sh]) (.ptr (a_ D))::List.map SV.d ([.agg (ae x1),.int .i64 x2]:List DV)) (.d (.int .i64 r.1)) (.own (.pt [.sh]) (.ptr (a_ r.2))::List.map SV.d ([.agg (ae x1),.int .i64 x2]:List DV))}))->((∀ (D:aT) (x1:List ad) (x2:Int),{m:Option ((Int)×aT)//∀ r,m=some r->bB Tryz.prog 39 (.own (.pt [.sh]) (.ptr (a_ D))::List.map SV.d ([.slice (List.map ae x1),.int .i64 x2]:List DV)) (.d (.int .i64 r.1)) (.own (.pt [.sh]) (.ptr (a_ r.2))::List.map SV.d ([.slice (List.map ae x1),.int .i64 x2]:List DV))})×(∀ (D:aT) (x1:ad) (x2:Int),{m:Option ((Int)×aT)//∀ r,m=some r->bB Tryz.prog 87 (.own (.pt [.sh]) (.ptr (a_ D))::List.map SV.d ([.agg (ae x1),.int .i64 x2]:List DV)) (.d (.int .i64 r.1)) (.own (.pt [.sh]) (.ptr (a_ r.2))::List.map SV.d ([.agg (ae x1),.int .i64 x2]:List DV))})):=by
 intro ih
 have dH:∀ (D:aT) (x1:List ad) (x2:Int),∀ r,(ih.1 D x1 x2).1=some r->bB Tryz.prog 39 (.own (.pt [.sh]) (.ptr (a_ D))::List.map SV.d ([.slice (List.map ae x1),.int .i64 x2]:List DV)) (.d (.int .i64 r.1)) (.own (.pt [.sh]) (.ptr (a_ r.2))::List.map SV.d ([.slice (List.map ae x1),.int .i64 x2]:List DV)):=fun D x1 x2=>(ih.1 D x1 x2).2
 have fF:∀ (D:aT) (x1:ad) (x2:Int),∀ r,(ih.2 D x1 x2).1=some r->bB Tryz.prog 87 (.own (.pt [.sh]) (.ptr (a_ D))::List.map SV.d ([.agg (ae x1),.int .i64 x2]:List DV)) (.d (.int .i64 r.1)) (.own (.pt [.sh]) (.ptr (a_ r.2))::List.map SV.d ([.agg (ae x1),.int .i64 x2]:List DV)):=fun D x1 x2=>(ih.2 D x1 x2).2
 refine⟨?g0, ?g1⟩
 case' g0=>(intro D x1 x2;apply Subtype.mk;intro r Z;apply jr (N:=24) (k:=3) Tryz.func39 mZ oK rfl rfl oD;unfold ht)
 case' g1=>(intro D x1 x2;apply Subtype.mk;intro r Z;apply jr (N:=85) (k:=3) Tryz.func87 md oK rfl rfl oD;unfold gr)
 all_goals(repeat'(first|with_reducible refine bn ?_|with_reducible refine bl ?_|with_reducible refine aX ?_|with_reducible refine aZ ?_|with_reducible refine bF ?_|with_reducible refine bN ?_|with_reducible refine bm ?_|with_reducible refine bo ?_|with_reducible refine bO ?_|with_reducible refine bI ?_|with_reducible refine a8 ?_|with_reducible refine bE ?_|with_reducible refine cF ?_|((with_reducible apply cA Z);(iterate 2 (simp only[push_cast,seval];rfl));(intro _;rfl);intro e Z)|((with_reducible apply fi);(simp only[push_cast,seval];rfl);(first|exact trivial))|((with_reducible apply eh Z);(simp only[push_cast,seval];rfl);rfl;intro v Z;rotate_left;intro v g Z)|((with_reducible apply oF Z);(simp only[push_cast,seval];rfl);rfl;intro v Z;rotate_left;intro v g Z)|((with_reducible apply dD Z);(simp only[push_cast,seval];rfl);(first|apply re _|apply zu _|apply uZ _);(any_goals((repeat'(first|rfl|(with_reducible first|apply c3|apply fk|apply c4|apply eT)));done));intro x Z)|((with_reducible apply wi);(simp only[push_cast,seval];rfl);(first|exact trivial))|((with_reducible apply aI Z);(simp only[push_cast,seval];rfl);intro Z;rotate_left;intro Z)|((with_reducible apply b5 Z);(simp only[push_cast,seval];rfl))|((with_reducible apply br Z);intro r Z)|((with_reducible apply b8 Z);intro r Z)|((apply av (b:=0) (X:=fU) (x:=dt) rfl (fun(c:SV×SV×SV×SV×SV) (s:Int×Int)=>st [(0,.ref 0 0),(2,c.1),(10,c.2.1),(11,c.2.2.1),(12,.d (.int .i64 s.2)),(24,.ref 0 0),(25,c.2.2.2.1),(26,c.2.2.2.2)] [(0,.box (tS s.1))]) (c:=(_,_,_,_,_)) (s0:=(_,_)) Z);(focus(first|(dsimp only;done)));(with_reducible refine cc.mk ?_ ?_))|((apply bz (F:=(_,_)) Z);(focus(first|(dsimp only;done))))|((apply co (F:=(_,_)) Z);(focus(first|(dsimp only;done))))|(((with_reducible apply dQ Z);intro r Z))|(((with_reducible apply Cp Z (id:=0) (ms:=[.sh]));(focus(exact cS.refl _));(focus(simp only[push_cast,seval];(try rfl);done));(focus(simp only[push_cast,seval];(try rfl);done));(focus(simp only[push_cast,seval];(try rfl);done));(focus((repeat'(first|(with_reducible first|apply oc)|((with_reducible apply aS);(focus(first|rfl));(focus((repeat'(first|rfl));done)))));done));(focus rfl);(first|apply fF _ _ _|apply dH _ _ _);(any_goals(focus((repeat'(first|rfl|(with_reducible first|apply sS|apply sg|apply fk)));done)));(focus(intro _;exact⟨rfl,rfl,rfl⟩));intro y Z))|(((with_reducible apply Jo Z (ms:=[.sh]));(focus(exact cS.refl _));(focus(simp only[push_cast,seval];(try rfl);done));(focus((repeat'(first|(with_reducible first|apply oc)|((with_reducible apply aS);(focus(first|rfl));(focus((repeat'(first|rfl));done)))));done));(focus(intro _;rfl));(focus(simp only[push_cast,seval];(try rfl);done));(focus(simp only[push_cast,seval];(try rfl);done));(focus(simp only[push_cast,seval];(try rfl);done));(focus(simp only[push_cast,seval];(try rfl);done));(focus(first|(apply Qy;(focus((repeat'(first|rfl));done)))))))|(((with_reducible apply cM.of);(focus(first|(dsimp only;done)));(focus((intro _;repeat'(first|with_reducible exact c8|with_reducible refine aB ?_))));(intro s o Z;first|unfold dt);rotate_left;intro s Z))|(((apply a7;(repeat'(first|with_reducible exact aw|with_reducible exact ax|with_reducible apply aq|with_reducible apply a1|((with_reducible apply aS);(focus(first|(simp only[push_cast,seval];rfl)));(focus((repeat'(first|rfl));done)))|((with_reducible apply b7);(focus(first|(simp only[push_cast,seval];rfl)));(first|with_reducible exact be rfl))));done)))))
def jB (fu:Nat):(∀ (D:aT) (x1:List ad) (x2:Int),{m:Option ((Int)×aT)//∀ r,m=some r->bB Tryz.prog 39 (.own (.pt [.sh]) (.ptr (a_ D))::List.map SV.d ([.slice (List.map ae x1),.int .i64 x2]:List DV)) (.d (.int .i64 r.1)) (.own (.pt [.sh]) (.ptr (a_ r.2))::List.map SV.d ([.slice (List.map ae x1),.int .i64 x2]:List DV))})×(∀ (D:aT) (x1:ad) (x2:Int),{m:Option ((Int)×aT)//∀ r,m=some r->bB Tryz.prog 87 (.own (.pt [.sh]) (.ptr (a_ D))::List.map SV.d ([.agg (ae x1),.int .i64 x2]:List DV)) (.d (.int .i64 r.1)) (.own (.pt [.sh]) (.ptr (a_ r.2))::List.map SV.d ([.agg (ae x1),.int .i64 x2]:List DV))}):=Nat.rec ⟨(fun D x1 x2=>⟨none,fun r h=>by cases h⟩),(fun D x1 x2=>⟨none,fun r h=>by cases h⟩)⟩ (fun _ ih=>p6 ih) fu
def ct (fu:Nat) (D:aT) (x1:List ad) (x2:Int):Option ((Int)×aT):=((jB fu).1 D x1 x2).1
theorem lJ (fu:Nat) (D:aT) (x1:List ad) (x2:Int):((jB fu).1 D x1 x2).1=ct fu D x1 x2:=rfl
theorem lK (fu:Nat) (D:aT) (x1:List ad) (x2:Int):ct (fu+1) D x1 x2=((p6 (jB fu)).1 D x1 x2).1:=rfl
theorem dH (fu:Nat) (D:aT) (x1:List ad) (x2:Int):∀ r,ct fu D x1 x2=some r->bB Tryz.prog 39 (.own (.pt [.sh]) (.ptr (a_ D))::List.map SV.d ([.slice (List.map ae x1),.int .i64 x2]:List DV)) (.d (.int .i64 r.1)) (.own (.pt [.sh]) (.ptr (a_ r.2))::List.map SV.d ([.slice (List.map ae x1),.int .i64 x2]:List DV)):=((jB fu).1 D x1 x2).2
def cV (fu:Nat) (D:aT) (x1:ad) (x2:Int):Option ((Int)×aT):=((jB fu).2 D x1 x2).1
theorem kM (fu:Nat) (D:aT) (x1:ad) (x2:Int):((jB fu).2 D x1 x2).1=cV fu D x1 x2:=rfl
theorem kN (fu:Nat) (D:aT) (x1:ad) (x2:Int):cV (fu+1) D x1 x2=((p6 (jB fu)).2 D x1 x2).1:=rfl
theorem fF (fu:Nat) (D:aT) (x1:ad) (x2:Int):∀ r,cV fu D x1 x2=some r->bB Tryz.prog 87 (.own (.pt [.sh]) (.ptr (a_ D))::List.map SV.d ([.agg (ae x1),.int .i64 x2]:List DV)) (.d (.int .i64 r.1)) (.own (.pt [.sh]) (.ptr (a_ r.2))::List.map SV.d ([.agg (ae x1),.int .i64 x2]:List DV)):=((jB fu).2 D x1 x2).2
def rp:SC:=(.sq [.r 2 (.mv (.i 0))] (.sq [.r 3 (.build [.d (.int .i64 0)] []),.w 4 (.boxM (.t 3)),.v 5 0,.p (some 6) (.f 39) [.t 4,.t 5,.c (.d (.int .i64 0))],.v 2 6] .ret))
theorem xN:fits Tryz.prog 18 Tryz.f18 rp [.t 2] 1=true:=oK
def xO:(∀ (D:List ad),{m:Option (Int)//∀ r,m=some r->aa Tryz.prog 18 [.slice (List.map ae D)] (.int .i64 r)}):=by
 (intro D;apply Subtype.mk;intro r Z;apply ag Tryz.func18 xN;unfold rp)
 repeat'(first|with_reducible refine bn ?_|with_reducible refine bl ?_|with_reducible refine bF ?_|with_reducible refine bm ?_|with_reducible refine bo ?_|((with_reducible apply fi);(simp only[push_cast,seval];rfl);(first|exact trivial))|((with_reducible apply wi);(simp only[push_cast,seval];rfl);(first|exact trivial))|((with_reducible apply bP Z);(focus(simp only[cE,eS,RV.get,push_cast,seval];rfl));(focus((repeat'(first|rfl));done)))|(((with_reducible apply Cp Z (id:=4) (ms:=[.sh]));(focus(exact cS.refl _));(focus(simp only[push_cast,seval];(try rfl);done));(focus(simp only[push_cast,seval];(try rfl);done));(focus(simp only[push_cast,seval];(try rfl);done));(focus((repeat'(first|(with_reducible first|apply oc)|((with_reducible apply aS);(focus(first|rfl));(focus((repeat'(first|rfl));done)))));done));(focus rfl);(first|apply dH FU _ _ _);(any_goals(focus((repeat'(first|rfl));done)));(focus(intro _;exact⟨rfl,rfl,rfl⟩));intro y Z)))
def jN (D:List ad):Option (Int):=(xO D).1
theorem gY (D:List ad):∀ r,jN D=some r->aa Tryz.prog 18 [.slice (List.map ae D)] (.int .i64 r):=(xO D).2
end
noncomputable section
set_option maxRecDepth 100000
set_option maxHeartbeats 40000000
structure np where
 fNames:List (List UInt8)
 fTag:List UInt8
 fElement:Int
 fPart:Int
 deriving DecidableEq
def jM (x:np):List DV:=[.slice (List.map bS x.fNames),.str x.fTag,.int .i64 x.fElement,.int .i64 x.fPart]
attribute [push_cast] jM
theorem D_ {d0 o d2 f:DV} {v0:List (List UInt8)} {a:List UInt8} {v2 v3:Int} (h0:d0= .slice (List.map bS v0)) (h1:o= .str a) (h2:d2= .int .i64 v2) (E:f= .int .i64 v3):[d0,o,d2,f]=jM ⟨v0,a,v2,v3⟩:=by unfold jM;simp only[h0,h1,h2,E,S_,Tb,S4,Tg]
def cU:SC:=(.seq (.sq [.v 9 5,.j 10 .geq 9 0] (.cond (.t 10) .skip (.exit 0))) (.seq (.block 1 (.sq [.v 13 0,.v 14 5,.r 15 (.sidx (.t 13) (.t 14)),.v 16 1,.k 17 .eql 15 16] (.cond (.t 17) (.sq [.v 18 5,.v 4 18] .ret) .skip))) (.reg [.v 11 5,.j 12 .sub 11 1,.v 5 12])))
def el:SC:= .block 0 (.loop cU)
def fc:SC:=(.sq [.r 4 (.mv (.i 0))] (.seq (.sq [.v 6 0,.r 7 (.lenT (.t 6)),.j 8 .sub 7 1,.v 5 8] el) (.sq [.r 4 (.mv (.i (-1)))] .ret)))
theorem kh:fits Tryz.prog 148 Tryz.f148 fc [.t 4] 2=true:=oK
def mc:SC:=(.sq [.k 18 .lss 17 16] (.seq (.cond (.t 18) .any (.exit 0)) .any))
def rn:SC:= .block 0 (.loop mc)
def uV:SC:=(.sq [.r 4 (.mv (.c (.nils)))] (.sq [.v 13 0,.r 14 (.bslice 1 [.t 13]),.v 5 14] (.seq (.sq [.v 15 1,.h 16 15,.r 17 (.mv (.i 0))] rn) (.sq [.v 46 5,.v 4 46] .ret))))
theorem Al:fits Tryz.prog 115 Tryz.f115 uV [.t 4] 2=true:=oK
def lH:(∀ (D:List UInt8) (x1:UInt8),{m:Option (Int)//∀ r,m=some r->aa Tryz.prog 148 [.str D,.int .u8 (x1).toNat] (.int .i64 r)})×(∀ (D:List ad) (x1:List (List UInt8)),{m:Option ((List (List ad)))//∀ r,m=some r->aa Tryz.prog 115 [.slice (List.map ae D),.slice (List.map bS x1)] (.slice (List.map (fy ae) r))}):=by
 refine⟨?g0, ?g1⟩
 case' g0=>(intro D x1;apply Subtype.mk;intro r Z;apply ag Tryz.func148 kh;unfold fc)
 case' g1=>(intro D x1;apply Subtype.mk;intro r Z;apply ag Tryz.func115 Al;unfold uV)
 all_goals(repeat'(first|with_reducible refine bn ?_|with_reducible refine bl ?_|with_reducible refine aX ?_|with_reducible refine aZ ?_|with_reducible refine bF ?_|with_reducible refine bN ?_|with_reducible refine bm ?_|with_reducible refine bo ?_|with_reducible refine bO ?_|with_reducible refine bI ?_|with_reducible refine a8 ?_|with_reducible refine bE ?_|((with_reducible apply nZ Z);(iterate 2 (simp only[push_cast,seval];rfl));intro e Z)|((with_reducible apply fi);(simp only[push_cast,seval];rfl);(first|exact trivial))|(with_reducible apply DF Z)|((with_reducible apply aI Z);(simp only[push_cast,seval];rfl);intro Z;rotate_left;intro Z)|((with_reducible apply bP Z);(focus(simp only[cE,eS,RV.get,push_cast,seval];rfl));(focus((repeat'(first|rfl|(with_reducible first|apply c3|apply c4|apply eT)));done)))|((with_reducible apply br Z);intro r Z)|((with_reducible apply b8 Z);intro r Z)|((apply av (b:=0) (X:=el) (x:=cU) rfl (fun(c:SV×SV) (s:Int)=>st [(0,c.1),(1,c.2),(5,.d (.int .i64 s))] []) (c:=(_,_)) (s0:=_) Z);(focus(first|(dsimp only;done)));(with_reducible refine cc.mk ?_ ?_))|((apply av (b:=0) (X:=rn) (x:=mc) rfl (fun(c:SV×SV×SV) (s:Unit)=>st [(5,c.1),(16,c.2.1),(17,c.2.2)] []) (c:=(_,_,_)) (s0:=()) Z);(focus(first|(dsimp only;done)));(with_reducible refine cc.mk ?_ ?_))|((apply bz (F:=_) Z);(focus(first|(dsimp only;done))))|((apply co (F:=_) Z);(focus(first|(dsimp only;done))))|(((with_reducible apply dQ Z);intro r Z))|(((with_reducible apply cM.of);(focus(first|(dsimp only;done)));(focus((intro _;repeat'(first|with_reducible exact bd|with_reducible refine aB ?_))));(intro s o Z;first|unfold cU|unfold mc);rotate_left;intro s Z))|(((apply a7;(repeat'(first|with_reducible exact aw|with_reducible exact ax|with_reducible apply aq|((with_reducible apply aS);(focus(first|(simp only[push_cast,seval];rfl)));(focus((repeat'(first|rfl));done)))));done)))))
 all_goals(intros;exact())
def fr (D:List UInt8) (x1:UInt8):Option (Int):=(lH.1 D x1).1
theorem j0 (D:List UInt8) (x1:UInt8):∀ r,fr D x1=some r->aa Tryz.prog 148 [.str D,.int .u8 (x1).toNat] (.int .i64 r):=(lH.1 D x1).2
def wu (D:List ad) (x1:List (List UInt8)):Option ((List (List ad))):=(lH.2 D x1).1
theorem zt (D:List ad) (x1:List (List UInt8)):∀ r,wu D x1=some r->aa Tryz.prog 115 [.slice (List.map ae D),.slice (List.map bS x1)] (.slice (List.map (fy ae) r)):=(lH.2 D x1).2
def mw:SC:=(.sq [.r 4 (.mv (.i 0))] (.sq [.v 5 0,.v 6 1,.c 7 (.f 148) [.t 5,.t 6],.v 4 7] .ret))
theorem tm:fits Tryz.prog 110 Tryz.f110 mw [.t 4] 2=true:=oK
def mW:SC:=(.sq [.k 26 .lss 25 24] (.seq (.cond (.t 26) .skip (.exit 2)) (.seq (.block 3 (.sq [.y 27 4 23 25,.a 28 4 27,.w 9 (.boxM (.c (.agg [.d (.str []),.d (.str []),.nils,.nils]))),.s 4 9 28] (.seq (.seq (.reg (.f 29 0 9:: .l 30 29:: .r 31 (.bin .neq (.t 30) (.c (.d (.str [])))):: .v 32 31::aV [33,34,35,36,37,38] 32 false (.f 33 1 9:: .f 34 0 33:: .r 35 (.ld1 (.t 34)):: .f 36 1 3:: .r 37 (.ld1 (.t 36)):: .k 38 .neq 35 37::[]) (.r 39 (.pick (.t 32) (.b true) (.t 38))::[]))) (.cond (.t 39) .any .skip)) (.seq (.sq [.f 40 2 3,.l 41 40,.j 42 .eql 41 0] (.cond (.t 42) (.sq [.v 43 5,.f 44 1 3,.l 45 44,.r 46 (.bslice 1 [.t 45]),.w 47 (.app 9 1 (.t 43) (.t 46)),.v 5 47] (.exit 3)) .any)) .any)))) (.reg [.j 90 .add 25 1,.v 25 90]))))
def sL:SC:= .block 2 (.loop mW)
def mX:SC:=(.sq [.k 20 .lss 19 18] (.seq (.cond (.t 20) .skip (.exit 0)) (.seq (.block 1 (.sq [.y 21 1 17 19,.l 22 21,.v 7 22] (.sq [.v 23 7,.h 24 23,.r 25 (.mv (.i 0))] sL))) (.reg [.j 91 .add 19 1,.v 19 91]))))
def sM:SC:= .block 0 (.loop mX)
def wv:SC:=(.sq [.r 3 (.boxI (.t 1)),.r 4 (.mv (.c (.nils)))] (.sq [.r 5 (.mv (.c (.nils)))] (.seq (.sq [.v 14 0,.f 15 0 3,.l 16 15,.c 17 (.f 115) [.t 14,.t 16],.h 18 17,.r 19 (.mv (.i 0))] sM) (.sq [.v 92 5,.v 4 92] .ret))))
theorem Bu:fits Tryz.prog 69 Tryz.f69 wv [.t 4] 2=true:=oK
def lI:(∀ (D:List UInt8) (x1:UInt8),{m:Option (Int)//∀ r,m=some r->aa Tryz.prog 110 [.str D,.int .u8 (x1).toNat] (.int .i64 r)})×(∀ (D:List ad) (x1:np),{m:Option ((List (List UInt8)))//∀ r,m=some r->aa Tryz.prog 69 [.slice (List.map ae D),.agg (jM x1)] (.slice (List.map bS r))}):=by
 refine⟨?g0, ?g1⟩
 case' g0=>(intro D x1;apply Subtype.mk;intro r Z;apply ag Tryz.func110 tm;unfold mw)
 case' g1=>(intro D x1;apply Subtype.mk;intro r Z;apply ag Tryz.func69 Bu;unfold wv)
 all_goals(repeat'(first|with_reducible refine bn ?_|with_reducible refine bl ?_|with_reducible refine aX ?_|with_reducible refine aZ ?_|with_reducible refine bF ?_|with_reducible refine bN ?_|with_reducible refine bm ?_|with_reducible refine bo ?_|with_reducible refine bO ?_|with_reducible refine a8 ?_|with_reducible refine iY ?_|with_reducible refine cF ?_|((with_reducible apply cA Z);(iterate 2 (simp only[push_cast,seval];rfl));(intro _;rfl);intro e Z)|((with_reducible apply fi);(simp only[push_cast,seval];rfl);(first|exact trivial))|(with_reducible apply DF Z)|((with_reducible apply oF Z);(simp only[push_cast,seval];rfl);rfl;intro v Z;rotate_left;intro v g Z)|((with_reducible apply dD Z);(simp only[push_cast,seval];rfl);(first|apply j0 _ _|apply zt _ _);(any_goals((repeat'(first|rfl));done));intro x Z)|((with_reducible apply wi);(simp only[push_cast,seval];rfl);(first|exact trivial))|((with_reducible apply si Z);(iterate 4 (simp only[push_cast,seval];rfl));(focus((repeat'(first|rfl|(with_reducible first|apply c3|apply c4|apply eT)));done));decide;(intro _;rfl);intro Z)|((with_reducible apply aI Z);(simp only[push_cast,seval];rfl);intro Z;rotate_left;intro Z)|((with_reducible apply bP Z);(focus(simp only[cE,eS,RV.get,push_cast,seval];rfl));(focus((repeat'(first|rfl));done)))|((with_reducible apply b5 Z);(simp only[push_cast,seval];rfl))|((with_reducible apply br Z);intro r Z)|((apply av (b:=2) (X:=sL) (x:=mW) rfl (fun(c:SV×SV×SV×SV×SV×SV) (s:(List (List UInt8))×Int)=>st [(3,c.1),(5,.vec 5),(17,c.2.1),(18,c.2.2.1),(19,c.2.2.2.1),(23,c.2.2.2.2.1),(24,c.2.2.2.2.2),(25,.d (.int .i64 s.2))] [(5,.vec 9 1 (bG bS s.1))]) (c:=(_,_,_,_,_,_)) (s0:=(_,_)) Z);(focus(first|(dsimp only;done)));(with_reducible refine cc.mk ?_ ?_))|((apply av (b:=0) (X:=sM) (x:=mX) rfl (fun(c:SV×SV×SV) (s:(List (List UInt8))×Int)=>st [(3,c.1),(5,.vec 5),(17,c.2.1),(18,c.2.2),(19,.d (.int .i64 s.2))] [(5,.vec 9 1 (bG bS s.1))]) (c:=(_,_,_)) (s0:=(_,_)) Z);(focus(first|(dsimp only;done)));(with_reducible refine cc.mk ?_ ?_);apply cS.trans;(focus(apply mL (t:=5) (id:=5) (e:=9) (sz:=1);(focus(simp only[push_cast,seval];done)))))|((apply bz (F:=(_,_)) Z);(focus(first|(dsimp only;done))))|((apply co (F:=(_,_)) Z);(focus(first|(dsimp only;done))))|(((with_reducible apply cM.of);(focus(first|(dsimp only;done)));(focus((intro _;repeat'(first|with_reducible exact bd|with_reducible refine aB ?_|with_reducible refine cz ?_|((with_reducible refine c2 ?_);intro _)|((with_reducible refine dZ ?_);intro _)))));(intro s o Z;first|unfold mW|unfold mX);rotate_left;intro s Z))|(((apply a7;(repeat'(first|with_reducible exact aw|with_reducible exact ax|with_reducible apply aq|with_reducible apply a1|((with_reducible apply aS);(focus(first|(simp only[push_cast,seval];rfl)));(focus((repeat'(first|rfl));done)))|((with_reducible apply b7);(focus(first|(simp only[push_cast,seval];rfl)));(first|with_reducible exact be rfl|with_reducible apply jV))|(with_reducible first|apply D2)));done)))))
 all_goals(intros;exact())
def jf (D:List UInt8) (x1:UInt8):Option (Int):=(lI.1 D x1).1
theorem sN (D:List UInt8) (x1:UInt8):∀ r,jf D x1=some r->aa Tryz.prog 110 [.str D,.int .u8 (x1).toNat] (.int .i64 r):=(lI.1 D x1).2
def ob (D:List ad) (x1:np):Option ((List (List UInt8))):=(lI.2 D x1).1
theorem Am (D:List ad) (x1:np):∀ r,ob D x1=some r->aa Tryz.prog 69 [.slice (List.map ae D),.agg (jM x1)] (.slice (List.map bS r)):=(lI.2 D x1).2
def mY:SC:=(.sq [.k 55 .lss 54 53] (.seq (.cond (.t 55) .any (.exit 0)) .any))
def sO:SC:= .block 0 (.loop mY)
def ww:SC:=(.sq [.w 2 (.boxM (.c (.agg [.nils,.d (.str []),.d (.int .i64 0),.d (.int .i64 0)]))),.r 3 (.mv (.b false))] (.sq [.r 13 (.build [.nils,.d (.str []),.d (.int .i64 0),.d (.int .i64 0)] []),.w 4 (.boxM (.c (.agg [.nils,.d (.str []),.d (.int .i64 0),.d (.int .i64 0)]))),.s 4 4 13] (.seq (.sq [.v 14 0,.c 15 (.f 110) [.t 14,.c (.d (.int .u8 47))],.v 5 15] (.sq [.v 16 5,.j 17 .geq 16 0] (.cond (.t 17) .any .skip))) (.sq [.v 34 0,.c 35 (.f 112) [.t 34,.c (.d (.str [46]))],.v 8 35] (.seq (.seq (.reg (.v 36 8:: .h 37 36:: .j 38 .gtr 37 3:: .v 39 38::aV [40,41,42,43,44] 39 false (.v 40 8:: .r 41 (.idx 1 (.t 40) (.i 0)):: .r 42 (.ld1 (.t 41)):: .c 43 (.f 52) [.t 42]:: .r 44 (.not (.t 43))::[]) (.r 45 (.pick (.t 39) (.b true) (.t 44))::[]))) (.cond (.t 45) .any .skip)) (.sq [.v 47 8,.r 48 (.idx 1 (.t 47) (.i 0)),.l 49 48,.f 50 1 4,.s 1 50 49] (.seq (.sq [.v 51 8,.r 52 (.slc 1 (.t 51) (some (.i 1)) none),.h 53 52,.r 54 (.mv (.i 0))] sO) (.sq [.a 82 4 4,.s 4 2 82,.r 3 (.mv (.b true))] .ret))))))))
theorem Bv:fits Tryz.prog 68 Tryz.f68 ww [.cell 2 4,.t 3] 1=true:=oK
def vB:(∀ (D:List UInt8),{m:Option (np×Bool)//∀ r,m=some r->aa Tryz.prog 68 [.str D] (.tup [.agg (jM r.1),.bool r.2])}):=by
 (intro D;apply Subtype.mk;intro r Z;apply ag Tryz.func68 Bv;unfold ww)
 repeat'(first|with_reducible refine bn ?_|with_reducible refine bl ?_|with_reducible refine aZ ?_|with_reducible refine bF ?_|with_reducible refine bN ?_|with_reducible refine bm ?_|with_reducible refine bo ?_|with_reducible refine bO ?_|with_reducible refine cF ?_|((with_reducible apply cA Z);(iterate 2 (simp only[push_cast,seval];rfl));(intro _;rfl);intro e Z)|((with_reducible apply Bh Z);(iterate 3 (simp only[push_cast,seval];rfl));(intro _;rfl);intro e Z)|((with_reducible apply fi);(simp only[push_cast,seval];rfl);(first|exact trivial))|(with_reducible apply DF Z)|((with_reducible apply oF Z);(simp only[push_cast,seval];rfl);rfl;intro v Z;rotate_left;intro v g Z)|((with_reducible apply dD Z);(simp only[push_cast,seval];rfl);(first|apply sN _ _|apply zF _ _|apply ot _);(any_goals((repeat'(first|rfl|(with_reducible first|apply fk)|(with_reducible apply GS;decide)));done));intro x Z)|((with_reducible apply wi);(simp only[push_cast,seval];rfl);(first|exact trivial))|((with_reducible apply aI Z);(simp only[push_cast,seval];rfl);intro Z;rotate_left;intro Z)|((with_reducible apply iu Z);(focus(simp only[cE,eS,RV.get,push_cast,seval];rfl));(focus(first|(dsimp only;done)));(focus((repeat'(first|rfl|(with_reducible first|apply D_|apply FL|apply sg|apply c3|apply fk|apply c4)));done)))|((with_reducible apply b5 Z);(simp only[push_cast,seval];rfl))|((with_reducible apply br Z);intro r Z)|((apply av (b:=0) (X:=sO) (x:=mY) rfl (fun(c:Ch×Ch×SV×SV) (s:Unit)=>st [(2,.ref 2 0),(4,.ref 4 0),(53,c.2.2.1),(54,c.2.2.2)] [(2,c.1),(4,c.2.1)]) (c:=(_,_,_,_)) (s0:=()) Z);(focus(first|(dsimp only;done)));(with_reducible refine cc.mk ?_ ?_))|((apply co (F:=()) Z);(focus(first|(dsimp only;done))))|(((with_reducible apply cM.of);(focus(first|(dsimp only;done)));(focus((intro _;repeat'(first|with_reducible exact bd|with_reducible refine aB ?_))));(intro s o Z;first|unfold mY);rotate_left;intro s Z))|(((apply a7;(repeat'(first|with_reducible exact aw|with_reducible exact ax|with_reducible apply aq|with_reducible apply a1|((with_reducible apply aS);(focus(first|(simp only[push_cast,seval];rfl)));(focus((repeat'(first|rfl));done)))|((with_reducible apply b7);(focus(first|(simp only[push_cast,seval];rfl)));(first|with_reducible exact be rfl))));done))))
 all_goals(intros;exact())
def sP (D:List UInt8):Option (np×Bool):=(vB D).1
theorem tR (D:List UInt8):∀ r,sP D=some r->aa Tryz.prog 68 [.str D] (.tup [.agg (jM r.1),.bool r.2]):=(vB D).2
def ro:SC:=(.sq [.r 2 (.mv (.i 0))] (.seq (.sq [.v 5 0,.r 6 (.lenT (.t 5)),.j 7 .gtr 6 200] (.cond (.t 7) .any .skip)) (.seq (.sq [.v 9 0,.c 10 (.f 68) [.t 9],.v 8 10,.e 11 8 0,.e 12 8 1,.w 3 (.boxM (.c (.agg [.nils,.d (.str []),.d (.int .i64 0),.d (.int .i64 0)]))),.s 4 3 11,.v 4 12] (.sq [.v 13 4,.r 14 (.not (.t 13))] (.cond (.t 14) .any .skip))) (.sq [.r 2 (.mv (.i 0))] .ret))))
theorem xL:fits Tryz.prog 67 Tryz.f67 ro [.t 2] 1=true:=oK
def vC:(∀ (D:List UInt8),{m:Option (Int)//∀ r,m=some r->aa Tryz.prog 67 [.str D] (.int .i64 r)}):=by
 (intro D;apply Subtype.mk;intro r Z;apply ag Tryz.func67 xL;unfold ro)
 repeat'(first|with_reducible refine bn ?_|with_reducible refine bl ?_|with_reducible refine aZ ?_|with_reducible refine bF ?_|with_reducible refine bm ?_|with_reducible refine bo ?_|((with_reducible apply fi);(simp only[push_cast,seval];rfl);(first|exact trivial))|(with_reducible apply DF Z)|((with_reducible apply dD Z);(simp only[push_cast,seval];rfl);(first|apply tR _);(any_goals((repeat'(first|rfl));done));intro x Z)|((with_reducible apply wi);(simp only[push_cast,seval];rfl);(first|exact trivial))|((with_reducible apply aI Z);(simp only[push_cast,seval];rfl);intro Z;rotate_left;intro Z)|((with_reducible apply bP Z);(focus(simp only[cE,eS,RV.get,push_cast,seval];rfl));(focus((repeat'(first|rfl));done))))
 all_goals(intros;exact())
def sQ (D:List UInt8):Option (Int):=(vC D).1
theorem wG (D:List UInt8):∀ r,sQ D=some r->aa Tryz.prog 67 [.str D] (.int .i64 r):=(vC D).2
def xM:SC:=(.sq [.r 4 (.mv (.c (.nils))),.r 5 (.mv (.i 0))] (.seq (.sq [.v 10 0,.c 11 (.f 18) [.t 10],.v 6 11] (.sq [.v 12 6,.j 13 .neq 12 0] (.cond (.t 13) (.sq [.v 14 6,.r 4 (.mv (.c (.nils))),.v 5 14] .ret) .skip))) (.seq (.sq [.v 15 1,.c 16 (.f 67) [.t 15],.v 7 16] (.sq [.v 17 7,.j 18 .neq 17 0] (.cond (.t 18) (.sq [.v 19 7,.r 4 (.mv (.c (.nils))),.v 5 19] .ret) .skip))) (.sq [.v 21 1,.c 22 (.f 68) [.t 21],.v 20 22,.e 23 20 0,.e 24 20 1,.w 8 (.boxM (.c (.agg [.nils,.d (.str []),.d (.int .i64 0),.d (.int .i64 0)]))),.s 4 8 23,.v 9 24] (.sq [.v 25 0,.a 26 4 8,.c 27 (.f 69) [.t 25,.t 26],.v 4 27,.r 5 (.mv (.i 0))] .ret)))))
theorem Cv:fits Tryz.prog 31 Tryz.f31 xM [.t 4,.t 5] 2=true:=oK
def vD:(∀ (D:List ad) (x1:List UInt8),{m:Option ((List (List UInt8))×Int)//∀ r,m=some r->aa Tryz.prog 31 [.slice (List.map ae D),.str x1] (.tup [.slice (List.map bS r.1),.int .i64 r.2])}):=by
 (intro D x1;apply Subtype.mk;intro r Z;apply ag Tryz.func31 Cv;unfold xM)
 repeat'(first|with_reducible refine bn ?_|with_reducible refine bl ?_|with_reducible refine aZ ?_|with_reducible refine bF ?_|with_reducible refine bm ?_|with_reducible refine bo ?_|with_reducible refine bI ?_|with_reducible refine cF ?_|((with_reducible apply fi);(simp only[push_cast,seval];rfl);(first|exact trivial))|((with_reducible apply dD Z);(simp only[push_cast,seval];rfl);(first|apply gY _|apply wG _|apply tR _|apply Am _ _);(any_goals((repeat'(first|rfl));done));intro x Z)|((with_reducible apply wi);(simp only[push_cast,seval];rfl);(first|exact trivial))|((with_reducible apply aI Z);(simp only[push_cast,seval];rfl);intro Z;rotate_left;intro Z)|((with_reducible apply iu Z);(focus(simp only[cE,eS,RV.get,push_cast,seval];rfl));(focus(first|(dsimp only;done)));(focus((repeat'(first|rfl|(with_reducible first|apply FL|apply c3|apply fk|apply c4)));done))))
def yW (D:List ad) (x1:List UInt8):Option ((List (List UInt8))×Int):=(vD D x1).1
theorem Bw (D:List ad) (x1:List UInt8):∀ r,yW D x1=some r->aa Tryz.prog 31 [.slice (List.map ae D),.str x1] (.tup [.slice (List.map bS r.1),.int .i64 r.2]):=(vD D x1).2
def my:SC:=(.sq [.r 0 (.mv (.b false))] (.sq [.r 4 (.build [.d (.str []),.nils] [(0,1,.c (.d (.str [66,71,77])))]),.r 5 (.build [.d (.str []),.d (.str []),.nils,.nils] [(1,2,.t 4)]),.r 6 (.bslice 4 [.t 5]),.c 7 (.f 31) [.t 6,.c (.d (.str [66,71,77]))],.v 3 7,.e 8 3 0,.e 9 3 1,.v 1 8,.v 2 9] (.seq (.reg (.v 10 2:: .j 11 .eql 10 0:: .v 12 11::aV [13,14,15] 12 true (.v 13 1:: .h 14 13:: .j 15 .eql 14 1::[]) (.r 16 (.pick (.t 12) (.t 15) (.b false)):: .v 17 16::aV [18,19,20,21] 17 true (.v 18 1:: .r 19 (.idx 1 (.t 18) (.i 0)):: .r 20 (.ld1 (.t 19)):: .r 21 (.bin .eql (.t 20) (.c (.d (.str [66,71,77]))))::[]) (.r 22 (.pick (.t 17) (.t 21) (.b false)):: .v 0 22::[])))) .ret)))
theorem tn:fits Tryz.prog 10 Tryz.f10 my [.t 0] 0=true:=oK
def vE:({m:Option (Bool)//∀ r,m=some r->aa Tryz.prog 10 [] (.bool r)}):=by
 (apply Subtype.mk;intro r Z;apply ag Tryz.func10 tn;unfold my)
 repeat'(first|with_reducible refine bn ?_|with_reducible refine bl ?_|with_reducible refine bF ?_|with_reducible refine bm ?_|with_reducible refine bo ?_|((with_reducible apply cA Z);(iterate 2 (simp only[push_cast,seval];rfl));(intro _;rfl);intro e Z)|((with_reducible apply fi);(simp only[push_cast,seval];rfl);(first|exact trivial))|((with_reducible apply eh Z);(simp only[push_cast,seval];rfl);rfl;intro v Z;rotate_left;intro v g Z)|((with_reducible apply dD Z);(simp only[push_cast,seval];rfl);(first|apply Bw _ _);(any_goals((repeat'(first|rfl|(with_reducible first|apply sS|apply CE|apply c3|apply fk|apply c4|apply eT)));done));intro x Z)|((with_reducible apply bP Z);(focus(simp only[cE,eS,RV.get,push_cast,seval];rfl));(focus((repeat'(first|rfl));done)))|((with_reducible apply b5 Z);(simp only[push_cast,seval];rfl)))
def jg:Option (Bool):=(vE).1
theorem sR:∀ r,jg=some r->aa Tryz.prog 10 [] (.bool r):=(vE).2
end
end Go.Proofs.YteaolfcegaidpaaGreatDoor
namespace Go.Proofs.YteaolfcegaidpaaGreatDoor
set_option linter.unusedSimpArgs false
set_option linter.unusedVariables false
open Go.RowKit Go.Lib
theorem At:∀ (l:List DV),SV.toDVs (dR l)=some l
 |[]=>rfl
 |d::l=>by
  have ih:=At l
  simp only[dR,S5,SV.toDVs,SV.toDV] at ih⊢
  rw[ih]
end Go.Proofs.YteaolfcegaidpaaGreatDoor
namespace Go.Proofs.YteaolfcegaidpaaGreatDoor
set_option linter.unusedSimpArgs false
set_option linter.unusedVariables false
open Go.RowKit Go.Lib
theorem J7:∀ (rows:List (List DV)),(rows.map dR).flatten=dR rows.flatten
 |[]=>rfl
 |r::rows=>by
  have ih:=J7 rows
  simp only[dR,S5,TB,UR] at ih⊢
  rw[ih]
theorem M9 {P:Program} {f:FuncId} {args:List DV} {rows:List (List DV)} {size e:Nat} (l:mh P f=true) (R:∀ r∈rows,r.length=size) (h:∀ (w:World) (M:Nat->Prop) (vs:List Value),(∀ b,M b->b<w.heap.size)->aN w M args vs->Calls P f vs.toArray w fun ev w'=>∃ v k,ev= .returned v/\w'.ownsRow w.heap.size e size v rows.length k/\aN w M rows.flatten k/\(∀ u∈k,u.oneCell'=true)/\Below w.heap.size w w'):
  bB P f (args.map .d) (.own (.sl e (List.replicate size .sh)) (.slice rows)) (args.map .d):=by
 refine⟨l,fun w M vs F hM Q hn hv _ _=> ?_⟩
 have r6:SV.noOwns (args.map SV.d)=true:=rC _ _ (At args)
 obtain⟨hS,rfl⟩:=ar.to_S _ _ _ r6 hv
 have z:=an.toDVs _ _ _ hS (At args)
 refine(h w _ vs (fun b hb=>by rcases hb with hb|hb;exact(hM b hb).1;cases hb) z).mono ?_
 rintro ev w' ⟨v,k,rfl,ho,y,h1,hB⟩
 have a:∀ b∈hP v,w.heap.size<=b/\b<w'.heap.size:=by
  intro b hb
  rcases ho.2 with⟨rfl,_⟩|⟨g,D,B,rfl,s0,hg,_⟩
  ·simp[hP,yj] at hb
  ·simp[hP,yj] at hb
   subst hb
   exact⟨s0,(Ty.1 hg).1⟩
 have N:lA w (fun b=>M b\/b∈([]:List Nat)) w' (fun b=>M b\/b∈[]++hP v):=⟨hB.size,fun b hb Z=>⟨hB.block b hb,fun s6=>by
  rcases s6 with s6|s6
  ·exact Z (.inl s6)
  ·have:=(a b (by simpa using s6)).1;omega⟩⟩
 refine⟨v,[],hP v,rfl,ar.of_S _ _ (an.of_d (z.ext N)), ?_, ?_, ?_,AK.of_below hB⟩
 ·unfold aQ eR
  refine⟨rows,k,[],rfl,⟨by simpa using ho.1, ?_⟩,h1,by simpa using R, ?_,by simp⟩
  ·rcases ho.2 with hn|⟨g,D,B,hv,hb,T⟩
   ·exact .inl hn
   ·simp only[T9]
    exact .inr ⟨g,D,B,hv,To _,T⟩
  ·refine(tA (κ:=κ0) (by simpa using R)).1 ?_
   have e1:rows.map (d7 (List.replicate size .sh))=rows.map dR:=T3 fun r hr=>by
    have:=tD (H:=fun _:Unit=>r) (n:=size) (fun _=>R r hr) [()]
    simpa[bG] using this
   rw[e1,J7]
   exact ar.of_S _ _ (an.of_d (y.ext N))
 ·cases r7:yj v with
  |none=>simp[hP,r7]
  |some b=>simp[hP,r7]
 ·intro b hb
  have:=a b (by simpa using hb)
  exact⟨.inr this.1,this.2⟩
end Go.Proofs.YteaolfcegaidpaaGreatDoor
namespace Go.Proofs.YteaolfcegaidpaaGreatDoor
set_option linter.unusedSimpArgs false
set_option linter.unusedVariables false
open Go.RowKit Go.Shelf Go.Lib
variable {P:Program} {d:Ren}
set_option maxHeartbeats 2000000 in
set_option maxRecDepth 100000 in
theorem Jp (L:SlLaysE0.n41 P d) (i0:TypeInfo) (z:Value) (size bytes:Nat) (hi:P.info? (d.t 23)=some i0) (N:i0.zero=some z) (A:i0.size=size) (B:i0.bytes=bytes) (H:z.cells.size=size) (I:0<size) (g:∀ w,(Go.sizeOf (d.t 23)).run P w= .ok size w) (p:Addr) (c:Nat) (w:World):
  Calls P (d.f 41) #[.slice (some p) 0 c] w fun e w'=>∃ v',e= .returned v'/\w'.ownsRow w.heap.size (d.t 23) size v' 0 []/\Below w.heap.size w w':=by
 have mixed:=L.mixed;have t4:=L.t4;have a4:=L.a4;have z4:=L.z4;have v4:=L.v4;have t22:=L.t22;have a22:=L.a22;have z22:=L.z22;have v22:=L.v22
 have b:∀ (w:World) (a:Option Addr) (n c n' J:Nat),(binOp .eql (d.t 22) (.slice a n c) (.slice none n' J)).run P w= .ok (.bool a.isNone) w:=fun w a n c n' J=>Lib.run_eql_slice_nil w _ _ a n c n' J L.t22
 have f:∀ w,Sem.run P (underlying (d.t 22)) w= .ok (TypeDesc.slice (d.t 23)) w:=run_underlying t22
 obtain⟨_,_,h⟩:=L.f41
 go_enter h,SlBodyN.n41_ntmps d
 go_wp2_with (at_builtin;refine wpList_append_own _ rfl _ _ (d.t 22) rfl w.heap.size (d.t 23) i0 z size bytes t22 hi N A B H I _ _ _ rfl (World.ownsRow_made w #[] 0 (S0 _) (To _) oS) p 0 c [] rfl ?qc1 ?qc2 ?qc3 ?qc4 ?qc5 ?qc6 ?_)
 case qc1=>simp
 case qc2=>intro j u hj;simp at hj
 case qc3=>simp
 case qc4=>simp
 case qc5=>simp
 case qc6=>simp
 intro v' w1 h7 q s
 go_wp2
 go_ret
 exact⟨v',rfl,by simpa using h7,((Below.refl _ w).alloc (S0 _) _).grown q oS (by intro k hk;simp[Value.ownBlock] at hk;omega)⟩
theorem BC (L:SlLaysE0.n41 P d) (i0:TypeInfo) (z:Value) (size bytes:Nat) (hi:P.info? (d.t 23)=some i0) (N:i0.zero=some z) (A:i0.size=size) (B:i0.bytes=bytes) (H:z.cells.size=size) (I:0<size) (J:bytes<=1024) (g:∀ w,(Go.sizeOf (d.t 23)).run P w= .ok size w) (l:mh P (d.f 41)=true) (rows:List (List DV)) (R:∀ r∈rows,r.length=size) (h8:rows.length<=137438953472):bB P (d.f 41) (([.slice rows]:List DV).map .d) (.own (.sl (d.t 23) (List.replicate size .sh)) (.slice rows)) (([.slice rows]:List DV).map .d):=by
 refine M9 l R (fun w M vs hM hv=> ?_)
 simp only[aN] at hv
 obtain⟨u,us,rfl,hu,rfl⟩:=hv
 have hS:ah w M (fun _=> .pointer none) (.d (.slice rows)) u:=by simpa only[ah] using hu
 obtain⟨X,D,k,j,k1,k2,k3⟩:=A4 (sz:=size) hS (f:=rows.map dR) rfl (by intro r hr;obtain⟨q,hq,rfl⟩:=Tu.1 hr;simp[dR,R q hq])
 simp only[TO] at j
 subst j
 rw[Dk] at k1
 have c:aN w M rows.flatten k:=an.toDVs _ _ _ k1 (At _)
 have zero:∀ (a:Option Addr),rows=[]->Calls P (d.f 41) #[.slice a 0 D] w fun e w'=>∃ v k,e= .returned v/\w'.ownsRow w.heap.size (d.t 23) size v 0 k/\aN w M ([]:List (List DV)).flatten k/\(∀ u∈k,u.oneCell'=true)/\Below w.heap.size w w':=by
  intro a hr
  subst hr
  cases a with
  |none=>
   refine(AnyE.slices_Clone_nil L 0 D w).mono ?_
   rintro e w' ⟨rfl,rfl⟩
   exact⟨_,[],rfl,⟨by simp,.inl ⟨rfl,rfl⟩⟩,by simp[aN],by simp,Below.refl _ _⟩
  |some p=>
   refine(Jp L i0 z size bytes hi N A B H I g p D w).mono ?_
   rintro e w' ⟨v',rfl,ho,hB⟩
   exact⟨v',[],rfl,ho,by simp[aN],by simp,hB⟩
 rcases k3 with⟨hr,hn⟩|⟨b,o,rfl,m⟩
 ·have r1:rows=[]:=by simpa using hr
  have:=zero X r1
  subst r1
  exact this
 ·have h:rows.length * bytes<=140737488355328:=by
   have:=Nat.mul_le_mul h8 J
   omega
  refine(AnyE.slices_Clone L i0 z size bytes hi N A B H I g b o rows.length D k w (by rw[<-kR R];exact c.len) (by unfold maxLen;omega) h m k2).mono ?_
  rintro e w' ⟨v',rfl,ho,_,hB⟩
  exact⟨v',k,rfl,ho,c,k2,hB⟩
end Go.Proofs.YteaolfcegaidpaaGreatDoor
namespace Go.Proofs
open Go.Proofs.YteaolfcegaidpaaGreatDoor
open Go.Shelf
def Tryz.lays41_122_ren:Go.Shelf.Ren:=⟨fun|41=>122|n=>n,fun|22=>25|23=>114|4=>4|n=>n,fun|n=>n⟩
theorem Tryz.lays41_122:Go.Proofs.SlLaysE0.n41 Tryz.prog Tryz.lays41_122_ren:={
 mixed:=oK
 f41:=⟨Tryz.f122.name,by decide,Tryz.func122.trans (congrArg some oK)⟩
 t4:=Tryz.underlying4
 a4:=Tryz.isAgg4
 z4:=Tryz.sizeOf4
 v4:=Tryz.zeroValue4
 t22:=Tryz.underlying25
 a22:=Tryz.isAgg25
 z22:=Tryz.sizeOf25
 v22:=Tryz.zeroValue25}
def Tryz.lays41_123_ren:Go.Shelf.Ren:=⟨fun|41=>123|n=>n,fun|22=>112|23=>69|4=>4|n=>n,fun|n=>n⟩
theorem Tryz.lays41_123:Go.Proofs.SlLaysE0.n41 Tryz.prog Tryz.lays41_123_ren:={
 mixed:=oK
 f41:=⟨Tryz.f123.name,by decide,Tryz.func123.trans (congrArg some oK)⟩
 t4:=Tryz.underlying4
 a4:=Tryz.isAgg4
 z4:=Tryz.sizeOf4
 v4:=Tryz.zeroValue4
 t22:=Tryz.underlying112
 a22:=Tryz.isAgg112
 z22:=Tryz.sizeOf112
 v22:=Tryz.zeroValue112}
def Tryz.lays41_124_ren:Go.Shelf.Ren:=⟨fun|41=>124|n=>n,fun|22=>69|23=>9|4=>4|n=>n,fun|n=>n⟩
theorem Tryz.lays41_124:Go.Proofs.SlLaysE0.n41 Tryz.prog Tryz.lays41_124_ren:={
 mixed:=oK
 f41:=⟨Tryz.f124.name,by decide,Tryz.func124.trans (congrArg some oK)⟩
 t4:=Tryz.underlying4
 a4:=Tryz.isAgg4
 z4:=Tryz.sizeOf4
 v4:=Tryz.zeroValue4
 t22:=Tryz.underlying69
 a22:=Tryz.isAgg69
 z22:=Tryz.sizeOf69
 v22:=Tryz.zeroValue69}
end Go.Proofs
namespace Go.Proofs.YteaolfcegaidpaaGreatDoor
open Go.RowKit Go.Shelf Go.Lib
def bL (l:List bK):Option (List bK):=if l.length<=137438953472 then some l else none
theorem d6 (l:List bK):∀ r,bL l=some r->bB Tryz.prog 122 (([.slice (List.map aF l)]:List DV).map .d) (.own (.sl 114 (List.replicate 1 .sh)) (.slice (List.map aF r))) (([.slice (List.map aF l)]:List DV).map .d):=by
 intro r hr
 unfold bL at hr
 split at hr
 ·rename_i h8
  cases hr
  exact BC Tryz.lays41_122 (i0:=(Tryz.prog.info? 114).get oK) (z:=((Tryz.prog.info? 114).get oK).zero.get oK) (size:=1) (bytes:=((Tryz.prog.info? 114).get oK).bytes) (UT _).symm (UT _).symm oK rfl oK oD (of_decide_eq_true oK) Tryz.sizeOf114 oK (List.map aF l) (by intro r hr;obtain⟨b,_,rfl⟩:=Tu.1 hr;rfl) (by simpa using h8)
 ·cases hr
def eP (l:List (List (List UInt8))):Option (List (List (List UInt8))):=if l.length<=137438953472 then some l else none
theorem nb (l:List (List (List UInt8))):∀ r,eP l=some r->bB Tryz.prog 123 (([.slice (List.map (fy bS) l)]:List DV).map .d) (.own (.sl 69 (List.replicate 1 .sh)) (.slice (List.map (fy bS) r))) (([.slice (List.map (fy bS) l)]:List DV).map .d):=by
 intro r hr
 unfold eP at hr
 split at hr
 ·rename_i h8
  cases hr
  exact BC Tryz.lays41_123 (i0:=(Tryz.prog.info? 69).get oK) (z:=((Tryz.prog.info? 69).get oK).zero.get oK) (size:=1) (bytes:=((Tryz.prog.info? 69).get oK).bytes) (UT _).symm (UT _).symm oK rfl oK oD (of_decide_eq_true oK) Tryz.sizeOf69 oK (List.map (fy bS) l) (by intro r hr;obtain⟨b,_,rfl⟩:=Tu.1 hr;rfl) (by simpa using h8)
 ·cases hr
def fx (l:List (List UInt8)):Option (List (List UInt8)):=if l.length<=137438953472 then some l else none
theorem ov (l:List (List UInt8)):∀ r,fx l=some r->bB Tryz.prog 124 (([.slice (List.map bS l)]:List DV).map .d) (.own (.sl 9 (List.replicate 1 .sh)) (.slice (List.map bS r))) (([.slice (List.map bS l)]:List DV).map .d):=by
 intro r hr
 unfold fx at hr
 split at hr
 ·rename_i h8
  cases hr
  exact BC Tryz.lays41_124 (i0:=(Tryz.prog.info? 9).get oK) (z:=((Tryz.prog.info? 9).get oK).zero.get oK) (size:=1) (bytes:=((Tryz.prog.info? 9).get oK).bytes) (UT _).symm (UT _).symm oK rfl oK oD (of_decide_eq_true oK) Tryz.sizeOf9 oK (List.map bS l) (by intro r hr;obtain⟨b,_,rfl⟩:=Tu.1 hr;rfl) (by simpa using h8)
 ·cases hr
end Go.Proofs.YteaolfcegaidpaaGreatDoor
namespace Go.Proofs.YteaolfcegaidpaaGreatDoor
def uz:SC:=(.sq [.k 31 .lss 30 29] (.seq (.cond (.t 31) .skip (.exit 2)) (.seq (.block 3 (.sq [.v 32 30,.y 33 1 28 30,.l 34 33,.v 5 32,.v 6 34] (.regE [.f 35 1 1,.r 36 (.ld1 (.t 35)),.v 37 3,.y 38 1 36 37,.f 39 0 38,.r 40 (.ld1 (.t 39)),.v 41 5,.v 42 6,.q 43 (.f 124) [.t 42] [(0,35,.fld 1 (.t 1)),(1,36,.ld1 (.t 35)),(2,37,.mv (.t 3)),(3,38,.idx 1 (.t 36) (.t 37)),(4,39,.fld 0 (.t 38)),(5,40,.ld1 (.t 39)),(6,41,.mv (.t 5))],.y 44 1 40 41,.x 0 (.st 1 (.t 44) (.t 43)) []]))) (.reg [.j 45 .add 30 1,.v 30 45]))))
def uA:SC:= .block 2 (.loop uz)
def uB:SC:=(.sq [.k 15 .lss 14 13] (.seq (.cond (.t 15) .skip (.exit 0)) (.seq (.block 1 (.sq [.v 16 14,.y 17 1 12 14,.a 18 1 17,.w 4 (.boxM (.c (.agg [.nils]))),.v 3 16,.s 1 4 18] (.seq (.regE [.f 19 1 1,.r 20 (.ld1 (.t 19)),.v 21 3,.f 22 0 4,.r 23 (.ld1 (.t 22)),.q 24 (.f 123) [.t 23] [(0,19,.fld 1 (.t 1)),(1,20,.ld1 (.t 19)),(2,21,.mv (.t 3))],.y 25 1 20 21,.f 26 0 25,.x 0 (.st 1 (.t 26) (.t 24)) []]) (.sq [.f 27 0 4,.l 28 27,.h 29 28,.r 30 (.mv (.i 0))] uA)))) (.reg [.j 46 .add 14 1,.v 14 46]))))
def uC:SC:= .block 0 (.loop uB)
def yQ:SC:=(.sq [.w 1 (.boxM (.t 0)),.w 2 (.boxM (.c (.agg [.d (.str []),.nils])))] (.sq [.f 7 1 1,.l 8 7,.p (some 9) (.f 122) [.t 8],.f 10 1 1,.s 1 10 9] (.seq (.sq [.f 11 1 1,.l 12 11,.h 13 12,.r 14 (.mv (.i 0))] uC) (.sq [.a 47 2 1,.s 2 2 47] .ret))))
theorem C1:fits Tryz.prog 83 Tryz.f83 yQ [.cell 2 2] 1=true:=oK
end Go.Proofs.YteaolfcegaidpaaGreatDoor
namespace Go.Proofs.YteaolfcegaidpaaGreatDoor
open Go.RowKit
set_option linter.unusedSimpArgs false
set_option linter.unusedVariables false
def Na:List cO:=[.sl 9 [.sh]]
def N6:List cO:=[.sl 69 Na]
def SE:List cO:=[.sh,.sl 114 N6]
def v_ (x:af):Prop:=x.fElements.length<=137438953472/\∀ e∈x.fElements,e.fRepeats.length<=137438953472/\∀ p∈e.fRepeats,p.length<=137438953472
instance (x:af):Decidable (v_ x):=by unfold v_;infer_instance
def oy (x:af):Option af:=if v_ x then some x else none
theorem OT (y:bK):d7 [.sh] (aF y)=[.d (.slice (List.map (fy bS) y.fRepeats))]:=rfl
theorem QB (y:bK):d7 N6 (aF y)=[.own (.sl 69 Na) (.slice (List.map (fy bS) y.fRepeats))]:=rfl
theorem OU (y:List (List UInt8)):d7 [.sh] (fy bS y)=[.d (.slice (List.map bS y))]:=rfl
theorem QC (y:List (List UInt8)):d7 Na (fy bS y)=[.own (.sl 9 [.sh]) (.slice (List.map bS y))]:=rfl
set_option maxRecDepth 100000
set_option maxHeartbeats 4000000
theorem Ed (x:af) (hx:v_ x):bB Tryz.prog 83 (([.agg (al x)]:List DV).map .d) (.agg (d7 SE (al x))) (([.agg (al x)]:List DV).map .d):=by
 obtain⟨tag,a⟩:=x
 obtain⟨s5,s8⟩:=hx
 dsimp only at s5 s8
 refine Ic (N:=48) (k:=1) Tryz.func83 C1 oK rfl rfl ?_
 unfold yQ
 repeat'(first|(with_reducible apply Sn);exact rR;(focus exact d6 a a (by unfold bL;rw[Ub s5]));(focus rfl);focus(intro _;rfl)|(with_reducible first|refine bn ?_|refine bl ?_|refine l5 ?_|refine sa ?_|refine Gt ?_|refine aX ?_|refine aZ ?_|refine bF ?_|refine bN ?_|refine bm ?_|refine bo ?_|refine bO ?_|refine bI ?_|refine a8 ?_|refine bE ?_|refine iY ?_|refine GA ?_|refine GB ?_|refine Gy ?_|refine Gz ?_|refine cF ?_)|(with_reducible apply wT);decide|(with_reducible apply fi);exact rR;focus(first|exact trivial|omega)|(with_reducible apply wi);exact rR;focus(first|exact trivial|omega)|(with_reducible apply N4);exact rR;(focus(first|exact trivial|omega));focus exact jH|fail)
 ·unfold uC uB
  refine aX ?_
  refine PI (α:=Unit) (q:=0) (c:=15) (k:=14) (n:=13) (t:=46) (fun i _=>st [(1,.ref 1 0),(2,.ref 2 0),(12,.vec 9),(13,.d (.int .i64 (a.length:Int))),(14,.d (.int .i64 (i:Int))),(48,.d (.agg (al ⟨tag,a⟩)))]
   [(1,.box [.d (.str tag),.vec 9]),(2,.box [.d (.str []),.nils]),(9,.vec 114 1 (Bi N6 [.sh] aF a i))]) (fun _ _=>True) a.length () oM (fun _ _=>rfl) (fun _ _=>rfl) ?h0 trivial ?body ?done
  case h0=>exact Gu (by simp only[Dt,push_cast,seval,and_self]) (by simp only[Du,push_cast,seval,FO,and_self])
  case body=>
   intro i _ hi _
   obtain⟨y,hy⟩:∃ y,a[i]?=some y:=⟨a[i],S3 hi⟩
   have p:y∈a:=ST hy
   obtain⟨d,b⟩:=s8 y p
   have o:(dg N6 aF (a.take i)).length=i:=by rw[vu];simp;omega
   have K:Bi N6 [.sh] aF a i=l8 (dg N6 aF (a.take i)) [.d (.slice (List.map (fy bS) y.fRepeats))] (dg [.sh] aF (a.drop (i+1))):=by
    rw[FP hy,OT]
   dsimp only
   rw[K]
   repeat'(first|(with_reducible apply MZ);exact rR;exact rR;exact rR;(focus exact o);focus rfl|(with_reducible apply Qw);exact rR;exact rR;(focus exact o);exact rR;(focus rfl);focus simp|(with_reducible apply Ry);exact rR;(focus exact nb y.fRepeats y.fRepeats (by unfold eP;rw[Ub d]));(focus rfl);(focus(intro _;rfl));focus((repeat'(first|exact jH|(with_reducible apply pP);exact rR;(focus exact trivial);focus(simp only[push_cast,seval])|fail));done)|(with_reducible apply M1);exact rR;exact rR;exact rR;(focus exact o);(focus simp);exact rR;focus exact jH|(with_reducible first|refine bn ?_|refine bl ?_|refine l5 ?_|refine sa ?_|refine Gt ?_|refine aX ?_|refine aZ ?_|refine bF ?_|refine bN ?_|refine bm ?_|refine bo ?_|refine bO ?_|refine bI ?_|refine a8 ?_|refine bE ?_|refine iY ?_|refine GA ?_|refine GB ?_|refine Gy ?_|refine Gz ?_|refine cF ?_)|(with_reducible apply wT);decide|(with_reducible apply fi);exact rR;focus(first|exact trivial|omega)|(with_reducible apply wi);exact rR;focus(first|exact trivial|omega)|(with_reducible apply N4);exact rR;(focus(first|exact trivial|omega));focus exact jH|fail)
   ·unfold uA uz
    refine aX ?_
    refine PI (α:=Unit) (q:=2) (c:=31) (k:=30) (n:=29) (t:=45) (fun k _=>st [(1,.ref 1 0),(2,.ref 2 0),(3,.d (.int .i64 (i:Int))),(4,.ref 4 0),(12,.vec 9),(13,.d (.int .i64 (a.length:Int))),(14,.d (.int .i64 (i:Int))),(28,.d (.slice (List.map (fy bS) y.fRepeats))),(29,.d (.int .i64 (y.fRepeats.length:Int))),(30,.d (.int .i64 (k:Int))),(48,.d (.agg (al ⟨tag,a⟩)))]
     [(1,.box [.d (.str tag),.vec 9]),(2,.box [.d (.str []),.nils]),(9,.vec 114 1 (l8 (dg N6 aF (a.take i)) [.vec 24] (dg [.sh] aF (a.drop (i+1))))),(24,.vec 69 1 (Bi Na [.sh] (fy bS) y.fRepeats k))]) (fun _ _=>True) y.fRepeats.length () oM (fun _ _=>rfl) (fun _ _=>rfl) ?g0 trivial ?gbody ?gdone
    case g0=>exact Gu (by simp only[Dt,push_cast,seval,and_self]) (by simp only[Du,push_cast,seval,FO,List.replicate,and_self])
    case gbody=>
     intro k _ hk _
     obtain⟨z,hz⟩:∃ z,y.fRepeats[k]?=some z:=⟨y.fRepeats[k],S3 hk⟩
     have A:=b z (ST hz)
     have e:(dg Na (fy bS) (y.fRepeats.take k)).length=k:=by rw[vu];simp;omega
     have e1:Bi Na [.sh] (fy bS) y.fRepeats k=l8 (dg Na (fy bS) (y.fRepeats.take k)) [.d (.slice (List.map bS z))] (dg [.sh] (fy bS) (y.fRepeats.drop (k+1))):=by
      rw[FP hz,OU]
     have e2:Bi Na [.sh] (fy bS) y.fRepeats (k+1)=l8 (dg Na (fy bS) (y.fRepeats.take k)) [.own (.sl 9 [.sh]) (.slice (List.map bS z))] (dg [.sh] (fy bS) (y.fRepeats.drop (k+1))):=by
      rw[<-FQ hz,QC]
     dsimp only
     rw[e1]
     repeat'(first|(with_reducible apply MZ);exact rR;exact rR;exact rR;(focus(first|exact o|exact e));focus rfl|(with_reducible apply Qx);exact rR;exact rR;(focus(intro _;rfl));focus exact M3 hz|(with_reducible apply Rx);exact rR;exact rR;(focus exact o);exact rR;focus rfl|(with_reducible apply Ry);exact rR;(focus exact ov z z (by unfold fx;rw[Ub A]));(focus rfl);(focus(intro _;rfl));focus((repeat'(first|exact jH|(with_reducible apply M2);exact rR;exact rR;exact rR;(focus exact o);(focus rfl);exact R6|(with_reducible apply OK);exact rR;exact rR;(focus exact o);exact rR;(focus rfl);exact R6|(with_reducible apply pP);exact rR;(focus exact trivial);focus(simp only[push_cast,seval])|fail));done)|(with_reducible apply M1);exact rR;exact rR;exact rR;(focus exact e);(focus simp);exact rR;focus exact jH|(with_reducible first|refine bn ?_|refine bl ?_|refine l5 ?_|refine sa ?_|refine Gt ?_|refine aX ?_|refine aZ ?_|refine bF ?_|refine bN ?_|refine bm ?_|refine bo ?_|refine bO ?_|refine bI ?_|refine a8 ?_|refine bE ?_|refine iY ?_|refine GA ?_|refine GB ?_|refine Gy ?_|refine Gz ?_|refine cF ?_)|(with_reducible apply wT);decide|(with_reducible apply fi);exact rR;focus(first|exact trivial|omega)|(with_reducible apply wi);exact rR;focus(first|exact trivial|omega)|(with_reducible apply N4);exact rR;(focus(first|exact trivial|omega));focus exact jH|fail)
     ·apply PH ()
      (focus(simp only[push_cast,seval]))
      rotate_left
      (focus exact trivial)
      refine cS.trans (D4 (id:=24) (f:=43) (off:=0) (ms':=[.sh]) (B:=bS) (y:=z) (k:=k) (by(simp only[push_cast,seval];(try rfl);done)) (by(simp only[push_cast,seval];(try rfl);done)) e.symm (by(simp only[push_cast,seval];(try rfl);done)) M7 rfl (fun _=>rfl) oD (by(simp only[push_cast,seval];(try rfl);done))) ?_
      exact Gu (by simp only[Dt,push_cast,seval,and_self]) (by simp only[Du,push_cast,seval,e2,and_self])
    case gdone=>
     intro _ _
     refine a8 ?_
     have e3:Bi N6 [.sh] aF a (i+1)=l8 (dg N6 aF (a.take i)) [.own (.sl 69 Na) (.slice (List.map (fy bS) y.fRepeats))] (dg [.sh] aF (a.drop (i+1))):=by
      rw[<-FQ hy,QB]
     dsimp only
     rw[H9]
     apply PH ()
     (focus(simp only[push_cast,seval]))
     rotate_left
     (focus exact trivial)
     refine cS.trans (D4 (id:=9) (f:=24) (off:=0) (ms':=Na) (B:=fy bS) (y:=y.fRepeats) (k:=i) (by(simp only[push_cast,seval];(try rfl);done)) (by(simp only[push_cast,seval];(try rfl);done)) o.symm (by(simp only[push_cast,seval];(try rfl);done)) M7 rfl (fun _=>rfl) oD (by(simp only[push_cast,seval];(try rfl);done))) ?_
     exact Gu (by simp only[Dt,push_cast,seval,and_self]) (by simp only[Du,push_cast,seval,e3,and_self])
  case done=>
   intro _ _
   dsimp only
   rw[H9]
   repeat'(first|(with_reducible first|refine bn ?_|refine bl ?_|refine l5 ?_|refine sa ?_|refine Gt ?_|refine aX ?_|refine aZ ?_|refine bF ?_|refine bN ?_|refine bm ?_|refine bo ?_|refine bO ?_|refine bI ?_|refine a8 ?_|refine bE ?_|refine iY ?_|refine GA ?_|refine GB ?_|refine Gy ?_|refine Gz ?_|refine cF ?_)|(with_reducible apply wT);decide|(with_reducible apply fi);exact rR;focus(first|exact trivial|omega)|(with_reducible apply wi);exact rR;focus(first|exact trivial|omega)|(with_reducible apply N4);exact rR;(focus(first|exact trivial|omega));focus exact jH|fail)
   ·apply QA (r0:=(⟨tag,a⟩:af)) (r:=⟨tag,a⟩) (H:=al) rfl (cS.refl _)
    (focus(simp only[push_cast,seval];rfl))
    (focus(simp only[push_cast,seval];rfl))
    (focus(simp only[push_cast,seval];(try rfl);done))
    (focus exact pS.data rfl (OS (l:=a) (H:=aF) (ms:=N6) (by(simp only[push_cast,seval];(try rfl);done)) rfl (fun _=>rfl) oS pS.nil))
    (focus rfl)
theorem BD (x:af):∀ r,oy x=some r->bB Tryz.prog 83 (([.agg (al x)]:List DV).map .d) (.agg (d7 SE (al r))) (([.agg (al x)]:List DV).map .d):=by
 intro r hr
 unfold oy at hr
 split at hr
 ·rename_i hx;cases hr;exact Ed x hx
 ·cases hr
theorem CH (x:af):∀ r,oy x=some r->aa Tryz.prog 83 [.agg (al x)] (.agg (al r)):=fun r hr=>
 ((BD x r hr).weak (ms':=[.sh,.sh]) rfl rfl).pure rfl
noncomputable section
set_option maxRecDepth 100000
set_option maxHeartbeats 40000000
def dT:SC:=(.seq (.sq [.v 11 5,.v 12 0,.h 13 12,.k 14 .lss 11 13] (.cond (.t 14) .skip (.exit 0))) (.seq (.block 1 (.seq (.regD [.v 17 0,.v 18 5,.y 19 2 17 18,.r 20 (.ldA 2 (.t 19)),.v 21 1,.v 22 5,.y 23 2 21 22,.r 24 (.ldA 2 (.t 23)),.c 25 (.f 41) [.t 20,.t 24],.r 26 (.not (.t 25))]) (.cond (.t 26) (.sq [.r 4 (.mv (.b false))] .ret) .skip))) (.reg [.v 15 5,.j 16 .add 15 1,.v 5 16])))
def gJ:SC:= .block 0 (.loop dT)
def iQ:SC:=(.sq [.r 4 (.mv (.b false))] (.seq (.sq [.v 6 0,.h 7 6,.v 8 1,.h 9 8,.k 10 .neq 7 9] (.cond (.t 10) (.sq [.r 4 (.mv (.b false))] .ret) .skip)) (.seq (.sq [.r 5 (.mv (.i 0))] gJ) (.sq [.r 4 (.mv (.b true))] .ret))))
theorem oh:fits Tryz.prog 20 Tryz.f20 iQ [.t 4] 2=true:=oK
def xP:(∀ (D:List af) (x1:List af),{m:Option (Bool)//∀ r,m=some r->aa Tryz.prog 20 [.slice (List.map al D),.slice (List.map al x1)] (.bool r)}):=by
 (intro D x1;apply Subtype.mk;intro r Z;apply ag Tryz.func20 oh;unfold iQ)
 repeat'(first|with_reducible refine bn ?_|with_reducible refine bl ?_|with_reducible refine l5 ?_|with_reducible refine aX ?_|with_reducible refine aZ ?_|with_reducible refine bF ?_|with_reducible refine bN ?_|with_reducible refine bm ?_|with_reducible refine bo ?_|with_reducible refine bO ?_|with_reducible refine bI ?_|with_reducible refine a8 ?_|with_reducible refine bE ?_|((with_reducible apply cA Z);(iterate 2 (simp only[push_cast,seval];rfl));(intro _;rfl);intro e Z)|((with_reducible apply fi);(simp only[push_cast,seval];rfl);(first|exact trivial))|((with_reducible apply dD Z);(simp only[push_cast,seval];rfl);(first|apply og _ _);(any_goals((repeat'(first|rfl));done));intro x Z)|((with_reducible apply aI Z);(simp only[push_cast,seval];rfl);intro Z;rotate_left;intro Z)|((with_reducible apply bP Z);(focus(simp only[cE,eS,RV.get,push_cast,seval];rfl));(focus((repeat'(first|rfl));done)))|((with_reducible apply br Z);intro r Z)|((with_reducible apply b8 Z);intro r Z)|((apply av (b:=0) (X:=gJ) (x:=dT) rfl (fun(c:SV×SV) (s:Int)=>st [(0,c.1),(1,c.2),(5,.d (.int .i64 s))] []) (c:=(_,_)) (s0:=_) Z);(focus(first|(dsimp only;done)));(with_reducible refine cc.mk ?_ ?_))|((apply bz (F:=_) Z);(focus(first|(dsimp only;done))))|((apply co (F:=_) Z);(focus(first|(dsimp only;done))))|(((with_reducible apply dQ Z);intro r Z))|(((with_reducible apply cM.of);(focus(first|(dsimp only;done)));(focus((intro _;repeat'(first|with_reducible exact bd|with_reducible refine aB ?_))));(intro s o Z;first|unfold dT);rotate_left;intro s Z))|(((apply a7;(repeat'(first|with_reducible exact aw|with_reducible exact ax|with_reducible apply aq|((with_reducible apply aS);(focus(first|(simp only[push_cast,seval];rfl)));(focus((repeat'(first|rfl));done)))));done))))
def e5 (D x1:List af):Option (Bool):=(xP D x1).1
theorem nL (D x1:List af):∀ r,e5 D x1=some r->aa Tryz.prog 20 [.slice (List.map al D),.slice (List.map al x1)] (.bool r):=(xP D x1).2
def oi:SC:=(.sq [.k 10 .lss 9 8] (.seq (.cond (.t 10) .skip (.exit 0)) (.seq (.block 1 (.sq [.y 11 4 7 9,.a 12 4 11,.w 6 (.boxM (.c (.agg [.d (.str []),.d (.str []),.nils,.nils]))),.s 4 6 12] (.sq [.f 13 0 6,.l 14 13,.r 15 (.bin .eql (.t 14) (.c (.d (.str []))))] (.cond (.t 15) (.reg [.v 16 0,.f 17 1 6,.a 18 2 17,.c 19 (.f 83) [.t 18],.r 20 (.bslice 2 [.t 19]),.w 21 (.app 27 2 (.t 16) (.t 20)),.v 0 21]) (.reg [.v 22 0,.f 23 3 6,.l 24 23,.p (some 25) (.f 35) [.t 22,.t 24],.v 0 25]))))) (.reg [.j 26 .add 9 1,.v 9 26]))))
def tW:SC:= .block 0 (.loop oi)
def xQ:SC:=(.sq [.r 4 (.mv (.c (.nils)))] (.seq (.sq [.v 7 1,.h 8 7,.r 9 (.mv (.i 0))] tW) (.sq [.v 27 0,.v 4 27] .ret)))
theorem Cw:fits Tryz.prog 35 Tryz.f35 xQ [.t 4] 2=true:=oK
def xR:((∀ (D:List af) (x1:List ad),{m:Option (List af)//∀ r,m=some r->bB Tryz.prog 35 (.own (.sl 27 (List.replicate 2 .sh)) (.slice (List.map al D))::(List.map SV.d ([.slice (List.map ae x1)]:List DV))) (.own (.sl 27 (List.replicate 2 .sh)) (.slice (List.map al r))) (.d .any::(List.map SV.d ([.slice (List.map ae x1)]:List DV)))}))->((∀ (D:List af) (x1:List ad),{m:Option (List af)//∀ r,m=some r->bB Tryz.prog 35 (.own (.sl 27 (List.replicate 2 .sh)) (.slice (List.map al D))::(List.map SV.d ([.slice (List.map ae x1)]:List DV))) (.own (.sl 27 (List.replicate 2 .sh)) (.slice (List.map al r))) (.d .any::(List.map SV.d ([.slice (List.map ae x1)]:List DV)))})):=by
 intro ih
 have pj:∀ (D:List af) (x1:List ad),∀ r,(ih D x1).1=some r->bB Tryz.prog 35 (.own (.sl 27 (List.replicate 2 .sh)) (.slice (List.map al D))::(List.map SV.d ([.slice (List.map ae x1)]:List DV))) (.own (.sl 27 (List.replicate 2 .sh)) (.slice (List.map al r))) (.d .any::(List.map SV.d ([.slice (List.map ae x1)]:List DV))):=fun D x1=>(ih D x1).2
 (intro D x1;apply Subtype.mk;intro r Z;apply jI (N:=28) (k:=2) Tryz.func35 Cw oK rfl (lF (H:=al) (n:=2) (fun _=>rfl) D) rfl oD;unfold xQ)
 repeat'(first|with_reducible refine bn ?_|with_reducible refine bl ?_|with_reducible refine aX ?_|with_reducible refine aZ ?_|with_reducible refine bF ?_|with_reducible refine bN ?_|with_reducible refine bm ?_|with_reducible refine bo ?_|with_reducible refine bO ?_|with_reducible refine a8 ?_|with_reducible refine cF ?_|((with_reducible apply cA Z);(iterate 2 (simp only[push_cast,seval];rfl));(intro _;rfl);intro e Z)|((with_reducible apply fi);(simp only[push_cast,seval];rfl);(first|exact trivial))|((with_reducible apply dD Z);(simp only[push_cast,seval];rfl);(first|apply CH _);(any_goals((repeat'(first|rfl));done));intro x Z)|((with_reducible apply wi);(simp only[push_cast,seval];rfl);(first|exact trivial))|((with_reducible apply si Z);(iterate 4 (simp only[push_cast,seval];rfl));(focus((repeat'(first|rfl|(with_reducible first|apply c3|apply c4|apply eT)));done));decide;(intro _;rfl);intro Z)|((with_reducible apply aI Z);(simp only[push_cast,seval];rfl);intro Z;rotate_left;intro Z)|((with_reducible apply br Z);intro r Z)|((apply av (b:=0) (X:=tW) (x:=oi) rfl (fun(c:SV×SV×SV) (s:(List af)×Int)=>st [(0,.vec 0),(7,c.1),(8,c.2.1),(9,.d (.int .i64 s.2)),(29,c.2.2)] [(0,.vec 27 2 (bG al s.1))]) (c:=(_,_,_)) (s0:=(_,_)) Z);(focus(first|(dsimp only;done)));(with_reducible refine cc.mk ?_ ?_))|((apply bz (F:=(_,_)) Z);(focus(first|(dsimp only;done)));(focus((try((apply cS.trans);(focus((apply OA (t:=0) (a:=25) (b:=0));(focus(simp only[push_cast,seval];(try rfl);done))))));(apply a7;(repeat'(first|with_reducible exact aw|with_reducible exact ax|with_reducible apply aq|with_reducible apply a1|((with_reducible apply aS);(focus(first|(simp only[push_cast,seval];rfl)));(focus((repeat'(first|rfl));done)))|((with_reducible apply b7);(focus(first|(simp only[push_cast,seval];rfl)));(first|with_reducible exact be rfl))));done))))|((apply co (F:=(_,_)) Z);(focus(first|(dsimp only;done)));(focus((apply a7;(repeat'(first|with_reducible exact aw|with_reducible exact ax|with_reducible apply aq|with_reducible apply a1|((with_reducible apply aS);(focus(first|(simp only[push_cast,seval];rfl)));(focus((repeat'(first|rfl));done)))|((with_reducible apply b7);(focus(first|(simp only[push_cast,seval];rfl)));(first|with_reducible exact be rfl))));done))))|(((with_reducible apply Sk (fun y=>y) Z);(focus(simp only[push_cast,seval];(try rfl);done));(focus(simp only[push_cast,seval];(try rfl);done));(focus(simp only[push_cast,seval];(try rfl);done));(focus(intro _;rfl));(apply pj _ _);(any_goals(focus((repeat'(first|rfl));done)));intro y Z))|(((with_reducible apply Qo Z);(focus(exact cS.refl _));(focus(simp only[push_cast,seval];(try rfl);done));(focus(simp only[push_cast,seval];(try rfl);done));(focus((repeat'(first|(with_reducible first|apply ml)));done));(focus(intro _;rfl));(focus(simp only[push_cast,seval];(try rfl);done));(focus(simp only[push_cast,seval];(try rfl);done))))|(((with_reducible apply cM.of);(focus(first|(dsimp only;done)));(focus((intro _;repeat'(first|with_reducible exact c8|with_reducible refine aB ?_))));(intro s o Z;first|unfold oi);rotate_left;intro s Z))|(((apply a7;(repeat'(first|with_reducible exact aw|with_reducible exact ax|with_reducible apply aq|with_reducible apply a1|((with_reducible apply aS);(focus(first|(simp only[push_cast,seval];rfl)));(focus((repeat'(first|rfl));done)))|((with_reducible apply b7);(focus(first|(simp only[push_cast,seval];rfl)));(first|with_reducible exact be rfl))));done))))
def tX (fu:Nat):(∀ (D:List af) (x1:List ad),{m:Option (List af)//∀ r,m=some r->bB Tryz.prog 35 (.own (.sl 27 (List.replicate 2 .sh)) (.slice (List.map al D))::(List.map SV.d ([.slice (List.map ae x1)]:List DV))) (.own (.sl 27 (List.replicate 2 .sh)) (.slice (List.map al r))) (.d .any::(List.map SV.d ([.slice (List.map ae x1)]:List DV)))}):=Nat.rec (fun D x1=>⟨none,fun r h=>by cases h⟩) (fun _ ih=>xR ih) fu
def pF (fu:Nat) (D:List af) (x1:List ad):Option (List af):=((tX fu) D x1).1
theorem zv (fu:Nat) (D:List af) (x1:List ad):((tX fu) D x1).1=pF fu D x1:=rfl
theorem zw (fu:Nat) (D:List af) (x1:List ad):pF (fu+1) D x1=((xR (tX fu)) D x1).1:=rfl
theorem pj (fu:Nat) (D:List af) (x1:List ad):∀ r,pF fu D x1=some r->bB Tryz.prog 35 (.own (.sl 27 (List.replicate 2 .sh)) (.slice (List.map al D))::(List.map SV.d ([.slice (List.map ae x1)]:List DV))) (.own (.sl 27 (List.replicate 2 .sh)) (.slice (List.map al r))) (.d .any::(List.map SV.d ([.slice (List.map ae x1)]:List DV))):=((tX fu) D x1).2
def gK:SC:=(.seq (.sq [.v 5 4,.v 6 0,.h 7 6,.k 8 .lss 5 7] (.cond (.t 8) .skip (.exit 0))) (.seq (.block 1 (.sq [.v 11 0,.v 12 4,.y 13 4 11 12,.f 14 0 13,.l 15 14,.r 16 (.bin .eql (.t 15) (.c (.d (.str []))))] (.cond (.t 16) (.reg [.v 17 3,.v 18 0,.v 19 4,.y 20 4 18 19,.f 21 1 20,.a 22 2 21,.r 23 (.bslice 2 [.t 22]),.w 24 (.app 27 2 (.t 17) (.t 23)),.v 3 24]) (.reg [.v 25 3,.v 26 0,.v 27 4,.y 28 4 26 27,.f 29 3 28,.l 30 29,.c 31 (.f 36) [.t 30],.w 32 (.app 27 2 (.t 25) (.t 31)),.v 3 32])))) (.reg [.v 9 4,.j 10 .add 9 1,.v 4 10])))
def ld:SC:= .block 0 (.loop gK)
def ns:SC:=(.sq [.r 2 (.mv (.c (.nils)))] (.sq [.r 3 (.mv (.c (.nils)))] (.seq (.sq [.r 4 (.mv (.i 0))] ld) (.sq [.v 33 3,.v 2 33] .ret))))
theorem ul:fits Tryz.prog 36 Tryz.f36 ns [.t 2] 1=true:=oK
def xS:((∀ (D:List ad),{m:Option ((List af))//∀ r,m=some r->aa Tryz.prog 36 [.slice (List.map ae D)] (.slice (List.map al r))}))->((∀ (D:List ad),{m:Option ((List af))//∀ r,m=some r->aa Tryz.prog 36 [.slice (List.map ae D)] (.slice (List.map al r))})):=by
 intro ih
 have hF:∀ (D:List ad),∀ r,(ih D).1=some r->aa Tryz.prog 36 [.slice (List.map ae D)] (.slice (List.map al r)):=fun D=>(ih D).2
 (intro D;apply Subtype.mk;intro r Z;apply ag Tryz.func36 ul;unfold ns)
 repeat'(first|with_reducible refine bn ?_|with_reducible refine bl ?_|with_reducible refine aX ?_|with_reducible refine aZ ?_|with_reducible refine bF ?_|with_reducible refine bN ?_|with_reducible refine bm ?_|with_reducible refine bo ?_|with_reducible refine bO ?_|with_reducible refine a8 ?_|with_reducible refine cF ?_|((with_reducible apply cA Z);(iterate 2 (simp only[push_cast,seval];rfl));(intro _;rfl);intro e Z)|((with_reducible apply fi);(simp only[push_cast,seval];rfl);(first|exact trivial))|((with_reducible apply dD Z);(simp only[push_cast,seval];rfl);(first|apply hF _);(any_goals((repeat'(first|rfl));done));intro x Z)|((with_reducible apply si Z);(iterate 4 (simp only[push_cast,seval];rfl));(focus((repeat'(first|rfl|(with_reducible first|apply c3|apply c4|apply eT)));done));decide;(intro _;rfl);intro Z)|((with_reducible apply aI Z);(simp only[push_cast,seval];rfl);intro Z;rotate_left;intro Z)|((with_reducible apply bP Z);(focus(simp only[cE,eS,RV.get,push_cast,seval];rfl));(focus((repeat'(first|rfl));done)))|((with_reducible apply br Z);intro r Z)|((apply av (b:=0) (X:=ld) (x:=gK) rfl (fun(c:SV) (s:(List af)×Int)=>st [(0,c),(3,.vec 3),(4,.d (.int .i64 s.2))] [(3,.vec 27 2 (bG al s.1))]) (c:=_) (s0:=(_,_)) Z);(focus(first|(dsimp only;done)));(with_reducible refine cc.mk ?_ ?_);apply cS.trans;(focus(apply mL (t:=3) (id:=3) (e:=27) (sz:=2);(focus(simp only[push_cast,seval];done)))))|((apply bz (F:=(_,_)) Z);(focus(first|(dsimp only;done))))|((apply co (F:=(_,_)) Z);(focus(first|(dsimp only;done))))|(((with_reducible apply cM.of);(focus(first|(dsimp only;done)));(focus((intro _;repeat'(first|with_reducible exact bd|with_reducible refine aB ?_))));(intro s o Z;first|unfold gK);rotate_left;intro s Z))|(((apply a7;(repeat'(first|with_reducible exact aw|with_reducible exact ax|with_reducible apply aq|with_reducible apply a1|((with_reducible apply aS);(focus(first|(simp only[push_cast,seval];rfl)));(focus((repeat'(first|rfl));done)))|((with_reducible apply b7);(focus(first|(simp only[push_cast,seval];rfl)));(first|with_reducible exact be rfl|with_reducible apply jV))|(with_reducible first|apply D2)));done))))
def tY (fu:Nat):(∀ (D:List ad),{m:Option ((List af))//∀ r,m=some r->aa Tryz.prog 36 [.slice (List.map ae D)] (.slice (List.map al r))}):=Nat.rec (fun D=>⟨none,fun r h=>by cases h⟩) (fun _ ih=>xS ih) fu
def gc (fu:Nat) (D:List ad):Option ((List af)):=((tY fu) D).1
theorem rI (fu:Nat) (D:List ad):((tY fu) D).1=gc fu D:=rfl
theorem rJ (fu:Nat) (D:List ad):gc (fu+1) D=((xS (tY fu)) D).1:=rfl
theorem hF (fu:Nat) (D:List ad):∀ r,gc fu D=some r->aa Tryz.prog 36 [.slice (List.map ae D)] (.slice (List.map al r)):=((tY fu) D).2
def xT:SC:=(.sq [.r 2 (.mv (.c (.nils))),.r 3 (.mv (.i 0))] (.seq (.sq [.v 5 0,.c 6 (.f 18) [.t 5],.v 4 6] (.sq [.v 7 4,.j 8 .neq 7 0] (.cond (.t 8) (.sq [.v 9 4,.r 2 (.mv (.c (.nils))),.v 3 9] .ret) .skip))) (.sq [.v 10 0,.p (some 11) (.f 35) [.c (.nils),.t 10],.v 2 11,.r 3 (.mv (.i 0))] .ret)))
theorem Cy:fits Tryz.prog 14 Tryz.f14 xT [.t 2,.t 3] 1=true:=oK
def nt:SC:=(.sq [.r 2 (.mv (.c (.nils))),.r 3 (.mv (.i 0))] (.seq (.sq [.v 5 0,.c 6 (.f 19) [.t 5],.v 4 6] (.sq [.v 7 4,.j 8 .neq 7 0] (.cond (.t 8) (.sq [.v 9 4,.r 2 (.mv (.c (.nils))),.v 3 9] .ret) .skip))) (.sq [.v 10 0,.c 11 (.f 36) [.t 10],.v 2 11,.r 3 (.mv (.i 0))] .ret)))
theorem um:fits Tryz.prog 15 Tryz.f15 nt [.t 2,.t 3] 1=true:=oK
def nu:(∀ (D:List ad),{m:Option ((List af)×Int)//∀ r,m=some r->aa Tryz.prog 14 [.slice (List.map ae D)] (.tup [.slice (List.map al r.1),.int .i64 r.2])})×(∀ (D:List ad),{m:Option ((List af)×Int)//∀ r,m=some r->aa Tryz.prog 15 [.slice (List.map ae D)] (.tup [.slice (List.map al r.1),.int .i64 r.2])}):=by
 refine⟨?g0, ?g1⟩
 case' g0=>(intro D;apply Subtype.mk;intro r Z;apply ag Tryz.func14 Cy;unfold xT)
 case' g1=>(intro D;apply Subtype.mk;intro r Z;apply ag Tryz.func15 um;unfold nt)
 all_goals(repeat'(first|with_reducible refine bn ?_|with_reducible refine bl ?_|with_reducible refine aZ ?_|with_reducible refine bF ?_|with_reducible refine bm ?_|with_reducible refine bo ?_|with_reducible refine bI ?_|((with_reducible apply fi);(simp only[push_cast,seval];rfl);(first|exact trivial))|((with_reducible apply dD Z);(simp only[push_cast,seval];rfl);(first|apply gY _|apply e4 _|apply hF FU _);(any_goals((repeat'(first|rfl));done));intro x Z)|((with_reducible apply aI Z);(simp only[push_cast,seval];rfl);intro Z;rotate_left;intro Z)|((with_reducible apply iu Z);(focus(simp only[cE,eS,RV.get,push_cast,seval];rfl));(focus(first|(dsimp only;done)));(focus((repeat'(first|rfl|(with_reducible first|apply FL|apply c3|apply fk|apply c4)));done)))|(((with_reducible apply Rq (fun y=>y) Z);(focus(simp only[push_cast,seval];(try rfl);done));(focus(simp only[push_cast,seval];(try rfl);done));(apply pj FU _ _);(any_goals(focus((repeat'(first|rfl));done)));(any_goals(focus(intro _;rfl)));intro y Z))))
def un (D:List ad):Option ((List af)×Int):=(nu.1 D).1
theorem Bz (D:List ad):∀ r,un D=some r->aa Tryz.prog 14 [.slice (List.map ae D)] (.tup [.slice (List.map al r.1),.int .i64 r.2]):=(nu.1 D).2
def jO (D:List ad):Option ((List af)×Int):=(nu.2 D).1
theorem tp (D:List ad):∀ r,jO D=some r->aa Tryz.prog 15 [.slice (List.map ae D)] (.tup [.slice (List.map al r.1),.int .i64 r.2]):=(nu.2 D).2
end
end Go.Proofs.YteaolfcegaidpaaGreatDoor
