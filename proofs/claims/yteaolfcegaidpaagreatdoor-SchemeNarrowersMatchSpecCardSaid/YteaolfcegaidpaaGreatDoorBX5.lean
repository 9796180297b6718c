/-
  Laws on the way to the theorem.
-/
import Derived.Test.YteaolfcegaidpaaGreatDoorBX4
import Derived.Test.YteaolfcegaidpaaGreatDoorCards
import Derived.Test.YteaolfcegaidpaaGreatDoorTie
import Derived.Test.YteaolfcegaidpaaGreatDoorSXEngNr
import Derived.Test.YteaolfcegaidpaaGreatDoorSXEngRn
import Derived.Lib.Bytealg
namespace Go.Proofs.YteaolfcegaidpaaGreatDoor
open Go.RowKit
set_option linter.unusedSimpArgs false
set_option linter.unusedVariables false
structure rW where
 fRepeats:List (List (List UInt8))
 deriving DecidableEq
def qX (x:rW):List DV:=[.slice (List.map (tu fG) x.fRepeats)]
attribute [push_cast] qX
structure fl where
 fTag:List UInt8
 fElements:List rW
 deriving DecidableEq
def cx (x:fl):List DV:=[.str x.fTag,.slice (List.map qX x.fElements)]
attribute [push_cast] cx
theorem yS {d0 d1:DV} {v0:List UInt8} {v1:List rW} (h0:d0= .str v0) (h1:d1= .slice (List.map qX v1)):[d0,d1]=cx ⟨v0,v1⟩:=by unfold cx;simp only[h0,h1,Mn,Mq,Mz,Mw]
structure cv where
 fmany:Int
 deriving DecidableEq
def cy (x:cv):List DV:=[.int .i64 x.fmany]
attribute [push_cast] cy
theorem js {d0:SV} {v0:Int} (h0:sP d0 (.d (.int .i64 v0))):aN [d0] (fB [.sh] (cy ⟨v0⟩)):=by have h:=(aN.consS h0 aN.nil);simp only[push_cast,seval,dR] at h⊢;exact h
def qI (p0:Int):List SV:=[.d (.int .i64 p0)]
attribute [push_cast] qI
structure aX where
 fName:List UInt8
 fSegment:fl
 fKids:List aX
mutual
def qY:aX->List DV
 |⟨v0,v1,v2⟩=>[.str v0]++cx v1++[.slice (gH v2)]
def gH:List aX->List (List DV)
 |[]=>[]
 |x::l=>qY x::gH l
end
def aY (x:aX):List DV:=[.str x.fName]++cx x.fSegment++[.slice (gH x.fKids)]
theorem xX (x:aX):qY x=aY x:=by cases x;simp only[qY,aY]
theorem qJ:∀ l:List aX,gH l=List.map aY l
 |[]=>by simp only[gH,Nw]
 |x::l=>by simp only[gH,Mk,qJ l,xX]
theorem sF (x:aX):aY x=[.str x.fName]++cx x.fSegment++[.slice (List.map aY x.fKids)]:=by show([.str x.fName]++cx x.fSegment++[.slice (gH x.fKids)]:List DV)=_;simp only[qJ]
attribute [push_cast] sF
theorem t7 {d0 d1 d2 d3:DV} {v0:List UInt8} {v1:fl} {v2:List aX} (h0:d0= .str v0) (h1:[d1,d2]=cx v1) (h2:d3= .slice (List.map aY v2)):[d0,d1,d2,d3]=aY ⟨v0,v1,v2⟩:=by rw[sF];simp only[h0,<-h1,h2,Mn,Mq,Mz,Mw]
structure l5 where
 fNames:List (List UInt8)
 fTag:List UInt8
 fElement:Int
 fPart:Int
 deriving DecidableEq
def iK (x:l5):List DV:=[.slice (List.map fG x.fNames),.str x.fTag,.int .i64 x.fElement,.int .i64 x.fPart]
attribute [push_cast] iK
theorem Ai {d0 d1 d2 d3:DV} {v0:List (List UInt8)} {v1:List UInt8} {v2:Int} {v3:Int} (h0:d0= .slice (List.map fG v0)) (h1:d1= .str v1) (h2:d2= .int .i64 v2) (h3:d3= .int .i64 v3):[d0,d1,d2,d3]=iK ⟨v0,v1,v2,v3⟩:=by unfold iK;simp only[h0,h1,h2,h3,Mn,Mq,Mz,Mw]
def rr:SC:=
 (.seq (.reg [.r 1 (.boxI (.t 0)),
   .r 2 (.mv (.c (.d (.bool false))))])
 (.seq (.reg (.r 3 (.fld 0 (.t 1)):: .o 4 (.ld1 (.t 3)):: .r 5 (.bin .eql (.t 4) (.c (.d (.str [])))):: .r 6 (.mv (.t 5))::aI [7,8,9,10] 6 true (.r 7 (.fld 1 (.t 1)):: .r 8 (.ld1 (.t 7)):: .r 9 (.len (.t 8)):: .r 10 (.bin .eql (.t 9) (.c (.d (.int .i64 0))))::[]) (.r 11 (.pick (.t 6) (.t 10) (.c (.d (.bool false)))):: .r 2 (.mv (.t 11))::[])))
 .ret))
theorem wU:fits Tryz.prog 128 Tryz.f128 rr [.t 2] 1=true:=oK
def gI:SC:=
 (.seq (.reg [.r 29 (.bin .lss (.t 28) (.t 27))])
 (.seq (.cond (.t 29)
  .any
  (.exit 2))
 .any))
def kV:SC:= .block 2 (.loop gI)
def gJ:SC:=
 (.seq (.reg [.r 14 (.bin .lss (.t 13) (.t 12))])
 (.seq (.cond (.t 14)
  .skip
  (.exit 0))
 (.seq (.block 1 (.seq (.reg [.r 15 (.idx 2 (.t 11) (.t 13)),
    .o 16 (.ldA 2 (.t 15)),
    .w 4 (.boxM (.c (.agg [.d (.str []),.nils]))),
    .w 0 (.st 2 (.t 4) (.t 16))])
  (.seq (.seq (.reg [.r 17 (.fld 0 (.t 4)),
    .o 18 (.ld1 (.t 17)),
    .c 19 (.f 52) [.t 18],
    .r 20 (.not (.t 19))])
  (.cond (.t 20)
   .any
   .skip))
  (.seq (.seq (.reg [.r 21 (.fld 1 (.t 4)),
    .o 22 (.ld1 (.t 21)),
    .r 23 (.len (.t 22)),
    .r 24 (.bin .gtr (.t 23) (.c (.d (.int .i64 50))))])
  (.cond (.t 24)
   .any
   .skip))
  (.seq (.reg [.r 25 (.fld 1 (.t 4)),
    .o 26 (.ld1 (.t 25)),
    .r 27 (.len (.t 26)),
    .r 28 (.mv (.c (.d (.int .i64 0))))])
  kV)))))
 (.reg [.r 38 (.bin .add (.t 13) (.c (.d (.int .i64 1)))),
   .r 13 (.mv (.t 38))]))))
def kW:SC:= .block 0 (.loop gJ)
def nf:SC:=
 (.seq (.reg [.r 2 (.mv (.c (.d (.int .i64 0))))])
 (.seq (.seq (.reg [.r 8 (.mv (.t 0)),
   .r 9 (.len (.t 8)),
   .r 10 (.bin .gtr (.t 9) (.c (.d (.int .i64 2000))))])
 (.cond (.t 10)
  .any
  .skip))
 (.seq (.seq (.reg [.r 11 (.mv (.t 0)),
   .r 12 (.len (.t 11)),
   .r 13 (.mv (.c (.d (.int .i64 0))))])
 kW)
 (.seq (.reg [.r 2 (.mv (.c (.d (.int .i64 0))))])
 .ret))))
theorem rX:fits Tryz.prog 26 Tryz.f26 nf [.t 2] 1=true:=oK
def cc:SC:=
 (.seq (.seq (.reg [.r 9 (.mv (.t 5)),
   .r 10 (.bin .geq (.t 9) (.c (.d (.int .i64 0))))])
 (.cond (.t 10)
  .skip
  (.exit 0)))
 (.seq (.block 1 (.seq (.reg [.r 13 (.mv (.t 0)),
    .r 14 (.mv (.t 5)),
    .r 15 (.sidx (.t 13) (.t 14)),
    .r 16 (.mv (.t 1)),
    .r 17 (.bin .eql (.t 15) (.t 16))])
  (.cond (.t 17)
   (.seq (.reg [.r 18 (.mv (.t 5)),
     .r 4 (.mv (.t 18))])
   .ret)
   .skip)))
 (.reg [.r 11 (.mv (.t 5)),
   .r 12 (.bin .sub (.t 11) (.c (.d (.int .i64 1)))),
   .r 5 (.mv (.t 12))])))
def dH:SC:= .block 0 (.loop cc)
def eq:SC:=
 (.seq (.reg [.r 4 (.mv (.c (.d (.int .i64 0))))])
 (.seq (.seq (.reg [.r 6 (.mv (.t 0)),
   .r 7 (.lenT (.t 6)),
   .r 8 (.bin .sub (.t 7) (.c (.d (.int .i64 1)))),
   .r 5 (.mv (.t 8))])
 dH)
 (.seq (.reg [.r 4 (.mv (.c (.d (.int .i64 (-1)))))])
 .ret)))
theorem jc:fits Tryz.prog 148 Tryz.f148 eq [.t 4] 2=true:=oK
def kF:SC:=
 (.seq (.reg [.r 18 (.bin .lss (.t 17) (.t 16))])
 (.seq (.cond (.t 18)
  .any
  (.exit 0))
 .any))
def o6:SC:= .block 0 (.loop kF)
def rt:SC:=
 (.seq (.reg [.r 4 (.mv (.c (.nils)))])
 (.seq (.reg [.r 13 (.mv (.t 0)),
   .r 14 (.bslice 1 [.t 13]),
   .r 5 (.mv (.t 14))])
 (.seq (.seq (.reg [.r 15 (.mv (.t 1)),
   .r 16 (.len (.t 15)),
   .r 17 (.mv (.c (.d (.int .i64 0))))])
 o6)
 (.seq (.reg [.r 46 (.mv (.t 5)),
   .r 4 (.mv (.t 46))])
 .ret))))
theorem wV:fits Tryz.prog 115 Tryz.f115 rt [.t 4] 2=true:=oK
set_option maxRecDepth 100000 in
set_option maxHeartbeats 40000000 in
noncomputable def dI:(∀ (x0:fl),{m:Option (Bool)//∀ r,m=some r->aa Tryz.prog 128 [.agg (cx x0)] (.bool r)})×(∀ (x0:List fl),{m:Option (Int)//∀ r,m=some r->aa Tryz.prog 26 [.slice (List.map cx x0)] (.int .i64 r)})×(∀ (x0:List UInt8) (x1:UInt8),{m:Option (Int)//∀ r,m=some r->aa Tryz.prog 148 [.str x0,.int .u8 (x1).toNat] (.int .i64 r)})×(∀ (x0:List aX) (x1:List (List UInt8)),{m:Option ((List (List aX)))//∀ r,m=some r->aa Tryz.prog 115 [.slice (List.map aY x0),.slice (List.map fG x1)] (.slice (List.map (tu aY) r))}):=by
 refine⟨?g0, ?g1, ?g2, ?g3⟩
 case' g0=>(intro x0;apply Subtype.mk;intro r hm;apply ag Tryz.func128 wU;unfold rr)
 case' g1=>(intro x0;apply Subtype.mk;intro r hm;apply ag Tryz.func26 rX;unfold nf)
 case' g2=>(intro x0 x1;apply Subtype.mk;intro r hm;apply ag Tryz.func148 jc;unfold eq)
 case' g3=>(intro x0 x1;apply Subtype.mk;intro r hm;apply ag Tryz.func115 wV;unfold rt)
 all_goals(repeat'(first|with_reducible refine bF ?_|with_reducible refine bu ?_|with_reducible refine bo ?_|with_reducible refine bl ?_|with_reducible refine bE ?_|with_reducible refine cg ?_|with_reducible refine bw ?_|with_reducible refine bG ?_|with_reducible refine cj ?_|with_reducible refine bA ?_|with_reducible refine br ?_|with_reducible refine bv ?_|with_reducible refine cF ?_|((with_reducible apply cu hm);(iterate 2 (simp only[push_cast,seval];rfl));(intro _;rfl);intro e hm)|((with_reducible apply nN hm);(iterate 2 (simp only[push_cast,seval];rfl));intro e hm)|((with_reducible apply iE);(simp only[push_cast,seval];rfl);(first|exact trivial))|(with_reducible apply wH hm)|((with_reducible apply ed hm);(simp only[push_cast,seval];rfl);rfl;intro v hm;rotate_left;intro v g hm)|((with_reducible apply ee hm);(simp only[push_cast,seval];rfl);(first|apply mR _);(any_goals((repeat'(first|rfl));done));intro x hm)|((with_reducible apply uU);(simp only[push_cast,seval];rfl);(first|exact trivial))|((with_reducible apply aM hm);(simp only[push_cast,seval];rfl);intro hm;rotate_left;intro hm)|((with_reducible apply bC hm);(focus(simp only[bk,cn,RV.get,push_cast,seval];rfl));(focus((repeat'(first|rfl|(with_reducible first|apply dh|apply di|apply gi)));done)))|((with_reducible apply bR hm);(simp only[push_cast,seval];rfl))|((with_reducible apply bH hm);intro r hm)|((with_reducible apply cb hm);intro r hm)|((apply aH (b:=2) (X:=kV) (x:=gI) rfl (fun(c:SV×SV×SV×SV×SV) (s:Unit)=>st [(11,c.1),(12,c.2.1),(13,c.2.2.1),(27,c.2.2.2.1),(28,c.2.2.2.2)] []) (c:=(_,_,_,_,_)) (s0:=()) hm);(focus(first|(dsimp only;done)));(with_reducible refine cA.mk ?_ ?_))|((apply aH (b:=0) (X:=kW) (x:=gJ) rfl (fun(c:SV×SV) (s:Int)=>st [(11,c.1),(12,c.2),(13,.d (.int .i64 s))] []) (c:=(_,_)) (s0:=_) hm);(focus(first|(dsimp only;done)));(with_reducible refine cA.mk ?_ ?_))|((apply aH (b:=0) (X:=dH) (x:=cc) rfl (fun(c:SV×SV) (s:Int)=>st [(0,c.1),(1,c.2),(5,.d (.int .i64 s))] []) (c:=(_,_)) (s0:=_) hm);(focus(first|(dsimp only;done)));(with_reducible refine cA.mk ?_ ?_))|((apply aH (b:=0) (X:=o6) (x:=kF) rfl (fun(c:SV×SV×SV) (s:Unit)=>st [(5,c.1),(16,c.2.1),(17,c.2.2)] []) (c:=(_,_,_)) (s0:=()) hm);(focus(first|(dsimp only;done)));(with_reducible refine cA.mk ?_ ?_))|((apply bB (s':=_) hm);(focus(first|(dsimp only;done))))|((apply ct (s':=_) hm);(focus(first|(dsimp only;done))))|(((with_reducible apply ew hm);intro r hm))|(((with_reducible apply dw.of);(focus(first|(dsimp only;done)));(focus((intro _;repeat'(first|with_reducible exact bg|with_reducible refine aR ?_|with_reducible refine cr ?_|((with_reducible refine eT ?_);intro _)|((with_reducible refine eU ?_);intro _)))));(intro s o hm;first|unfold gI|unfold gJ|unfold cc|unfold kF);rotate_left;intro s hm))|(((apply bI;(repeat'(first|with_reducible exact aT|with_reducible exact aU|with_reducible apply aJ|((with_reducible apply aZ);(focus(first|(simp only[push_cast,seval];rfl)));(focus((repeat'(first|rfl));done)))));done)))))
 all_goals(intros;exact())
noncomputable def yT (x0:fl):Option (Bool):=(dI.1 x0).1
theorem vZ (x0:fl):∀ r,yT x0=some r->aa Tryz.prog 128 [.agg (cx x0)] (.bool r):=(dI.1 x0).2
noncomputable def jU (x0:List fl):Option (Int):=(dI.2.1 x0).1
theorem ru (x0:List fl):∀ r,jU x0=some r->aa Tryz.prog 26 [.slice (List.map cx x0)] (.int .i64 r):=(dI.2.1 x0).2
noncomputable def eC (x0:List UInt8) (x1:UInt8):Option (Int):=(dI.2.2.1 x0 x1).1
theorem iV (x0:List UInt8) (x1:UInt8):∀ r,eC x0 x1=some r->aa Tryz.prog 148 [.str x0,.int .u8 (x1).toNat] (.int .i64 r):=(dI.2.2.1 x0 x1).2
noncomputable def sG (x0:List aX) (x1:List (List UInt8)):Option ((List (List aX))):=(dI.2.2.2 x0 x1).1
theorem v_ (x0:List aX) (x1:List (List UInt8)):∀ r,sG x0 x1=some r->aa Tryz.prog 115 [.slice (List.map aY x0),.slice (List.map fG x1)] (.slice (List.map (tu aY) r)):=(dI.2.2.2 x0 x1).2
def kX:SC:=
 (.seq (.reg [.r 4 (.mv (.c (.d (.int .i64 0))))])
 (.seq (.reg [.r 5 (.mv (.t 0)),
   .r 6 (.mv (.t 1)),
   .c 7 (.f 148) [.t 5,.t 6],
   .r 4 (.mv (.t 7))])
 .ret))
theorem ql:fits Tryz.prog 110 Tryz.f110 kX [.t 4] 2=true:=oK
def lD:SC:=
 (.seq (.reg [.r 26 (.bin .lss (.t 25) (.t 24))])
 (.seq (.cond (.t 26)
  .skip
  (.exit 2))
 (.seq (.block 3 (.seq (.reg [.r 27 (.idx 4 (.t 23) (.t 25)),
    .o 28 (.ldA 4 (.t 27)),
    .w 9 (.boxM (.c (.agg [.d (.str []),.d (.str []),.nils,.nils]))),
    .w 0 (.st 4 (.t 9) (.t 28))])
  (.seq (.seq (.reg (.r 29 (.fld 0 (.t 9)):: .o 30 (.ld1 (.t 29)):: .r 31 (.bin .neq (.t 30) (.c (.d (.str [])))):: .r 32 (.mv (.t 31))::aI [33,34,35,36,37,38] 32 false (.r 33 (.fld 1 (.t 9)):: .r 34 (.fld 0 (.t 33)):: .r 35 (.ld1 (.t 34)):: .r 36 (.fld 1 (.t 3)):: .r 37 (.ld1 (.t 36)):: .r 38 (.bin .neq (.t 35) (.t 37))::[]) (.r 39 (.pick (.t 32) (.c (.d (.bool true))) (.t 38))::[])))
  (.cond (.t 39)
   .any
   .skip))
  (.seq (.seq (.reg [.r 40 (.fld 2 (.t 3)),
    .o 41 (.ld1 (.t 40)),
    .r 42 (.bin .eql (.t 41) (.c (.d (.int .i64 0))))])
  (.cond (.t 42)
   (.seq (.reg [.r 43 (.mv (.t 5)),
     .r 44 (.fld 1 (.t 3)),
     .o 45 (.ld1 (.t 44)),
     .r 46 (.bslice 1 [.t 45]),
     .w 47 (.app 9 1 (.t 43) (.t 46)),
     .r 5 (.mv (.t 47))])
   (.exit 3))
   .any))
  .any))))
 (.reg [.r 90 (.bin .add (.t 25) (.c (.d (.int .i64 1)))),
   .r 25 (.mv (.t 90))]))))
def pX:SC:= .block 2 (.loop lD)
def lE:SC:=
 (.seq (.reg [.r 20 (.bin .lss (.t 19) (.t 18))])
 (.seq (.cond (.t 20)
  .skip
  (.exit 0))
 (.seq (.block 1 (.seq (.reg [.r 21 (.idx 1 (.t 17) (.t 19)),
    .o 22 (.ld1 (.t 21)),
    .r 7 (.mv (.t 22))])
  (.seq (.reg [.r 23 (.mv (.t 7)),
    .r 24 (.len (.t 23)),
    .r 25 (.mv (.c (.d (.int .i64 0))))])
  pX)))
 (.reg [.r 91 (.bin .add (.t 19) (.c (.d (.int .i64 1)))),
   .r 19 (.mv (.t 91))]))))
def pY:SC:= .block 0 (.loop lE)
def sH:SC:=
 (.seq (.reg [.r 3 (.boxI (.t 1)),
   .r 4 (.mv (.c (.nils)))])
 (.seq (.reg [.r 5 (.mv (.c (.nils)))])
 (.seq (.seq (.reg [.r 14 (.mv (.t 0)),
   .r 15 (.fld 0 (.t 3)),
   .o 16 (.ld1 (.t 15)),
   .c 17 (.f 115) [.t 14,.t 16],
   .r 18 (.len (.t 17)),
   .r 19 (.mv (.c (.d (.int .i64 0))))])
 pY)
 (.seq (.reg [.r 92 (.mv (.t 5)),
   .r 4 (.mv (.t 92))])
 .ret))))
theorem xY:fits Tryz.prog 69 Tryz.f69 sH [.t 4] 2=true:=oK
set_option maxRecDepth 100000 in
set_option maxHeartbeats 40000000 in
noncomputable def ka:(∀ (x0:List UInt8) (x1:UInt8),{m:Option (Int)//∀ r,m=some r->aa Tryz.prog 110 [.str x0,.int .u8 (x1).toNat] (.int .i64 r)})×(∀ (x0:List aX) (x1:l5),{m:Option ((List (List UInt8)))//∀ r,m=some r->aa Tryz.prog 69 [.slice (List.map aY x0),.agg (iK x1)] (.slice (List.map fG r))}):=by
 refine⟨?g0, ?g1⟩
 case' g0=>(intro x0 x1;apply Subtype.mk;intro r hm;apply ag Tryz.func110 ql;unfold kX)
 case' g1=>(intro x0 x1;apply Subtype.mk;intro r hm;apply ag Tryz.func69 xY;unfold sH)
 all_goals(repeat'(first|with_reducible refine bF ?_|with_reducible refine bu ?_|with_reducible refine bo ?_|with_reducible refine bl ?_|with_reducible refine bE ?_|with_reducible refine cg ?_|with_reducible refine bw ?_|with_reducible refine bG ?_|with_reducible refine cj ?_|with_reducible refine br ?_|with_reducible refine nW ?_|with_reducible refine cF ?_|((with_reducible apply cu hm);(iterate 2 (simp only[push_cast,seval];rfl));(intro _;rfl);intro e hm)|((with_reducible apply iE);(simp only[push_cast,seval];rfl);(first|exact trivial))|(with_reducible apply wH hm)|((with_reducible apply np hm);(simp only[push_cast,seval];rfl);rfl;intro v hm;rotate_left;intro v g hm)|((with_reducible apply ee hm);(simp only[push_cast,seval];rfl);(first|apply iV _ _|apply v_ _ _);(any_goals((repeat'(first|rfl));done));intro x hm)|((with_reducible apply uU);(simp only[push_cast,seval];rfl);(first|exact trivial))|((with_reducible apply vO hm);(iterate 4 (simp only[push_cast,seval];rfl));(focus((repeat'(first|rfl|(with_reducible first|apply dh|apply di|apply gi)));done));decide;(intro _;rfl);intro hm)|((with_reducible apply aM hm);(simp only[push_cast,seval];rfl);intro hm;rotate_left;intro hm)|((with_reducible apply bC hm);(focus(simp only[bk,cn,RV.get,push_cast,seval];rfl));(focus((repeat'(first|rfl));done)))|((with_reducible apply bR hm);(simp only[push_cast,seval];rfl))|((with_reducible apply bH hm);intro r hm)|((apply aH (b:=2) (X:=pX) (x:=lD) rfl (fun(c:SV×SV×SV×SV×SV×SV) (s:(List (List UInt8))×Int)=>st [(3,c.1),(5,.vec 5),(17,c.2.1),(18,c.2.2.1),(19,c.2.2.2.1),(23,c.2.2.2.2.1),(24,c.2.2.2.2.2),(25,.d (.int .i64 s.2))] [(5,.vec 9 1 (cm fG s.1))]) (c:=(_,_,_,_,_,_)) (s0:=(_,_)) hm);(focus(first|(dsimp only;done)));(with_reducible refine cA.mk ?_ ?_))|((apply aH (b:=0) (X:=pY) (x:=lE) rfl (fun(c:SV×SV×SV) (s:(List (List UInt8))×Int)=>st [(3,c.1),(5,.vec 5),(17,c.2.1),(18,c.2.2),(19,.d (.int .i64 s.2))] [(5,.vec 9 1 (cm fG s.1))]) (c:=(_,_,_)) (s0:=(_,_)) hm);(focus(first|(dsimp only;done)));(with_reducible refine cA.mk ?_ ?_);apply f0.trans;(focus(apply nm (slot:=5) (id:=5) (e:=9) (sz:=1);(focus(simp only[push_cast,seval];done)))))|((apply bB (s':=(_,_)) hm);(focus(first|(dsimp only;done))))|((apply ct (s':=(_,_)) hm);(focus(first|(dsimp only;done))))|(((with_reducible apply dw.of);(focus(first|(dsimp only;done)));(focus((intro _;repeat'(first|with_reducible exact bg|with_reducible refine aR ?_|with_reducible refine cr ?_|((with_reducible refine eT ?_);intro _)|((with_reducible refine eU ?_);intro _)))));(intro s o hm;first|unfold lD|unfold lE);rotate_left;intro s hm))|(((apply bI;(repeat'(first|with_reducible exact aT|with_reducible exact aU|with_reducible apply aJ|with_reducible apply c7|((with_reducible apply aZ);(focus(first|(simp only[push_cast,seval];rfl)));(focus((repeat'(first|rfl));done)))|((with_reducible apply iG);(focus(first|(simp only[push_cast,seval];rfl)));(first|with_reducible exact cT rfl|with_reducible apply ri))|(with_reducible first|apply BH)));done)))))
 all_goals(intros;exact())
noncomputable def h_ (x0:List UInt8) (x1:UInt8):Option (Int):=(ka.1 x0 x1).1
theorem pZ (x0:List UInt8) (x1:UInt8):∀ r,h_ x0 x1=some r->aa Tryz.prog 110 [.str x0,.int .u8 (x1).toNat] (.int .i64 r):=(ka.1 x0 x1).2
noncomputable def mJ (x0:List aX) (x1:l5):Option ((List (List UInt8))):=(ka.2 x0 x1).1
theorem wW (x0:List aX) (x1:l5):∀ r,mJ x0 x1=some r->aa Tryz.prog 69 [.slice (List.map aY x0),.agg (iK x1)] (.slice (List.map fG r)):=(ka.2 x0 x1).2
def ft:SC:=
 (.seq (.reg [.r 4 (.boxI (.t 1)),
   .r 6 (.mv (.c (.d (.int .i64 0))))])
 (.seq (.seq (.reg [.r 7 (.fld 0 (.t 4)),
   .o 8 (.ld1 (.t 7)),
   .r 9 (.bin .eql (.t 8) (.c (.d (.str []))))])
 (.cond (.t 9)
  (.reg [.r 10 (.mv (.t 0)),
    .r 11 (.nilc (.t 10)),
    .r 12 (.fld 0 (.t 11)),
    .o 13 (.ld1 (.t 12)),
    .r 14 (.bin .add (.t 13) (.c (.d (.int .i64 1)))),
    .r 15 (.nilc (.t 10)),
    .r 16 (.fld 0 (.t 15)),
    .w 0 (.st 1 (.t 16) (.t 14))])
  .any))
 (.seq (.block 0 (.seq (.reg (.r 18 (.mv (.t 0)):: .r 19 (.nilc (.t 18)):: .r 20 (.fld 0 (.t 19)):: .o 21 (.ld1 (.t 20)):: .r 22 (.bin .gtr (.t 21) (.c (.d (.int .i64 2000)))):: .r 23 (.mv (.t 22))::aI [24,25] 23 false (.r 24 (.mv (.t 2)):: .r 25 (.bin .gtr (.t 24) (.c (.d (.int .i64 6))))::[]) (.r 26 (.pick (.t 23) (.c (.d (.bool true))) (.t 25)):: .r 17 (.mv (.t 26))::[])))
  (.cond (.t 17)
   .any
   (.seq (.reg (.r 28 (.fld 0 (.t 4)):: .o 29 (.ld1 (.t 28)):: .r 30 (.bin .neq (.t 29) (.c (.d (.str [])))):: .r 31 (.mv (.t 30))::aI [32,33,34,35] 31 true (.r 32 (.fld 0 (.t 4)):: .r 33 (.ld1 (.t 32)):: .c 34 (.f 47) [.t 33]:: .r 35 (.not (.t 34))::[]) (.r 36 (.pick (.t 31) (.t 35) (.c (.d (.bool false)))):: .r 27 (.mv (.t 36))::[])))
   (.cond (.t 27)
    .any
    (.seq (.reg (.r 38 (.fld 0 (.t 4)):: .o 39 (.ld1 (.t 38)):: .r 40 (.bin .eql (.t 39) (.c (.d (.str [])))):: .r 41 (.mv (.t 40))::aI [42,43,44,45] 41 true (.r 42 (.fld 3 (.t 4)):: .r 43 (.ld1 (.t 42)):: .r 44 (.len (.t 43)):: .r 45 (.bin .gtr (.t 44) (.c (.d (.int .i64 0))))::[]) (.r 46 (.pick (.t 41) (.t 45) (.c (.d (.bool false)))):: .r 37 (.mv (.t 46))::[])))
    (.cond (.t 37)
     .any
     (.seq (.reg (.r 48 (.fld 0 (.t 4)):: .o 49 (.ld1 (.t 48)):: .r 50 (.bin .neq (.t 49) (.c (.d (.str [])))):: .r 51 (.mv (.t 50))::aI [52,53,54,55,56,57,58,59,60,61,62,63,64,65,66,67,68,69] 51 true (.r 52 (.fld 1 (.t 4)):: .r 53 (.ldA 2 (.t 52)):: .c 54 (.f 128) [.t 53]:: .r 55 (.not (.t 54)):: .r 56 (.mv (.t 55))::aI [57,58,59,60] 56 false (.r 57 (.fld 3 (.t 4)):: .r 58 (.ld1 (.t 57)):: .r 59 (.len (.t 58)):: .r 60 (.bin .eql (.t 59) (.c (.d (.int .i64 0))))::[]) (.r 61 (.pick (.t 56) (.c (.d (.bool true))) (.t 60)):: .r 62 (.mv (.t 61))::aI [63,64,65,66,67,68] 62 false (.r 63 (.fld 3 (.t 4)):: .r 64 (.ld1 (.t 63)):: .r 65 (.idx 4 (.t 64) (.c (.d (.int .i64 0)))):: .r 66 (.fld 0 (.t 65)):: .r 67 (.ld1 (.t 66)):: .r 68 (.bin .neq (.t 67) (.c (.d (.str []))))::[]) (.r 69 (.pick (.t 62) (.c (.d (.bool true))) (.t 68))::[]))) (.r 70 (.pick (.t 51) (.t 69) (.c (.d (.bool false)))):: .r 47 (.mv (.t 70))::[])))
     (.cond (.t 47)
      .any
      (.seq (.reg [.r 72 (.fld 0 (.t 4)),
        .o 73 (.ld1 (.t 72)),
        .r 74 (.bin .eql (.t 73) (.c (.d (.str [])))),
        .r 71 (.mv (.t 74))])
      (.cond (.t 71)
       (.seq (.reg [.r 75 (.fld 1 (.t 4)),
         .o 76 (.ldA 2 (.t 75)),
         .r 77 (.bslice 2 [.t 76]),
         .c 78 (.f 26) [.t 77],
         .r 6 (.mv (.t 78))])
       .ret)
       .any)))))))))))
 .any)))
theorem kG:fits Tryz.prog 87 Tryz.f87 ft [.t 6] 3=true:=oK
set_option maxRecDepth 100000 in
set_option maxHeartbeats 40000000 in
noncomputable def rY:(∀ (x0:cv) (x1:aX) (x2:Int),{m:Option ((Int)×cv)//∀ r,m=some r->cQ Tryz.prog 87 (.own (.pt [.sh]) (.ptr (cy x0))::List.map SV.d ([.agg (aY x1),.int .i64 x2]:List DV)) (.d (.int .i64 r.1)) (.own (.pt [.sh]) (.ptr (cy r.2))::List.map SV.d ([.agg (aY x1),.int .i64 x2]:List DV))}):=by
 (intro x0 x1 x2;apply Subtype.mk;intro r hm;apply jJ (N:=85) (k:=3) Tryz.func87 kG oK rfl rfl oD;unfold ft)
 repeat'(first|with_reducible refine bF ?_|with_reducible refine bu ?_|with_reducible refine bo ?_|with_reducible refine bE ?_|with_reducible refine bw ?_|with_reducible refine bG ?_|with_reducible refine bA ?_|with_reducible refine bv ?_|with_reducible refine cF ?_|((with_reducible apply cu hm);(iterate 2 (simp only[push_cast,seval];rfl));(intro _;rfl);intro e hm)|((with_reducible apply iE);(simp only[push_cast,seval];rfl);(first|exact trivial))|(with_reducible apply wH hm)|((with_reducible apply ed hm);(simp only[push_cast,seval];rfl);rfl;intro v hm;rotate_left;intro v g hm)|((with_reducible apply np hm);(simp only[push_cast,seval];rfl);rfl;intro v hm;rotate_left;intro v g hm)|((with_reducible apply ee hm);(simp only[push_cast,seval];rfl);(first|apply oV _|apply vZ _|apply ru _);(any_goals((repeat'(first|rfl|(with_reducible first|apply dh|apply dm|apply di|apply gi)));done));intro x hm)|((with_reducible apply uU);(simp only[push_cast,seval];rfl);(first|exact trivial))|((with_reducible apply aM hm);(simp only[push_cast,seval];rfl);intro hm;rotate_left;intro hm)|((with_reducible apply bR hm);(simp only[push_cast,seval];rfl))|(((with_reducible apply CB hm (ms:=[.sh]));(focus(exact f0.refl _));(focus(simp only[push_cast,seval];(try rfl);done));(focus((repeat'(first|(with_reducible first|apply js)|((with_reducible apply aZ);(focus(first|rfl));(focus((repeat'(first|rfl));done)))));done));(focus(intro _;rfl));(focus(simp only[push_cast,seval];(try rfl);done));(focus(simp only[push_cast,seval];(try rfl);done));(focus(simp only[push_cast,seval];(try rfl);done));(focus(simp only[push_cast,seval];(try rfl);done));(focus(first|(apply Jc;(focus((repeat'(first|rfl));done))))))))
 all_goals(intros;exact())
noncomputable def cd (x0:cv) (x1:aX) (x2:Int):Option ((Int)×cv):=(rY x0 x1 x2).1
theorem kb (x0:cv) (x1:aX) (x2:Int):∀ r,cd x0 x1 x2=some r->cQ Tryz.prog 87 (.own (.pt [.sh]) (.ptr (cy x0))::List.map SV.d ([.agg (aY x1),.int .i64 x2]:List DV)) (.d (.int .i64 r.1)) (.own (.pt [.sh]) (.ptr (cy r.2))::List.map SV.d ([.agg (aY x1),.int .i64 x2]:List DV)):=(rY x0 x1 x2).2
def lF:SC:=
 (.seq (.reg [.r 55 (.bin .lss (.t 54) (.t 53))])
 (.seq (.cond (.t 55)
  .any
  (.exit 0))
 .any))
def p4:SC:= .block 0 (.loop lF)
def sI:SC:=
 (.seq (.reg [.w 2 (.boxM (.c (.agg [.nils,.d (.str []),.d (.int .i64 0),.d (.int .i64 0)]))),
   .r 3 (.mv (.c (.d (.bool false))))])
 (.seq (.reg [.r 13 (.build [.nils,.d (.str []),.d (.int .i64 0),.d (.int .i64 0)] []),
   .w 4 (.boxM (.c (.agg [.nils,.d (.str []),.d (.int .i64 0),.d (.int .i64 0)]))),
   .w 0 (.st 4 (.t 4) (.t 13))])
 (.seq (.seq (.reg [.r 14 (.mv (.t 0)),
   .c 15 (.f 110) [.t 14,.c (.d (.int .u8 47))],
   .r 5 (.mv (.t 15))])
 (.seq (.reg [.r 16 (.mv (.t 5)),
   .r 17 (.bin .geq (.t 16) (.c (.d (.int .i64 0))))])
 (.cond (.t 17)
  .any
  .skip)))
 (.seq (.reg [.r 34 (.mv (.t 0)),
   .c 35 (.f 112) [.t 34,.c (.d (.str [46]))],
   .r 8 (.mv (.t 35))])
 (.seq (.seq (.reg (.r 36 (.mv (.t 8)):: .r 37 (.len (.t 36)):: .r 38 (.bin .gtr (.t 37) (.c (.d (.int .i64 3)))):: .r 39 (.mv (.t 38))::aI [40,41,42,43,44] 39 false (.r 40 (.mv (.t 8)):: .r 41 (.idx 1 (.t 40) (.c (.d (.int .i64 0)))):: .r 42 (.ld1 (.t 41)):: .c 43 (.f 52) [.t 42]:: .r 44 (.not (.t 43))::[]) (.r 45 (.pick (.t 39) (.c (.d (.bool true))) (.t 44))::[])))
 (.cond (.t 45)
  .any
  .skip))
 (.seq (.reg [.r 47 (.mv (.t 8)),
   .r 48 (.idx 1 (.t 47) (.c (.d (.int .i64 0)))),
   .o 49 (.ld1 (.t 48)),
   .r 50 (.fld 1 (.t 4)),
   .w 0 (.st 1 (.t 50) (.t 49))])
 (.seq (.seq (.reg [.r 51 (.mv (.t 8)),
   .r 52 (.slc 1 (.t 51) (some (.c (.d (.int .i64 1)))) none),
   .r 53 (.len (.t 52)),
   .r 54 (.mv (.c (.d (.int .i64 0))))])
 p4)
 (.seq (.reg [.o 82 (.ldA 4 (.t 4)),
   .w 0 (.st 4 (.t 2) (.t 82)),
   .r 3 (.mv (.c (.d (.bool true))))])
 .ret))))))))
theorem xZ:fits Tryz.prog 68 Tryz.f68 sI [.cell 2 4,.t 3] 1=true:=oK
set_option maxRecDepth 100000 in
set_option maxHeartbeats 40000000 in
noncomputable def rZ:(∀ (x0:List UInt8),{m:Option (l5×Bool)//∀ r,m=some r->aa Tryz.prog 68 [.str x0] (.tup [.agg (iK r.1),.bool r.2])}):=by
 (intro x0;apply Subtype.mk;intro r hm;apply ag Tryz.func68 xZ;unfold sI)
 repeat'(first|with_reducible refine bF ?_|with_reducible refine bu ?_|with_reducible refine bl ?_|with_reducible refine bE ?_|with_reducible refine cg ?_|with_reducible refine bw ?_|with_reducible refine bG ?_|with_reducible refine cj ?_|with_reducible refine cF ?_|((with_reducible apply cu hm);(iterate 2 (simp only[push_cast,seval];rfl));(intro _;rfl);intro e hm)|((with_reducible apply Cy hm);(iterate 3 (simp only[push_cast,seval];rfl));(intro _;rfl);intro e hm)|((with_reducible apply iE);(simp only[push_cast,seval];rfl);(first|exact trivial))|(with_reducible apply wH hm)|((with_reducible apply np hm);(simp only[push_cast,seval];rfl);rfl;intro v hm;rotate_left;intro v g hm)|((with_reducible apply ee hm);(simp only[push_cast,seval];rfl);(first|apply pZ _ _|apply wg _ _|apply mR _);(any_goals((repeat'(first|rfl|(with_reducible first|apply dm)|(with_reducible apply EN;decide)));done));intro x hm)|((with_reducible apply uU);(simp only[push_cast,seval];rfl);(first|exact trivial))|((with_reducible apply aM hm);(simp only[push_cast,seval];rfl);intro hm;rotate_left;intro hm)|((with_reducible apply iF hm);(focus(simp only[bk,cn,RV.get,push_cast,seval];rfl));(focus(first|(dsimp only;done)));(focus((repeat'(first|rfl|(with_reducible first|apply Ai|apply vn|apply na|apply dh|apply dm|apply di)));done)))|((with_reducible apply bR hm);(simp only[push_cast,seval];rfl))|((with_reducible apply bH hm);intro r hm)|((apply aH (b:=0) (X:=p4) (x:=lF) rfl (fun(c:Ch×Ch×SV×SV) (s:Unit)=>st [(2,.ref 2 0),(4,.ref 4 0),(53,c.2.2.1),(54,c.2.2.2)] [(2,c.1),(4,c.2.1)]) (c:=(_,_,_,_)) (s0:=()) hm);(focus(first|(dsimp only;done)));(with_reducible refine cA.mk ?_ ?_))|((apply ct (s':=()) hm);(focus(first|(dsimp only;done))))|(((with_reducible apply dw.of);(focus(first|(dsimp only;done)));(focus((intro _;repeat'(first|with_reducible exact bg|with_reducible refine aR ?_))));(intro s o hm;first|unfold lF);rotate_left;intro s hm))|(((apply bI;(repeat'(first|with_reducible exact aT|with_reducible exact aU|with_reducible apply aJ|with_reducible apply c7|((with_reducible apply aZ);(focus(first|(simp only[push_cast,seval];rfl)));(focus((repeat'(first|rfl));done)))|((with_reducible apply iG);(focus(first|(simp only[push_cast,seval];rfl)));(first|with_reducible exact cT rfl))));done))))
 all_goals(intros;exact())
noncomputable def p5 (x0:List UInt8):Option (l5×Bool):=(rZ x0).1
theorem qK (x0:List UInt8):∀ r,p5 x0=some r->aa Tryz.prog 68 [.str x0] (.tup [.agg (iK r.1),.bool r.2]):=(rZ x0).2
def cJ:SC:=
 (.seq (.reg [.r 13 (.bin .lss (.t 12) (.t 11))])
 (.seq (.cond (.t 13)
  .skip
  (.exit 0))
 (.seq (.block 1 (.seq (.reg [.r 14 (.idx 4 (.t 10) (.t 12)),
    .o 15 (.ldA 4 (.t 14)),
    .w 8 (.boxM (.c (.agg [.d (.str []),.d (.str []),.nils,.nils]))),
    .w 0 (.st 4 (.t 8) (.t 15))])
  (.seq (.reg [.r 16 (.mv (.t 0)),
    .o 17 (.ldA 4 (.t 8)),
    .r 18 (.mv (.t 2)),
    .p (some 19) (.f 87) [.t 16,.t 17,.t 18],
    .r 9 (.mv (.t 19))])
  (.seq (.reg [.r 20 (.mv (.t 9)),
    .r 21 (.bin .neq (.t 20) (.c (.d (.int .i64 0))))])
  (.cond (.t 21)
   .any
   .skip)))))
 (.reg [.r 23 (.bin .add (.t 12) (.c (.d (.int .i64 1)))),
   .r 12 (.mv (.t 23))]))))
def eW:SC:= .block 0 (.loop cJ)
def f8:SC:=
 (.seq (.reg [.r 6 (.mv (.c (.d (.int .i64 0))))])
 (.seq (.seq (.reg [.r 10 (.mv (.t 1)),
   .r 11 (.len (.t 10)),
   .r 12 (.mv (.c (.d (.int .i64 0))))])
 eW)
 (.seq (.reg [.r 6 (.mv (.c (.d (.int .i64 0))))])
 .ret)))
theorem lG:fits Tryz.prog 39 Tryz.f39 f8 [.t 6] 3=true:=oK
set_option maxRecDepth 100000 in
set_option maxHeartbeats 40000000 in
noncomputable def r_:(∀ (x0:cv) (x1:List aX) (x2:Int),{m:Option ((Int)×cv)//∀ r,m=some r->cQ Tryz.prog 39 (.own (.pt [.sh]) (.ptr (cy x0))::List.map SV.d ([.slice (List.map aY x1),.int .i64 x2]:List DV)) (.d (.int .i64 r.1)) (.own (.pt [.sh]) (.ptr (cy r.2))::List.map SV.d ([.slice (List.map aY x1),.int .i64 x2]:List DV))}):=by
 (intro x0 x1 x2;apply Subtype.mk;intro r hm;apply jJ (N:=24) (k:=3) Tryz.func39 lG oK rfl rfl oD;unfold f8)
 repeat'(first|with_reducible refine bF ?_|with_reducible refine bu ?_|with_reducible refine bo ?_|with_reducible refine bl ?_|with_reducible refine bE ?_|with_reducible refine cg ?_|with_reducible refine bw ?_|with_reducible refine bG ?_|with_reducible refine cj ?_|with_reducible refine br ?_|with_reducible refine cF ?_|((with_reducible apply cu hm);(iterate 2 (simp only[push_cast,seval];rfl));(intro _;rfl);intro e hm)|((with_reducible apply iE);(simp only[push_cast,seval];rfl);(first|exact trivial))|(with_reducible apply wH hm)|((with_reducible apply uU);(simp only[push_cast,seval];rfl);(first|exact trivial))|((with_reducible apply aM hm);(simp only[push_cast,seval];rfl);intro hm;rotate_left;intro hm)|((with_reducible apply bH hm);intro r hm)|((apply aH (b:=0) (X:=eW) (x:=cJ) rfl (fun(c:SV×SV×SV×SV×SV) (s:Int×Int)=>st [(0,.ref 0 0),(2,c.1),(10,c.2.1),(11,c.2.2.1),(12,.d (.int .i64 s.2)),(24,.ref 0 0),(25,c.2.2.2.1),(26,c.2.2.2.2)] [(0,.box (qI s.1))]) (c:=(_,_,_,_,_)) (s0:=(_,_)) hm);(focus(first|(dsimp only;done)));(with_reducible refine cA.mk ?_ ?_))|((apply bB (s':=(_,_)) hm);(focus(first|(dsimp only;done))))|((apply ct (s':=(_,_)) hm);(focus(first|(dsimp only;done))))|(((with_reducible apply GB hm (id:=0) (ms:=[.sh]));(focus(exact f0.refl _));(focus(simp only[push_cast,seval];(try rfl);done));(focus(simp only[push_cast,seval];(try rfl);done));(focus(simp only[push_cast,seval];(try rfl);done));(focus((repeat'(first|(with_reducible first|apply js)|((with_reducible apply aZ);(focus(first|rfl));(focus((repeat'(first|rfl));done)))));done));(focus rfl);(first|apply kb _ _ _);(any_goals(focus((repeat'(first|rfl|(with_reducible first|apply t7|apply na|apply dm)));done)));(focus(intro _;exact⟨rfl,rfl,rfl⟩));intro y hm))|(((with_reducible apply CB hm (ms:=[.sh]));(focus(exact f0.refl _));(focus(simp only[push_cast,seval];(try rfl);done));(focus((repeat'(first|(with_reducible first|apply js)|((with_reducible apply aZ);(focus(first|rfl));(focus((repeat'(first|rfl));done)))));done));(focus(intro _;rfl));(focus(simp only[push_cast,seval];(try rfl);done));(focus(simp only[push_cast,seval];(try rfl);done));(focus(simp only[push_cast,seval];(try rfl);done));(focus(simp only[push_cast,seval];(try rfl);done));(focus(first|(apply Jc;(focus((repeat'(first|rfl));done)))))))|(((with_reducible apply dw.of);(focus(first|(dsimp only;done)));(focus((intro _;repeat'(first|with_reducible exact nq|with_reducible refine aR ?_))));(intro s o hm;first|unfold cJ);rotate_left;intro s hm))|(((apply bI;(repeat'(first|with_reducible exact aT|with_reducible exact aU|with_reducible apply aJ|with_reducible apply c7|((with_reducible apply aZ);(focus(first|(simp only[push_cast,seval];rfl)));(focus((repeat'(first|rfl));done)))|((with_reducible apply iG);(focus(first|(simp only[push_cast,seval];rfl)));(first|with_reducible exact cT rfl))));done))))
 all_goals(intros;exact())
noncomputable def go (x0:cv) (x1:List aX) (x2:Int):Option ((Int)×cv):=(r_ x0 x1 x2).1
theorem kY (x0:cv) (x1:List aX) (x2:Int):∀ r,go x0 x1 x2=some r->cQ Tryz.prog 39 (.own (.pt [.sh]) (.ptr (cy x0))::List.map SV.d ([.slice (List.map aY x1),.int .i64 x2]:List DV)) (.d (.int .i64 r.1)) (.own (.pt [.sh]) (.ptr (cy r.2))::List.map SV.d ([.slice (List.map aY x1),.int .i64 x2]:List DV)):=(r_ x0 x1 x2).2
def o7:SC:=
 (.seq (.reg [.r 2 (.mv (.c (.d (.int .i64 0))))])
 (.seq (.seq (.reg [.r 5 (.mv (.t 0)),
   .r 6 (.lenT (.t 5)),
   .r 7 (.bin .gtr (.t 6) (.c (.d (.int .i64 200))))])
 (.cond (.t 7)
  .any
  .skip))
 (.seq (.seq (.reg [.r 9 (.mv (.t 0)),
   .c 10 (.f 68) [.t 9],
   .r 8 (.mv (.t 10)),
   .r 11 (.ext (.t 8) 0),
   .r 12 (.ext (.t 8) 1),
   .w 3 (.boxM (.c (.agg [.nils,.d (.str []),.d (.int .i64 0),.d (.int .i64 0)]))),
   .w 0 (.st 4 (.t 3) (.t 11)),
   .r 4 (.mv (.t 12))])
 (.seq (.reg [.r 13 (.mv (.t 4)),
   .r 14 (.not (.t 13))])
 (.cond (.t 14)
  .any
  .skip)))
 (.seq (.reg [.r 2 (.mv (.c (.d (.int .i64 0))))])
 .ret))))
theorem t8:fits Tryz.prog 67 Tryz.f67 o7 [.t 2] 1=true:=oK
set_option maxRecDepth 100000 in
set_option maxHeartbeats 40000000 in
noncomputable def sc:(∀ (x0:List UInt8),{m:Option (Int)//∀ r,m=some r->aa Tryz.prog 67 [.str x0] (.int .i64 r)}):=by
 (intro x0;apply Subtype.mk;intro r hm;apply ag Tryz.func67 t8;unfold o7)
 repeat'(first|with_reducible refine bF ?_|with_reducible refine bu ?_|with_reducible refine bl ?_|with_reducible refine bE ?_|with_reducible refine bw ?_|with_reducible refine bG ?_|((with_reducible apply iE);(simp only[push_cast,seval];rfl);(first|exact trivial))|(with_reducible apply wH hm)|((with_reducible apply ee hm);(simp only[push_cast,seval];rfl);(first|apply qK _);(any_goals((repeat'(first|rfl));done));intro x hm)|((with_reducible apply uU);(simp only[push_cast,seval];rfl);(first|exact trivial))|((with_reducible apply aM hm);(simp only[push_cast,seval];rfl);intro hm;rotate_left;intro hm)|((with_reducible apply bC hm);(focus(simp only[bk,cn,RV.get,push_cast,seval];rfl));(focus((repeat'(first|rfl));done))))
 all_goals(intros;exact())
noncomputable def p6 (x0:List UInt8):Option (Int):=(sc x0).1
theorem sU (x0:List UInt8):∀ r,p6 x0=some r->aa Tryz.prog 67 [.str x0] (.int .i64 r):=(sc x0).2
def o8:SC:=
 (.seq (.reg [.r 2 (.mv (.c (.d (.int .i64 0))))])
 (.seq (.reg [.r 3 (.build [.d (.int .i64 0)] []),
   .w 4 (.boxM (.t 3)),
   .r 5 (.mv (.t 0)),
   .p (some 6) (.f 39) [.t 4,.t 5,.c (.d (.int .i64 0))],
   .r 2 (.mv (.t 6))])
 .ret))
theorem t_:fits Tryz.prog 18 Tryz.f18 o8 [.t 2] 1=true:=oK
set_option maxRecDepth 100000 in
set_option maxHeartbeats 40000000 in
noncomputable def sd:(∀ (x0:List aX),{m:Option (Int)//∀ r,m=some r->aa Tryz.prog 18 [.slice (List.map aY x0)] (.int .i64 r)}):=by
 (intro x0;apply Subtype.mk;intro r hm;apply ag Tryz.func18 t_;unfold o8)
 repeat'(first|with_reducible refine bF ?_|with_reducible refine bu ?_|with_reducible refine bE ?_|with_reducible refine bw ?_|with_reducible refine bG ?_|((with_reducible apply iE);(simp only[push_cast,seval];rfl);(first|exact trivial))|((with_reducible apply uU);(simp only[push_cast,seval];rfl);(first|exact trivial))|((with_reducible apply bC hm);(focus(simp only[bk,cn,RV.get,push_cast,seval];rfl));(focus((repeat'(first|rfl));done)))|(((with_reducible apply GB hm (id:=4) (ms:=[.sh]));(focus(exact f0.refl _));(focus(simp only[push_cast,seval];(try rfl);done));(focus(simp only[push_cast,seval];(try rfl);done));(focus(simp only[push_cast,seval];(try rfl);done));(focus((repeat'(first|(with_reducible first|apply js)|((with_reducible apply aZ);(focus(first|rfl));(focus((repeat'(first|rfl));done)))));done));(focus rfl);(first|apply kY _ _ _);(any_goals(focus((repeat'(first|rfl));done)));(focus(intro _;exact⟨rfl,rfl,rfl⟩));intro y hm)))
noncomputable def lH (x0:List aX):Option (Int):=(sd x0).1
theorem sV (x0:List aX):∀ r,lH x0=some r->aa Tryz.prog 18 [.slice (List.map aY x0)] (.int .i64 r):=(sd x0).2
def ua:SC:=
 (.seq (.reg [.r 4 (.mv (.c (.nils))),
   .r 5 (.mv (.c (.d (.int .i64 0))))])
 (.seq (.seq (.reg [.r 10 (.mv (.t 0)),
   .c 11 (.f 18) [.t 10],
   .r 6 (.mv (.t 11))])
 (.seq (.reg [.r 12 (.mv (.t 6)),
   .r 13 (.bin .neq (.t 12) (.c (.d (.int .i64 0))))])
 (.cond (.t 13)
  (.seq (.reg [.r 14 (.mv (.t 6)),
    .r 4 (.mv (.c (.nils))),
    .r 5 (.mv (.t 14))])
  .ret)
  .skip)))
 (.seq (.seq (.reg [.r 15 (.mv (.t 1)),
   .c 16 (.f 67) [.t 15],
   .r 7 (.mv (.t 16))])
 (.seq (.reg [.r 17 (.mv (.t 7)),
   .r 18 (.bin .neq (.t 17) (.c (.d (.int .i64 0))))])
 (.cond (.t 18)
  (.seq (.reg [.r 19 (.mv (.t 7)),
    .r 4 (.mv (.c (.nils))),
    .r 5 (.mv (.t 19))])
  .ret)
  .skip)))
 (.seq (.reg [.r 21 (.mv (.t 1)),
   .c 22 (.f 68) [.t 21],
   .r 20 (.mv (.t 22)),
   .r 23 (.ext (.t 20) 0),
   .r 24 (.ext (.t 20) 1),
   .w 8 (.boxM (.c (.agg [.nils,.d (.str []),.d (.int .i64 0),.d (.int .i64 0)]))),
   .w 0 (.st 4 (.t 8) (.t 23)),
   .r 9 (.mv (.t 24))])
 (.seq (.reg [.r 25 (.mv (.t 0)),
   .o 26 (.ldA 4 (.t 8)),
   .c 27 (.f 69) [.t 25,.t 26],
   .r 4 (.mv (.t 27)),
   .r 5 (.mv (.c (.d (.int .i64 0))))])
 .ret)))))
theorem yU:fits Tryz.prog 31 Tryz.f31 ua [.t 4,.t 5] 2=true:=oK
set_option maxRecDepth 100000 in
set_option maxHeartbeats 40000000 in
noncomputable def se:(∀ (x0:List aX) (x1:List UInt8),{m:Option ((List (List UInt8))×Int)//∀ r,m=some r->aa Tryz.prog 31 [.slice (List.map aY x0),.str x1] (.tup [.slice (List.map fG r.1),.int .i64 r.2])}):=by
 (intro x0 x1;apply Subtype.mk;intro r hm;apply ag Tryz.func31 yU;unfold ua)
 repeat'(first|with_reducible refine bF ?_|with_reducible refine bu ?_|with_reducible refine bl ?_|with_reducible refine bE ?_|with_reducible refine bw ?_|with_reducible refine bG ?_|with_reducible refine bA ?_|with_reducible refine cF ?_|((with_reducible apply iE);(simp only[push_cast,seval];rfl);(first|exact trivial))|((with_reducible apply ee hm);(simp only[push_cast,seval];rfl);(first|apply sV _|apply sU _|apply qK _|apply wW _ _);(any_goals((repeat'(first|rfl));done));intro x hm)|((with_reducible apply uU);(simp only[push_cast,seval];rfl);(first|exact trivial))|((with_reducible apply aM hm);(simp only[push_cast,seval];rfl);intro hm;rotate_left;intro hm)|((with_reducible apply iF hm);(focus(simp only[bk,cn,RV.get,push_cast,seval];rfl));(focus(first|(dsimp only;done)));(focus((repeat'(first|rfl|(with_reducible first|apply vn|apply dh|apply dm|apply di)));done))))
noncomputable def vp (x0:List aX) (x1:List UInt8):Option ((List (List UInt8))×Int):=(se x0 x1).1
theorem x5 (x0:List aX) (x1:List UInt8):∀ r,vp x0 x1=some r->aa Tryz.prog 31 [.slice (List.map aY x0),.str x1] (.tup [.slice (List.map fG r.1),.int .i64 r.2]):=(se x0 x1).2
def kZ:SC:=
 (.seq (.reg [.r 0 (.mv (.c (.d (.bool false))))])
 (.seq (.reg [.r 4 (.build [.d (.str []),.nils] [(0,1,.c (.d (.str [66,71,77])))]),
   .r 5 (.build [.d (.str []),.d (.str []),.nils,.nils] [(1,2,.t 4)]),
   .r 6 (.bslice 4 [.t 5]),
   .c 7 (.f 31) [.t 6,.c (.d (.str [66,71,77]))],
   .r 3 (.mv (.t 7)),
   .r 8 (.ext (.t 3) 0),
   .r 9 (.ext (.t 3) 1),
   .r 1 (.mv (.t 8)),
   .r 2 (.mv (.t 9))])
 (.seq (.reg (.r 10 (.mv (.t 2)):: .r 11 (.bin .eql (.t 10) (.c (.d (.int .i64 0)))):: .r 12 (.mv (.t 11))::aI [13,14,15] 12 true (.r 13 (.mv (.t 1)):: .r 14 (.len (.t 13)):: .r 15 (.bin .eql (.t 14) (.c (.d (.int .i64 1))))::[]) (.r 16 (.pick (.t 12) (.t 15) (.c (.d (.bool false)))):: .r 17 (.mv (.t 16))::aI [18,19,20,21] 17 true (.r 18 (.mv (.t 1)):: .r 19 (.idx 1 (.t 18) (.c (.d (.int .i64 0)))):: .r 20 (.ld1 (.t 19)):: .r 21 (.bin .eql (.t 20) (.c (.d (.str [66,71,77]))))::[]) (.r 22 (.pick (.t 17) (.t 21) (.c (.d (.bool false)))):: .r 0 (.mv (.t 22))::[]))))
 .ret)))
theorem qm:fits Tryz.prog 10 Tryz.f10 kZ [.t 0] 0=true:=oK
set_option maxRecDepth 100000 in
set_option maxHeartbeats 40000000 in
noncomputable def sf:({m:Option (Bool)//∀ r,m=some r->aa Tryz.prog 10 [] (.bool r)}):=by
 (apply Subtype.mk;intro r hm;apply ag Tryz.func10 qm;unfold kZ)
 repeat'(first|with_reducible refine bF ?_|with_reducible refine bu ?_|with_reducible refine bE ?_|with_reducible refine bw ?_|with_reducible refine bG ?_|((with_reducible apply cu hm);(iterate 2 (simp only[push_cast,seval];rfl));(intro _;rfl);intro e hm)|((with_reducible apply iE);(simp only[push_cast,seval];rfl);(first|exact trivial))|((with_reducible apply ed hm);(simp only[push_cast,seval];rfl);rfl;intro v hm;rotate_left;intro v g hm)|((with_reducible apply ee hm);(simp only[push_cast,seval];rfl);(first|apply x5 _ _);(any_goals((repeat'(first|rfl|(with_reducible first|apply yS|apply t7|apply dh|apply dm|apply di|apply gi)));done));intro x hm)|((with_reducible apply bC hm);(focus(simp only[bk,cn,RV.get,push_cast,seval];rfl));(focus((repeat'(first|rfl));done)))|((with_reducible apply bR hm);(simp only[push_cast,seval];rfl)))
noncomputable def ia:Option (Bool):=(sf).1
theorem p7:∀ r,ia=some r->aa Tryz.prog 10 [] (.bool r):=(sf).2
def be:SC:=
 (.seq (.reg [.r 14 (.bin .lss (.t 13) (.t 12))])
 (.seq (.cond (.t 14)
  .skip
  (.exit 0))
 (.seq (.block 1 (.seq (.reg [.r 15 (.mv (.t 13)),
    .r 5 (.mv (.t 15))])
  (.seq (.regD [.r 16 (.mv (.t 0)),
    .r 17 (.mv (.t 5)),
    .r 18 (.idx 2 (.t 16) (.t 17)),
    .r 19 (.ldA 2 (.t 18)),
    .r 20 (.mv (.t 1)),
    .r 21 (.mv (.t 5)),
    .r 22 (.idx 2 (.t 20) (.t 21)),
    .r 23 (.ldA 2 (.t 22)),
    .r 24 (.eqs .neq [.str,(.int .i64)] (.t 19) (.t 23))])
  (.cond (.t 24)
   (.seq (.reg [.r 4 (.mv (.c (.d (.bool false))))])
   .ret)
   .skip))))
 (.reg [.r 25 (.bin .add (.t 13) (.c (.d (.int .i64 1)))),
   .r 13 (.mv (.t 25))]))))
def bS:SC:= .block 0 (.loop be)
def b0:SC:=
 (.seq (.reg [.r 4 (.mv (.c (.d (.bool false))))])
 (.seq (.seq (.reg [.r 6 (.mv (.t 0)),
   .r 7 (.len (.t 6)),
   .r 8 (.mv (.t 1)),
   .r 9 (.len (.t 8)),
   .r 10 (.bin .neq (.t 7) (.t 9))])
 (.cond (.t 10)
  (.seq (.reg [.r 4 (.mv (.c (.d (.bool false))))])
  .ret)
  .skip))
 (.seq (.seq (.reg [.r 11 (.mv (.t 0)),
   .r 12 (.len (.t 11)),
   .r 13 (.mv (.c (.d (.int .i64 0))))])
 bS)
 (.seq (.reg [.r 4 (.mv (.c (.d (.bool true))))])
 .ret))))
theorem d9:fits Tryz.prog 13 Tryz.f13 b0 [.t 4] 2=true:=oK
set_option maxRecDepth 100000 in
set_option maxHeartbeats 40000000 in
noncomputable def sg:(∀ (x0:List bh) (x1:List bh),{m:Option (Bool)//∀ r,m=some r->aa Tryz.prog 13 [.slice (List.map aE x0),.slice (List.map aE x1)] (.bool r)}):=by
 (intro x0 x1;apply Subtype.mk;intro r hm;apply ag Tryz.func13 d9;unfold b0)
 repeat'(first|with_reducible refine bF ?_|with_reducible refine bu ?_|with_reducible refine ou ?_|with_reducible refine bo ?_|with_reducible refine bl ?_|with_reducible refine bE ?_|with_reducible refine cg ?_|with_reducible refine bw ?_|with_reducible refine bG ?_|with_reducible refine cj ?_|with_reducible refine bA ?_|with_reducible refine br ?_|with_reducible refine bv ?_|((with_reducible apply cu hm);(iterate 2 (simp only[push_cast,seval];rfl));(intro _;rfl);intro e hm)|((with_reducible apply iE);(simp only[push_cast,seval];rfl);(first|exact trivial))|((with_reducible apply aM hm);(simp only[push_cast,seval];rfl);intro hm;rotate_left;intro hm)|((with_reducible apply bC hm);(focus(simp only[bk,cn,RV.get,push_cast,seval];rfl));(focus((repeat'(first|rfl));done)))|((with_reducible apply bH hm);intro r hm)|((with_reducible apply cb hm);intro r hm)|((apply aH (b:=0) (X:=bS) (x:=be) rfl (fun(c:SV×SV×SV) (s:Int)=>st [(0,c.1),(1,c.2.1),(12,c.2.2),(13,.d (.int .i64 s))] []) (c:=(_,_,_)) (s0:=_) hm);(focus(first|(dsimp only;done)));(with_reducible refine cA.mk ?_ ?_))|((apply bB (s':=_) hm);(focus(first|(dsimp only;done))))|((apply ct (s':=_) hm);(focus(first|(dsimp only;done))))|(((with_reducible apply ew hm);intro r hm))|(((with_reducible apply dw.of);(focus(first|(dsimp only;done)));(focus((intro _;repeat'(first|with_reducible exact bg|with_reducible refine aR ?_))));(intro s o hm;first|unfold be);rotate_left;intro s hm))|(((apply bI;(repeat'(first|with_reducible exact aT|with_reducible exact aU|with_reducible apply aJ|((with_reducible apply aZ);(focus(first|(simp only[push_cast,seval];rfl)));(focus((repeat'(first|rfl));done)))));done))))
noncomputable def bj (x0:List bh) (x1:List bh):Option (Bool):=(sg x0 x1).1
theorem dP (x0:List bh) (x1:List bh):∀ r,bj x0 x1=some r->aa Tryz.prog 13 [.slice (List.map aE x0),.slice (List.map aE x1)] (.bool r):=(sg x0 x1).2
def dx:SC:=
 (.seq (.reg [.r 2 (.boxI (.t 0)),
   .r 3 (.boxI (.t 1)),
   .r 4 (.mv (.c (.d (.bool false))))])
 (.seq (.reg [.o 10 (.ldA 4 (.t 2)),
   .o 11 (.ldA 4 (.t 3)),
   .c 12 (.f 11) [.t 10,.t 11],
   .r 9 (.mv (.t 12)),
   .r 13 (.ext (.t 9) 0),
   .r 14 (.ext (.t 9) 1),
   .r 5 (.mv (.t 13)),
   .r 6 (.mv (.t 14))])
 (.seq (.reg [.o 16 (.ldA 4 (.t 2)),
   .o 17 (.ldA 4 (.t 3)),
   .c 18 (.f 12) [.t 16,.t 17],
   .r 15 (.mv (.t 18)),
   .r 19 (.ext (.t 15) 0),
   .r 20 (.ext (.t 15) 1),
   .r 7 (.mv (.t 19)),
   .r 8 (.mv (.t 20))])
 (.seq (.reg (.r 21 (.mv (.t 5)):: .r 22 (.mv (.t 7)):: .c 23 (.f 13) [.t 21,.t 22]:: .r 24 (.mv (.t 23))::aI [25,26,27] 24 true (.r 25 (.mv (.t 6)):: .r 26 (.mv (.t 8)):: .r 27 (.bin .eql (.t 25) (.t 26))::[]) (.r 28 (.pick (.t 24) (.t 27) (.c (.d (.bool false)))):: .r 29 (.mv (.t 28))::aI [30] 29 true (.c 30 (.f 10) []::[]) (.r 31 (.pick (.t 29) (.t 30) (.c (.d (.bool false)))):: .r 4 (.mv (.t 31))::[]))))
 .ret))))
theorem ib:fits Tryz.prog 4 Tryz.f4 dx [.t 4] 2=true:=oK
set_option maxRecDepth 100000 in
set_option maxHeartbeats 40000000 in
noncomputable def si:(∀ (x0:ae) (x1:ae),{m:Option (Bool)//∀ r,m=some r->aa Tryz.prog 4 [.agg (ai x0),.agg (ai x1)] (.bool r)}):=by
 (intro x0 x1;apply Subtype.mk;intro r hm;apply ag Tryz.func4 ib;unfold dx)
 repeat'(first|with_reducible refine bF ?_|with_reducible refine bu ?_|with_reducible refine bE ?_|with_reducible refine bw ?_|with_reducible refine bG ?_|with_reducible refine cF ?_|((with_reducible apply iE);(simp only[push_cast,seval];rfl);(first|exact trivial))|((with_reducible apply ed hm);(simp only[push_cast,seval];rfl);rfl;intro v hm;rotate_left;intro v g hm)|((with_reducible apply ee hm);(simp only[push_cast,seval];rfl);(first|apply um _ _|apply oh _ _|apply dP _ _|apply p7);(any_goals((repeat'(first|rfl));done));intro x hm)|((with_reducible apply bC hm);(focus(simp only[bk,cn,RV.get,push_cast,seval];rfl));(focus((repeat'(first|rfl));done)))|((with_reducible apply bR hm);(simp only[push_cast,seval];rfl)))
noncomputable def bt (x0:ae) (x1:ae):Option (Bool):=(si x0 x1).1
theorem gV (x0:ae) (x1:ae):∀ r,bt x0 x1=some r->aa Tryz.prog 4 [.agg (ai x0),.agg (ai x1)] (.bool r):=(si x0 x1).2
end Go.Proofs.YteaolfcegaidpaaGreatDoor
namespace Go.Proofs.YteaolfcegaidpaaGreatDoor
open Go.ChangeShapes Go.WideShapes Go.ChangeAt Go.RowKit
set_option linter.unusedSimpArgs false
set_option linter.unusedVariables false
theorem Lu {a b:Bool} (h1:a=true) (h2:b=true):(a&&b)=true:=by rw[h1,h2];rfl
def Wt (P:Program) (n:Nat) (t:TypeId) {α:Type} (row:α->List DV) (ok:α->Prop):Prop:=∀ m ds,WT P (m+n) t ds->∃ x,ds=row x/\ok x
theorem Wt.up {P:Program} {n:Nat} {t:TypeId} {α:Type} {row:α->List DV} {ok:α->Prop} (h:Wt P n t row ok) (k:Nat):Wt P (n+k) t row ok:=fun m ds hd=>h (m+k) ds (by rwa[show m+k+n=m+(n+k) by omega])
def Js (n:Int):Prop:= -9223372036854775808<=n/\n<=9223372036854775807
def IB (s:List UInt8):Prop:=s.length<=9223372036854775807
def LL (_:Bool):Prop:=True
def GS {α:Type} (ok:α->Prop) (l:List α):Prop:=l.length<=9223372036854775807/\∀ a∈l,ok a
theorem rC {P:Program} {n:Nat} {t:TypeId} {fs:Array Field} {ds:List DV} (hu:P.underlying t=some (.struct fs)) (h:WT P (n+1) t ds):Ht (WT P n) fs.toList ds:=by
 simp only[WT,hu] at h;exact h
theorem KI {P:Program} {t:TypeId} (hu:P.underlying t=some (.int .i64)):Wt P 1 t xJ Js:=by
 intro m ds h
 simp only[WT,hu] at h
 obtain⟨k,rfl,hw⟩:=h
 refine⟨k,rfl, ?_⟩
 simp[Lit.wf] at hw
 have e:IntKind.i64.min= -9223372036854775808:=by decide
 unfold Js;omega
theorem Jt {P:Program} {t:TypeId} (hu:P.underlying t=some .bool):Wt P 1 t AR LL:=by
 intro m ds h
 simp only[WT,hu] at h
 obtain⟨b,rfl⟩:=h
 exact⟨b,rfl,trivial⟩
theorem KJ {P:Program} {t:TypeId} (hu:P.underlying t=some .string):Wt P 1 t fG IB:=by
 intro m ds h
 simp only[WT,hu] at h
 obtain⟨b,rfl,hl⟩:=h
 exact⟨b,rfl,by unfold IB;unfold maxLen at hl;omega⟩
theorem xh {P:Program} {n:Nat} {t e:TypeId} {α:Type} {row:α->List DV} {ok:α->Prop} (hu:P.underlying t=some (.slice e)) (he:Wt P n e row ok):Wt P (n+1) t (tu row) (GS ok):=by
 intro m ds h
 rw[show m+(n+1)=(m+n)+1 by omega] at h
 simp only[WT,hu] at h
 obtain⟨rows,rfl,hl,hr⟩:=h
 have:∀ rows:List (List DV),(∀ r∈rows,WT P (m+n) e r)->∃ l:List α,rows=l.map row/\∀ a∈l,ok a:=by
  intro rows
  induction rows with
  |nil=>intro _;exact⟨[],rfl,by simp⟩
  |cons r rows ih=>
   intro h
   obtain⟨a,rfl,ha⟩:=he m r (h r oS)
   obtain⟨l,rfl,hl⟩:=ih (fun r hr=>h r (by simp[hr]))
   exact⟨a::l,rfl,by simpa using⟨ha,hl⟩⟩
 obtain⟨l,rfl,hok⟩:=this rows hr
 exact⟨l,rfl,by unfold maxLen at hl;simp at hl;omega,hok⟩
theorem LU:ownKnob Tryz.prog.godebug=none:=oK
theorem Ju:laidOutB Tryz.prog=true:=oK
def K3 (P:Program) (t:TypeId) {α:Type} (row:α->List DV) (ok:α->Prop):Prop:=∀ m ds,WT P m t ds->∃ x,ds=row x/\ok x
theorem Wt.all {P:Program} {n:Nat} {t:TypeId} {α:Type} {row:α->List DV} {ok:α->Prop} (h:Wt P n t row ok):K3 P t row ok:=fun m ds hw=>h m ds (Cj oM hw)
theorem FF {P:Program} {e:TypeId} {α:Type} {row:α->List DV} {ok:α->Prop} {m:Nat} (he:∀ r,WT P m e r->∃ x,r=row x/\ok x):∀ rows:List (List DV),(∀ r∈rows,WT P m e r)->∃ l:List α,rows=l.map row/\∀ a∈l,ok a
 |[],_=>⟨[],rfl,by simp⟩
 |r::rows,h=>by
  obtain⟨a,rfl,ha⟩:=he r (h r oS)
  obtain⟨l,rfl,hl⟩:=FF he rows (fun r hr=>h r (by simp[hr]))
  exact⟨a::l,rfl,by simpa using⟨ha,hl⟩⟩
theorem FG {P:Program} {t e:TypeId} {α:Type} {row:α->List DV} {ok:α->Prop} {m:Nat} {ds:List DV} (hu:P.underlying t=some (.slice e)) (he:∀ r m',m'<=m->WT P m' e r->∃ x,r=row x/\ok x) (h:WT P m t ds):
  ∃ l:List α,ds=tu row l/\l.length<=9223372036854775807/\∀ a∈l,ok a:=by
 cases m with
 |zero=>simp[WT] at h
 |succ m=>
  simp only[WT,hu] at h
  obtain⟨rows,rfl,hl,hr⟩:=h
  obtain⟨l,rfl,hok⟩:=FF (fun r hw=>he r m oM hw) rows hr
  exact⟨l,rfl,by unfold maxLen at hl;simp at hl;omega,hok⟩
theorem Io {P:Program} {t e:TypeId} {α:Type} {row:α->List DV} {ok:α->Prop} (hu:P.underlying t=some (.slice e)) (he:K3 P e row ok):K3 P t (tu row) (GS ok):=fun m ds h=>by
 obtain⟨l,h1,h2,h3⟩:=FG hu (fun r m' _ hw=>he m' r hw) h
 exact⟨l,h1,h2,h3⟩
theorem K4:Wt Tryz.prog 1 9 fG IB:=KJ Tryz.underlying9
theorem L2:Wt Tryz.prog 1 4 AR LL:=Jt Tryz.underlying4
theorem K5:Wt Tryz.prog 1 3 xJ Js:=KI Tryz.underlying3
theorem LV:Wt Tryz.prog 2 69 (tu fG) (GS IB):=xh Tryz.underlying69 K4
def qc (x:ap):Prop:=LL x.fNeeded/\Js x.fType/\Js x.fMin/\Js x.fMax/\(GS IB) x.fCodes
set_option maxRecDepth 100000 in
theorem Lv:Wt Tryz.prog 3 178 aW qc:=by
 intro m ds h
 have h:=rC Tryz.underlying178 h
 simp only[Ht] at h
 obtain⟨a0,_,rfl,h0,a1,_,rfl,h1,a2,_,rfl,h2,a3,_,rfl,h3,a4,_,rfl,h4,rfl⟩:=h
 obtain⟨x0,rfl,o0⟩:=(L2.up 1) m _ h0
 obtain⟨x1,rfl,o1⟩:=(K5.up 1) m _ h1
 obtain⟨x2,rfl,o2⟩:=(K5.up 1) m _ h2
 obtain⟨x3,rfl,o3⟩:=(K5.up 1) m _ h3
 obtain⟨x4,rfl,o4⟩:=(LV.up 0) m _ h4
 refine⟨⟨x0,x1,x2,x3,x4⟩, ?_,o0,o1,o2,o3,o4⟩
 simp only[aW,xJ,Gv,fG,AR,tu,Mz,Mn,Mq,Mw]
theorem Lw:Wt Tryz.prog 4 119 (tu aW) (GS qc):=xh Tryz.underlying119 Lv
def mU (x:aD):Prop:=LL x.fNeeded/\Js x.fMost/\(GS qc) x.fParts
set_option maxRecDepth 100000 in
theorem Lx:Wt Tryz.prog 5 121 bf mU:=by
 intro m ds h
 have h:=rC Tryz.underlying121 h
 simp only[Ht] at h
 obtain⟨a0,_,rfl,h0,a1,_,rfl,h1,a2,_,rfl,h2,rfl⟩:=h
 obtain⟨x0,rfl,o0⟩:=(L2.up 3) m _ h0
 obtain⟨x1,rfl,o1⟩:=(K5.up 3) m _ h1
 obtain⟨x2,rfl,o2⟩:=(Lw.up 0) m _ h2
 refine⟨⟨x0,x1,x2⟩, ?_,o0,o1,o2⟩
 simp only[bf,xJ,Gv,fG,AR,tu,Mz,Mn,Mq,Mw]
theorem LW:Wt Tryz.prog 6 22 (tu bf) (GS mU):=xh Tryz.underlying22 Lx
def mV (x:ak):Prop:=IB x.fTag/\(GS mU) x.fElements
set_option maxRecDepth 100000 in
theorem LX:Wt Tryz.prog 7 24 am mV:=by
 intro m ds h
 have h:=rC Tryz.underlying24 h
 simp only[Ht] at h
 obtain⟨a0,_,rfl,h0,a1,_,rfl,h1,rfl⟩:=h
 obtain⟨x0,rfl,o0⟩:=(K4.up 5) m _ h0
 obtain⟨x1,rfl,o1⟩:=(LW.up 0) m _ h1
 refine⟨⟨x0,x1⟩, ?_,o0,o1⟩
 simp only[am,xJ,Gv,fG,AR,tu,Mz,Mn,Mq,Mw]
theorem LY:Wt Tryz.prog 8 39 (tu am) (GS mV):=xh Tryz.underlying39 LX
inductive j2:ac->Prop
 |mk {x:ac}:IB x.fTag->IB x.fName->Js x.fMin->Js x.fMax->x.fItems.length<=9223372036854775807->(∀ a∈x.fItems,j2 a)->j2 x
set_option maxRecDepth 100000 in
theorem Ip:∀ n m,m<=n->∀ ds,WT Tryz.prog m 111 ds->∃ x:ac,ds=ab x/\j2 x
 |n,0,_,ds,h=>by simp[WT] at h
 |0,m+1,hm,ds,h=>by omega
 |n+1,m+1,hm,ds,h=>by
  have h:=rC Tryz.underlying111 h
  simp only[Ht] at h
  obtain⟨a0,_,rfl,h0,a1,_,rfl,h1,a2,_,rfl,h2,a3,_,rfl,h3,a4,_,rfl,h4,rfl⟩:=h
  obtain⟨x0,rfl,o0⟩:=K4.all m _ h0
  obtain⟨x1,rfl,o1⟩:=K4.all m _ h1
  obtain⟨x2,rfl,o2⟩:=K5.all m _ h2
  obtain⟨x3,rfl,o3⟩:=K5.all m _ h3
  obtain⟨x4,rfl,o4,q4⟩:=FG Tryz.underlying40 (fun r m' hr hw=>Ip n m' oM r hw) h4
  refine⟨⟨x0,x1,x2,x3,x4⟩, ?_,.mk o0 o1 o2 o3 o4 q4⟩
  rw[q7];simp only[xJ,Gv,fG,AR,tu,Mz,Mn,Mq,Mw]
theorem Lz:K3 Tryz.prog 111 ab j2:=fun m ds h=>Ip m m (Me _) ds h
theorem LZ:K3 Tryz.prog 40 (tu ab) (GS j2):=Io Tryz.underlying40 Lz
def i_ (x:ae):Prop:=IB x.fKind/\IB x.fVersion/\(GS mV) x.fDefs/\(GS j2) x.fItems
set_option maxRecDepth 100000 in
theorem LA:K3 Tryz.prog 42 ai i_:=by
 intro m ds h
 cases m with
 |zero=>simp[WT] at h
 |succ m=>
 have h:=rC Tryz.underlying42 h
 simp only[Ht] at h
 obtain⟨a0,_,rfl,h0,a1,_,rfl,h1,a2,_,rfl,h2,a3,_,rfl,h3,rfl⟩:=h
 obtain⟨x0,rfl,o0⟩:=K4.all m _ h0
 obtain⟨x1,rfl,o1⟩:=K4.all m _ h1
 obtain⟨x2,rfl,o2⟩:=LY.all m _ h2
 obtain⟨x3,rfl,o3⟩:=LZ m _ h3
 refine⟨⟨x0,x1,x2,x3⟩, ?_,o0,o1,o2,o3⟩
 simp only[ai,xJ,Gv,fG,AR,tu,Mz,Mn,Mq,Mw]
def uR:Nat->DataW Unit->List Value
 |0,_=>[]
 |_+1,.lit (.int k n)=>[.int k n]
 |n+1,.agg ps=>ps.flatMap (uR n)
 |_+1,_=>[]
def qd (l:List Value):Obj->Obj
 | .cells _ t frozen=> .cells l.toArray t frozen
 |o=>o
noncomputable def DX:Nat:=(World.holding Tryz.prog default ⟨#[],#[],[]⟩).heap.size
noncomputable def x8 (os:Os):World:=
 {World.holding Tryz.prog os ⟨#[],#[],[]⟩ with
  heap:=((((((((World.holding Tryz.prog os ⟨#[.cells #[.string ⟨#[118,97,108,117,101,32,111,117,116,32,111,102,32,114,97,110,103,101]⟩] 290,.cells #[.string ⟨#[105,110,118,97,108,105,100,32,115,121,110,116,97,120]⟩] 290],#[],[]⟩).heap.modify 6 (qd (uR 5 Rows.laid_math_bits_deBruijn32tab))).modify 7 (qd (uR 5 Rows.laid_math_bits_deBruijn64tab))).modify 5 (qd (uR 5 Rows.laid_internal_strconv_uint64pow10))).modify 2 (qd (uR 5 Rows.laid_unicode_utf8_acceptRanges))).modify 4 (qd [.iface 288 (.pointer (some ⟨DX+0,0,none⟩))])).modify 3 (qd [.iface 288 (.pointer (some ⟨DX+1,0,none⟩))])).modify 1 (qd (uR 5 Rows.laid_unicode_utf8_first)))}
end Go.Proofs.YteaolfcegaidpaaGreatDoor
namespace Go.Proofs.YteaolfcegaidpaaGreatDoor
open Go.RowKit
set_option linter.unusedSimpArgs false
set_option linter.unusedVariables false
def Ap {α S A:Type} (g:Nat->S->α->Option (S⊕A)) (fin:S->Option A):List α->Nat->S->Option A
 |[],_,s=>fin s
 |e::l,i,s=>match g i s e with
  |some (.inl s')=>Ap g fin l (i+1) s'
  |some (.inr a)=>some a
  |none=>none
theorem BP {α:Type} {l t:List α} {e:α} {i:Nat} (hd:l.drop i=e::t):l[i]?=some e/\i<l.length/\l.drop (i+1)=t:=by
 refine⟨?_, ?_, ?_⟩
 ·have:=congrArg (fun q=>q[0]?) hd
  simpa using this
 ·rcases Mr i l.length with h|h
  ·exact h
  ·rw[List.drop_eq_nil_of_le h] at hd;cases hd
 ·have:=congrArg List.tail hd
  simpa using this
theorem xf {α:Type} {l:List α} {i:Nat} (hd:l.drop i=[]) (hi:i<=l.length):i=l.length:=by
 have:=congrArg List.length hd;simp at this;omega
theorem BQ {α S T A:Type} (l:List α) (mk:Nat->S->T) (g:Nat->S->α->Option (S⊕A)) (fin:S->Option A) {f:T->Option (T⊕A)}
  (hb:∀ (i:Nat) (e:α) (s:S),l[i]?=some e->f (mk i s)=(match g i s e with|some (.inl s')=>some (.inl (mk (i+1) s'))|some (.inr a)=>some (.inr a)|none=>none))
  (he:∀ s,f (mk l.length s)=(fin s).map .inr) (s:S):dD f (mk 0 s)=Ap g fin l 0 s:=by
 have:∀ (t:List α) (i:Nat) (s:S),l.drop i=t->i<=l.length->dD f (mk i s)=Ap g fin t i s:=by
  intro t
  induction t with
  |nil=>
   intro i s hd hi
   have:=xf hd hi
   subst this
   rw[ck,he]
   simp only[Ap]
   cases fin s<;>rfl
  |cons e t ih=>
   intro i s hd hi
   obtain⟨h1,h2,h3⟩:=BP hd
   rw[ck,hb i e s h1]
   simp only[Ap]
   cases g i s e with
   |none=>rfl
   |some o=>
    cases o with
    |inr a=>rfl
    |inl s'=>exact ih (i+1) s' h3 h2
 exact this l 0 s rfl (ME _)
theorem uB {α T A:Type} (l:List α) (st:Nat->List α->T) {f:T->Option (T⊕A)} {a:A}
  (hb:∀ (i:Nat) (e:α),l[i]?=some e->f (st i (l.take i))=some (.inl (st (i+1) (l.take i++[e]))))
  (he:f (st l.length l)=some (.inr a)):dD f (st 0 [])=some a:=by
 have:=EY (f:=f) (a:=a) (fun i=>st i (l.take i)) l.length (fun i hi=>by
  obtain⟨e,h⟩:=eb hi
  show f (st i (l.take i))=some (.inl (st (i+1) (l.take (i+1))))
  rw[hb i e h,cP h]) (by
  show f (st l.length (l.take l.length))=_
  rw[MQ];exact he)
 simpa using this
def mT {α β:Type} (f:Nat->α->List β):Nat->List α->List β
 |_,[]=>[]
 |i,x::l=>f i x++mT f (i+1) l
theorem xg {α β:Type} (f:Nat->α->List β):∀ (l l2:List α) (i:Nat),mT f i (l++l2)=mT f i l++mT f (i+l.length) l2
 |[],l2,i=>by simp[mT]
 |x::l,l2,i=>by
  simp only[Mn,mT,xg f l l2 (i+1),Mz,Mv]
  rw[show i+1+l.length=i+(l.length+1) by omega]
theorem Aq {α β:Type} (f:Nat->α->List β) (l:List α) (e:α):mT f 0 (l++[e])=mT f 0 l++f l.length e:=by
 rw[xg];simp[mT]
theorem uQ {α β:Type} {f:Nat->α->List β} {b:Nat}:∀ (l:List α) (i:Nat),(∀ i e,e∈l->(f i e).length<=b)->(mT f i l).length<=l.length * b
 |[],_,_=>by simp[mT]
 |x::l,i,hf=>by
  have h1:=hf i x oS
  have h2:=uQ l (i+1) (fun i e he=>hf i e (by simp[he]))
  simp only[mT,Mh,Mv,M4,Nat.one_mul]
  omega
theorem Ar {α:Type} {l:List α} {i:Nat} {e:α} (h:l[i]?=some e):(l.take i).length=i:=by
 obtain⟨hi, -⟩:=Md.1 h
 simp;omega
theorem bD {α:Type} {l:List α} {i:Nat} {e:α} (h:l[i]?=some e):i<l.length:=(Md.1 h).1
theorem fZ {R:Type} {n:Nat} {m:Option R} (h:n<=137438953472):lS (sN n) m=m:=bU (Jq h)
theorem jx {X S A R:Type} {f:S->Option (S⊕A)} {k:A->Option R} {c:Option R} (st:X->S) (μ:X->Nat) (P:X->Prop)
  (h:∀ x,P x->(∃ y,P y/\μ y<μ x/\f (st x)=some (.inl (st y)))\/(∃ a,f (st x)=some (.inr a)/\k a=c)) (x:X) (hx:P x):(dD f (st x)).bind k=c:=by
 have:∀ n x,μ x<=n->P x->(dD f (st x)).bind k=c:=by
  intro n
  induction n with
  |zero=>
   intro x hn hx
   rcases h x hx with⟨y,_,h2,_⟩|⟨a,h1,h2⟩
   ·omega
   ·rw[ck,h1];exact h2
  |succ n ih=>
   intro x hn hx
   rcases h x hx with⟨y,h1,h2,h3⟩|⟨a,h1,h2⟩
   ·rw[ck,h3];exact ih y oM h1
   ·rw[ck,h1];exact h2
 exact this (μ x) x (Me _) hx
theorem ld {X S A R:Type} {f:S->Option (S⊕A)} {k:A->Option R} {C:R->Prop} (st:X->S) (μ:X->Nat) (P:X->Prop)
  (h:∀ x,P x->(∃ y,P y/\μ y<μ x/\f (st x)=some (.inl (st y)))\/(∃ a c,f (st x)=some (.inr a)/\k a=some c/\C c)) (x:X) (hx:P x):∃ c,(dD f (st x)).bind k=some c/\C c:=by
 have:∀ n x,μ x<=n->P x->∃ c,(dD f (st x)).bind k=some c/\C c:=by
  intro n
  induction n with
  |zero=>
   intro x hn hx
   rcases h x hx with⟨y,_,h2,_⟩|⟨a,c,h1,h2,h3⟩
   ·omega
   ·rw[ck,h1];exact⟨c,h2,h3⟩
  |succ n ih=>
   intro x hn hx
   rcases h x hx with⟨y,h1,h2,h3⟩|⟨a,c,h1,h2,h3⟩
   ·rw[ck,h3];exact ih y oM h1
   ·rw[ck,h1];exact⟨c,h2,h3⟩
 exact this (μ x) x (Me _) hx
theorem nL {α R:Type} (l:List α) (q:α->Bool) (a:R) {f:Int->Option (Int⊕(Int⊕R))} {K:Int->Option R}
  (hb:∀ (i:Nat) (e:α),l[i]?=some e->f (i:Int)=if q e=true then some (.inl ((i+1:Nat):Int)) else some (.inr (.inr a))) (he:f (l.length:Int)=some (.inr (.inl (l.length:Int)))):
  (dD f 0).bind (dg K)=if l.all q=true then K (l.length:Int) else some a:=by
 refine jx (X:=Nat) (fun i=>((i:Nat):Int)) (fun i=>l.length - i) (fun i=>i<=l.length/\(l.take i).all q=true) ?_ 0 ⟨ME _,rfl⟩
 rintro i ⟨h1,h2⟩
 rcases Mr i l.length with hi|hi
 ·obtain⟨e,hx⟩:=eb hi
  cases hq:q e with
  |true=>
   refine .inl ⟨i+1,⟨hi, ?_⟩,by omega,by rw[hb i e hx,hq];rfl⟩
   rw[cP hx,List.all_append,h2]
   simp[hq]
  |false=>
   refine .inr ⟨_,by rw[hb i e hx,hq];rfl, ?_⟩
   have:l.all q=false:=by
    rw[List.all_eq_false]
    exact⟨e,Mb hx,by rw[hq];decide⟩
   rw[this];rfl
 ·have hl:i=l.length:=by omega
  subst hl
  rw[MQ] at h2
  refine .inr ⟨_,he, ?_⟩
  rw[h2];rfl
theorem GI {α:Type} (l:List α) (x:α) (h:l.length<9223372036854775807):b_ (l++[x]) (IntKind.i64.wrap (((l++[x]).length:Int) - 1))=some x/\(IntKind.i64.wrap (((l++[x]).length:Int) - 1)).toNat=l.length:=by
 have e:IntKind.i64.wrap (((l++[x]).length:Int) - 1)=((l.length:Nat):Int):=by
  rw[Mh,MI,ge _ oM oM];omega
 rw[e,aw,Nm (Me _),Nat.sub_self]
 exact⟨rfl,by omega⟩
def wh:List UInt8:=[65,66,67,68,69,70,71,72,73,74,75,76,77,78,79,80,81,82,83,84,85,86,87,88,89,90,48,49,50,51,52,53,54,55,56,57]
theorem CI (l:List UInt8) (hl:l.length<=9223372036854775807):oW l=some (decide (Lib.trimS l wh=[])):=by
 unfold oW a_;dsimp only
 have:dM l wh=some (Lib.trimS l wh):=by unfold dM;rw[NH ⟨hl,by decide,by decide⟩]
 simp only[wh] at this⊢
 rw[this]
 rfl
theorem nP {p:UInt8->Bool}:∀ {l:List UInt8},l.dropWhile p=[]↔∀ x∈l,p x=true
 |[]=>by simp
 |a::l=>by
  rw[List.dropWhile_cons]
  by_cases h:p a=true
  ·simp[h,nP (l:=l)]
  ·simp[h]
theorem uA {p:UInt8->Bool} {a:UInt8} {r:List UInt8}:∀ {l:List UInt8},l.dropWhile p=a::r->p a=false
 |[],h=>by simp at h
 |b::l,h=>by
  rw[List.dropWhile_cons] at h
  by_cases hp:p b=true
  ·simp only[hp,Nr] at h;exact uA h
  ·simp only[hp] at h
   simp at h;rw[<-h.1];simpa using hp
theorem An (l cs:List UInt8):Lib.trimS l cs=[]↔∀ x∈l,cs.contains x=true:=by
 unfold Lib.trimS Lib.trimLeftS Lib.trimRightS
 constructor
 ·intro h
  have h1:List.dropWhile (fun x=>cs.contains x) l.reverse=[]:=by
   cases hr:List.dropWhile (fun x=>cs.contains x) l.reverse with
   |nil=>rfl
   |cons a r=>
    exfalso
    have h2:=uA hr
    rw[hr,nP] at h
    have h3:=h a oS
    rw[h2] at h3;cases h3
  rw[nP] at h1
  intro x hx
  exact h1 x (by simpa using hx)
 ·intro h
  have h1:List.dropWhile (fun x=>cs.contains x) l.reverse=[]:=nP.2 fun x hx=>h x (by simpa using hx)
  rw[h1];rfl
def x7 (b:UInt8):Bool:=decide (65<=(b.toNat:Int))&&decide ((b.toNat:Int)<=90)
def xd (b:UInt8):Bool:=x7 b|| !(decide ((b.toNat:Int)<48)||decide (57<(b.toNat:Int)))
theorem Ig:(List.range 256).all (fun n=>wh.contains (UInt8.ofNat n)==xd (UInt8.ofNat n))=true:=oK
theorem Jo (b:UInt8):wh.contains b=xd b:=by
 have:=MD.1 Ig b.toNat (Nb.2 b.toNat_lt)
 have hb:UInt8.ofNat b.toNat=b:=by simp
 rw[hb] at this
 simpa using this
def DW:List UInt8:=[65,66,67,68,69,70,71,72,73,74,75,76,77,78,79,80,81,82,83,84,85,86,87,88,89,90]
theorem Ih:(List.range 256).all (fun n=>decide (0<=Lib.indexByte DW (UInt8.ofNat n))==x7 (UInt8.ofNat n))=true:=oK
theorem Jp (b:UInt8):decide (0<=Lib.indexByte DW b)=x7 b:=by
 have:=MD.1 Ih b.toNat (Nb.2 b.toNat_lt)
 have hb:UInt8.ofNat b.toNat=b:=by simp
 rw[hb] at this
 simpa using this
theorem Ii (l:List UInt8):decide (Lib.trimS l wh=[])=l.all xd:=by
 rw[Mp,Ma,An,MD]
 simp only[Jo]
def CJ:List UInt8->Bool
 |[]=>false
 |b::l=>decide (1<=l.length)&&decide (l.length<=5)&&x7 b&&l.all xd
theorem Ij (l:List UInt8) (hl:l.length<=9223372036854775807):qN l=some (CJ l):=by
 unfold qN l9;dsimp only
 cases l with
 |nil=>rfl
 |cons b l=>
  have hg:b_ (b::l) 0=some b:=rfl
  have hi:pa DW b=some (Lib.indexByte DW b):=rfl
  have hu:([65,66,67,68,69,70,71,72,73,74,75,76,77,78,79,80,81,82,83,84,85,86,87,88,89,90]:List UInt8)=DW:=rfl
  simp only[CI (b::l) hl,Ii,hg,hu,hi,L8,aO,Jp,CJ]
  have h1:decide ((2:Int)<=((b::l).length:Int))=decide (1<=l.length):=by simp only[Mv];congr 1;apply propext;omega
  have h2:decide (((b::l).length:Int)<=6)=decide (l.length<=5):=by simp only[Mv];congr 1;apply propext;omega
  rw[h1,h2]
  cases hb:x7 b with
  |false=>simp
  |true=>simp[xd,hb]
def CK (i:Nat) (b:UInt8):Bool:=x7 b||(decide (i≠0)&&xd b)
theorem Ik (l:List UInt8) (hl:l.length<=9223372036854775807):fq l=some ((match l with|[]=>true|b::l=>x7 b&&l.all xd)&&decide (l.length<=6)):=by
 unfold fq a_;dsimp only
 have key:=BQ (f:=fun s=>bif decide (s<(l.length:Int)) then(b_ l s).bind fun e=>(ov (decide (65<=(e.toNat:Int))) ((b_ l s).bind fun e=>some (decide ((e.toNat:Int)<=90)))).bind fun v=>(ov (!v) ((BE (decide (s=0)) ((b_ l s).bind fun e=>some (decide ((e.toNat:Int)<48)))).bind fun v=>(BE v ((b_ l s).bind fun e=>some (decide (57<(e.toNat:Int))))).bind fun v=>some v)).bind fun v=>bif v then dy (dy (some false)) else some (Sum.inl (IntKind.i64.wrap (s+1))) else dy (some (Sum.inl s)))
  l (fun i (_:Unit)=>(i:Int)) (fun i _ e=>if CK i e=true then some (.inl ()) else some (.inr (.inr false))) (fun _=>some (Sum.inl (l.length:Int))) (fun i e s he=> ?_) (fun s=> ?_) ()
 ·rw[show((0:Nat):Int)=0 from rfl] at key
  rw[key]
  have h2:∀ (t:List UInt8) (i:Nat),0<i->Ap (fun i (_:Unit) e=>if CK i e=true then some (.inl ()) else some (.inr (.inr false))) (fun _=>some (Sum.inl (l.length:Int))) t i ()=if t.all xd=true then some (Sum.inl (l.length:Int)) else some (.inr false):=by
   intro t
   induction t with
   |nil=>intro i _;rfl
   |cons b t ih=>
    intro i hi
    simp only[Ap]
    have:CK i b=xd b:=by
     unfold CK
     rw[M9 (show i≠0 by omega),Mj]
     unfold xd
     cases x7 b<;>simp
    rw[this]
    cases hb:xd b with
    |true=>simp only[Nr,ih (i+1) oM,NL,hb,Mj]
    |false=>simp[hb]
  cases l with
  |nil=>rfl
  |cons b l=>
   simp only[Ap]
   have h3:CK 0 b=x7 b:=by unfold CK;cases x7 b<;>simp
   have h4:decide (((b::l).length:Int)<=6)=decide ((b::l).length<=6):=by congr 1;apply propext;omega
   rw[h3]
   cases hb:x7 b with
   |false=>simp[dg,hb]
   |true=>
    simp only[Nr]
    rw[h2 l 1 oM]
    cases hl:l.all xd with
    |true=>simp[dg,hb,h4];omega
    |false=>simp[dg,hb]
 ·have hi:=bD he
  simp only[bp hi,Mf,aw,he,L8,aO,bz,bN i oM]
  have h0:decide ((i:Int)=0)=decide (i=0):=by congr 1;apply propext;omega
  have h1:(!(decide (65<=(e.toNat:Int))&&decide ((e.toNat:Int)<=90))&&(decide ((i:Int)=0)||decide ((e.toNat:Int)<48)||decide (57<(e.toNat:Int))))= !CK i e:=by
   rw[h0]
   unfold CK xd x7
   cases decide (65<=(e.toNat:Int))<;>cases decide ((e.toNat:Int)<=90)<;>by_cases hi0:i=0<;>simp[hi0]
  rw[h1]
  cases CK i e<;>rfl
 ·simp only[an,Mg];rfl
theorem JX (l:List UInt8) (hl:l.length<=9223372036854775807):ii l=some (CJ l):=by
 unfold ii l9;dsimp only
 simp only[Ik l hl,L8,aO]
 cases l with
 |nil=>rfl
 |cons b l=>
  have h1:decide ((2:Int)<=((b::l).length:Int))=decide (1<=l.length):=by simp only[Mv];congr 1;apply propext;omega
  have h2:decide ((b::l).length<=6)=decide (l.length<=5):=by simp only[Mv];congr 1;apply propext;omega
  rw[h1,h2]
  simp only[CJ]
  cases x7 b<;>cases l.all xd<;>simp
theorem wl:∀ a b:List UInt8,(Lib.compareBytes a b=0/\a=b)\/(Lib.compareBytes a b= -1/\Op.bytesLess a b=true)\/(Lib.compareBytes a b=1/\Op.bytesLess b a=true)
 |[],[]=> .inl ⟨rfl,rfl⟩
 |[],_::_=> .inr (.inl ⟨rfl,rfl⟩)
 |_::_,[]=> .inr (.inr ⟨rfl,rfl⟩)
 |a::u,b::v=>by
  unfold Lib.compareBytes Op.bytesLess
  by_cases h1:a<b
  ·simp[h1]
  ·by_cases h2:b<a
   ·simp[h1,h2]
   ·have e:a=b:=by
     rw[UInt8.lt_iff_toNat_lt] at h1 h2
     exact UInt8.toNat_inj.1 oM
    subst e
    have:=wl u v
    simpa[h1] using this
theorem j6:∀ a:List UInt8,Op.bytesLess a a=false
 |[]=>rfl
 |a::l=>by simp[Op.bytesLess,j6 l]
theorem ta:∀ {a b c:List UInt8},Op.bytesLess a b=true->Op.bytesLess b c=true->Op.bytesLess a c=true
 |_,[],_,h,_=>by simp[Op.bytesLess] at h
 |_,_::_,[],_,h=>by simp[Op.bytesLess] at h
 |[],_::_,_::_,_,_=>rfl
 |a::u,b::v,c::w,h,k=>by
  simp only[Op.bytesLess,Mu,Ma,L9,Mc] at h k⊢
  rcases h with h|⟨rfl,h⟩
  ·rcases k with k|⟨rfl,k⟩
   ·exact .inl (UInt8.lt_trans h k)
   ·exact .inl h
  ·rcases k with k|⟨rfl,k⟩
   ·exact .inl k
   ·exact .inr ⟨rfl,ta h k⟩
theorem G4 {a b:List UInt8} (h:Op.bytesLess a b=true):Op.bytesLess b a=false:=by
 cases hb:Op.bytesLess b a with
 |false=>rfl
 |true=>have:=ta h hb;rw[j6] at this;cases this
theorem J3 (a b:List UInt8):a=b\/Op.bytesLess a b=true\/Op.bytesLess b a=true:=by
 rcases wl a b with h|h|h
 ·exact .inl h.2
 ·exact .inr (.inl h.2)
 ·exact .inr (.inr h.2)
theorem JI {a b:List UInt8}:Lib.compareBytes a b<0↔Op.bytesLess a b=true:=by
 rcases wl a b with⟨h,e⟩|⟨h,e⟩|⟨h,e⟩
 ·subst e;rw[h,j6];simp
 ·rw[h,e];simp
 ·rw[h,G4 e];simp
theorem K8 {a b:List UInt8}:Lib.compareBytes a b=0↔a=b:=by
 rcases wl a b with⟨h,e⟩|⟨h,e⟩|⟨h,e⟩
 ·subst e;rw[h];simp
 ·rw[h];constructor
  ·intro h;omega
  ·rintro rfl;rw[j6] at e;cases e
 ·rw[h];constructor
  ·intro h;omega
  ·rintro rfl;rw[j6] at e;cases e
def G5 (l:List (List UInt8)):Prop:=∀ i a b,l[i]?=some a->l[i+1]?=some b->Op.bytesLess a b=true
theorem G5.lt {l:List (List UInt8)} (h:G5 l):∀ {i j:Nat} {a b:List UInt8},i<j->l[i]?=some a->l[j]?=some b->Op.bytesLess a b=true:=by
 intro i j a b hij ha hb
 obtain⟨k,rfl⟩:∃ k,j=i+1+k:=⟨j - (i+1),by omega⟩
 clear hij
 induction k generalizing b with
 |zero=>exact h i a b ha hb
 |succ k ih=>
  have hlt:i+1+k<l.length:=by have:=(Md.1 hb).1;omega
  have hc:=Mi hlt
  exact ta (ih hc) (h _ _ _ hc hb)
abbrev MX:Nat:=9223372036854775807
abbrev Sl:=ac
inductive CT:Sl->Prop
 |mk {x:Sl}:x.fTag.length<=MX->x.fName.length<=MX->x.fItems.length<=MX->(∀ a∈x.fItems,CT a)->CT x
theorem CT.tag {x:Sl} (h:CT x):x.fTag.length<=MX:=by cases h;assumption
theorem CT.name {x:Sl} (h:CT x):x.fName.length<=MX:=by cases h;assumption
theorem CT.items {x:Sl} (h:CT x):∀ a∈x.fItems,CT a:=by cases h;assumption
def mj (x:Sl):Bool:=CJ x.fTag&&decide (x.fName=[])&&decide (x.fItems=[])
def pr (x:Sl):Bool:= !decide (x.fName=[])&&decide (x.fTag=[])&&(match x.fItems with|[]=>false|y::_=>mj y&&decide (y.fMin=1)&&decide (y.fMax=1))
def du (x:Sl):List UInt8:=match x.fItems with|[]=>x.fTag|y::_=>y.fTag
theorem DY {α:Type} (l:List α):decide ((l.length:Int)=0)=decide (l=[]):=by
 cases l with
 |nil=>rfl
 |cons a l=>simp;omega
theorem Iq {α:Type} (l:List α):decide (0<(l.length:Int))= !decide (l=[]):=by
 cases l with
 |nil=>rfl
 |cons a l=>simp
theorem JY (x:Sl) (h:CT x):lJ x=some (mj x):=by
 unfold lJ l_;dsimp only
 rw[Ij _ h.tag]
 simp only[L8,aO,DY];rfl
theorem JZ (x:Sl) (h:CT x):fr x=some (mj x):=by
 unfold fr l_;dsimp only
 rw[JX _ h.tag]
 simp only[L8,aO,DY];rfl
theorem LB (x:Sl) (h:CT x):nK x=some (pr x):=by
 unfold nK ma;dsimp only
 simp only[aO,L8,Iq]
 unfold pr
 cases hx:x.fItems with
 |nil=>simp[ov]
 |cons y l=>
  have hy:=h.items y (by rw[hx];exact MP ..)
  have hg:b_ (y::l) 0=some y:=rfl
  simp only[hg,L8,dB,JY y hy,aO]
  simp only[reduceCtorEq,NB,Mo,NK,Bool.and_assoc]
theorem LC (x:Sl) (h:CT x):gh x=some (pr x):=by
 unfold gh ma;dsimp only
 simp only[aO,L8,Iq]
 unfold pr
 rw[Bool.and_comm (decide (x.fTag=[]))]
 cases hx:x.fItems with
 |nil=>simp[ov]
 |cons y l=>
  have hy:=h.items y (by rw[hx];exact MP ..)
  have hg:b_ (y::l) 0=some y:=rfl
  simp only[hg,L8,dB,JZ y hy,aO]
  simp only[reduceCtorEq,NB,Mo,NK,Bool.and_assoc]
theorem KL (x:Sl):fY x=some (du x):=by
 unfold fY a_;dsimp only
 unfold du
 rw[Iq]
 cases x.fItems with
 |nil=>rfl
 |cons y l=>rfl
def GJ (x:Sl):Prop:=mj x=true\/pr x=true
theorem GJ.seg {x:Sl} (h:GJ x) (hn:x.fName=[]):mj x=true:=by
 rcases h with h|h
 ·exact h
 ·simp[pr,hn] at h
theorem GJ.grp {x:Sl} (h:GJ x) (hn:x.fName≠[]):pr x=true:=by
 rcases h with h|h
 ·simp[mj,hn] at h
 ·exact h
theorem Ir {x:Sl} (h:GJ x):gx x=some (du x):=by
 unfold gx a_;dsimp only
 unfold du
 by_cases hn:x.fName=[]
 ·have hs:=h.seg hn
  simp only[mj,L9,Ma] at hs
  rw[hs.2,M9 hn];rfl
 ·have hg:=h.grp hn
  rw[Ni hn]
  unfold pr at hg
  cases hx:x.fItems with
  |nil=>rw[hx] at hg;simp at hg
  |cons y l=>rfl
abbrev Df:=ak
def xi (l:List Df):Prop:=G5 (l.map (·.fTag))
def aq (l:List Df) (t:List UInt8):Bool:=l.any fun d=>decide (d.fTag=t)
theorem DZ (s:ae) (t:List UInt8) (hl:s.fDefs.length<=1000):∃ n,bK s t=some n/\decide (n<0)= !aq s.fDefs t/\(aq s.fDefs t=true->∃ d,b_ s.fDefs n=some d/\d∈s.fDefs/\d.fTag=t):=by
 unfold bK a_;dsimp only
 have:=ld (X:=Nat) (R:=Int) (C:=fun n=>decide (n<0)= !aq s.fDefs t/\(aq s.fDefs t=true->∃ d,b_ s.fDefs n=some d/\d∈s.fDefs/\d.fTag=t)) (f:=fun i:Int=>bif decide (i<(s.fDefs.length:Int)) then(b_ s.fDefs i).bind fun e=>bif decide (e.fTag=t) then dy (dy (some i)) else some (Sum.inl (IntKind.i64.wrap (i+1))) else dy (some (Sum.inl i))) (k:=dg fun _=>some (-1))
  (fun i=>(i:Int)) (fun i=>s.fDefs.length - i) (fun i=>i<=s.fDefs.length/\(s.fDefs.take i).any (fun d=>decide (d.fTag=t))=false) (by
   rintro i ⟨h1,h2⟩
   rcases Mr i s.fDefs.length with hi|hi
   ·obtain⟨d,hd⟩:=eb hi
    simp only[bp hi,Mf,aw,hd,L8,bN i oM]
    by_cases ht:d.fTag=t
    ·refine .inr ⟨_,(i:Int),by rw[M9 ht];rfl,rfl, ?_,fun _=>⟨d,by rw[aw];exact hd,Mb hd,ht⟩⟩
     have:aq s.fDefs t=true:=by
      unfold aq;rw[Ny];exact⟨d,Mb hd,by simpa using ht⟩
     rw[this,Ni oM];rfl
    ·exact .inl ⟨i+1,⟨hi,by rw[cP hd,N6,h2];simp[ht]⟩,by omega,by rw[Ni ht];rfl⟩
   ·have hl':i=s.fDefs.length:=by omega
    subst hl'
    rw[MQ] at h2
    have hv:aq s.fDefs t=false:=h2
    refine .inr ⟨_, -1,by simp only[an,Mg];rfl,rfl, ?_,fun h=> ?_⟩
    ·rw[hv];rfl
    ·rw[hv] at h;cases h) 0 ⟨ME _,rfl⟩
 exact this
theorem Jv (s:ae) (t:List UInt8) (hl:s.fDefs.length<=1000):∃ n,bK s t=some n/\decide (n<0)= !aq s.fDefs t:=by
 obtain⟨n,h1,h2, -⟩:=DZ s t hl
 exact⟨n,h1,h2⟩
def bZ:List Int->Int
 |[]=>0
 |x::l=>x+4294967296 * bZ l
def q_ (l:List Int):Prop:=∀ x∈l,0<=x/\x<4294967296
def IC (l:List Int):Prop:=∀ x,l.getLast?=some x->x≠0
theorem q_.tail {x:Int} {l:List Int} (h:q_ (x::l)):q_ l:=fun y hy=>h y (M3 _ hy)
theorem q_.app {a b:List Int} (h:q_ a) (k:q_ b):q_ (a++b):=fun x hx=>(Mt.1 hx).elim (h x) (k x)
theorem q_.get {l:List Int} (h:q_ l) {i:Nat} {x:Int} (hx:l[i]?=some x):0<=x/\x<4294967296:=h x (Mb hx)
theorem q_.set {l:List Int} (h:q_ l) (i:Nat) {x:Int} (hx:0<=x/\x<4294967296):q_ (l.set i x):=fun y hy=>by
 rcases List.mem_or_eq_of_mem_set hy with hy|rfl
 ·exact h y hy
 ·exact hx
theorem JC:q_ []:=fun x hx=>by simp at hx
theorem JD (n:Nat):q_ (List.replicate n 0):=fun x hx=>by
 rw[List.eq_of_mem_replicate hx];omega
theorem uF:∀ a b:List Int,bZ (a++b)=bZ a+4294967296^a.length * bZ b
 |[],b=>by simp[bZ]
 |x::a,b=>by
  simp only[Mn,bZ,uF a b,Mv,N7,NG]
  rw[NZ,<-Int.mul_assoc,Int.mul_comm (4294967296^a.length) 4294967296]
theorem FP:∀ {l:List Int},q_ l->0<=bZ l
 |[],_=>Na _
 |x::l,h=>by
  have h1:=h x (MP ..)
  have h2:=FP h.tail
  unfold bZ;omega
theorem D8:∀ n,bZ (List.replicate n 0)=0
 |0=>rfl
 |n+1=>by simp[N2,bZ,D8 n]
theorem Ay:∀ {l:List Int} {i:Nat} {y:Int} (x:Int),l[i]?=some y->bZ (l.set i x)=bZ l+4294967296^i * (x - y)
 |[],i,y,x,h=>by simp at h
 |z::l,0,y,x,h=>by
  simp at h;subst h
  simp only[List.set_cons_zero,bZ,Int.pow_zero];omega
 |z::l,i+1,y,x,h=>by
  simp only[M1] at h
  simp only[List.set_cons_succ,bZ,Ay x h,N7,NG]
  rw[NZ,<-Int.mul_assoc,Int.mul_comm (4294967296^i) 4294967296]
theorem Az (x:Int):bZ [x]=x:=by simp[bZ]
theorem CP:∀ {l:List Int},q_ l->IC l->l≠[]->4294967296^(l.length - 1)<=bZ l
 |[],_,_,h=>absurd rfl h
 |[x],h,n,_=>by
  have h1:=h x (MP ..)
  have h2:=n x rfl
  simp only[bZ,Mv,Nj,M7,Nat.sub_self,Int.pow_zero];omega
 |x::y::l,h,n,_=>by
  have h1:=h x (MP ..)
  have h2:=CP (l:=y::l) h.tail (fun z hz=>n z (by simpa[List.getLast?_cons_cons] using hz)) oS
  have e:(x::y::l).length - 1=(y::l).length - 1+1:=by simp
  rw[e,N7]
  have h3:bZ (x::y::l)=x+4294967296 * bZ (y::l):=rfl
  omega
theorem D9 {l:List Int} (h:q_ l) (n:IC l):bZ l=0↔l.length=0:=by
 constructor
 ·intro hv
  by_cases he:l=[]
  ·simp[he]
  ·have h1:=CP h n he
   have h2:(0:Int)<4294967296^(l.length - 1):=Int.pow_pos oM
   omega
 ·intro hl
  rw[Ms.1 hl];rfl
theorem GO {l:List Int} (h:q_ l) (n:IC l) (hl:2<l.length):18446744073709551616<=bZ l:=by
 have h1:=CP h n (by intro e;rw[e] at hl;simp at hl)
 obtain⟨k,hk⟩:∃ k,l.length - 1=2+k:=⟨l.length - 3,by omega⟩
 rw[hk,Int.pow_add] at h1
 have h2:(0:Int)<4294967296^k:=Int.pow_pos oM
 omega
theorem GP {out:List Int} {j:Nat} {o c m t:Int} (ho:out[j]?=some o) (ht:t=c+(o+m)):
  bZ (out.set j (t%4294967296))+4294967296^(j+1) * (t/4294967296)=bZ out+4294967296^j * (c+m):=by
 rw[Ay _ ho,N7,Int.mul_assoc,NZ,<-NG]
 congr 2
 omega
theorem GQ {out:List Int} {c m t:Int} (ht:t=c+m):
  bZ (out++[t%4294967296])+4294967296^(out.length+1) * (t/4294967296)=bZ out+4294967296^out.length * (c+m):=by
 rw[uF,Az,N7,Int.mul_assoc,NZ,<-NG]
 congr 2
 omega
theorem uT {l:List Int} {i:Nat} {x:Int} (h:l[i]?=some x):bZ (l.take (i+1))=bZ (l.take i)+4294967296^i * x:=by
 have hlt:=(Md.1 h).1
 rw[List.take_add_one,h,uF,MK,N5 oM]
 simp[bZ]
theorem CQ {n:Int} (h0:0<=n) (h1:n<18446744073709551616):IntKind.u64.wrap n=n:=by
 have e:IntKind.u64.wrap n=n%18446744073709551616:=by simp[IntKind.wrap,IntKind.bits,IntKind.signed]
 rw[e];omega
theorem KY (n:Int):IntKind.u32.wrap n=n%4294967296:=by simp[IntKind.wrap,IntKind.bits,IntKind.signed]
theorem JE {x y:Int} (hx:0<=x/\x<4294967296) (hy:0<=y/\y<4294967296):CX .or .u64 x (y * 4294967296)=x+4294967296 * y:=by
 obtain⟨a,rfl⟩:=Int.eq_ofNat_of_zero_le hx.1
 obtain⟨b,rfl⟩:=Int.eq_ofNat_of_zero_le hy.1
 have ha:a<2^32:=by have:=hx.2;omega
 have hb:b<2^32:=by have:=hy.2;omega
 have e1:(BitVec.ofInt IntKind.u64.bits (a:Int)).toNat=a:=by
  rw[BitVec.ofInt_natCast,BitVec.toNat_ofNat];exact Nat.mod_eq_of_lt (by show a<2^64;omega)
 have e2:(BitVec.ofInt IntKind.u64.bits ((b:Int) * 4294967296)).toNat=b * 4294967296:=by
  have:((b:Int) * 4294967296)=((b * 4294967296:Nat):Int):=by omega
  rw[this,BitVec.ofInt_natCast,BitVec.toNat_ofNat];exact Nat.mod_eq_of_lt (by show _<2^64;omega)
 have e3:b<<<32+a=b<<<32|||a:=Nat.shiftLeft_add_eq_or_of_lt ha b
 have e4:b<<<32=b * 4294967296:=Nat.shiftLeft_eq b 32
 simp only[CX,BitVec.toNat_or,e1,e2]
 rw[Nat.or_comm,<-e4,<-e3,e4,CQ oM oM]
 omega
theorem FQ {x:Int} (hx:0<=x/\x<4294967296):CX .or .u64 0 x=x:=by
 obtain⟨a,rfl⟩:=Int.eq_ofNat_of_zero_le hx.1
 have e1:(BitVec.ofInt IntKind.u64.bits (a:Int)).toNat=a:=by
  rw[BitVec.ofInt_natCast,BitVec.toNat_ofNat];exact Nat.mod_eq_of_lt (by show a<2^64;omega)
 have e0:(BitVec.ofInt IntKind.u64.bits (0:Int)).toNat=0:=by decide
 simp only[CX,BitVec.toNat_or,e1,e0,Nat.zero_or]
 exact CQ oM oM
def ca (n:Int):List UInt8->Int
 |[]=>n
 |c::l=>ca (10 * n+((c.toNat:Int) - 48)) l
def sr (l:List UInt8):Prop:=∀ c∈l,48<=c.toNat/\c.toNat<=57
theorem y7:∀ {l:List UInt8} {n:Int},sr l->0<=n->n<=ca n l
 |[],n,_,_=>Na _
 |c::l,n,h,h0=>by
  have h1:=h c (MP ..)
  have:=y7 (l:=l) (n:=10 * n+((c.toNat:Int) - 48)) (fun x hx=>h x (M3 _ hx)) oM
  unfold ca;omega
theorem y8 {l:List UInt8} {n:Int} (h:sr l) (h0:0<=n):0<=ca n l:=Int.le_trans h0 (y7 h h0)
theorem AA:∀ (a b:List UInt8) (n:Int),ca n (a++b)=ca (ca n a) b
 |[],b,n=>rfl
 |c::a,b,n=>by simp only[Mn,ca];exact AA a b _
theorem GM (l:List Int) (h:q_ l) (hl:l.length<=1000):∃ t,oz l=some t/\q_ t/\IC t/\bZ t=bZ l/\t.length<=l.length:=by
 unfold oz dQ;dsimp only
 refine ld (X:=List Int) (C:=fun t=>q_ t/\IC t/\bZ t=bZ l/\t.length<=l.length) (fun x=>x) (fun x=>x.length) (fun x=>q_ x/\bZ x=bZ l/\x.length<=l.length) ?_ l ⟨h,rfl,Me _⟩
 rintro x ⟨h1,h2,h3⟩
 rcases List.eq_nil_or_concat x with rfl|⟨y,a,rfl⟩
 ·exact .inr ⟨.inl [],[],rfl,rfl,h1,(fun x hx=>by simp at hx),h2,h3⟩
 ·simp only[List.concat_eq_append] at *
  obtain⟨g1,g2⟩:=GI y a (by simp at h3;omega)
  have hp:decide (0<(((y++[a]).length:Nat):Int))=true:=by simp
  have hv:bZ (y++[a])=bZ y+4294967296^y.length * a:=by rw[uF,Az]
  by_cases ha:a=0
  ·refine .inl ⟨y,⟨fun z hz=>h1 z (List.mem_append_left _ hz), ?_,by simp at h3;omega⟩,by simp, ?_⟩
   ·rw[<-h2,hv,ha];simp
   ·have gs:eu (y++[a]) ((none:Option Int).getD 0) ((some (IntKind.i64.wrap (((y++[a]).length:Int) - 1))).getD (((y++[a]).length:Nat):Int))=some y:=by
     have e:IntKind.i64.wrap (((y++[a]).length:Int) - 1)=((y.length:Nat):Int):=by
      rw[Mh,MI,ge _ oM (by simp at h3;omega)];omega
     rw[e]
     simp only[Nf,MO,eu]
     rw[NH ⟨Na _,by omega,by simp;omega⟩]
     simp
    subst ha
    simp only[hp,ov,Mf,g1,L8,NF,gs]
  ·refine .inr ⟨.inl (y++[a]),y++[a], ?_,rfl,h1, ?_,h2,h3⟩
   ·simp only[hp,ov,Mf,g1,L8,ha,NB,Mg];rfl
   ·intro z hz;simp at hz;rw[<-hz];exact ha
theorem CO (b:Bool) (l:List Int) (h:q_ l) (hl:l.length<=1000):∃ t,rS b l=some ⟨b&&decide (bZ l≠0),t⟩/\q_ t/\IC t/\bZ t=bZ l/\t.length<=l.length:=by
 obtain⟨t,h1,h2,h3,h4,h5⟩:=GM l h hl
 refine⟨t, ?_,h2,h3,h4,h5⟩
 unfold rS tx;dsimp only
 rw[h1]
 simp only[L8,aO]
 have:decide (0<((t.length:Nat):Int))=decide (bZ l≠0):=by
  rw[<-h4]
  have:=D9 h2 h3
  by_cases hz:bZ t=0
  ·rw[hz];have:=this.1 hz;simp[this]
  ·have hn:t.length≠0:=fun e=>hz (this.2 e)
   simp only[ne_eq,hz,not_false_eq_true,NF,Ma];omega
 rw[this]
structure x9 (x:ar) (v:Int) (n:Nat):Prop where
 neg:x.fneg=false
 ok:q_ x.fabs
 nz:IC x.fabs
 val:bZ x.fabs=v
 len:x.fabs.length<=n
theorem x9.nn {x:ar} {v:Int} {n:Nat} (h:x9 x v n):0<=v:=h.val▸FP h.ok
theorem KU (n:Int) (h0:0<=n) (h1:n<4294967296):∃ x,rT n=some x/\x9 x n 1:=by
 unfold rT dS;dsimp only
 have hd:decide (n<0)=false:=by simp;omega
 have e1:IntKind.u64.wrap n=n:=CQ h0 oM
 have e2:IntKind.u32.wrap n=n:=by rw[KY];omega
 have e3:IntKind.u32.wrap (n/4294967296)=0:=by rw[KY];omega
 simp only[hd,Mg,e1,e2,e3]
 have hok:q_ [n,0]:=fun x hx=>by simp at hx;omega
 obtain⟨t,k1,k2,k3,k4,k5⟩:=CO false [n,0] hok oS
 rw[bU (nZ.2 ⟨by omega,by simp[IntKind.bits]⟩),k1]
 have hv:bZ [n,0]=n:=by simp[bZ]
 refine⟨_,rfl,by simp,k2,k3,by rw[k4,hv], ?_⟩
 show t.length<=1
 rcases Mr 1 t.length with h|h
 ·exfalso
  have:=CP k2 k3 (by intro e;rw[e] at h;simp at h)
  rw[k4,hv] at this
  obtain⟨k,hk⟩:∃ k,t.length - 1=1+k:=⟨t.length - 2,by omega⟩
  rw[hk,Int.pow_add] at this
  have h2:(0:Int)<4294967296^k:=Int.pow_pos oM
  omega
 ·exact h
theorem D7 (a b:List Int) (ha:q_ a) (hb:q_ b) (hl:b.length<=a.length) (h0:a.length<=999) {f:List Int×Int×Int->Option ((List Int×Int×Int)⊕((List Int×Int×Int)⊕List Int))} {r:Option (List Int)}
  (hr:r=(dD f ([],0,0)).bind (dg fun s=>lS (sN (s.fst.length+[IntKind.u32.wrap s.snd.fst].length)) (some (s.fst++[IntKind.u32.wrap s.snd.fst]))))
  (hf:∀ (o:List Int) (c:Int) (i:Nat) (x:Int),a[i]?=some x->0<=c->c<=1->o.length=i->f (o,c,(i:Int))=some (.inl (o++[(c+x+(b[i]?).getD 0)%4294967296],(c+x+(b[i]?).getD 0)/4294967296,((i+1:Nat):Int))))
  (he:∀ o c,f (o,c,(a.length:Int))=some (.inr (.inl (o,c,(a.length:Int))))):
  ∃ o,r=some o/\q_ o/\bZ o=bZ a+bZ b/\o.length=a.length+1:=by
 rw[hr]
 have hcut:bZ (b.take a.length)=bZ b:=by rw[MF hl]
 refine ld (X:=List Int×Int) (C:=fun o=>q_ o/\bZ o=bZ a+bZ b/\o.length=a.length+1) (fun x=>(x.1,x.2,(x.1.length:Int))) (fun x=>a.length - x.1.length)
  (fun x=>x.1.length<=a.length/\q_ x.1/\0<=x.2/\x.2<=1/\bZ x.1+4294967296^x.1.length * x.2=bZ (a.take x.1.length)+bZ (b.take x.1.length)) ?_ ([],0) ⟨ME _,JC,Na _,by omega,by simp[bZ]⟩
 rintro⟨o,c⟩ ⟨h1,h2,h3,h4,h5⟩
 simp only at h1 h2 h3 h4 h5⊢
 rcases Mr o.length a.length with hi|hi
 ·obtain⟨x,hx⟩:=eb hi
  have kx:=ha.get hx
  obtain⟨y,hy,ky,hty⟩:∃ y,(b[o.length]?).getD 0=y/\(0<=y/\y<4294967296)/\bZ (b.take (o.length+1))=bZ (b.take o.length)+4294967296^o.length * y:=by
   cases hb':b[o.length]? with
   |none=>
    have:b.length<=o.length:=Nz.1 hb'
    refine⟨0,rfl,by omega, ?_⟩
    rw[MF this,MF oM];simp
   |some y=>exact⟨y,rfl,hb.get hb',uT hb'⟩
  refine .inl ⟨(o++[(c+x+y)%4294967296],(c+x+y)/4294967296),⟨by simp;omega, ?_,by simp only;omega,by simp only;omega, ?_⟩,by simp;omega, ?_⟩
  ·exact h2.app fun z hz=>by simp at hz;omega
  ·simp only[Mh,MI]
   rw[GQ (c:=c) (m:=x+y) oM,uT hx,hty,NG,NG]
   omega
  ·rw[hf o c o.length x hx h3 h4 rfl,hy]
   simp
 ·have hl:o.length=a.length:=by omega
  refine .inr ⟨_,o++[c],by rw[hl];exact he o c, ?_,h2.app fun z hz=>by simp at hz;omega, ?_,by simp;omega⟩
  ·have hw:IntKind.u32.wrap c=c:=by rw[KY];omega
   simp only[dg,hw]
   exact fZ oT
  ·rw[uF,Az,h5,hl,MQ,hcut]
theorem LF (a b:List Int) (ha:q_ a) (hb:q_ b) (h1:a.length<=999) (h2:b.length<=999):∃ o,tw a b=some o/\q_ o/\bZ o=bZ a+bZ b/\o.length=max a.length b.length+1:=by
 have key:∀ (a b:List Int) (i:Nat) (x c:Int) (o:List Int),q_ a->q_ b->a.length<=999->a[i]?=some x->0<=c->c<=1->o.length=i->
   (bif decide ((i:Int)<(a.length:Int)) then(b_ a (i:Int)).bind fun e=>bif decide ((i:Int)<(b.length:Int)) then(b_ b (i:Int)).bind fun e_1=>lS (sN (o.length+[IntKind.u32.wrap (IntKind.u64.wrap (IntKind.u64.wrap (c+IntKind.u64.wrap e)+IntKind.u64.wrap e_1))].length)) (lS (Fl IntKind.u64 32) (some (Sum.inl (o++[IntKind.u32.wrap (IntKind.u64.wrap (IntKind.u64.wrap (c+IntKind.u64.wrap e)+IntKind.u64.wrap e_1))],IntKind.u64.wrap (IntKind.u64.wrap (c+IntKind.u64.wrap e)+IntKind.u64.wrap e_1)/4294967296,IntKind.i64.wrap ((i:Int)+1)))))
    else lS (sN (o.length+[IntKind.u32.wrap (IntKind.u64.wrap (c+IntKind.u64.wrap e))].length)) (lS (Fl IntKind.u64 32) (some (Sum.inl (o++[IntKind.u32.wrap (IntKind.u64.wrap (c+IntKind.u64.wrap e))],IntKind.u64.wrap (c+IntKind.u64.wrap e)/4294967296,IntKind.i64.wrap ((i:Int)+1)))))
   else dy (some (Sum.inl (o,c,(i:Int)))):Option ((List Int×Int×Int)⊕((List Int×Int×Int)⊕List Int)))=some (.inl (o++[(c+x+(b[i]?).getD 0)%4294967296],(c+x+(b[i]?).getD 0)/4294967296,((i+1:Nat):Int))):=by
  intro a b i x c o ha hb hl hx h0 h1 ho
  have hi:=bD hx
  have kx:=ha.get hx
  have e1:IntKind.u64.wrap x=x:=CQ kx.1 oM
  have e2:IntKind.u64.wrap (c+x)=c+x:=CQ oM oM
  have hsh:Fl IntKind.u64 32=some ():=nZ.2 ⟨by omega,by simp[IntKind.bits]⟩
  simp only[bp hi,Mf,aw,hx,L8,e1,e2,bN i oM,bU hsh]
  cases hb':b[i]? with
  |none=>
   have:b.length<=i:=Nz.1 hb'
   have hd:decide ((i:Int)<(b.length:Int))=false:=by simp;omega
   simp only[hd,Mg,Nf,KY,Int.add_zero]
   rw[fZ oT]
  |some y=>
   have hib:=bD hb'
   have ky:=hb.get hb'
   have e3:IntKind.u64.wrap y=y:=CQ ky.1 oM
   have e4:IntKind.u64.wrap (c+x+y)=c+x+y:=CQ oM oM
   simp only[bp hib,Mf,L8,e3,e4,MO,KY]
   rw[fZ oT]
 have hmk:∀ n:Nat,n<=999->KZ 0 (IntKind.i64.wrap ((n:Int)+1))=some ():=fun n hn=>by
  rw[bN n oM];exact wI.2 ⟨Na _,by omega,by omega⟩
 unfold tw dQ;dsimp only
 by_cases hlt:a.length<b.length
 ·have hd:decide ((a.length:Int)<(b.length:Int))=true:=by simpa using hlt
  simp only[hd,Mf]
  rw[bU (hmk _ h2)]
  exact(D7 b a hb ha oM h2 (by rfl) (by intro o c i x hx k1 k2 k3;exact key b a i x c o hb ha h2 hx k1 k2 k3) (by intro o c;simp only[an,Mg];rfl)).imp fun o h=>⟨h.1,h.2.1,by have:=h.2.2.1;omega,by have:=h.2.2.2;omega⟩
 ·have hd:decide ((a.length:Int)<(b.length:Int))=false:=by simpa using hlt
  simp only[hd,Mg]
  rw[bU (hmk _ h1)]
  exact(D7 a b ha hb oM h1 (by rfl) (by intro o c i x hx k1 k2 k3;exact key a b i x c o ha hb h1 hx k1 k2 k3) (by intro o c;simp only[an,Mg];rfl)).imp fun o h=>⟨h.1,h.2.1,h.2.2.1,by have:=h.2.2.2;omega⟩
theorem KV {x y:ar} {v w:Int} {n m:Nat} (hx:x9 x v n) (hy:x9 y w m) (hn:n<=900) (hm:m<=900):∃ z,cY x y=some z/\x9 z (v+w) (max n m+1):=by
 unfold cY dS;dsimp only
 obtain⟨o,k1,k2,k3,k4⟩:=LF x.fabs y.fabs hx.ok hy.ok (by have:=hx.len;omega) (by have:=hy.len;omega)
 obtain⟨t,q1,q2,q3,q4,q5⟩:=CO false o k2 (by have:=hx.len;have:=hy.len;omega)
 simp only[hx.neg,hy.neg,NF,Mf,k1,L8,q1]
 refine⟨_,rfl,by simp,q2,q3,by rw[q4,k3,hx.val,hy.val], ?_⟩
 show t.length<=_
 have:=hx.len;have:=hy.len;omega
theorem GN {e y:Int} (he:0<=e/\e<4294967296) (hy:0<=y/\y<4294967296):0<=e * y/\e * y<=18446744065119617025:=by
 refine⟨Int.mul_nonneg he.1 hy.1, ?_⟩
 have:=Int.mul_le_mul (show e<=4294967295 by omega) (show y<=4294967295 by omega) hy.1 oM
 omega
theorem KW {i k:Nat} (h:i+k<=2000):IntKind.i64.wrap ((i:Int)+(k:Int))=((i+k:Nat):Int):=by rw[ge _ oM oM];simp
theorem JA {x y:ar} {v w:Int} {n m:Nat} (hx:x9 x v n) (hy:x9 y w m) (hn:n+m<=900):∃ z,cN x y=some z/\x9 z (v * w) (n+m):=by
 have lx:=hx.len;have ly:=hy.len
 have ox:=hx.ok;have oy:=hy.ok
 have vx:=hx.val;have vy:=hy.val
 have nx:=hx.neg;have ny:=hy.neg
 have nX:∀ (b:Bool),(b=b):=fun _=>rfl
 obtain⟨xn,xa⟩:=x
 obtain⟨yn,ya⟩:=y
 simp only at lx ly ox oy vx vy nx ny
 subst nx;subst ny
 unfold cN dS;dsimp only
 have e0:IntKind.i64.wrap ((xa.length:Int)+(ya.length:Int))=((xa.length+ya.length:Nat):Int):=KW oM
 have hsh:Fl IntKind.u64 32=some ():=nZ.2 ⟨by omega,by simp[IntKind.bits]⟩
 simp only[e0,Nh,NF,Mm]
 rw[bU (wI.2 ⟨by omega,Na _,by omega⟩)]
 refine ld (X:=List Int×Nat) (C:=fun z:ar=>x9 z (v * w) (n+m)) (fun s=>(s.1,(s.2:Int))) (fun s=>xa.length - s.2)
  (fun s=>s.2<=xa.length/\s.1.length=xa.length+ya.length/\q_ s.1/\bZ s.1=bZ (xa.take s.2) * bZ ya/\∀ j z,s.2+ya.length<=j->s.1[j]?=some z->z=0) ?_ (List.replicate (xa.length+ya.length) 0,0)
  ⟨ME _,by simp,JD _,by simp[D8,bZ],fun j z _ hz=>by
   simp only[List.getElem?_replicate] at hz
   split at hz
   ·simpa using hz.symm
   ·cases hz⟩
 rintro⟨out,i⟩ ⟨h1,h2,h3,h4,h5⟩
 simp only at h1 h2 h3 h4 h5⊢
 rcases Mr i xa.length with hi|hi
 ·obtain⟨e,he⟩:=eb hi
  have ke:=ox.get he
  have e1:IntKind.u64.wrap e=e:=CQ ke.1 oM
  have inner:∃ r:(List Int×Int)⊕((List Int×Int)⊕ar),_=some r/\∃ o,r= .inl (o,((i+1:Nat):Int))/\o.length=xa.length+ya.length/\q_ o/\bZ o=bZ (xa.take (i+1)) * bZ ya/\∀ j z,i+1+ya.length<=j->o[j]?=some z->z=0:=
   ld (R:=(List Int×Int)⊕((List Int×Int)⊕ar)) (X:=(List Int×Int)×Nat) (f:=fun s_1:List Int×Int×Int=>
     bif decide (s_1.snd.snd<(ya.length:Int)) then(b_ ya s_1.snd.snd).bind fun e_1=>(b_ s_1.fst (IntKind.i64.wrap ((i:Int)+s_1.snd.snd))).bind fun e_2=>s_1.fst[(IntKind.i64.wrap ((i:Int)+s_1.snd.snd)).toNat]?.bind fun e_3=>(b_ s_1.fst (IntKind.i64.wrap ((i:Int)+s_1.snd.snd))).bind fun e_4=>s_1.fst[(IntKind.i64.wrap ((i:Int)+s_1.snd.snd)).toNat]?.bind fun e_5=>
      lS (Fl IntKind.u64 32) (some (Sum.inl (s_1.fst.set (IntKind.i64.wrap ((i:Int)+s_1.snd.snd)).toNat (IntKind.u32.wrap (IntKind.u64.wrap (s_1.snd.fst+IntKind.u64.wrap (IntKind.u64.wrap e_3+IntKind.u64.wrap (IntKind.u64.wrap e * IntKind.u64.wrap e_1))))),IntKind.u64.wrap (s_1.snd.fst+IntKind.u64.wrap (IntKind.u64.wrap e_3+IntKind.u64.wrap (IntKind.u64.wrap e * IntKind.u64.wrap e_1)))/4294967296,IntKind.i64.wrap (s_1.snd.snd+1))))
     else dy (some (Sum.inl (s_1.fst,s_1.snd.fst,s_1.snd.snd))))
    (k:=dg fun s_1:List Int×Int×Int=>(b_ s_1.fst (IntKind.i64.wrap ((i:Int)+(ya.length:Int)))).bind fun e=>s_1.fst[(IntKind.i64.wrap ((i:Int)+(ya.length:Int))).toNat]?.bind fun e=>some (Sum.inl (s_1.fst.set (IntKind.i64.wrap ((i:Int)+(ya.length:Int))).toNat (IntKind.u32.wrap s_1.snd.fst),IntKind.i64.wrap ((i:Int)+1))))
    (fun s=>(s.1.1,s.1.2,(s.2:Int))) (fun s=>ya.length - s.2)
    (fun s=>s.2<=ya.length/\s.1.1.length=xa.length+ya.length/\q_ s.1.1/\(0<=s.1.2/\s.1.2<4294967296)/\bZ s.1.1+4294967296^(i+s.2) * s.1.2=bZ out+4294967296^i * (e * bZ (ya.take s.2))/\∀ j z,i+ya.length<=j->s.1.1[j]?=some z->z=0) (by
     rintro⟨⟨o,c⟩,k⟩ ⟨q1,q2,q3,q4,q5,q6⟩
     simp only at q1 q2 q3 q4 q5 q6⊢
     rcases Mr k ya.length with hk|hk
     ·obtain⟨y,hy⟩:=eb hk
      have ky:=oy.get hy
      obtain⟨p,hp⟩:∃ p,o[i+k]?=some p:=eb oM
      have kp:=q3.get hp
      have km:=GN ke ky
      have e2:IntKind.u64.wrap y=y:=CQ ky.1 oM
      have e3:IntKind.u64.wrap p=p:=CQ kp.1 oM
      have e4:IntKind.u64.wrap (e * y)=e * y:=CQ km.1 oM
      have e5:IntKind.u64.wrap (p+e * y)=p+e * y:=CQ oM oM
      have e6:IntKind.u64.wrap (c+(p+e * y))=c+(p+e * y):=CQ oM oM
      have e7:IntKind.i64.wrap ((i:Int)+(k:Int))=((i+k:Nat):Int):=KW oM
      refine .inl ⟨((o.set (i+k) ((c+(p+e * y))%4294967296),(c+(p+e * y))/4294967296),k+1),⟨hk,by simpa using q2,q3.set _ oM,by simp only;omega, ?_,fun j z hj hz=> ?_⟩,by simp only;omega, ?_⟩
      ·simp only
       rw[<-Nat.add_assoc,GP hp rfl,uT hy,NG,<-NZ,q5,NG,NG,Int.pow_add,NZ]
       congr 2
       ac_rfl
      ·simp only at hz
       rw[List.getElem?_set_ne oM] at hz
       exact q6 j z hj hz
      ·simp only[bp hk,Mf,aw,hy,L8,e7,Nh,hp,e1,e2,e3,e4,e5,e6,KY,bN k oM]
       rw[bU hsh]
     ·have hl:k=ya.length:=by omega
      subst hl
      obtain⟨p,hp⟩:∃ p,o[i+ya.length]?=some p:=eb oM
      have hz:=q6 _ p (Me _) hp
      subst hz
      have e7:IntKind.i64.wrap ((i:Int)+(ya.length:Int))=((i+ya.length:Nat):Int):=KW oM
      have e8:IntKind.u32.wrap c=c:=by rw[KY];omega
      rw[MQ] at q5
      refine .inr ⟨_,_,by simp only[an,Mg];rfl,by simp only[dg,e7,aw,Nh,hp,L8,e8,bN i oM];rfl,_,rfl,by simpa using q2,q3.set _ q4, ?_,fun j z hj hz=> ?_⟩
      ·rw[Ay _ hp,Int.sub_zero,q5,h4,uT he,Int.add_mul]
       congr 1
       ac_rfl
      ·rw[List.getElem?_set_ne oM] at hz
       exact q6 j z oM hz)
    ((out,0),0) ⟨ME _,h2,h3,⟨Na _,by simp⟩,by simp[bZ],h5⟩
  obtain⟨r,hr,o,rfl,g1,g2,g3,g4⟩:=inner
  refine .inl ⟨(o,i+1),⟨hi,g1,g2,g3,g4⟩,by simp only;omega, ?_⟩
  simp only[bp hi,Mf,aw,he,L8]
  exact hr
 ·have hl:i=xa.length:=by omega
  subst hl
  rw[MQ] at h4
  obtain⟨t,k1,k2,k3,k4,k5⟩:=CO false out h3 oM
  refine .inr ⟨_,_,by simp only[an,Mg];rfl,by simp only[dg,k1,L8];rfl, ?_⟩
  exact⟨by simp,k2,k3,by rw[k4,h4,vx,vy],by show t.length<=n+m;omega⟩
theorem JB {x:ar} {v:Int} {n:Nat} (hx:x9 x v n) (hn:n<=900) (hv:v≠0):∃ t,bJ x=some ⟨true,t⟩/\q_ t/\IC t/\bZ t=v/\t.length<=n:=by
 unfold bJ dS;dsimp only
 have lx:=hx.len
 obtain⟨t,k1,k2,k3,k4,k5⟩:=CO (!x.fneg) x.fabs hx.ok oM
 refine⟨t, ?_,k2,k3,k4.trans hx.val,by omega⟩
 rw[k1,hx.neg,hx.val]
 simp[hv]
theorem KX {x:ar} {v:Int} {n:Nat} (hx:x9 x v n):bP x=some (if v=0 then 0 else 1):=by
 unfold bP dQ;dsimp only
 have h:=D9 hx.ok hx.nz
 rw[hx.val] at h
 simp only[hx.neg,Mg]
 by_cases hv:v=0
 ·have hl:=h.1 hv
  rw[NH hv,hl];rfl
 ·have hl:x.fabs.length≠0:=fun e=>hv (h.2 e)
  rw[NY hv,Ni (show¬ ((x.fabs.length:Int)=0) by omega)];rfl
theorem LG (b:Bool) (l:List Int) (h:q_ l) (hz:IC l) (m:Int) (h0:0<=m) (h1:m<9223372036854775807):∃ r,fd ⟨b,l⟩ m=some (r,decide (bZ l<=m)):=by
 unfold fd dQ;dsimp only
 by_cases hl:2<l.length
 ·have hg:=GO h hz hl
  have hd:decide (2<((l.length:Nat):Int))=true:=by simp;omega
  have hv:decide (bZ l<=m)=false:=by simp;omega
  rw[hd,hv];exact⟨_,rfl⟩
 ·have hd:decide (2<((l.length:Nat):Int))=false:=by simp;omega
  rw[hd]
  simp only[Mg]
  have hw:IntKind.u64.wrap m=m:=CQ h0 oM
  have hfin:∀ u:Int,u=bZ l->∃ r,(bif decide (IntKind.u64.wrap m<u) then some ((0:Int),false) else bif b then some (IntKind.i64.wrap (0 - IntKind.i64.wrap u),true) else some (IntKind.i64.wrap u,true))=some (r,decide (bZ l<=m)):=by
   intro u hu
   rw[hw,hu]
   by_cases hc:m<bZ l
   ·rw[M9 hc,show decide (bZ l<=m)=false by simp;omega];exact⟨_,rfl⟩
   ·rw[Ni hc,show decide (bZ l<=m)=true by simp;omega]
    cases b<;>exact⟨_,rfl⟩
  have s0:IntKind.i64.wrap (32 * 0)=0:=by rw[ge _ oM oM];rfl
  have s1:IntKind.i64.wrap (32 * (0+1))=32:=by rw[ge _ oM oM];rfl
  have s2:IntKind.i64.wrap (0+1)=1:=by rw[ge _ oM oM];rfl
  have s3:IntKind.i64.wrap (32 * 1)=32:=by rw[ge _ oM oM];rfl
  have s4:IntKind.i64.wrap (1+1)=2:=by rw[ge _ oM oM];rfl
  have hsa:Fl IntKind.u64 0=some ():=nZ.2 ⟨by omega,by simp[IntKind.bits]⟩
  have hsb:Fl IntKind.u64 32=some ():=nZ.2 ⟨by omega,by simp[IntKind.bits]⟩
  match l,h,hz,hl with
  |[],_,_,_=>
   rw[ck]
   have d0:decide ((0:Int)<(([]:List Int).length:Int))=false:=by simp
   simp only[d0,Mg,dy,MS,L8,dg]
   exact hfin 0 rfl
  |[x],h,_,_=>
   have kx:=h x oS
   have e1:IntKind.u64.wrap x=x:=CQ kx.1 oM
   rw[ck]
   have d1:decide ((0:Int)<(([x]:List Int).length:Int))=true:=by simp
   have d2:decide ((1:Int)<(([x]:List Int).length:Int))=false:=by simp
   have g1:b_ [x] 0=some x:=rfl
   simp only[d1,Mf,g1,L8,s0,s2,bU hsa,Int.toNat_zero,Int.pow_zero,Int.mul_one,e1,FQ kx]
   rw[ck]
   simp only[d2,Mg,dy,MS,L8,dg]
   exact hfin x (by simp[bZ])
  |[x,y],h,_,_=>
   have kx:=h x oS
   have ky:=h y oS
   have e1:IntKind.u64.wrap x=x:=CQ kx.1 oM
   have e2:IntKind.u64.wrap y=y:=CQ ky.1 oM
   have e3:IntKind.u64.wrap (y * 4294967296)=y * 4294967296:=CQ oM oM
   rw[ck]
   have d1:decide ((0:Int)<(([x,y]:List Int).length:Int))=true:=by simp
   have d2:decide ((1:Int)<(([x,y]:List Int).length:Int))=true:=by simp
   have d3:decide ((2:Int)<(([x,y]:List Int).length:Int))=false:=by simp
   have g1:b_ [x,y] 0=some x:=rfl
   have g2:b_ [x,y] 1=some y:=rfl
   simp only[d1,Mf,g1,L8,s0,s2,bU hsa,Int.toNat_zero,Int.pow_zero,Int.mul_one,e1,FQ kx]
   rw[ck]
   have p32:(2:Int)^(32:Int).toNat=4294967296:=by decide
   simp only[d2,Mf,g2,L8,s3,s4,bU hsb,e2,p32,e3,JE kx ky]
   rw[ck]
   simp only[d3,Mg,dy,MS,L8,dg]
   exact hfin _ (by simp[bZ])
  |_::_::_::_,_,_,hl=>simp at hl
end Go.Proofs.YteaolfcegaidpaaGreatDoor
