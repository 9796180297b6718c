/-
  Laws on the way to the theorem.
-/
import Derived.Test.YtgocgdgknpdknaaGreatDoorBX4
import Derived.Test.YtgocgdgknpdknaaGreatDoorCards
import Derived.Test.YtgocgdgknpdknaaGreatDoorTie
import Derived.Test.YtgocgdgknpdknaaGreatDoorSXEngNr
import Derived.Test.YtgocgdgknpdknaaGreatDoorSXEngRn
import Derived.Lib.Bytealg
namespace Go.Proofs.YtgocgdgknpdknaaGreatDoor
open Go.RowKit
set_option linter.unusedSimpArgs false
set_option linter.unusedVariables false
structure qa where
 fRepeats:List (List (List UInt8))
 deriving DecidableEq
def pg (x:qa):List DV:=[.slice (List.map (q0 eK) x.fRepeats)]
attribute [push_cast] pg
structure ea where
 fTag:List UInt8
 fElements:List qa
 deriving DecidableEq
def bW (x:ea):List DV:=[.str x.fTag,.slice (List.map pg x.fElements)]
attribute [push_cast] bW
theorem wC {d0 d1:DV} {v0:List UInt8} {v1:List qa} (h0:d0= .str v0) (h1:d1= .slice (List.map pg v1)):[d0,d1]=bW ⟨v0,v1⟩:=by unfold bW;simp only[h0,h1,J5,Kd,KM,Ka]
structure bV where
 fmany:Int
 deriving DecidableEq
def bX (x:bV):List DV:=[.int .i64 x.fmany]
attribute [push_cast] bX
theorem gY {d0:SV} {v0:Int} (h0:qy d0 (.d (.int .i64 v0))):aU [d0] (jf [.sh] (bX ⟨v0⟩)):=by have h:=(aU.consS h0 aU.nil);simp only[push_cast,seval,dR] at h⊢;exact h
def oU (p0:Int):List SV:=[.d (.int .i64 p0)]
attribute [push_cast] oU
structure aN where
 fName:List UInt8
 fSegment:ea
 fKids:List aN
mutual
def ph:aN->List DV
 |⟨v0,v1,v2⟩=>[.str v0]++bW v1++[.slice (fe v2)]
def fe:List aN->List (List DV)
 |[]=>[]
 |x::l=>ph x::fe l
end
def aO (x:aN):List DV:=[.str x.fName]++bW x.fSegment++[.slice (fe x.fKids)]
theorem vw (x:aN):ph x=aO x:=by cases x;simp only[ph,aO]
theorem oV:∀ l:List aN,fe l=List.map aO l
 |[]=>by simp only[fe,KX]
 |x::l=>by simp only[fe,JZ,oV l,vw]
theorem qp (x:aN):aO x=[.str x.fName]++bW x.fSegment++[.slice (List.map aO x.fKids)]:=by show([.str x.fName]++bW x.fSegment++[.slice (fe x.fKids)]:List DV)=_;simp only[oV]
attribute [push_cast] qp
theorem rM {d0 d1 d2 d3:DV} {v0:List UInt8} {v1:ea} {v2:List aN} (h0:d0= .str v0) (h1:[d1,d2]=bW v1) (h2:d3= .slice (List.map aO v2)):[d0,d1,d2,d3]=aO ⟨v0,v1,v2⟩:=by rw[qp];simp only[h0,<-h1,h2,J5,Kd,KM,Ka]
structure j6 where
 fNames:List (List UInt8)
 fTag:List UInt8
 fElement:Int
 fPart:Int
 deriving DecidableEq
def gk (x:j6):List DV:=[.slice (List.map eK x.fNames),.str x.fTag,.int .i64 x.fElement,.int .i64 x.fPart]
attribute [push_cast] gk
theorem x6 {d0 d1 d2 d3:DV} {v0:List (List UInt8)} {v1:List UInt8} {v2:Int} {v3:Int} (h0:d0= .slice (List.map eK v0)) (h1:d1= .str v1) (h2:d2= .int .i64 v2) (h3:d3= .int .i64 v3):[d0,d1,d2,d3]=gk ⟨v0,v1,v2,v3⟩:=by unfold gk;simp only[h0,h1,h2,h3,J5,Kd,KM,Ka]
def pG:SC:=
 (.seq (.reg [.r 1 (.boxI (.t 0)),
   .r 2 (.mv (.c (.d (.bool false))))])
 (.seq (.reg (.r 3 (.fld 0 (.t 1)):: .o 4 (.ld1 (.t 3)):: .r 5 (.bin .eql (.t 4) (.c (.d (.str [])))):: .r 6 (.mv (.t 5))::aK [7,8,9,10] 6 true (.r 7 (.fld 1 (.t 1)):: .r 8 (.ld1 (.t 7)):: .r 9 (.len (.t 8)):: .r 10 (.bin .eql (.t 9) (.c (.d (.int .i64 0))))::[]) (.r 11 (.pick (.t 6) (.t 10) (.c (.d (.bool false)))):: .r 2 (.mv (.t 11))::[])))
 .ret))
theorem ux:fits Tryz.prog 113 Tryz.f113 pG [.t 2] 1=true:=oK
def ff:SC:=
 (.seq (.reg [.r 29 (.bin .lss (.t 28) (.t 27))])
 (.seq (.cond (.t 29)
  .any
  (.exit 2))
 .any))
def jn:SC:= .block 2 (.loop ff)
def fg:SC:=
 (.seq (.reg [.r 14 (.bin .lss (.t 13) (.t 12))])
 (.seq (.cond (.t 14)
  .skip
  (.exit 0))
 (.seq (.block 1 (.seq (.reg [.r 15 (.idx 2 (.t 11) (.t 13)),
    .o 16 (.ldA 2 (.t 15)),
    .w 4 (.boxM (.c (.agg [.d (.str []),.nils]))),
    .w 0 (.st 2 (.t 4) (.t 16))])
  (.seq (.seq (.reg [.r 17 (.fld 0 (.t 4)),
    .o 18 (.ld1 (.t 17)),
    .c 19 (.f 36) [.t 18],
    .r 20 (.not (.t 19))])
  (.cond (.t 20)
   .any
   .skip))
  (.seq (.seq (.reg [.r 21 (.fld 1 (.t 4)),
    .o 22 (.ld1 (.t 21)),
    .r 23 (.len (.t 22)),
    .r 24 (.bin .gtr (.t 23) (.c (.d (.int .i64 50))))])
  (.cond (.t 24)
   .any
   .skip))
  (.seq (.reg [.r 25 (.fld 1 (.t 4)),
    .o 26 (.ld1 (.t 25)),
    .r 27 (.len (.t 26)),
    .r 28 (.mv (.c (.d (.int .i64 0))))])
  jn)))))
 (.reg [.r 38 (.bin .add (.t 13) (.c (.d (.int .i64 1)))),
   .r 13 (.mv (.t 38))]))))
def jo:SC:= .block 0 (.loop fg)
def ld:SC:=
 (.seq (.reg [.r 2 (.mv (.c (.d (.int .i64 0))))])
 (.seq (.seq (.reg [.r 8 (.mv (.t 0)),
   .r 9 (.len (.t 8)),
   .r 10 (.bin .gtr (.t 9) (.c (.d (.int .i64 2000))))])
 (.cond (.t 10)
  .any
  .skip))
 (.seq (.seq (.reg [.r 11 (.mv (.t 0)),
   .r 12 (.len (.t 11)),
   .r 13 (.mv (.c (.d (.int .i64 0))))])
 jo)
 (.seq (.reg [.r 2 (.mv (.c (.d (.int .i64 0))))])
 .ret))))
theorem qb:fits Tryz.prog 114 Tryz.f114 ld [.t 2] 1=true:=oK
def bK:SC:=
 (.seq (.seq (.reg [.r 9 (.mv (.t 5)),
   .r 10 (.bin .geq (.t 9) (.c (.d (.int .i64 0))))])
 (.cond (.t 10)
  .skip
  (.exit 0)))
 (.seq (.block 1 (.seq (.reg [.r 13 (.mv (.t 0)),
    .r 14 (.mv (.t 5)),
    .r 15 (.sidx (.t 13) (.t 14)),
    .r 16 (.mv (.t 1)),
    .r 17 (.bin .eql (.t 15) (.t 16))])
  (.cond (.t 17)
   (.seq (.reg [.r 18 (.mv (.t 5)),
     .r 4 (.mv (.t 18))])
   .ret)
   .skip)))
 (.reg [.r 11 (.mv (.t 5)),
   .r 12 (.bin .sub (.t 11) (.c (.d (.int .i64 1)))),
   .r 5 (.mv (.t 12))])))
def cN:SC:= .block 0 (.loop bK)
def dw:SC:=
 (.seq (.reg [.r 4 (.mv (.c (.d (.int .i64 0))))])
 (.seq (.seq (.reg [.r 6 (.mv (.t 0)),
   .r 7 (.lenT (.t 6)),
   .r 8 (.bin .sub (.t 7) (.c (.d (.int .i64 1)))),
   .r 5 (.mv (.t 8))])
 cN)
 (.seq (.reg [.r 4 (.mv (.c (.d (.int .i64 (-1)))))])
 .ret)))
theorem gI:fits Tryz.prog 93 Tryz.f93 dw [.t 4] 2=true:=oK
def jb:SC:=
 (.seq (.reg [.r 18 (.bin .lss (.t 17) (.t 16))])
 (.seq (.cond (.t 18)
  .any
  (.exit 0))
 .any))
def mK:SC:= .block 0 (.loop jb)
def pH:SC:=
 (.seq (.reg [.r 4 (.mv (.c (.nils)))])
 (.seq (.reg [.r 13 (.mv (.t 0)),
   .r 14 (.bslice 1 [.t 13]),
   .r 5 (.mv (.t 14))])
 (.seq (.seq (.reg [.r 15 (.mv (.t 1)),
   .r 16 (.len (.t 15)),
   .r 17 (.mv (.c (.d (.int .i64 0))))])
 mK)
 (.seq (.reg [.r 46 (.mv (.t 5)),
   .r 4 (.mv (.t 46))])
 .ret))))
theorem uy:fits Tryz.prog 75 Tryz.f75 pH [.t 4] 2=true:=oK
set_option maxRecDepth 100000 in
set_option maxHeartbeats 40000000 in
noncomputable def dG:(∀ (x0:ea),{m:Option (Bool)//∀ r,m=some r->aa Tryz.prog 113 [.agg (bW x0)] (.bool r)})×(∀ (x0:List ea),{m:Option (Int)//∀ r,m=some r->aa Tryz.prog 114 [.slice (List.map bW x0)] (.int .i64 r)})×(∀ (x0:List UInt8) (x1:UInt8),{m:Option (Int)//∀ r,m=some r->aa Tryz.prog 93 [.str x0,.int .u8 (x1).toNat] (.int .i64 r)})×(∀ (x0:List aN) (x1:List (List UInt8)),{m:Option ((List (List aN)))//∀ r,m=some r->aa Tryz.prog 75 [.slice (List.map aO x0),.slice (List.map eK x1)] (.slice (List.map (q0 aO) r))}):=by
 refine⟨?g0, ?g1, ?g2, ?g3⟩
 case' g0=>(intro x0;apply Subtype.mk;intro r hm;apply af Tryz.func113 ux;unfold pG)
 case' g1=>(intro x0;apply Subtype.mk;intro r hm;apply af Tryz.func114 qb;unfold ld)
 case' g2=>(intro x0 x1;apply Subtype.mk;intro r hm;apply af Tryz.func93 gI;unfold dw)
 case' g3=>(intro x0 x1;apply Subtype.mk;intro r hm;apply af Tryz.func75 uy;unfold pH)
 all_goals(repeat'(first|with_reducible refine bu ?_|with_reducible refine bt ?_|with_reducible refine bf ?_|with_reducible refine be ?_|with_reducible refine bB ?_|with_reducible refine cg ?_|with_reducible refine bw ?_|with_reducible refine bv ?_|with_reducible refine ck ?_|with_reducible refine bD ?_|with_reducible refine bo ?_|with_reducible refine bE ?_|with_reducible refine du ?_|((with_reducible apply cD hm);(iterate 2 (simp only[push_cast,seval];rfl));(intro _;rfl);intro e hm)|((with_reducible apply jv hm);(iterate 2 (simp only[push_cast,seval];rfl));intro e hm)|((with_reducible apply iN);(simp only[push_cast,seval];rfl);(first|exact trivial))|(with_reducible apply uh hm)|((with_reducible apply eE hm);(simp only[push_cast,seval];rfl);rfl;intro v hm;rotate_left;intro v g hm)|((with_reducible apply dJ hm);(simp only[push_cast,seval];rfl);(first|apply kO _);(any_goals((repeat'(first|rfl));done));intro x hm)|((with_reducible apply tQ);(simp only[push_cast,seval];rfl);(first|exact trivial))|((with_reducible apply aQ hm);(simp only[push_cast,seval];rfl);intro hm;rotate_left;intro hm)|((with_reducible apply bF hm);(focus(simp only[a8,cj,RV.get,push_cast,seval];rfl));(focus((repeat'(first|rfl|(with_reducible first|apply c9|apply dA|apply ek)));done)))|((with_reducible apply bO hm);(simp only[push_cast,seval];rfl))|((with_reducible apply bH hm);intro r hm)|((with_reducible apply cy hm);intro r hm)|((apply aF (b:=2) (X:=jn) (x:=ff) rfl (fun(c:SV×SV×SV×SV×SV) (s:Unit)=>st [(11,c.1),(12,c.2.1),(13,c.2.2.1),(27,c.2.2.2.1),(28,c.2.2.2.2)] []) (c:=(_,_,_,_,_)) (s0:=()) hm);(focus(first|(dsimp only;done)));(with_reducible refine cz.mk ?_ ?_))|((apply aF (b:=0) (X:=jo) (x:=fg) rfl (fun(c:SV×SV) (s:Int)=>st [(11,c.1),(12,c.2),(13,.d (.int .i64 s))] []) (c:=(_,_)) (s0:=_) hm);(focus(first|(dsimp only;done)));(with_reducible refine cz.mk ?_ ?_))|((apply aF (b:=0) (X:=cN) (x:=bK) rfl (fun(c:SV×SV) (s:Int)=>st [(0,c.1),(1,c.2),(5,.d (.int .i64 s))] []) (c:=(_,_)) (s0:=_) hm);(focus(first|(dsimp only;done)));(with_reducible refine cz.mk ?_ ?_))|((apply aF (b:=0) (X:=mK) (x:=jb) rfl (fun(c:SV×SV×SV) (s:Unit)=>st [(5,c.1),(16,c.2.1),(17,c.2.2)] []) (c:=(_,_,_)) (s0:=()) hm);(focus(first|(dsimp only;done)));(with_reducible refine cz.mk ?_ ?_))|((apply bN (s':=_) hm);(focus(first|(dsimp only;done))))|((apply cJ (s':=_) hm);(focus(first|(dsimp only;done))))|(((with_reducible apply fD hm);intro r hm))|(((with_reducible apply dz.of);(focus(first|(dsimp only;done)));(focus((intro _;repeat'(first|with_reducible exact bp|with_reducible refine ba ?_|with_reducible refine dP ?_|((with_reducible refine ii ?_);intro _)|((with_reducible refine ij ?_);intro _)))));(intro s o hm;first|unfold ff|unfold fg|unfold bK|unfold jb);rotate_left;intro s hm))|(((apply bI;(repeat'(first|with_reducible exact aS|with_reducible exact aT|with_reducible apply aL|((with_reducible apply a_);(focus(first|(simp only[push_cast,seval];rfl)));(focus((repeat'(first|rfl));done)))));done)))))
 all_goals(intros;exact())
noncomputable def wD (x0:ea):Option (Bool):=(dG.1 x0).1
theorem tJ (x0:ea):∀ r,wD x0=some r->aa Tryz.prog 113 [.agg (bW x0)] (.bool r):=(dG.1 x0).2
noncomputable def iB (x0:List ea):Option (Int):=(dG.2.1 x0).1
theorem pI (x0:List ea):∀ r,iB x0=some r->aa Tryz.prog 114 [.slice (List.map bW x0)] (.int .i64 r):=(dG.2.1 x0).2
noncomputable def dH (x0:List UInt8) (x1:UInt8):Option (Int):=(dG.2.2.1 x0 x1).1
theorem gy (x0:List UInt8) (x1:UInt8):∀ r,dH x0 x1=some r->aa Tryz.prog 93 [.str x0,.int .u8 (x1).toNat] (.int .i64 r):=(dG.2.2.1 x0 x1).2
noncomputable def qq (x0:List aN) (x1:List (List UInt8)):Option ((List (List aN))):=(dG.2.2.2 x0 x1).1
theorem tK (x0:List aN) (x1:List (List UInt8)):∀ r,qq x0 x1=some r->aa Tryz.prog 75 [.slice (List.map aO x0),.slice (List.map eK x1)] (.slice (List.map (q0 aO) r)):=(dG.2.2.2 x0 x1).2
def jp:SC:=
 (.seq (.reg [.r 4 (.mv (.c (.d (.int .i64 0))))])
 (.seq (.reg [.r 5 (.mv (.t 0)),
   .r 6 (.mv (.t 1)),
   .c 7 (.f 93) [.t 5,.t 6],
   .r 4 (.mv (.t 7))])
 .ret))
theorem od:fits Tryz.prog 71 Tryz.f71 jp [.t 4] 2=true:=oK
def jL:SC:=
 (.seq (.reg [.r 26 (.bin .lss (.t 25) (.t 24))])
 (.seq (.cond (.t 26)
  .skip
  (.exit 2))
 (.seq (.block 3 (.seq (.reg [.r 27 (.idx 4 (.t 23) (.t 25)),
    .o 28 (.ldA 4 (.t 27)),
    .w 9 (.boxM (.c (.agg [.d (.str []),.d (.str []),.nils,.nils]))),
    .w 0 (.st 4 (.t 9) (.t 28))])
  (.seq (.seq (.reg (.r 29 (.fld 0 (.t 9)):: .o 30 (.ld1 (.t 29)):: .r 31 (.bin .neq (.t 30) (.c (.d (.str [])))):: .r 32 (.mv (.t 31))::aK [33,34,35,36,37,38] 32 false (.r 33 (.fld 1 (.t 9)):: .r 34 (.fld 0 (.t 33)):: .r 35 (.ld1 (.t 34)):: .r 36 (.fld 1 (.t 3)):: .r 37 (.ld1 (.t 36)):: .r 38 (.bin .neq (.t 35) (.t 37))::[]) (.r 39 (.pick (.t 32) (.c (.d (.bool true))) (.t 38))::[])))
  (.cond (.t 39)
   .any
   .skip))
  (.seq (.seq (.reg [.r 40 (.fld 2 (.t 3)),
    .o 41 (.ld1 (.t 40)),
    .r 42 (.bin .eql (.t 41) (.c (.d (.int .i64 0))))])
  (.cond (.t 42)
   (.seq (.reg [.r 43 (.mv (.t 5)),
     .r 44 (.fld 1 (.t 3)),
     .o 45 (.ld1 (.t 44)),
     .r 46 (.bslice 1 [.t 45]),
     .w 47 (.app 9 1 (.t 43) (.t 46)),
     .r 5 (.mv (.t 47))])
   (.exit 3))
   .any))
  .any))))
 (.reg [.r 90 (.bin .add (.t 25) (.c (.d (.int .i64 1)))),
   .r 25 (.mv (.t 90))]))))
def nN:SC:= .block 2 (.loop jL)
def jM:SC:=
 (.seq (.reg [.r 20 (.bin .lss (.t 19) (.t 18))])
 (.seq (.cond (.t 20)
  .skip
  (.exit 0))
 (.seq (.block 1 (.seq (.reg [.r 21 (.idx 1 (.t 17) (.t 19)),
    .o 22 (.ld1 (.t 21)),
    .r 7 (.mv (.t 22))])
  (.seq (.reg [.r 23 (.mv (.t 7)),
    .r 24 (.len (.t 23)),
    .r 25 (.mv (.c (.d (.int .i64 0))))])
  nN)))
 (.reg [.r 91 (.bin .add (.t 19) (.c (.d (.int .i64 1)))),
   .r 19 (.mv (.t 91))]))))
def nO:SC:= .block 0 (.loop jM)
def qr:SC:=
 (.seq (.reg [.r 3 (.boxI (.t 1)),
   .r 4 (.mv (.c (.nils)))])
 (.seq (.reg [.r 5 (.mv (.c (.nils)))])
 (.seq (.seq (.reg [.r 14 (.mv (.t 0)),
   .r 15 (.fld 0 (.t 3)),
   .o 16 (.ld1 (.t 15)),
   .c 17 (.f 75) [.t 14,.t 16],
   .r 18 (.len (.t 17)),
   .r 19 (.mv (.c (.d (.int .i64 0))))])
 nO)
 (.seq (.reg [.r 92 (.mv (.t 5)),
   .r 4 (.mv (.t 92))])
 .ret))))
theorem vz:fits Tryz.prog 50 Tryz.f50 qr [.t 4] 2=true:=oK
set_option maxRecDepth 100000 in
set_option maxHeartbeats 40000000 in
noncomputable def j7:(∀ (x0:List UInt8) (x1:UInt8),{m:Option (Int)//∀ r,m=some r->aa Tryz.prog 71 [.str x0,.int .u8 (x1).toNat] (.int .i64 r)})×(∀ (x0:List aN) (x1:j6),{m:Option ((List (List UInt8)))//∀ r,m=some r->aa Tryz.prog 50 [.slice (List.map aO x0),.agg (gk x1)] (.slice (List.map eK r))}):=by
 refine⟨?g0, ?g1⟩
 case' g0=>(intro x0 x1;apply Subtype.mk;intro r hm;apply af Tryz.func71 od;unfold jp)
 case' g1=>(intro x0 x1;apply Subtype.mk;intro r hm;apply af Tryz.func50 vz;unfold qr)
 all_goals(repeat'(first|with_reducible refine bu ?_|with_reducible refine bt ?_|with_reducible refine bf ?_|with_reducible refine be ?_|with_reducible refine bB ?_|with_reducible refine cg ?_|with_reducible refine bw ?_|with_reducible refine bv ?_|with_reducible refine ck ?_|with_reducible refine bo ?_|with_reducible refine nk ?_|with_reducible refine du ?_|((with_reducible apply cD hm);(iterate 2 (simp only[push_cast,seval];rfl));(intro _;rfl);intro e hm)|((with_reducible apply iN);(simp only[push_cast,seval];rfl);(first|exact trivial))|(with_reducible apply uh hm)|((with_reducible apply mV hm);(simp only[push_cast,seval];rfl);rfl;intro v hm;rotate_left;intro v g hm)|((with_reducible apply dJ hm);(simp only[push_cast,seval];rfl);(first|apply gy _ _|apply tK _ _);(any_goals((repeat'(first|rfl));done));intro x hm)|((with_reducible apply tQ);(simp only[push_cast,seval];rfl);(first|exact trivial))|((with_reducible apply vh hm);(iterate 4 (simp only[push_cast,seval];rfl));(focus((repeat'(first|rfl|(with_reducible first|apply c9|apply dA|apply ek)));done));decide;(intro _;rfl);intro hm)|((with_reducible apply aQ hm);(simp only[push_cast,seval];rfl);intro hm;rotate_left;intro hm)|((with_reducible apply bF hm);(focus(simp only[a8,cj,RV.get,push_cast,seval];rfl));(focus((repeat'(first|rfl));done)))|((with_reducible apply bO hm);(simp only[push_cast,seval];rfl))|((with_reducible apply bH hm);intro r hm)|((apply aF (b:=2) (X:=nN) (x:=jL) rfl (fun(c:SV×SV×SV×SV×SV×SV) (s:(List (List UInt8))×Int)=>st [(3,c.1),(5,.vec 5),(17,c.2.1),(18,c.2.2.1),(19,c.2.2.2.1),(23,c.2.2.2.2.1),(24,c.2.2.2.2.2),(25,.d (.int .i64 s.2))] [(5,.vec 9 1 (eg eK s.1))]) (c:=(_,_,_,_,_,_)) (s0:=(_,_)) hm);(focus(first|(dsimp only;done)));(with_reducible refine cz.mk ?_ ?_))|((apply aF (b:=0) (X:=nO) (x:=jM) rfl (fun(c:SV×SV×SV) (s:(List (List UInt8))×Int)=>st [(3,c.1),(5,.vec 5),(17,c.2.1),(18,c.2.2),(19,.d (.int .i64 s.2))] [(5,.vec 9 1 (eg eK s.1))]) (c:=(_,_,_)) (s0:=(_,_)) hm);(focus(first|(dsimp only;done)));(with_reducible refine cz.mk ?_ ?_);apply hY.trans;(focus(apply pX (slot:=5) (id:=5) (e:=9) (sz:=1);(focus(simp only[push_cast,seval];done)))))|((apply bN (s':=(_,_)) hm);(focus(first|(dsimp only;done))))|((apply cJ (s':=(_,_)) hm);(focus(first|(dsimp only;done))))|(((with_reducible apply dz.of);(focus(first|(dsimp only;done)));(focus((intro _;repeat'(first|with_reducible exact bp|with_reducible refine ba ?_|with_reducible refine dP ?_|((with_reducible refine ii ?_);intro _)|((with_reducible refine ij ?_);intro _)))));(intro s o hm;first|unfold jL|unfold jM);rotate_left;intro s hm))|(((apply bI;(repeat'(first|with_reducible exact aS|with_reducible exact aT|with_reducible apply aL|with_reducible apply ca|((with_reducible apply a_);(focus(first|(simp only[push_cast,seval];rfl)));(focus((repeat'(first|rfl));done)))|((with_reducible apply fx);(focus(first|(simp only[push_cast,seval];rfl)));(first|with_reducible exact cK rfl|with_reducible apply uj))|(with_reducible first|apply Da)));done)))))
 all_goals(intros;exact())
noncomputable def fP (x0:List UInt8) (x1:UInt8):Option (Int):=(j7.1 x0 x1).1
theorem nP (x0:List UInt8) (x1:UInt8):∀ r,fP x0 x1=some r->aa Tryz.prog 71 [.str x0,.int .u8 (x1).toNat] (.int .i64 r):=(j7.1 x0 x1).2
noncomputable def kN (x0:List aN) (x1:j6):Option ((List (List UInt8))):=(j7.2 x0 x1).1
theorem uz (x0:List aN) (x1:j6):∀ r,kN x0 x1=some r->aa Tryz.prog 50 [.slice (List.map aO x0),.agg (gk x1)] (.slice (List.map eK r)):=(j7.2 x0 x1).2
def ee:SC:=
 (.seq (.reg [.r 4 (.boxI (.t 1)),
   .r 6 (.mv (.c (.d (.int .i64 0))))])
 (.seq (.seq (.reg [.r 7 (.fld 0 (.t 4)),
   .o 8 (.ld1 (.t 7)),
   .r 9 (.bin .eql (.t 8) (.c (.d (.str []))))])
 (.cond (.t 9)
  (.reg [.r 10 (.mv (.t 0)),
    .r 11 (.nilc (.t 10)),
    .r 12 (.fld 0 (.t 11)),
    .o 13 (.ld1 (.t 12)),
    .r 14 (.bin .add (.t 13) (.c (.d (.int .i64 1)))),
    .r 15 (.nilc (.t 10)),
    .r 16 (.fld 0 (.t 15)),
    .w 0 (.st 1 (.t 16) (.t 14))])
  .any))
 (.seq (.block 0 (.seq (.reg (.r 18 (.mv (.t 0)):: .r 19 (.nilc (.t 18)):: .r 20 (.fld 0 (.t 19)):: .o 21 (.ld1 (.t 20)):: .r 22 (.bin .gtr (.t 21) (.c (.d (.int .i64 2000)))):: .r 23 (.mv (.t 22))::aK [24,25] 23 false (.r 24 (.mv (.t 2)):: .r 25 (.bin .gtr (.t 24) (.c (.d (.int .i64 6))))::[]) (.r 26 (.pick (.t 23) (.c (.d (.bool true))) (.t 25)):: .r 17 (.mv (.t 26))::[])))
  (.cond (.t 17)
   .any
   (.seq (.reg (.r 28 (.fld 0 (.t 4)):: .o 29 (.ld1 (.t 28)):: .r 30 (.bin .neq (.t 29) (.c (.d (.str [])))):: .r 31 (.mv (.t 30))::aK [32,33,34,35] 31 true (.r 32 (.fld 0 (.t 4)):: .r 33 (.ld1 (.t 32)):: .c 34 (.f 20) [.t 33]:: .r 35 (.not (.t 34))::[]) (.r 36 (.pick (.t 31) (.t 35) (.c (.d (.bool false)))):: .r 27 (.mv (.t 36))::[])))
   (.cond (.t 27)
    .any
    (.seq (.reg (.r 38 (.fld 0 (.t 4)):: .o 39 (.ld1 (.t 38)):: .r 40 (.bin .eql (.t 39) (.c (.d (.str [])))):: .r 41 (.mv (.t 40))::aK [42,43,44,45] 41 true (.r 42 (.fld 3 (.t 4)):: .r 43 (.ld1 (.t 42)):: .r 44 (.len (.t 43)):: .r 45 (.bin .gtr (.t 44) (.c (.d (.int .i64 0))))::[]) (.r 46 (.pick (.t 41) (.t 45) (.c (.d (.bool false)))):: .r 37 (.mv (.t 46))::[])))
    (.cond (.t 37)
     .any
     (.seq (.reg (.r 48 (.fld 0 (.t 4)):: .o 49 (.ld1 (.t 48)):: .r 50 (.bin .neq (.t 49) (.c (.d (.str [])))):: .r 51 (.mv (.t 50))::aK [52,53,54,55,56,57,58,59,60,61,62,63,64,65,66,67,68,69] 51 true (.r 52 (.fld 1 (.t 4)):: .r 53 (.ldA 2 (.t 52)):: .c 54 (.f 113) [.t 53]:: .r 55 (.not (.t 54)):: .r 56 (.mv (.t 55))::aK [57,58,59,60] 56 false (.r 57 (.fld 3 (.t 4)):: .r 58 (.ld1 (.t 57)):: .r 59 (.len (.t 58)):: .r 60 (.bin .eql (.t 59) (.c (.d (.int .i64 0))))::[]) (.r 61 (.pick (.t 56) (.c (.d (.bool true))) (.t 60)):: .r 62 (.mv (.t 61))::aK [63,64,65,66,67,68] 62 false (.r 63 (.fld 3 (.t 4)):: .r 64 (.ld1 (.t 63)):: .r 65 (.idx 4 (.t 64) (.c (.d (.int .i64 0)))):: .r 66 (.fld 0 (.t 65)):: .r 67 (.ld1 (.t 66)):: .r 68 (.bin .neq (.t 67) (.c (.d (.str []))))::[]) (.r 69 (.pick (.t 62) (.c (.d (.bool true))) (.t 68))::[]))) (.r 70 (.pick (.t 51) (.t 69) (.c (.d (.bool false)))):: .r 47 (.mv (.t 70))::[])))
     (.cond (.t 47)
      .any
      (.seq (.reg [.r 72 (.fld 0 (.t 4)),
        .o 73 (.ld1 (.t 72)),
        .r 74 (.bin .eql (.t 73) (.c (.d (.str [])))),
        .r 71 (.mv (.t 74))])
      (.cond (.t 71)
       (.seq (.reg [.r 75 (.fld 1 (.t 4)),
         .o 76 (.ldA 2 (.t 75)),
         .r 77 (.bslice 2 [.t 76]),
         .c 78 (.f 114) [.t 77],
         .r 6 (.mv (.t 78))])
       .ret)
       .any)))))))))))
 .any)))
theorem jc:fits Tryz.prog 92 Tryz.f92 ee [.t 6] 3=true:=oK
set_option maxRecDepth 100000 in
set_option maxHeartbeats 40000000 in
noncomputable def rN:(∀ (x0:bV) (x1:aN) (x2:Int),{m:Option ((Int)×bV)//∀ r,m=some r->cr Tryz.prog 92 (.own (.pt [.sh]) (.ptr (bX x0))::List.map SV.d ([.agg (aO x1),.int .i64 x2]:List DV)) (.d (.int .i64 r.1)) (.own (.pt [.sh]) (.ptr (bX r.2))::List.map SV.d ([.agg (aO x1),.int .i64 x2]:List DV))}):=by
 (intro x0 x1 x2;apply Subtype.mk;intro r hm;apply ot (N:=85) (k:=3) Tryz.func92 jc oK rfl rfl oD;unfold ee)
 repeat'(first|with_reducible refine bu ?_|with_reducible refine bt ?_|with_reducible refine bf ?_|with_reducible refine bB ?_|with_reducible refine bw ?_|with_reducible refine bv ?_|with_reducible refine bD ?_|with_reducible refine bE ?_|with_reducible refine du ?_|((with_reducible apply cD hm);(iterate 2 (simp only[push_cast,seval];rfl));(intro _;rfl);intro e hm)|((with_reducible apply iN);(simp only[push_cast,seval];rfl);(first|exact trivial))|(with_reducible apply uh hm)|((with_reducible apply eE hm);(simp only[push_cast,seval];rfl);rfl;intro v hm;rotate_left;intro v g hm)|((with_reducible apply mV hm);(simp only[push_cast,seval];rfl);rfl;intro v hm;rotate_left;intro v g hm)|((with_reducible apply dJ hm);(simp only[push_cast,seval];rfl);(first|apply mD _|apply tJ _|apply pI _);(any_goals((repeat'(first|rfl|(with_reducible first|apply c9|apply dB|apply dA|apply ek)));done));intro x hm)|((with_reducible apply tQ);(simp only[push_cast,seval];rfl);(first|exact trivial))|((with_reducible apply aQ hm);(simp only[push_cast,seval];rfl);intro hm;rotate_left;intro hm)|((with_reducible apply bO hm);(simp only[push_cast,seval];rfl))|(((with_reducible apply Cu hm (ms:=[.sh]));(focus(exact hY.refl _));(focus(simp only[push_cast,seval];(try rfl);done));(focus((repeat'(first|(with_reducible first|apply gY)|((with_reducible apply a_);(focus(first|rfl));(focus((repeat'(first|rfl));done)))));done));(focus(intro _;rfl));(focus(simp only[push_cast,seval];(try rfl);done));(focus(simp only[push_cast,seval];(try rfl);done));(focus(simp only[push_cast,seval];(try rfl);done));(focus(simp only[push_cast,seval];(try rfl);done));(focus(first|(apply GL;(focus((repeat'(first|rfl));done))))))))
 all_goals(intros;exact())
noncomputable def bL (x0:bV) (x1:aN) (x2:Int):Option ((Int)×bV):=(rN x0 x1 x2).1
theorem iO (x0:bV) (x1:aN) (x2:Int):∀ r,bL x0 x1 x2=some r->cr Tryz.prog 92 (.own (.pt [.sh]) (.ptr (bX x0))::List.map SV.d ([.agg (aO x1),.int .i64 x2]:List DV)) (.d (.int .i64 r.1)) (.own (.pt [.sh]) (.ptr (bX r.2))::List.map SV.d ([.agg (aO x1),.int .i64 x2]:List DV)):=(rN x0 x1 x2).2
def jN:SC:=
 (.seq (.reg [.r 55 (.bin .lss (.t 54) (.t 53))])
 (.seq (.cond (.t 55)
  .any
  (.exit 0))
 .any))
def nQ:SC:= .block 0 (.loop jN)
def qt:SC:=
 (.seq (.reg [.w 2 (.boxM (.c (.agg [.nils,.d (.str []),.d (.int .i64 0),.d (.int .i64 0)]))),
   .r 3 (.mv (.c (.d (.bool false))))])
 (.seq (.reg [.r 13 (.build [.nils,.d (.str []),.d (.int .i64 0),.d (.int .i64 0)] []),
   .w 4 (.boxM (.c (.agg [.nils,.d (.str []),.d (.int .i64 0),.d (.int .i64 0)]))),
   .w 0 (.st 4 (.t 4) (.t 13))])
 (.seq (.seq (.reg [.r 14 (.mv (.t 0)),
   .c 15 (.f 71) [.t 14,.c (.d (.int .u8 47))],
   .r 5 (.mv (.t 15))])
 (.seq (.reg [.r 16 (.mv (.t 5)),
   .r 17 (.bin .geq (.t 16) (.c (.d (.int .i64 0))))])
 (.cond (.t 17)
  .any
  .skip)))
 (.seq (.reg [.r 34 (.mv (.t 0)),
   .c 35 (.f 73) [.t 34,.c (.d (.str [46]))],
   .r 8 (.mv (.t 35))])
 (.seq (.seq (.reg (.r 36 (.mv (.t 8)):: .r 37 (.len (.t 36)):: .r 38 (.bin .gtr (.t 37) (.c (.d (.int .i64 3)))):: .r 39 (.mv (.t 38))::aK [40,41,42,43,44] 39 false (.r 40 (.mv (.t 8)):: .r 41 (.idx 1 (.t 40) (.c (.d (.int .i64 0)))):: .r 42 (.ld1 (.t 41)):: .c 43 (.f 36) [.t 42]:: .r 44 (.not (.t 43))::[]) (.r 45 (.pick (.t 39) (.c (.d (.bool true))) (.t 44))::[])))
 (.cond (.t 45)
  .any
  .skip))
 (.seq (.reg [.r 47 (.mv (.t 8)),
   .r 48 (.idx 1 (.t 47) (.c (.d (.int .i64 0)))),
   .o 49 (.ld1 (.t 48)),
   .r 50 (.fld 1 (.t 4)),
   .w 0 (.st 1 (.t 50) (.t 49))])
 (.seq (.seq (.reg [.r 51 (.mv (.t 8)),
   .r 52 (.slc 1 (.t 51) (some (.c (.d (.int .i64 1)))) none),
   .r 53 (.len (.t 52)),
   .r 54 (.mv (.c (.d (.int .i64 0))))])
 nQ)
 (.seq (.reg [.o 82 (.ldA 4 (.t 4)),
   .w 0 (.st 4 (.t 2) (.t 82)),
   .r 3 (.mv (.c (.d (.bool true))))])
 .ret))))))))
theorem vA:fits Tryz.prog 49 Tryz.f49 qt [.cell 2 4,.t 3] 1=true:=oK
set_option maxRecDepth 100000 in
set_option maxHeartbeats 40000000 in
noncomputable def rO:(∀ (x0:List UInt8),{m:Option (j6×Bool)//∀ r,m=some r->aa Tryz.prog 49 [.str x0] (.tup [.agg (gk r.1),.bool r.2])}):=by
 (intro x0;apply Subtype.mk;intro r hm;apply af Tryz.func49 vA;unfold qt)
 repeat'(first|with_reducible refine bu ?_|with_reducible refine bt ?_|with_reducible refine be ?_|with_reducible refine bB ?_|with_reducible refine cg ?_|with_reducible refine bw ?_|with_reducible refine bv ?_|with_reducible refine ck ?_|with_reducible refine du ?_|((with_reducible apply cD hm);(iterate 2 (simp only[push_cast,seval];rfl));(intro _;rfl);intro e hm)|((with_reducible apply Aa hm);(iterate 3 (simp only[push_cast,seval];rfl));(intro _;rfl);intro e hm)|((with_reducible apply iN);(simp only[push_cast,seval];rfl);(first|exact trivial))|(with_reducible apply uh hm)|((with_reducible apply mV hm);(simp only[push_cast,seval];rfl);rfl;intro v hm;rotate_left;intro v g hm)|((with_reducible apply dJ hm);(simp only[push_cast,seval];rfl);(first|apply nP _ _|apply tO _ _|apply kO _);(any_goals((repeat'(first|rfl|(with_reducible first|apply dB)|(with_reducible apply Ct;decide)));done));intro x hm)|((with_reducible apply tQ);(simp only[push_cast,seval];rfl);(first|exact trivial))|((with_reducible apply aQ hm);(simp only[push_cast,seval];rfl);intro hm;rotate_left;intro hm)|((with_reducible apply ge hm);(focus(simp only[a8,cj,RV.get,push_cast,seval];rfl));(focus(first|(dsimp only;done)));(focus((repeat'(first|rfl|(with_reducible first|apply x6|apply wk|apply oq|apply c9|apply dB|apply dA)));done)))|((with_reducible apply bO hm);(simp only[push_cast,seval];rfl))|((with_reducible apply bH hm);intro r hm)|((apply aF (b:=0) (X:=nQ) (x:=jN) rfl (fun(c:Ch×Ch×SV×SV) (s:Unit)=>st [(2,.ref 2 0),(4,.ref 4 0),(53,c.2.2.1),(54,c.2.2.2)] [(2,c.1),(4,c.2.1)]) (c:=(_,_,_,_)) (s0:=()) hm);(focus(first|(dsimp only;done)));(with_reducible refine cz.mk ?_ ?_))|((apply cJ (s':=()) hm);(focus(first|(dsimp only;done))))|(((with_reducible apply dz.of);(focus(first|(dsimp only;done)));(focus((intro _;repeat'(first|with_reducible exact bp|with_reducible refine ba ?_))));(intro s o hm;first|unfold jN);rotate_left;intro s hm))|(((apply bI;(repeat'(first|with_reducible exact aS|with_reducible exact aT|with_reducible apply aL|with_reducible apply ca|((with_reducible apply a_);(focus(first|(simp only[push_cast,seval];rfl)));(focus((repeat'(first|rfl));done)))|((with_reducible apply fx);(focus(first|(simp only[push_cast,seval];rfl)));(first|with_reducible exact cK rfl))));done))))
 all_goals(intros;exact())
noncomputable def nR (x0:List UInt8):Option (j6×Bool):=(rO x0).1
theorem oW (x0:List UInt8):∀ r,nR x0=some r->aa Tryz.prog 49 [.str x0] (.tup [.agg (gk r.1),.bool r.2]):=(rO x0).2
def cc:SC:=
 (.seq (.reg [.r 13 (.bin .lss (.t 12) (.t 11))])
 (.seq (.cond (.t 13)
  .skip
  (.exit 0))
 (.seq (.block 1 (.seq (.reg [.r 14 (.idx 4 (.t 10) (.t 12)),
    .o 15 (.ldA 4 (.t 14)),
    .w 8 (.boxM (.c (.agg [.d (.str []),.d (.str []),.nils,.nils]))),
    .w 0 (.st 4 (.t 8) (.t 15))])
  (.seq (.reg [.r 16 (.mv (.t 0)),
    .o 17 (.ldA 4 (.t 8)),
    .r 18 (.mv (.t 2)),
    .p (some 19) (.f 92) [.t 16,.t 17,.t 18],
    .r 9 (.mv (.t 19))])
  (.seq (.reg [.r 20 (.mv (.t 9)),
    .r 21 (.bin .neq (.t 20) (.c (.d (.int .i64 0))))])
  (.cond (.t 21)
   .any
   .skip)))))
 (.reg [.r 23 (.bin .add (.t 12) (.c (.d (.int .i64 1)))),
   .r 12 (.mv (.t 23))]))))
def dV:SC:= .block 0 (.loop cc)
def eH:SC:=
 (.seq (.reg [.r 6 (.mv (.c (.d (.int .i64 0))))])
 (.seq (.seq (.reg [.r 10 (.mv (.t 1)),
   .r 11 (.len (.t 10)),
   .r 12 (.mv (.c (.d (.int .i64 0))))])
 dV)
 (.seq (.reg [.r 6 (.mv (.c (.d (.int .i64 0))))])
 .ret)))
theorem jO:fits Tryz.prog 70 Tryz.f70 eH [.t 6] 3=true:=oK
set_option maxRecDepth 100000 in
set_option maxHeartbeats 40000000 in
noncomputable def rP:(∀ (x0:bV) (x1:List aN) (x2:Int),{m:Option ((Int)×bV)//∀ r,m=some r->cr Tryz.prog 70 (.own (.pt [.sh]) (.ptr (bX x0))::List.map SV.d ([.slice (List.map aO x1),.int .i64 x2]:List DV)) (.d (.int .i64 r.1)) (.own (.pt [.sh]) (.ptr (bX r.2))::List.map SV.d ([.slice (List.map aO x1),.int .i64 x2]:List DV))}):=by
 (intro x0 x1 x2;apply Subtype.mk;intro r hm;apply ot (N:=24) (k:=3) Tryz.func70 jO oK rfl rfl oD;unfold eH)
 repeat'(first|with_reducible refine bu ?_|with_reducible refine bt ?_|with_reducible refine bf ?_|with_reducible refine be ?_|with_reducible refine bB ?_|with_reducible refine cg ?_|with_reducible refine bw ?_|with_reducible refine bv ?_|with_reducible refine ck ?_|with_reducible refine bo ?_|with_reducible refine du ?_|((with_reducible apply cD hm);(iterate 2 (simp only[push_cast,seval];rfl));(intro _;rfl);intro e hm)|((with_reducible apply iN);(simp only[push_cast,seval];rfl);(first|exact trivial))|(with_reducible apply uh hm)|((with_reducible apply tQ);(simp only[push_cast,seval];rfl);(first|exact trivial))|((with_reducible apply aQ hm);(simp only[push_cast,seval];rfl);intro hm;rotate_left;intro hm)|((with_reducible apply bH hm);intro r hm)|((apply aF (b:=0) (X:=dV) (x:=cc) rfl (fun(c:SV×SV×SV×SV×SV) (s:Int×Int)=>st [(0,.ref 0 0),(2,c.1),(10,c.2.1),(11,c.2.2.1),(12,.d (.int .i64 s.2)),(24,.ref 0 0),(25,c.2.2.2.1),(26,c.2.2.2.2)] [(0,.box (oU s.1))]) (c:=(_,_,_,_,_)) (s0:=(_,_)) hm);(focus(first|(dsimp only;done)));(with_reducible refine cz.mk ?_ ?_))|((apply bN (s':=(_,_)) hm);(focus(first|(dsimp only;done))))|((apply cJ (s':=(_,_)) hm);(focus(first|(dsimp only;done))))|(((with_reducible apply GK hm (id:=0) (ms:=[.sh]));(focus(exact hY.refl _));(focus(simp only[push_cast,seval];(try rfl);done));(focus(simp only[push_cast,seval];(try rfl);done));(focus(simp only[push_cast,seval];(try rfl);done));(focus((repeat'(first|(with_reducible first|apply gY)|((with_reducible apply a_);(focus(first|rfl));(focus((repeat'(first|rfl));done)))));done));(focus rfl);(first|apply iO _ _ _);(any_goals(focus((repeat'(first|rfl|(with_reducible first|apply rM|apply oq|apply dB)));done)));(focus(intro _;exact⟨rfl,rfl,rfl⟩));intro y hm))|(((with_reducible apply Cu hm (ms:=[.sh]));(focus(exact hY.refl _));(focus(simp only[push_cast,seval];(try rfl);done));(focus((repeat'(first|(with_reducible first|apply gY)|((with_reducible apply a_);(focus(first|rfl));(focus((repeat'(first|rfl));done)))));done));(focus(intro _;rfl));(focus(simp only[push_cast,seval];(try rfl);done));(focus(simp only[push_cast,seval];(try rfl);done));(focus(simp only[push_cast,seval];(try rfl);done));(focus(simp only[push_cast,seval];(try rfl);done));(focus(first|(apply GL;(focus((repeat'(first|rfl));done)))))))|(((with_reducible apply dz.of);(focus(first|(dsimp only;done)));(focus((intro _;repeat'(first|with_reducible exact sw|with_reducible refine ba ?_))));(intro s o hm;first|unfold cc);rotate_left;intro s hm))|(((apply bI;(repeat'(first|with_reducible exact aS|with_reducible exact aT|with_reducible apply aL|with_reducible apply ca|((with_reducible apply a_);(focus(first|(simp only[push_cast,seval];rfl)));(focus((repeat'(first|rfl));done)))|((with_reducible apply fx);(focus(first|(simp only[push_cast,seval];rfl)));(first|with_reducible exact cK rfl))));done))))
 all_goals(intros;exact())
noncomputable def eW (x0:bV) (x1:List aN) (x2:Int):Option ((Int)×bV):=(rP x0 x1 x2).1
theorem jq (x0:bV) (x1:List aN) (x2:Int):∀ r,eW x0 x1 x2=some r->cr Tryz.prog 70 (.own (.pt [.sh]) (.ptr (bX x0))::List.map SV.d ([.slice (List.map aO x1),.int .i64 x2]:List DV)) (.d (.int .i64 r.1)) (.own (.pt [.sh]) (.ptr (bX r.2))::List.map SV.d ([.slice (List.map aO x1),.int .i64 x2]:List DV)):=(rP x0 x1 x2).2
def mL:SC:=
 (.seq (.reg [.r 2 (.mv (.c (.d (.int .i64 0))))])
 (.seq (.seq (.reg [.r 5 (.mv (.t 0)),
   .r 6 (.lenT (.t 5)),
   .r 7 (.bin .gtr (.t 6) (.c (.d (.int .i64 200))))])
 (.cond (.t 7)
  .any
  .skip))
 (.seq (.seq (.reg [.r 9 (.mv (.t 0)),
   .c 10 (.f 49) [.t 9],
   .r 8 (.mv (.t 10)),
   .r 11 (.ext (.t 8) 0),
   .r 12 (.ext (.t 8) 1),
   .w 3 (.boxM (.c (.agg [.nils,.d (.str []),.d (.int .i64 0),.d (.int .i64 0)]))),
   .w 0 (.st 4 (.t 3) (.t 11)),
   .r 4 (.mv (.t 12))])
 (.seq (.reg [.r 13 (.mv (.t 4)),
   .r 14 (.not (.t 13))])
 (.cond (.t 14)
  .any
  .skip)))
 (.seq (.reg [.r 2 (.mv (.c (.d (.int .i64 0))))])
 .ret))))
theorem rQ:fits Tryz.prog 48 Tryz.f48 mL [.t 2] 1=true:=oK
set_option maxRecDepth 100000 in
set_option maxHeartbeats 40000000 in
noncomputable def rR:(∀ (x0:List UInt8),{m:Option (Int)//∀ r,m=some r->aa Tryz.prog 48 [.str x0] (.int .i64 r)}):=by
 (intro x0;apply Subtype.mk;intro r hm;apply af Tryz.func48 rQ;unfold mL)
 repeat'(first|with_reducible refine bu ?_|with_reducible refine bt ?_|with_reducible refine be ?_|with_reducible refine bB ?_|with_reducible refine bw ?_|with_reducible refine bv ?_|((with_reducible apply iN);(simp only[push_cast,seval];rfl);(first|exact trivial))|(with_reducible apply uh hm)|((with_reducible apply dJ hm);(simp only[push_cast,seval];rfl);(first|apply oW _);(any_goals((repeat'(first|rfl));done));intro x hm)|((with_reducible apply tQ);(simp only[push_cast,seval];rfl);(first|exact trivial))|((with_reducible apply aQ hm);(simp only[push_cast,seval];rfl);intro hm;rotate_left;intro hm)|((with_reducible apply bF hm);(focus(simp only[a8,cj,RV.get,push_cast,seval];rfl));(focus((repeat'(first|rfl));done))))
 all_goals(intros;exact())
noncomputable def nS (x0:List UInt8):Option (Int):=(rR x0).1
theorem qG (x0:List UInt8):∀ r,nS x0=some r->aa Tryz.prog 48 [.str x0] (.int .i64 r):=(rR x0).2
def mM:SC:=
 (.seq (.reg [.r 2 (.mv (.c (.d (.int .i64 0))))])
 (.seq (.reg [.r 3 (.build [.d (.int .i64 0)] []),
   .w 4 (.boxM (.t 3)),
   .r 5 (.mv (.t 0)),
   .p (some 6) (.f 70) [.t 4,.t 5,.c (.d (.int .i64 0))],
   .r 2 (.mv (.t 6))])
 .ret))
theorem rS:fits Tryz.prog 47 Tryz.f47 mM [.t 2] 1=true:=oK
set_option maxRecDepth 100000 in
set_option maxHeartbeats 40000000 in
noncomputable def rT:(∀ (x0:List aN),{m:Option (Int)//∀ r,m=some r->aa Tryz.prog 47 [.slice (List.map aO x0)] (.int .i64 r)}):=by
 (intro x0;apply Subtype.mk;intro r hm;apply af Tryz.func47 rS;unfold mM)
 repeat'(first|with_reducible refine bu ?_|with_reducible refine bt ?_|with_reducible refine bB ?_|with_reducible refine bw ?_|with_reducible refine bv ?_|((with_reducible apply iN);(simp only[push_cast,seval];rfl);(first|exact trivial))|((with_reducible apply tQ);(simp only[push_cast,seval];rfl);(first|exact trivial))|((with_reducible apply bF hm);(focus(simp only[a8,cj,RV.get,push_cast,seval];rfl));(focus((repeat'(first|rfl));done)))|(((with_reducible apply GK hm (id:=4) (ms:=[.sh]));(focus(exact hY.refl _));(focus(simp only[push_cast,seval];(try rfl);done));(focus(simp only[push_cast,seval];(try rfl);done));(focus(simp only[push_cast,seval];(try rfl);done));(focus((repeat'(first|(with_reducible first|apply gY)|((with_reducible apply a_);(focus(first|rfl));(focus((repeat'(first|rfl));done)))));done));(focus rfl);(first|apply jq _ _ _);(any_goals(focus((repeat'(first|rfl));done)));(focus(intro _;exact⟨rfl,rfl,rfl⟩));intro y hm)))
noncomputable def jP (x0:List aN):Option (Int):=(rT x0).1
theorem qH (x0:List aN):∀ r,jP x0=some r->aa Tryz.prog 47 [.slice (List.map aO x0)] (.int .i64 r):=(rT x0).2
def rU:SC:=
 (.seq (.reg [.r 4 (.mv (.c (.nils))),
   .r 5 (.mv (.c (.d (.int .i64 0))))])
 (.seq (.seq (.reg [.r 10 (.mv (.t 0)),
   .c 11 (.f 47) [.t 10],
   .r 6 (.mv (.t 11))])
 (.seq (.reg [.r 12 (.mv (.t 6)),
   .r 13 (.bin .neq (.t 12) (.c (.d (.int .i64 0))))])
 (.cond (.t 13)
  (.seq (.reg [.r 14 (.mv (.t 6)),
    .r 4 (.mv (.c (.nils))),
    .r 5 (.mv (.t 14))])
  .ret)
  .skip)))
 (.seq (.seq (.reg [.r 15 (.mv (.t 1)),
   .c 16 (.f 48) [.t 15],
   .r 7 (.mv (.t 16))])
 (.seq (.reg [.r 17 (.mv (.t 7)),
   .r 18 (.bin .neq (.t 17) (.c (.d (.int .i64 0))))])
 (.cond (.t 18)
  (.seq (.reg [.r 19 (.mv (.t 7)),
    .r 4 (.mv (.c (.nils))),
    .r 5 (.mv (.t 19))])
  .ret)
  .skip)))
 (.seq (.reg [.r 21 (.mv (.t 1)),
   .c 22 (.f 49) [.t 21],
   .r 20 (.mv (.t 22)),
   .r 23 (.ext (.t 20) 0),
   .r 24 (.ext (.t 20) 1),
   .w 8 (.boxM (.c (.agg [.nils,.d (.str []),.d (.int .i64 0),.d (.int .i64 0)]))),
   .w 0 (.st 4 (.t 8) (.t 23)),
   .r 9 (.mv (.t 24))])
 (.seq (.reg [.r 25 (.mv (.t 0)),
   .o 26 (.ldA 4 (.t 8)),
   .c 27 (.f 50) [.t 25,.t 26],
   .r 4 (.mv (.t 27)),
   .r 5 (.mv (.c (.d (.int .i64 0))))])
 .ret)))))
theorem wE:fits Tryz.prog 31 Tryz.f31 rU [.t 4,.t 5] 2=true:=oK
set_option maxRecDepth 100000 in
set_option maxHeartbeats 40000000 in
noncomputable def rV:(∀ (x0:List aN) (x1:List UInt8),{m:Option ((List (List UInt8))×Int)//∀ r,m=some r->aa Tryz.prog 31 [.slice (List.map aO x0),.str x1] (.tup [.slice (List.map eK r.1),.int .i64 r.2])}):=by
 (intro x0 x1;apply Subtype.mk;intro r hm;apply af Tryz.func31 wE;unfold rU)
 repeat'(first|with_reducible refine bu ?_|with_reducible refine bt ?_|with_reducible refine be ?_|with_reducible refine bB ?_|with_reducible refine bw ?_|with_reducible refine bv ?_|with_reducible refine bD ?_|with_reducible refine du ?_|((with_reducible apply iN);(simp only[push_cast,seval];rfl);(first|exact trivial))|((with_reducible apply dJ hm);(simp only[push_cast,seval];rfl);(first|apply qH _|apply qG _|apply oW _|apply uz _ _);(any_goals((repeat'(first|rfl));done));intro x hm)|((with_reducible apply tQ);(simp only[push_cast,seval];rfl);(first|exact trivial))|((with_reducible apply aQ hm);(simp only[push_cast,seval];rfl);intro hm;rotate_left;intro hm)|((with_reducible apply ge hm);(focus(simp only[a8,cj,RV.get,push_cast,seval];rfl));(focus(first|(dsimp only;done)));(focus((repeat'(first|rfl|(with_reducible first|apply wk|apply c9|apply dB|apply dA)));done))))
noncomputable def s_ (x0:List aN) (x1:List UInt8):Option ((List (List UInt8))×Int):=(rV x0 x1).1
theorem vB (x0:List aN) (x1:List UInt8):∀ r,s_ x0 x1=some r->aa Tryz.prog 31 [.slice (List.map aO x0),.str x1] (.tup [.slice (List.map eK r.1),.int .i64 r.2]):=(rV x0 x1).2
def jr:SC:=
 (.seq (.reg [.r 0 (.mv (.c (.d (.bool false))))])
 (.seq (.reg [.r 4 (.build [.d (.str []),.nils] [(0,1,.c (.d (.str [66,71,77])))]),
   .r 5 (.build [.d (.str []),.d (.str []),.nils,.nils] [(1,2,.t 4)]),
   .r 6 (.bslice 4 [.t 5]),
   .c 7 (.f 31) [.t 6,.c (.d (.str [66,71,77]))],
   .r 3 (.mv (.t 7)),
   .r 8 (.ext (.t 3) 0),
   .r 9 (.ext (.t 3) 1),
   .r 1 (.mv (.t 8)),
   .r 2 (.mv (.t 9))])
 (.seq (.reg (.r 10 (.mv (.t 2)):: .r 11 (.bin .eql (.t 10) (.c (.d (.int .i64 0)))):: .r 12 (.mv (.t 11))::aK [13,14,15] 12 true (.r 13 (.mv (.t 1)):: .r 14 (.len (.t 13)):: .r 15 (.bin .eql (.t 14) (.c (.d (.int .i64 1))))::[]) (.r 16 (.pick (.t 12) (.t 15) (.c (.d (.bool false)))):: .r 17 (.mv (.t 16))::aK [18,19,20,21] 17 true (.r 18 (.mv (.t 1)):: .r 19 (.idx 1 (.t 18) (.c (.d (.int .i64 0)))):: .r 20 (.ld1 (.t 19)):: .r 21 (.bin .eql (.t 20) (.c (.d (.str [66,71,77]))))::[]) (.r 22 (.pick (.t 17) (.t 21) (.c (.d (.bool false)))):: .r 0 (.mv (.t 22))::[]))))
 .ret)))
theorem og:fits Tryz.prog 8 Tryz.f8 jr [.t 0] 0=true:=oK
set_option maxRecDepth 100000 in
set_option maxHeartbeats 40000000 in
noncomputable def rW:({m:Option (Bool)//∀ r,m=some r->aa Tryz.prog 8 [] (.bool r)}):=by
 (apply Subtype.mk;intro r hm;apply af Tryz.func8 og;unfold jr)
 repeat'(first|with_reducible refine bu ?_|with_reducible refine bt ?_|with_reducible refine bB ?_|with_reducible refine bw ?_|with_reducible refine bv ?_|((with_reducible apply cD hm);(iterate 2 (simp only[push_cast,seval];rfl));(intro _;rfl);intro e hm)|((with_reducible apply iN);(simp only[push_cast,seval];rfl);(first|exact trivial))|((with_reducible apply eE hm);(simp only[push_cast,seval];rfl);rfl;intro v hm;rotate_left;intro v g hm)|((with_reducible apply dJ hm);(simp only[push_cast,seval];rfl);(first|apply vB _ _);(any_goals((repeat'(first|rfl|(with_reducible first|apply wC|apply rM|apply c9|apply dB|apply dA|apply ek)));done));intro x hm)|((with_reducible apply bF hm);(focus(simp only[a8,cj,RV.get,push_cast,seval];rfl));(focus((repeat'(first|rfl));done)))|((with_reducible apply bO hm);(simp only[push_cast,seval];rfl)))
noncomputable def fQ:Option (Bool):=(rW).1
theorem nT:∀ r,fQ=some r->aa Tryz.prog 8 [] (.bool r):=(rW).2
def c_:SC:=
 (.seq (.reg [.r 1 (.boxI (.t 0)),
   .r 2 (.mv (.c (.d (.bool false))))])
 (.seq (.reg [.o 8 (.ldA 4 (.t 1)),
   .c 9 (.f 4) [.t 8],
   .r 7 (.mv (.t 9)),
   .r 10 (.ext (.t 7) 0),
   .r 11 (.ext (.t 7) 1),
   .r 3 (.mv (.t 10)),
   .r 4 (.mv (.t 11))])
 (.seq (.reg [.o 13 (.ldA 4 (.t 1)),
   .c 14 (.f 5) [.t 13],
   .r 12 (.mv (.t 14)),
   .r 15 (.ext (.t 12) 0),
   .r 16 (.ext (.t 12) 1),
   .r 5 (.mv (.t 15)),
   .r 6 (.mv (.t 16))])
 (.seq (.regD (.r 17 (.ldA 4 (.t 1)):: .c 18 (.f 6) [.t 17]:: .r 19 (.ldA 4 (.t 1)):: .c 20 (.f 7) [.t 19]:: .r 21 (.bin .eql (.t 18) (.t 20)):: .r 22 (.mv (.t 21))::aK [23,24,25] 22 true (.r 23 (.mv (.t 3)):: .r 24 (.mv (.t 5)):: .r 25 (.bin .eql (.t 23) (.t 24))::[]) (.r 26 (.pick (.t 22) (.t 25) (.c (.d (.bool false)))):: .r 27 (.mv (.t 26))::aK [28,29,30] 27 true (.r 28 (.mv (.t 4)):: .r 29 (.mv (.t 6)):: .r 30 (.bin .eql (.t 28) (.t 29))::[]) (.r 31 (.pick (.t 27) (.t 30) (.c (.d (.bool false)))):: .r 32 (.mv (.t 31))::aK [33] 32 true (.c 33 (.f 8) []::[]) (.r 34 (.pick (.t 32) (.t 33) (.c (.d (.bool false)))):: .r 2 (.mv (.t 34))::[])))))
 .ret))))
theorem gz:fits Tryz.prog 3 Tryz.f3 c_ [.t 2] 1=true:=oK
set_option maxRecDepth 100000 in
set_option maxHeartbeats 40000000 in
noncomputable def rX:(∀ (x0:ah),{m:Option (Bool)//∀ r,m=some r->aa Tryz.prog 3 [.agg (aC x0)] (.bool r)}):=by
 (intro x0;apply Subtype.mk;intro r hm;apply af Tryz.func3 gz;unfold c_)
 repeat'(first|with_reducible refine bu ?_|with_reducible refine bt ?_|with_reducible refine pW ?_|with_reducible refine bB ?_|with_reducible refine bw ?_|with_reducible refine bv ?_|with_reducible refine du ?_|((with_reducible apply iN);(simp only[push_cast,seval];rfl);(first|exact trivial))|((with_reducible apply eE hm);(simp only[push_cast,seval];rfl);rfl;intro v hm;rotate_left;intro v g hm)|((with_reducible apply dJ hm);(simp only[push_cast,seval];rfl);(first|apply vu _|apply oc _|apply j1 _|apply eS _|apply nT);(any_goals((repeat'(first|rfl));done));intro x hm)|((with_reducible apply bF hm);(focus(simp only[a8,cj,RV.get,push_cast,seval];rfl));(focus((repeat'(first|rfl));done)))|((with_reducible apply bO hm);(simp only[push_cast,seval];rfl)))
noncomputable def bk (x0:ah):Option (Bool):=(rX x0).1
theorem gl (x0:ah):∀ r,bk x0=some r->aa Tryz.prog 3 [.agg (aC x0)] (.bool r):=(rX x0).2
end Go.Proofs.YtgocgdgknpdknaaGreatDoor
namespace Go.Proofs.YtgocgdgknpdknaaGreatDoor
open Go.ChangeShapes Go.WideShapes Go.ChangeAt Go.RowKit
set_option linter.unusedSimpArgs false
set_option linter.unusedVariables false
theorem I1 {a b:Bool} (h1:a=true) (h2:b=true):(a&&b)=true:=by rw[h1,h2];rfl
def Wt (P:Program) (n:Nat) (t:TypeId) {α:Type} (row:α->List DV) (ok:α->Prop):Prop:=∀ m ds,WT P (m+n) t ds->∃ x,ds=row x/\ok x
theorem Wt.up {P:Program} {n:Nat} {t:TypeId} {α:Type} {row:α->List DV} {ok:α->Prop} (h:Wt P n t row ok) (k:Nat):Wt P (n+k) t row ok:=fun m ds hd=>h (m+k) ds (by rwa[show m+k+n=m+(n+k) by omega])
def GU (n:Int):Prop:= -9223372036854775808<=n/\n<=9223372036854775807
def F_ (s:List UInt8):Prop:=s.length<=9223372036854775807
def Jh (_:Bool):Prop:=True
def Ev {α:Type} (ok:α->Prop) (l:List α):Prop:=l.length<=9223372036854775807/\∀ a∈l,ok a
theorem pM {P:Program} {n:Nat} {t:TypeId} {fs:Array Field} {ds:List DV} (hu:P.underlying t=some (.struct fs)) (h:WT P (n+1) t ds):E1 (WT P n) fs.toList ds:=by
 simp only[WT,hu] at h;exact h
theorem Id {P:Program} {t:TypeId} (hu:P.underlying t=some (.int .i64)):Wt P 1 t xW GU:=by
 intro m ds h
 simp only[WT,hu] at h
 obtain⟨k,rfl,hw⟩:=h
 refine⟨k,rfl, ?_⟩
 simp[Lit.wf] at hw
 have e:IntKind.i64.min= -9223372036854775808:=by decide
 unfold GU;omega
theorem GV {P:Program} {t:TypeId} (hu:P.underlying t=some .bool):Wt P 1 t Fz Jh:=by
 intro m ds h
 simp only[WT,hu] at h
 obtain⟨b,rfl⟩:=h
 exact⟨b,rfl,trivial⟩
theorem Ie {P:Program} {t:TypeId} (hu:P.underlying t=some .string):Wt P 1 t eK F_:=by
 intro m ds h
 simp only[WT,hu] at h
 obtain⟨b,rfl,hl⟩:=h
 exact⟨b,rfl,by unfold F_;unfold maxLen at hl;omega⟩
theorem uI {P:Program} {n:Nat} {t e:TypeId} {α:Type} {row:α->List DV} {ok:α->Prop} (hu:P.underlying t=some (.slice e)) (he:Wt P n e row ok):Wt P (n+1) t (q0 row) (Ev ok):=by
 intro m ds h
 rw[show m+(n+1)=(m+n)+1 by omega] at h
 simp only[WT,hu] at h
 obtain⟨rows,rfl,hl,hr⟩:=h
 have:∀ rows:List (List DV),(∀ r∈rows,WT P (m+n) e r)->∃ l:List α,rows=l.map row/\∀ a∈l,ok a:=by
  intro rows
  induction rows with
  |nil=>intro _;exact⟨[],rfl,by simp⟩
  |cons r rows ih=>
   intro h
   obtain⟨a,rfl,ha⟩:=he m r (h r oS)
   obtain⟨l,rfl,hl⟩:=ih (fun r hr=>h r (by simp[hr]))
   exact⟨a::l,rfl,by simpa using⟨ha,hl⟩⟩
 obtain⟨l,rfl,hok⟩:=this rows hr
 exact⟨l,rfl,by unfold maxLen at hl;simp at hl;omega,hok⟩
theorem Ju:ownKnob Tryz.prog.godebug=none:=oK
theorem GW:laidOutB Tryz.prog=true:=oK
def IE (P:Program) (t:TypeId) {α:Type} (row:α->List DV) (ok:α->Prop):Prop:=∀ m ds,WT P m t ds->∃ x,ds=row x/\ok x
theorem Wt.all {P:Program} {n:Nat} {t:TypeId} {α:Type} {row:α->List DV} {ok:α->Prop} (h:Wt P n t row ok):IE P t row ok:=fun m ds hw=>h m ds (zR oM hw)
theorem Dg {P:Program} {e:TypeId} {α:Type} {row:α->List DV} {ok:α->Prop} {m:Nat} (he:∀ r,WT P m e r->∃ x,r=row x/\ok x):∀ rows:List (List DV),(∀ r∈rows,WT P m e r)->∃ l:List α,rows=l.map row/\∀ a∈l,ok a
 |[],_=>⟨[],rfl,by simp⟩
 |r::rows,h=>by
  obtain⟨a,rfl,ha⟩:=he r (h r oS)
  obtain⟨l,rfl,hl⟩:=Dg he rows (fun r hr=>h r (by simp[hr]))
  exact⟨a::l,rfl,by simpa using⟨ha,hl⟩⟩
theorem Dh {P:Program} {t e:TypeId} {α:Type} {row:α->List DV} {ok:α->Prop} {m:Nat} {ds:List DV} (hu:P.underlying t=some (.slice e)) (he:∀ r m',m'<=m->WT P m' e r->∃ x,r=row x/\ok x) (h:WT P m t ds):
  ∃ l:List α,ds=q0 row l/\l.length<=9223372036854775807/\∀ a∈l,ok a:=by
 cases m with
 |zero=>simp[WT] at h
 |succ m=>
  simp only[WT,hu] at h
  obtain⟨rows,rfl,hl,hr⟩:=h
  obtain⟨l,rfl,hok⟩:=Dg (fun r hw=>he r m oM hw) rows hr
  exact⟨l,rfl,by unfold maxLen at hl;simp at hl;omega,hok⟩
theorem FR {P:Program} {t e:TypeId} {α:Type} {row:α->List DV} {ok:α->Prop} (hu:P.underlying t=some (.slice e)) (he:IE P e row ok):IE P t (q0 row) (Ev ok):=fun m ds h=>by
 obtain⟨l,h1,h2,h3⟩:=Dh hu (fun r m' _ hw=>he m' r hw) h
 exact⟨l,h1,h2,h3⟩
theorem IF:Wt Tryz.prog 1 9 eK F_:=Ie Tryz.underlying9
theorem JI:Wt Tryz.prog 1 4 Fz Jh:=GV Tryz.underlying4
theorem IG:Wt Tryz.prog 1 3 xW GU:=Id Tryz.underlying3
theorem Jv:Wt Tryz.prog 2 49 (q0 eK) (Ev F_):=uI Tryz.underlying49 IF
def n0 (x:aH):Prop:=Jh x.fNeeded/\GU x.fType/\GU x.fMin/\GU x.fMax/\(Ev F_) x.fCodes
set_option maxRecDepth 100000 in
theorem Jw:Wt Tryz.prog 3 51 bP n0:=by
 intro m ds h
 have h:=pM Tryz.underlying51 h
 simp only[E1] at h
 obtain⟨a0,_,rfl,h0,a1,_,rfl,h1,a2,_,rfl,h2,a3,_,rfl,h3,a4,_,rfl,h4,rfl⟩:=h
 obtain⟨x0,rfl,o0⟩:=(JI.up 1) m _ h0
 obtain⟨x1,rfl,o1⟩:=(IG.up 1) m _ h1
 obtain⟨x2,rfl,o2⟩:=(IG.up 1) m _ h2
 obtain⟨x3,rfl,o3⟩:=(IG.up 1) m _ h3
 obtain⟨x4,rfl,o4⟩:=(Jv.up 0) m _ h4
 refine⟨⟨x0,x1,x2,x3,x4⟩, ?_,o0,o1,o2,o3,o4⟩
 simp only[bP,xW,Fz,q0,J5,Kd,Ka]
theorem Jx:Wt Tryz.prog 4 44 (q0 bP) (Ev n0):=uI Tryz.underlying44 Jw
def kT (x:aY):Prop:=Jh x.fNeeded/\GU x.fMost/\(Ev n0) x.fParts
set_option maxRecDepth 100000 in
theorem Jy:Wt Tryz.prog 5 46 cA kT:=by
 intro m ds h
 have h:=pM Tryz.underlying46 h
 simp only[E1] at h
 obtain⟨a0,_,rfl,h0,a1,_,rfl,h1,a2,_,rfl,h2,rfl⟩:=h
 obtain⟨x0,rfl,o0⟩:=(JI.up 3) m _ h0
 obtain⟨x1,rfl,o1⟩:=(IG.up 3) m _ h1
 obtain⟨x2,rfl,o2⟩:=(Jx.up 0) m _ h2
 refine⟨⟨x0,x1,x2⟩, ?_,o0,o1,o2⟩
 simp only[cA,xW,Fz,q0,J5,Kd,Ka]
theorem Jz:Wt Tryz.prog 6 41 (q0 cA) (Ev kT):=uI Tryz.underlying41 Jy
def kU (x:aw):Prop:=F_ x.fTag/\(Ev kT) x.fElements
set_option maxRecDepth 100000 in
theorem JA:Wt Tryz.prog 7 43 au kU:=by
 intro m ds h
 have h:=pM Tryz.underlying43 h
 simp only[E1] at h
 obtain⟨a0,_,rfl,h0,a1,_,rfl,h1,rfl⟩:=h
 obtain⟨x0,rfl,o0⟩:=(IF.up 5) m _ h0
 obtain⟨x1,rfl,o1⟩:=(Jz.up 0) m _ h1
 refine⟨⟨x0,x1⟩, ?_,o0,o1⟩
 simp only[au,eK,q0,J5,Kd,Ka]
theorem JB:Wt Tryz.prog 8 22 (q0 au) (Ev kU):=uI Tryz.underlying22 JA
inductive iH:ab->Prop
 |mk {x:ab}:F_ x.fTag->F_ x.fName->GU x.fMin->GU x.fMax->x.fItems.length<=9223372036854775807->(∀ a∈x.fItems,iH a)->iH x
set_option maxRecDepth 100000 in
theorem HB:∀ n m,m<=n->∀ ds,WT Tryz.prog m 81 ds->∃ x:ab,ds=ac x/\iH x
 |n,0,_,ds,h=>by simp[WT] at h
 |0,m+1,hm,ds,h=>by omega
 |n+1,m+1,hm,ds,h=>by
  have h:=pM Tryz.underlying81 h
  simp only[E1] at h
  obtain⟨a0,_,rfl,h0,a1,_,rfl,h1,a2,_,rfl,h2,a3,_,rfl,h3,a4,_,rfl,h4,rfl⟩:=h
  obtain⟨x0,rfl,o0⟩:=IF.all m _ h0
  obtain⟨x1,rfl,o1⟩:=IF.all m _ h1
  obtain⟨x2,rfl,o2⟩:=IG.all m _ h2
  obtain⟨x3,rfl,o3⟩:=IG.all m _ h3
  obtain⟨x4,rfl,o4,q4⟩:=Dh Tryz.underlying23 (fun r m' hr hw=>HB n m' oM r hw) h4
  refine⟨⟨x0,x1,x2,x3,x4⟩, ?_,.mk o0 o1 o2 o3 o4 q4⟩
  rw[pi];simp only[xW,eK,q0,J5,Kd,Ka]
theorem JC:IE Tryz.prog 81 ac iH:=fun m ds h=>HB m m (JW _) ds h
theorem JD:IE Tryz.prog 23 (q0 ac) (Ev iH):=FR Tryz.underlying23 JC
def pl (x:ah):Prop:=F_ x.fKind/\F_ x.fVersion/\(Ev kU) x.fDefs/\(Ev iH) x.fItems
set_option maxRecDepth 100000 in
theorem JE:IE Tryz.prog 25 aC pl:=by
 intro m ds h
 cases m with
 |zero=>simp[WT] at h
 |succ m=>
 have h:=pM Tryz.underlying25 h
 simp only[E1] at h
 obtain⟨a0,_,rfl,h0,a1,_,rfl,h1,a2,_,rfl,h2,a3,_,rfl,h3,rfl⟩:=h
 obtain⟨x0,rfl,o0⟩:=IF.all m _ h0
 obtain⟨x1,rfl,o1⟩:=IF.all m _ h1
 obtain⟨x2,rfl,o2⟩:=JB.all m _ h2
 obtain⟨x3,rfl,o3⟩:=JD m _ h3
 refine⟨⟨x0,x1,x2,x3⟩, ?_,o0,o1,o2,o3⟩
 simp only[aC,eK,q0,J5,Kd,Ka]
def sA:Nat->DataW Unit->List Value
 |0,_=>[]
 |_+1,.lit (.int k n)=>[.int k n]
 |n+1,.agg ps=>ps.flatMap (sA n)
 |_+1,_=>[]
def n4 (l:List Value):Obj->Obj
 | .cells _ t frozen=> .cells l.toArray t frozen
 |o=>o
noncomputable def BA:Nat:=(World.holding Tryz.prog default ⟨#[],#[],[]⟩).heap.size
noncomputable def vF (os:Os):World:=
 {World.holding Tryz.prog os ⟨#[],#[],[]⟩ with
  heap:=((((((((World.holding Tryz.prog os ⟨#[.cells #[.string ⟨#[118,97,108,117,101,32,111,117,116,32,111,102,32,114,97,110,103,101]⟩] 222,.cells #[.string ⟨#[105,110,118,97,108,105,100,32,115,121,110,116,97,120]⟩] 222],#[],[]⟩).heap.modify 4 (n4 (sA 5 Rows.laid_math_bits_deBruijn32tab))).modify 5 (n4 (sA 5 Rows.laid_math_bits_deBruijn64tab))).modify 0 (n4 (sA 5 Rows.laid_internal_strconv_uint64pow10))).modify 3 (n4 (sA 5 Rows.laid_unicode_utf8_acceptRanges))).modify 7 (n4 [.iface 220 (.pointer (some ⟨BA+0,0,none⟩))])).modify 6 (n4 [.iface 220 (.pointer (some ⟨BA+1,0,none⟩))])).modify 2 (n4 (sA 5 Rows.laid_unicode_utf8_first)))}
end Go.Proofs.YtgocgdgknpdknaaGreatDoor
namespace Go.Proofs.YtgocgdgknpdknaaGreatDoor
open Go.RowKit
set_option linter.unusedSimpArgs false
set_option linter.unusedVariables false
def yd {α S A:Type} (g:Nat->S->α->Option (S⊕A)) (fin:S->Option A):List α->Nat->S->Option A
 |[],_,s=>fin s
 |e::l,i,s=>match g i s e with
  |some (.inl s')=>yd g fin l (i+1) s'
  |some (.inr a)=>some a
  |none=>none
theorem zk {α:Type} {l t:List α} {e:α} {i:Nat} (hd:l.drop i=e::t):l[i]?=some e/\i<l.length/\l.drop (i+1)=t:=by
 refine⟨?_, ?_, ?_⟩
 ·have:=congrArg (fun q=>q[0]?) hd
  simpa using this
 ·rcases J9 i l.length with h|h
  ·exact h
  ·rw[List.drop_eq_nil_of_le h] at hd;cases hd
 ·have:=congrArg List.tail hd
  simpa using this
theorem uH {α:Type} {l:List α} {i:Nat} (hd:l.drop i=[]) (hi:i<=l.length):i=l.length:=by
 have:=congrArg List.length hd;simp at this;omega
theorem zl {α S T A:Type} (l:List α) (mk:Nat->S->T) (g:Nat->S->α->Option (S⊕A)) (fin:S->Option A) {f:T->Option (T⊕A)}
  (hb:∀ (i:Nat) (e:α) (s:S),l[i]?=some e->f (mk i s)=(match g i s e with|some (.inl s')=>some (.inl (mk (i+1) s'))|some (.inr a)=>some (.inr a)|none=>none))
  (he:∀ s,f (mk l.length s)=(fin s).map .inr) (s:S):cR f (mk 0 s)=yd g fin l 0 s:=by
 have:∀ (t:List α) (i:Nat) (s:S),l.drop i=t->i<=l.length->cR f (mk i s)=yd g fin t i s:=by
  intro t
  induction t with
  |nil=>
   intro i s hd hi
   have:=uH hd hi
   subst this
   rw[bM,he]
   simp only[yd]
   cases fin s<;>rfl
  |cons e t ih=>
   intro i s hd hi
   obtain⟨h1,h2,h3⟩:=zk hd
   rw[bM,hb i e s h1]
   simp only[yd]
   cases g i s e with
   |none=>rfl
   |some o=>
    cases o with
    |inr a=>rfl
    |inl s'=>exact ih (i+1) s' h3 h2
 exact this l 0 s rfl (Kf _)
theorem Bz {α T A:Type} (l:List α) (st:Nat->List α->T) {f:T->Option (T⊕A)} {a:A}
  (hb:∀ (i:Nat) (e:α),l[i]?=some e->f (st i (l.take i))=some (.inl (st (i+1) (l.take i++[e]))))
  (he:f (st l.length l)=some (.inr a)):cR f (st 0 [])=some a:=by
 have:=CE (f:=f) (a:=a) (fun i=>st i (l.take i)) l.length (fun i hi=>by
  obtain⟨e,h⟩:=dI hi
  show f (st i (l.take i))=some (.inl (st (i+1) (l.take (i+1))))
  rw[hb i e h,cQ h]) (by
  show f (st l.length (l.take l.length))=_
  rw[Kx];exact he)
 simpa using this
theorem b8 {α:Type} {l:List α} {i:Nat} {e:α} (h:l[i]?=some e):i<l.length:=(JY.1 h).1
theorem kR {R:Type} {n:Nat} {m:Option R} (h:n<=137438953472):jg (qx n) m=m:=cd (GS h)
theorem kS {X S A R:Type} {f:S->Option (S⊕A)} {k:A->Option R} {c:Option R} (st:X->S) (μ:X->Nat) (P:X->Prop)
  (h:∀ x,P x->(∃ y,P y/\μ y<μ x/\f (st x)=some (.inl (st y)))\/(∃ a,f (st x)=some (.inr a)/\k a=c)) (x:X) (hx:P x):(cR f (st x)).bind k=c:=by
 have:∀ n x,μ x<=n->P x->(cR f (st x)).bind k=c:=by
  intro n
  induction n with
  |zero=>
   intro x hn hx
   rcases h x hx with⟨y,_,h2,_⟩|⟨a,h1,h2⟩
   ·omega
   ·rw[bM,h1];exact h2
  |succ n ih=>
   intro x hn hx
   rcases h x hx with⟨y,h1,h2,h3⟩|⟨a,h1,h2⟩
   ·rw[bM,h3];exact ih y oM h1
   ·rw[bM,h1];exact h2
 exact this (μ x) x (JW _) hx
theorem iG {X S A R:Type} {f:S->Option (S⊕A)} {k:A->Option R} {C:R->Prop} (st:X->S) (μ:X->Nat) (P:X->Prop)
  (h:∀ x,P x->(∃ y,P y/\μ y<μ x/\f (st x)=some (.inl (st y)))\/(∃ a c,f (st x)=some (.inr a)/\k a=some c/\C c)) (x:X) (hx:P x):∃ c,(cR f (st x)).bind k=some c/\C c:=by
 have:∀ n x,μ x<=n->P x->∃ c,(cR f (st x)).bind k=some c/\C c:=by
  intro n
  induction n with
  |zero=>
   intro x hn hx
   rcases h x hx with⟨y,_,h2,_⟩|⟨a,c,h1,h2,h3⟩
   ·omega
   ·rw[bM,h1];exact⟨c,h2,h3⟩
  |succ n ih=>
   intro x hn hx
   rcases h x hx with⟨y,h1,h2,h3⟩|⟨a,c,h1,h2,h3⟩
   ·rw[bM,h3];exact ih y oM h1
   ·rw[bM,h1];exact⟨c,h2,h3⟩
 exact this (μ x) x (JW _) hx
theorem pL {α R:Type} (l:List α) (q:α->Bool) (a:R) {f:Int->Option (Int⊕(Int⊕R))} {K:Int->Option R}
  (hb:∀ (i:Nat) (e:α),l[i]?=some e->f (i:Int)=if q e=true then some (.inl ((i+1:Nat):Int)) else some (.inr (.inr a))) (he:f (l.length:Int)=some (.inr (.inl (l.length:Int)))):
  (cR f 0).bind (eh K)=if l.all q=true then K (l.length:Int) else some a:=by
 refine kS (X:=Nat) (fun i=>((i:Nat):Int)) (fun i=>l.length - i) (fun i=>i<=l.length/\(l.take i).all q=true) ?_ 0 ⟨Kf _,rfl⟩
 rintro i ⟨h1,h2⟩
 rcases J9 i l.length with hi|hi
 ·obtain⟨e,hx⟩:=dI hi
  cases hq:q e with
  |true=>
   refine .inl ⟨i+1,⟨hi, ?_⟩,by omega,by rw[hb i e hx,hq];rfl⟩
   rw[cQ hx,List.all_append,h2]
   simp[hq]
  |false=>
   refine .inr ⟨_,by rw[hb i e hx,hq];rfl, ?_⟩
   have:l.all q=false:=by
    rw[List.all_eq_false]
    exact⟨e,JU hx,by rw[hq];decide⟩
   rw[this];rfl
 ·have hl:i=l.length:=by omega
  subst hl
  rw[Kx] at h2
  refine .inr ⟨_,he, ?_⟩
  rw[h2];rfl
theorem Eh {α:Type} (l:List α) (x:α) (h:l.length<9223372036854775807):cx (l++[x]) (IntKind.i64.wrap (((l++[x]).length:Int) - 1))=some x/\(IntKind.i64.wrap (((l++[x]).length:Int) - 1)).toNat=l.length:=by
 have e:IntKind.i64.wrap (((l++[x]).length:Int) - 1)=((l.length:Nat):Int):=by
  rw[JR,K6,eJ _ oM oM];omega
 rw[e,aB,K5 (JW _),LK]
 exact⟨rfl,by omega⟩
def tP:List UInt8:=[65,66,67,68,69,70,71,72,73,74,75,76,77,78,79,80,81,82,83,84,85,86,87,88,89,90,48,49,50,51,52,53,54,55,56,57]
theorem Af (l:List UInt8) (hl:l.length<=9223372036854775807):mE l=some (decide (Lib.trimS l tP=[])):=by
 unfold mE aV;dsimp only
 have:cP l tP=some (Lib.trimS l tP):=by unfold cP;rw[Ll ⟨hl,by decide,by decide⟩]
 simp only[tP] at this⊢
 rw[this]
 rfl
theorem lK {p:UInt8->Bool}:∀ {l:List UInt8},l.dropWhile p=[]↔∀ x∈l,p x=true
 |[]=>by simp
 |a::l=>by
  rw[List.dropWhile_cons]
  by_cases h:p a=true
  ·simp[h,lK (l:=l)]
  ·simp[h]
theorem sc {p:UInt8->Bool} {a:UInt8} {r:List UInt8}:∀ {l:List UInt8},l.dropWhile p=a::r->p a=false
 |[],h=>by simp at h
 |b::l,h=>by
  rw[List.dropWhile_cons] at h
  by_cases hp:p b=true
  ·simp only[hp,K4] at h;exact sc h
  ·simp only[hp] at h
   simp at h;rw[<-h.1];simpa using hp
theorem yb (l cs:List UInt8):Lib.trimS l cs=[]↔∀ x∈l,cs.contains x=true:=by
 unfold Lib.trimS Lib.trimLeftS Lib.trimRightS
 constructor
 ·intro h
  have h1:List.dropWhile (fun x=>cs.contains x) l.reverse=[]:=by
   cases hr:List.dropWhile (fun x=>cs.contains x) l.reverse with
   |nil=>rfl
   |cons a r=>
    exfalso
    have h2:=sc hr
    rw[hr,lK] at h
    have h3:=h a oS
    rw[h2] at h3;cases h3
  rw[lK] at h1
  intro x hx
  exact h1 x (by simpa using hx)
 ·intro h
  have h1:List.dropWhile (fun x=>cs.contains x) l.reverse=[]:=lK.2 fun x hx=>h x (by simpa using hx)
  rw[h1];rfl
def vD (b:UInt8):Bool:=decide (65<=(b.toNat:Int))&&decide ((b.toNat:Int)<=90)
def uF (b:UInt8):Bool:=vD b|| !(decide ((b.toNat:Int)<48)||decide (57<(b.toNat:Int)))
theorem FK:(List.range 256).all (fun n=>tP.contains (UInt8.ofNat n)==uF (UInt8.ofNat n))=true:=oK
theorem GQ (b:UInt8):tP.contains b=uF b:=by
 have:=Ke.1 FK b.toNat (KO.2 b.toNat_lt)
 have hb:UInt8.ofNat b.toNat=b:=by simp
 rw[hb] at this
 simpa using this
def Bx:List UInt8:=[65,66,67,68,69,70,71,72,73,74,75,76,77,78,79,80,81,82,83,84,85,86,87,88,89,90]
theorem FL:(List.range 256).all (fun n=>decide (0<=Lib.indexByte Bx (UInt8.ofNat n))==vD (UInt8.ofNat n))=true:=oK
theorem GR (b:UInt8):decide (0<=Lib.indexByte Bx b)=vD b:=by
 have:=Ke.1 FL b.toNat (KO.2 b.toNat_lt)
 have hb:UInt8.ofNat b.toNat=b:=by simp
 rw[hb] at this
 simpa using this
theorem FM (l:List UInt8):decide (Lib.trimS l tP=[])=l.all uF:=by
 rw[J8,JS,yb,Ke]
 simp only[GQ]
def vE:List UInt8->Bool
 |[]=>false
 |b::l=>decide (1<=l.length)&&decide (l.length<=5)&&vD b&&l.all uF
theorem FN (l:List UInt8) (hl:l.length<=9223372036854775807):oX l=some (vE l):=by
 unfold oX j8;dsimp only
 cases l with
 |nil=>rfl
 |cons b l=>
  have hg:cx (b::l) 0=some b:=rfl
  have hi:mO Bx b=some (Lib.indexByte Bx b):=rfl
  have hu:([65,66,67,68,69,70,71,72,73,74,75,76,77,78,79,80,81,82,83,84,85,86,87,88,89,90]:List UInt8)=Bx:=rfl
  simp only[Af (b::l) hl,FM,hg,hu,hi,JP,aW,GR,vE]
  have h1:decide ((2:Int)<=((b::l).length:Int))=decide (1<=l.length):=by simp only[JT];congr 1;apply propext;omega
  have h2:decide (((b::l).length:Int)<=6)=decide (l.length<=5):=by simp only[JT];congr 1;apply propext;omega
  rw[h1,h2]
  cases hb:vD b with
  |false=>simp
  |true=>simp[uF,hb]
def Ag (i:Nat) (b:UInt8):Bool:=vD b||(decide (i≠0)&&uF b)
theorem FO (l:List UInt8) (hl:l.length<=9223372036854775807):ec l=some ((match l with|[]=>true|b::l=>vD b&&l.all uF)&&decide (l.length<=6)):=by
 unfold ec aV;dsimp only
 have key:=zl (f:=fun s=>bif decide (s<(l.length:Int)) then(cx l s).bind fun e=>(mU (decide (65<=(e.toNat:Int))) ((cx l s).bind fun e=>some (decide ((e.toNat:Int)<=90)))).bind fun v=>(mU (!v) ((z8 (decide (s=0)) ((cx l s).bind fun e=>some (decide ((e.toNat:Int)<48)))).bind fun v=>(z8 v ((cx l s).bind fun e=>some (decide (57<(e.toNat:Int))))).bind fun v=>some v)).bind fun v=>bif v then dg (dg (some false)) else some (Sum.inl (IntKind.i64.wrap (s+1))) else dg (some (Sum.inl s)))
  l (fun i (_:Unit)=>(i:Int)) (fun i _ e=>if Ag i e=true then some (.inl ()) else some (.inr (.inr false))) (fun _=>some (Sum.inl (l.length:Int))) (fun i e s he=> ?_) (fun s=> ?_) ()
 ·rw[show((0:Nat):Int)=0 from rfl] at key
  rw[key]
  have h2:∀ (t:List UInt8) (i:Nat),0<i->yd (fun i (_:Unit) e=>if Ag i e=true then some (.inl ()) else some (.inr (.inr false))) (fun _=>some (Sum.inl (l.length:Int))) t i ()=if t.all uF=true then some (Sum.inl (l.length:Int)) else some (.inr false):=by
   intro t
   induction t with
   |nil=>intro i _;rfl
   |cons b t ih=>
    intro i hi
    simp only[yd]
    have:Ag i b=uF b:=by
     unfold Ag
     rw[Lb (show i≠0 by omega),J6]
     unfold uF
     cases vD b<;>simp
    rw[this]
    cases hb:uF b with
    |true=>simp only[K4,ih (i+1) oM,Lk,hb,J6]
    |false=>simp[hb]
  cases l with
  |nil=>rfl
  |cons b l=>
   simp only[yd]
   have h3:Ag 0 b=vD b:=by unfold Ag;cases vD b<;>simp
   have h4:decide (((b::l).length:Int)<=6)=decide ((b::l).length<=6):=by congr 1;apply propext;omega
   rw[h3]
   cases hb:vD b with
   |false=>simp[eh]
   |true=>
    simp only[K4]
    rw[h2 l 1 oM]
    cases hl:l.all uF with
    |true=>simp[eh];omega
    |false=>simp[eh]
 ·have hi:=b8 he
  simp only[bl hi,J1,aB,he,JP,aW,bG,bY i oM]
  have h0:decide ((i:Int)=0)=decide (i=0):=by congr 1;apply propext;omega
  have h1:(!(decide (65<=(e.toNat:Int))&&decide ((e.toNat:Int)<=90))&&(decide ((i:Int)=0)||decide ((e.toNat:Int)<48)||decide (57<(e.toNat:Int))))= !Ag i e:=by
   rw[h0]
   unfold Ag uF vD
   cases decide (65<=(e.toNat:Int))<;>cases decide ((e.toNat:Int)<=90)<;>by_cases hi0:i=0<;>simp[hi0]
  rw[h1]
  cases Ag i e<;>rfl
 ·simp only[ak,J4];rfl
theorem HA (l:List UInt8) (hl:l.length<=9223372036854775807):fR l=some (vE l):=by
 unfold fR j8;dsimp only
 simp only[FO l hl,JP,aW]
 cases l with
 |nil=>rfl
 |cons b l=>
  have h1:decide ((2:Int)<=((b::l).length:Int))=decide (1<=l.length):=by simp only[JT];congr 1;apply propext;omega
  have h2:decide ((b::l).length<=6)=decide (l.length<=5):=by simp only[JT];congr 1;apply propext;omega
  rw[h1,h2]
  simp only[vE]
  cases vD b<;>cases l.all uF<;>simp
theorem tT:∀ a b:List UInt8,(Lib.compareBytes a b=0/\a=b)\/(Lib.compareBytes a b= -1/\Op.bytesLess a b=true)\/(Lib.compareBytes a b=1/\Op.bytesLess b a=true)
 |[],[]=> .inl ⟨rfl,rfl⟩
 |[],_::_=> .inr (.inl ⟨rfl,rfl⟩)
 |_::_,[]=> .inr (.inr ⟨rfl,rfl⟩)
 |a::a9,b::bs=>by
  unfold Lib.compareBytes Op.bytesLess
  by_cases h1:a<b
  ·simp[h1]
  ·by_cases h2:b<a
   ·simp[h1,h2]
   ·have e:a=b:=by
     rw[UInt8.lt_iff_toNat_lt] at h1 h2
     exact UInt8.toNat_inj.1 oM
    subst e
    have:=tT a9 bs
    simpa[h1] using this
theorem jT:∀ a:List UInt8,Op.bytesLess a a=false
 |[]=>rfl
 |a::l=>by simp[Op.bytesLess,jT l]
theorem qL:∀ {a b c:List UInt8},Op.bytesLess a b=true->Op.bytesLess b c=true->Op.bytesLess a c=true
 |_,[],_,h,_=>by simp[Op.bytesLess] at h
 |_,_::_,[],_,h=>by simp[Op.bytesLess] at h
 |[],_::_,_::_,_,_=>rfl
 |a::a9,b::bs,c::cs,h,k=>by
  simp only[Op.bytesLess,J_,JS,JO,JV] at h k⊢
  rcases h with h|⟨rfl,h⟩
  ·rcases k with k|⟨rfl,k⟩
   ·exact .inl (UInt8.lt_trans h k)
   ·exact .inl h
  ·rcases k with k|⟨rfl,k⟩
   ·exact .inl k
   ·exact .inr ⟨rfl,qL h k⟩
theorem EC {a b:List UInt8} (h:Op.bytesLess a b=true):Op.bytesLess b a=false:=by
 cases hb:Op.bytesLess b a with
 |false=>rfl
 |true=>have:=qL h hb;rw[jT] at this;cases this
theorem HH (a b:List UInt8):a=b\/Op.bytesLess a b=true\/Op.bytesLess b a=true:=by
 rcases tT a b with h|h|h
 ·exact .inl h.2
 ·exact .inr (.inl h.2)
 ·exact .inr (.inr h.2)
theorem Hp {a b:List UInt8}:Lib.compareBytes a b<0↔Op.bytesLess a b=true:=by
 rcases tT a b with⟨h,e⟩|⟨h,e⟩|⟨h,e⟩
 ·subst e;rw[h,jT];simp
 ·rw[h,e];simp
 ·rw[h,EC e];simp
theorem II {a b:List UInt8}:Lib.compareBytes a b=0↔a=b:=by
 rcases tT a b with⟨h,e⟩|⟨h,e⟩|⟨h,e⟩
 ·subst e;rw[h];simp
 ·rw[h];constructor
  ·intro h;omega
  ·rintro rfl;rw[jT] at e;cases e
 ·rw[h];constructor
  ·intro h;omega
  ·rintro rfl;rw[jT] at e;cases e
def ED (l:List (List UInt8)):Prop:=∀ i a b,l[i]?=some a->l[i+1]?=some b->Op.bytesLess a b=true
theorem ED.lt {l:List (List UInt8)} (h:ED l):∀ {i j:Nat} {a b:List UInt8},i<j->l[i]?=some a->l[j]?=some b->Op.bytesLess a b=true:=by
 intro i j a b hij ha hb
 obtain⟨k,rfl⟩:∃ k,j=i+1+k:=⟨j - (i+1),by omega⟩
 clear hij
 induction k generalizing b with
 |zero=>exact h i a b ha hb
 |succ k ih=>
  have hlt:i+1+k<l.length:=by have:=(JY.1 hb).1;omega
  have hc:=J0 hlt
  exact qL (ih hc) (h _ _ _ hc hb)
abbrev MX:Nat:=9223372036854775807
abbrev Sl:=ab
inductive At:Sl->Prop
 |mk {x:Sl}:x.fTag.length<=MX->x.fName.length<=MX->x.fItems.length<=MX->(∀ a∈x.fItems,At a)->At x
theorem At.tag {x:Sl} (h:At x):x.fTag.length<=MX:=by cases h;assumption
theorem At.name {x:Sl} (h:At x):x.fName.length<=MX:=by cases h;assumption
theorem At.items {x:Sl} (h:At x):∀ a∈x.fItems,At a:=by cases h;assumption
def jR (x:Sl):Bool:=vE x.fTag&&decide (x.fName=[])&&decide (x.fItems=[])
def na (x:Sl):Bool:= !decide (x.fName=[])&&decide (x.fTag=[])&&(match x.fItems with|[]=>false|y::_=>jR y&&decide (y.fMin=1)&&decide (y.fMax=1))
def cH (x:Sl):List UInt8:=match x.fItems with|[]=>x.fTag|y::_=>y.fTag
theorem Ei {α:Type} (l:List α):decide ((l.length:Int)=0)=decide (l=[]):=by
 cases l with
 |nil=>rfl
 |cons a l=>simp;omega
theorem Ig {α:Type} (l:List α):decide (0<(l.length:Int))= !decide (l=[]):=by
 cases l with
 |nil=>rfl
 |cons a l=>simp
theorem HC (x:Sl) (h:At x):jQ x=some (jR x):=by
 unfold jQ j9;dsimp only
 rw[FN _ h.tag]
 simp only[JP,aW,Ei];rfl
theorem HD (x:Sl) (h:At x):ed x=some (jR x):=by
 unfold ed j9;dsimp only
 rw[HA _ h.tag]
 simp only[JP,aW,Ei];rfl
theorem I2 (x:Sl) (h:At x):lG x=some (na x):=by
 unfold lG j_;dsimp only
 simp only[aW,JP,Ig]
 unfold na
 cases hx:x.fItems with
 |nil=>simp[mU]
 |cons y l=>
  have hy:=h.items y (by rw[hx];exact Ks ..)
  have hg:cx (y::l) 0=some y:=rfl
  simp only[hg,JP,fh,HC y hy,aW]
  simp only[reduceCtorEq,Lh,Kt,LA,Bool.and_assoc]
theorem I3 (x:Sl) (h:At x):eN x=some (na x):=by
 unfold eN j_;dsimp only
 simp only[aW,JP,Ig]
 unfold na
 rw[Bool.and_comm (decide (x.fTag=[]))]
 cases hx:x.fItems with
 |nil=>simp[mU]
 |cons y l=>
  have hy:=h.items y (by rw[hx];exact Ks ..)
  have hg:cx (y::l) 0=some y:=rfl
  simp only[hg,JP,fh,HD y hy,aW]
  simp only[reduceCtorEq,Lh,Kt,LA,Bool.and_assoc]
theorem Ih (x:Sl):eB x=some (cH x):=by
 unfold eB aV;dsimp only
 unfold cH
 rw[Ig]
 cases x.fItems with
 |nil=>rfl
 |cons y l=>rfl
def Ej (x:Sl):Prop:=jR x=true\/na x=true
theorem Ej.seg {x:Sl} (h:Ej x) (hn:x.fName=[]):jR x=true:=by
 rcases h with h|h
 ·exact h
 ·simp[na,hn] at h
theorem Ej.grp {x:Sl} (h:Ej x) (hn:x.fName≠[]):na x=true:=by
 rcases h with h|h
 ·simp[jR,hn] at h
 ·exact h
theorem FS {x:Sl} (h:Ej x):eX x=some (cH x):=by
 unfold eX aV;dsimp only
 unfold cH
 by_cases hn:x.fName=[]
 ·have hs:=h.seg hn
  simp only[jR,JO,JS] at hs
  rw[hs.2,Lb hn];rfl
 ·have hg:=h.grp hn
  rw[Lj hn]
  unfold na at hg
  cases hx:x.fItems with
  |nil=>rw[hx] at hg;simp at hg
  |cons y l=>rfl
abbrev Df:=aw
def BB (l:List Df):Prop:=ED (l.map (·.fTag))
def ay (l:List Df) (t:List UInt8):Bool:=l.any fun d=>decide (d.fTag=t)
theorem GX (s:ah) (t:List UInt8) (hl:s.fDefs.length<=1000):∃ n,dO s t=some n/\decide (n<0)= !ay s.fDefs t:=by
 unfold dO aV;dsimp only
 have:=iG (X:=Nat) (R:=Int) (C:=fun n=>decide (n<0)= !ay s.fDefs t) (f:=fun i:Int=>bif decide (i<(s.fDefs.length:Int)) then(cx s.fDefs i).bind fun e=>bif decide (e.fTag=t) then dg (dg (some i)) else some (Sum.inl (IntKind.i64.wrap (i+1))) else dg (some (Sum.inl i))) (k:=eh fun _=>some (-1))
  (fun i=>(i:Int)) (fun i=>s.fDefs.length - i) (fun i=>i<=s.fDefs.length/\(s.fDefs.take i).any (fun d=>decide (d.fTag=t))=false) (by
   rintro i ⟨h1,h2⟩
   rcases J9 i s.fDefs.length with hi|hi
   ·obtain⟨d,hd⟩:=dI hi
    simp only[bl hi,J1,aB,hd,JP,bY i oM]
    by_cases ht:d.fTag=t
    ·refine .inr ⟨_,(i:Int),by rw[Lb ht];rfl,rfl, ?_⟩
     have:ay s.fDefs t=true:=by
      unfold ay;rw[Ld];exact⟨d,JU hd,by simpa using ht⟩
     rw[this,Lj oM];rfl
    ·exact .inl ⟨i+1,⟨hi,by rw[cQ hd,List.any_append,h2];simp[ht]⟩,by omega,by rw[Lj ht];rfl⟩
   ·have hl':i=s.fDefs.length:=by omega
    subst hl'
    rw[Kx] at h2
    refine .inr ⟨_, -1,by simp only[ak,J4];rfl,rfl, ?_⟩
    unfold ay;rw[h2];rfl) 0 ⟨Kf _,rfl⟩
 exact this
def bA:List Int->Int
 |[]=>0
 |x::l=>x+4294967296 * bA l
def pn (l:List Int):Prop:=∀ x∈l,0<=x/\x<4294967296
def Gc (l:List Int):Prop:=∀ x,l.getLast?=some x->x≠0
theorem pn.tail {x:Int} {l:List Int} (h:pn (x::l)):pn l:=fun y hy=>h y (Ky _ hy)
theorem pn.app {a b:List Int} (h:pn a) (k:pn b):pn (a++b):=fun x hx=>(Kc.1 hx).elim (h x) (k x)
theorem pn.get {l:List Int} (h:pn l) {i:Nat} {x:Int} (hx:l[i]?=some x):0<=x/\x<4294967296:=h x (JU hx)
theorem pn.set {l:List Int} (h:pn l) (i:Nat) {x:Int} (hx:0<=x/\x<4294967296):pn (l.set i x):=fun y hy=>by
 rcases List.mem_or_eq_of_mem_set hy with hy|rfl
 ·exact h y hy
 ·exact hx
theorem Hj:pn []:=fun x hx=>by simp at hx
theorem Hk (n:Nat):pn (List.replicate n 0):=fun x hx=>by
 rw[List.eq_of_mem_replicate hx];omega
theorem sj:∀ a b:List Int,bA (a++b)=bA a+4294967296^a.length * bA b
 |[],b=>by simp[bA]
 |x::a,b=>by
  simp only[J5,bA,sj a b,JT,LJ,Lp]
  rw[LB,<-Int.mul_assoc,Int.mul_comm (4294967296^a.length) 4294967296]
theorem Dx:∀ {l:List Int},pn l->0<=bA l
 |[],_=>KL _
 |x::l,h=>by
  have h1:=h x (Ks ..)
  have h2:=Dx h.tail
  unfold bA;omega
theorem BN:∀ n,bA (List.replicate n 0)=0
 |0=>rfl
 |n+1=>by simp[List.replicate_succ,bA,BN n]
theorem yi:∀ {l:List Int} {i:Nat} {y:Int} (x:Int),l[i]?=some y->bA (l.set i x)=bA l+4294967296^i * (x - y)
 |[],i,y,x,h=>by simp at h
 |z::l,0,y,x,h=>by
  simp at h;subst h
  simp only[List.set_cons_zero,bA,Int.pow_zero];omega
 |z::l,i+1,y,x,h=>by
  simp only[Kq] at h
  simp only[List.set_cons_succ,bA,yi x h,LJ,Lp]
  rw[LB,<-Int.mul_assoc,Int.mul_comm (4294967296^i) 4294967296]
theorem yj (x:Int):bA [x]=x:=by simp[bA]
theorem Ap:∀ {l:List Int},pn l->Gc l->l≠[]->4294967296^(l.length - 1)<=bA l
 |[],_,_,h=>absurd rfl h
 |[x],h,n,_=>by
  have h1:=h x (Ks ..)
  have h2:=n x rfl
  simp only[bA,JT,JX,KW,LK,Int.pow_zero];omega
 |x::y::l,h,n,_=>by
  have h1:=h x (Ks ..)
  have h2:=Ap (l:=y::l) h.tail (fun z hz=>n z (by simpa[List.getLast?_cons_cons] using hz)) oS
  have e:(x::y::l).length - 1=(y::l).length - 1+1:=by simp
  rw[e,LJ]
  have h3:bA (x::y::l)=x+4294967296 * bA (y::l):=rfl
  omega
theorem BO {l:List Int} (h:pn l) (n:Gc l):bA l=0↔l.length=0:=by
 constructor
 ·intro hv
  by_cases he:l=[]
  ·simp[he]
  ·have h1:=Ap h n he
   have h2:(0:Int)<4294967296^(l.length - 1):=Int.pow_pos oM
   omega
 ·intro hl
  rw[J7.1 hl];rfl
theorem Er {l:List Int} (h:pn l) (n:Gc l) (hl:2<l.length):18446744073709551616<=bA l:=by
 have h1:=Ap h n (by intro e;rw[e] at hl;simp at hl)
 obtain⟨k,hk⟩:∃ k,l.length - 1=2+k:=⟨l.length - 3,by omega⟩
 rw[hk,Int.pow_add] at h1
 have h2:(0:Int)<4294967296^k:=Int.pow_pos oM
 omega
theorem Es {out:List Int} {j:Nat} {o c m t:Int} (ho:out[j]?=some o) (ht:t=c+(o+m)):
  bA (out.set j (t%4294967296))+4294967296^(j+1) * (t/4294967296)=bA out+4294967296^j * (c+m):=by
 rw[yi _ ho,LJ,Int.mul_assoc,LB,<-Lp]
 congr 2
 omega
theorem Et {out:List Int} {c m t:Int} (ht:t=c+m):
  bA (out++[t%4294967296])+4294967296^(out.length+1) * (t/4294967296)=bA out+4294967296^out.length * (c+m):=by
 rw[sj,yj,LJ,Int.mul_assoc,LB,<-Lp]
 congr 2
 omega
theorem sE {l:List Int} {i:Nat} {x:Int} (h:l[i]?=some x):bA (l.take (i+1))=bA (l.take i)+4294967296^i * x:=by
 have hlt:=(JY.1 h).1
 rw[List.take_add_one,h,sj,Ko,LG oM]
 simp[bA]
theorem Aq {n:Int} (h0:0<=n) (h1:n<18446744073709551616):IntKind.u64.wrap n=n:=by
 have e:IntKind.u64.wrap n=n%18446744073709551616:=by simp[IntKind.wrap,IntKind.bits,IntKind.signed]
 rw[e];omega
theorem ID (n:Int):IntKind.u32.wrap n=n%4294967296:=by simp[IntKind.wrap,IntKind.bits,IntKind.signed]
theorem Hl {x y:Int} (hx:0<=x/\x<4294967296) (hy:0<=y/\y<4294967296):Ay .or .u64 x (y * 4294967296)=x+4294967296 * y:=by
 obtain⟨a,rfl⟩:=Int.eq_ofNat_of_zero_le hx.1
 obtain⟨b,rfl⟩:=Int.eq_ofNat_of_zero_le hy.1
 have ha:a<2^32:=by have:=hx.2;omega
 have hb:b<2^32:=by have:=hy.2;omega
 have e1:(BitVec.ofInt IntKind.u64.bits (a:Int)).toNat=a:=by
  rw[BitVec.ofInt_natCast,BitVec.toNat_ofNat];exact Nat.mod_eq_of_lt (by show a<2^64;omega)
 have e2:(BitVec.ofInt IntKind.u64.bits ((b:Int) * 4294967296)).toNat=b * 4294967296:=by
  have:((b:Int) * 4294967296)=((b * 4294967296:Nat):Int):=by omega
  rw[this,BitVec.ofInt_natCast,BitVec.toNat_ofNat];exact Nat.mod_eq_of_lt (by show _<2^64;omega)
 have e3:b<<<32+a=b<<<32|||a:=Nat.shiftLeft_add_eq_or_of_lt ha b
 have e4:b<<<32=b * 4294967296:=Nat.shiftLeft_eq b 32
 simp only[Ay,BitVec.toNat_or,e1,e2]
 rw[Nat.or_comm,<-e4,<-e3,e4,Aq oM oM]
 omega
theorem Dy {x:Int} (hx:0<=x/\x<4294967296):Ay .or .u64 0 x=x:=by
 obtain⟨a,rfl⟩:=Int.eq_ofNat_of_zero_le hx.1
 have e1:(BitVec.ofInt IntKind.u64.bits (a:Int)).toNat=a:=by
  rw[BitVec.ofInt_natCast,BitVec.toNat_ofNat];exact Nat.mod_eq_of_lt (by show a<2^64;omega)
 have e0:(BitVec.ofInt IntKind.u64.bits (0:Int)).toNat=0:=by decide
 simp only[Ay,BitVec.toNat_or,e1,e0,Nat.zero_or]
 exact Aq oM oM
def bJ (n:Int):List UInt8->Int
 |[]=>n
 |c::l=>bJ (10 * n+((c.toNat:Int) - 48)) l
def qf (l:List UInt8):Prop:=∀ c∈l,48<=c.toNat/\c.toNat<=57
theorem wQ:∀ {l:List UInt8} {n:Int},qf l->0<=n->n<=bJ n l
 |[],n,_,_=>KL _
 |c::l,n,h,h0=>by
  have h1:=h c (Ks ..)
  have:=wQ (l:=l) (n:=10 * n+((c.toNat:Int) - 48)) (fun x hx=>h x (Ky _ hx)) oM
  unfold bJ;omega
theorem wR {l:List UInt8} {n:Int} (h:qf l) (h0:0<=n):0<=bJ n l:=Int.le_trans h0 (wQ h h0)
theorem yk:∀ (a b:List UInt8) (n:Int),bJ n (a++b)=bJ (bJ n a) b
 |[],b,n=>rfl
 |c::a,b,n=>by simp only[J5,bJ];exact yk a b _
theorem Ep (l:List Int) (h:pn l) (hl:l.length<=1000):∃ t,mj l=some t/\pn t/\Gc t/\bA t=bA l/\t.length<=l.length:=by
 unfold mj cS;dsimp only
 refine iG (X:=List Int) (C:=fun t=>pn t/\Gc t/\bA t=bA l/\t.length<=l.length) (fun x=>x) (fun x=>x.length) (fun x=>pn x/\bA x=bA l/\x.length<=l.length) ?_ l ⟨h,rfl,JW _⟩
 rintro x ⟨h1,h2,h3⟩
 rcases List.eq_nil_or_concat x with rfl|⟨y,a,rfl⟩
 ·exact .inr ⟨.inl [],[],rfl,rfl,h1,(fun x hx=>by simp at hx),h2,h3⟩
 ·simp only[List.concat_eq_append] at *
  obtain⟨g1,g2⟩:=Eh y a (by simp at h3;omega)
  have hp:decide (0<(((y++[a]).length:Nat):Int))=true:=by simp
  have hv:bA (y++[a])=bA y+4294967296^y.length * a:=by rw[sj,yj]
  by_cases ha:a=0
  ·refine .inl ⟨y,⟨fun z hz=>h1 z (List.mem_append_left _ hz), ?_,by simp at h3;omega⟩,by simp, ?_⟩
   ·rw[<-h2,hv,ha];simp
   ·have gs:dy (y++[a]) ((none:Option Int).getD 0) ((some (IntKind.i64.wrap (((y++[a]).length:Int) - 1))).getD (((y++[a]).length:Nat):Int))=some y:=by
     have e:IntKind.i64.wrap (((y++[a]).length:Int) - 1)=((y.length:Nat):Int):=by
      rw[JR,K6,eJ _ oM (by simp at h3;omega)];omega
     rw[e]
     simp only[KS,Kr,dy]
     rw[Ll ⟨KL _,by omega,by simp;omega⟩]
     simp
    subst ha
    simp only[hp,mU,J1,g1,JP,Lo,gs]
  ·refine .inr ⟨.inl (y++[a]),y++[a], ?_,rfl,h1, ?_,h2,h3⟩
   ·simp only[hp,mU,J1,g1,JP,ha,Lh,J4];rfl
   ·intro z hz;simp at hz;rw[<-hz];exact ha
theorem Ao (b:Bool) (l:List Int) (h:pn l) (hl:l.length<=1000):∃ t,p6 b l=some ⟨b&&decide (bA l≠0),t⟩/\pn t/\Gc t/\bA t=bA l/\t.length<=l.length:=by
 obtain⟨t,h1,h2,h3,h4,h5⟩:=Ep l h hl
 refine⟨t, ?_,h2,h3,h4,h5⟩
 unfold p6 q8;dsimp only
 rw[h1]
 simp only[JP,aW]
 have:decide (0<((t.length:Nat):Int))=decide (bA l≠0):=by
  rw[<-h4]
  have:=BO h2 h3
  by_cases hz:bA t=0
  ·rw[hz];have:=this.1 hz;simp[this]
  ·have hn:t.length≠0:=fun e=>hz (this.2 e)
   simp only[ne_eq,hz,not_false_eq_true,Lo,JS];omega
 rw[this]
structure vG (x:al) (v:Int) (n:Nat):Prop where
 neg:x.fneg=false
 ok:pn x.fabs
 nz:Gc x.fabs
 val:bA x.fabs=v
 len:x.fabs.length<=n
theorem vG.nn {x:al} {v:Int} {n:Nat} (h:vG x v n):0<=v:=h.val▸Dx h.ok
theorem Iz (n:Int) (h0:0<=n) (h1:n<4294967296):∃ x,p7 n=some x/\vG x n 1:=by
 unfold p7 cT;dsimp only
 have hd:decide (n<0)=false:=by simp;omega
 have e1:IntKind.u64.wrap n=n:=Aq h0 oM
 have e2:IntKind.u32.wrap n=n:=by rw[ID];omega
 have e3:IntKind.u32.wrap (n/4294967296)=0:=by rw[ID];omega
 simp only[hd,J4,e1,e2,e3]
 have hok:pn [n,0]:=fun x hx=>by simp at hx;omega
 obtain⟨t,k1,k2,k3,k4,k5⟩:=Ao false [n,0] hok oS
 rw[cd (lS.2 ⟨by omega,by simp[IntKind.bits]⟩),k1]
 have hv:bA [n,0]=n:=by simp[bA]
 refine⟨_,rfl,by simp,k2,k3,by rw[k4,hv], ?_⟩
 show t.length<=1
 rcases J9 1 t.length with h|h
 ·exfalso
  have:=Ap k2 k3 (by intro e;rw[e] at h;simp at h)
  rw[k4,hv] at this
  obtain⟨k,hk⟩:∃ k,t.length - 1=1+k:=⟨t.length - 2,by omega⟩
  rw[hk,Int.pow_add] at this
  have h2:(0:Int)<4294967296^k:=Int.pow_pos oM
  omega
 ·exact h
theorem BM (a b:List Int) (ha:pn a) (hb:pn b) (hl:b.length<=a.length) (h0:a.length<=999) {f:List Int×Int×Int->Option ((List Int×Int×Int)⊕((List Int×Int×Int)⊕List Int))} {r:Option (List Int)}
  (hr:r=(cR f ([],0,0)).bind (eh fun s=>jg (qx (s.fst.length+[IntKind.u32.wrap s.snd.fst].length)) (some (s.fst++[IntKind.u32.wrap s.snd.fst]))))
  (hf:∀ (o:List Int) (c:Int) (i:Nat) (x:Int),a[i]?=some x->0<=c->c<=1->o.length=i->f (o,c,(i:Int))=some (.inl (o++[(c+x+(b[i]?).getD 0)%4294967296],(c+x+(b[i]?).getD 0)/4294967296,((i+1:Nat):Int))))
  (he:∀ o c,f (o,c,(a.length:Int))=some (.inr (.inl (o,c,(a.length:Int))))):
  ∃ o,r=some o/\pn o/\bA o=bA a+bA b/\o.length=a.length+1:=by
 rw[hr]
 have hcut:bA (b.take a.length)=bA b:=by rw[Ki hl]
 refine iG (X:=List Int×Int) (C:=fun o=>pn o/\bA o=bA a+bA b/\o.length=a.length+1) (fun x=>(x.1,x.2,(x.1.length:Int))) (fun x=>a.length - x.1.length)
  (fun x=>x.1.length<=a.length/\pn x.1/\0<=x.2/\x.2<=1/\bA x.1+4294967296^x.1.length * x.2=bA (a.take x.1.length)+bA (b.take x.1.length)) ?_ ([],0) ⟨Kf _,Hj,KL _,by omega,by simp[bA]⟩
 rintro⟨o,c⟩ ⟨h1,h2,h3,h4,h5⟩
 simp only at h1 h2 h3 h4 h5⊢
 rcases J9 o.length a.length with hi|hi
 ·obtain⟨x,hx⟩:=dI hi
  have kx:=ha.get hx
  obtain⟨y,hy,ky,hty⟩:∃ y,(b[o.length]?).getD 0=y/\(0<=y/\y<4294967296)/\bA (b.take (o.length+1))=bA (b.take o.length)+4294967296^o.length * y:=by
   cases hb':b[o.length]? with
   |none=>
    have:b.length<=o.length:=Lm.1 hb'
    refine⟨0,rfl,by omega, ?_⟩
    rw[Ki this,Ki oM];simp
   |some y=>exact⟨y,rfl,hb.get hb',sE hb'⟩
  refine .inl ⟨(o++[(c+x+y)%4294967296],(c+x+y)/4294967296),⟨by simp;omega, ?_,by simp only;omega,by simp only;omega, ?_⟩,by simp;omega, ?_⟩
  ·exact h2.app fun z hz=>by simp at hz;omega
  ·simp only[JR,K6]
   rw[Et (c:=c) (m:=x+y) oM,sE hx,hty,Lp,Lp]
   omega
  ·rw[hf o c o.length x hx h3 h4 rfl,hy]
   simp
 ·have hl:o.length=a.length:=by omega
  refine .inr ⟨_,o++[c],by rw[hl];exact he o c, ?_,h2.app fun z hz=>by simp at hz;omega, ?_,by simp;omega⟩
  ·have hw:IntKind.u32.wrap c=c:=by rw[ID];omega
   simp only[eh,hw]
   exact kR oT
  ·rw[sj,yj,h5,hl,Kx,hcut]
theorem Jb (a b:List Int) (ha:pn a) (hb:pn b) (h1:a.length<=999) (h2:b.length<=999):∃ o,q7 a b=some o/\pn o/\bA o=bA a+bA b/\o.length=max a.length b.length+1:=by
 have key:∀ (a b:List Int) (i:Nat) (x c:Int) (o:List Int),pn a->pn b->a.length<=999->a[i]?=some x->0<=c->c<=1->o.length=i->
   (bif decide ((i:Int)<(a.length:Int)) then(cx a (i:Int)).bind fun e=>bif decide ((i:Int)<(b.length:Int)) then(cx b (i:Int)).bind fun e_1=>jg (qx (o.length+[IntKind.u32.wrap (IntKind.u64.wrap (IntKind.u64.wrap (c+IntKind.u64.wrap e)+IntKind.u64.wrap e_1))].length)) (jg (C2 IntKind.u64 32) (some (Sum.inl (o++[IntKind.u32.wrap (IntKind.u64.wrap (IntKind.u64.wrap (c+IntKind.u64.wrap e)+IntKind.u64.wrap e_1))],IntKind.u64.wrap (IntKind.u64.wrap (c+IntKind.u64.wrap e)+IntKind.u64.wrap e_1)/4294967296,IntKind.i64.wrap ((i:Int)+1)))))
    else jg (qx (o.length+[IntKind.u32.wrap (IntKind.u64.wrap (c+IntKind.u64.wrap e))].length)) (jg (C2 IntKind.u64 32) (some (Sum.inl (o++[IntKind.u32.wrap (IntKind.u64.wrap (c+IntKind.u64.wrap e))],IntKind.u64.wrap (c+IntKind.u64.wrap e)/4294967296,IntKind.i64.wrap ((i:Int)+1)))))
   else dg (some (Sum.inl (o,c,(i:Int)))):Option ((List Int×Int×Int)⊕((List Int×Int×Int)⊕List Int)))=some (.inl (o++[(c+x+(b[i]?).getD 0)%4294967296],(c+x+(b[i]?).getD 0)/4294967296,((i+1:Nat):Int))):=by
  intro a b i x c o ha hb hl hx h0 h1 ho
  have hi:=b8 hx
  have kx:=ha.get hx
  have e1:IntKind.u64.wrap x=x:=Aq kx.1 oM
  have e2:IntKind.u64.wrap (c+x)=c+x:=Aq oM oM
  have hsh:C2 IntKind.u64 32=some ():=lS.2 ⟨by omega,by simp[IntKind.bits]⟩
  simp only[bl hi,J1,aB,hx,JP,e1,e2,bY i oM,cd hsh]
  cases hb':b[i]? with
  |none=>
   have:b.length<=i:=Lm.1 hb'
   have hd:decide ((i:Int)<(b.length:Int))=false:=by simp;omega
   simp only[hd,J4,KS,ID,Int.add_zero]
   rw[kR oT]
  |some y=>
   have hib:=b8 hb'
   have ky:=hb.get hb'
   have e3:IntKind.u64.wrap y=y:=Aq ky.1 oM
   have e4:IntKind.u64.wrap (c+x+y)=c+x+y:=Aq oM oM
   simp only[bl hib,J1,JP,e3,e4,Kr,ID]
   rw[kR oT]
 have hmk:∀ n:Nat,n<=999->IO 0 (IntKind.i64.wrap ((n:Int)+1))=some ():=fun n hn=>by
  rw[bY n oM];exact xG.2 ⟨KL _,by omega,by omega⟩
 unfold q7 cS;dsimp only
 by_cases hlt:a.length<b.length
 ·have hd:decide ((a.length:Int)<(b.length:Int))=true:=by simpa using hlt
  simp only[hd,J1]
  rw[cd (hmk _ h2)]
  exact(BM b a hb ha oM h2 (by rfl) (by intro o c i x hx k1 k2 k3;exact key b a i x c o hb ha h2 hx k1 k2 k3) (by intro o c;simp only[ak,J4];rfl)).imp fun o h=>⟨h.1,h.2.1,by have:=h.2.2.1;omega,by have:=h.2.2.2;omega⟩
 ·have hd:decide ((a.length:Int)<(b.length:Int))=false:=by simpa using hlt
  simp only[hd,J4]
  rw[cd (hmk _ h1)]
  exact(BM a b ha hb oM h1 (by rfl) (by intro o c i x hx k1 k2 k3;exact key a b i x c o ha hb h1 hx k1 k2 k3) (by intro o c;simp only[ak,J4];rfl)).imp fun o h=>⟨h.1,h.2.1,h.2.2.1,by have:=h.2.2.2;omega⟩
theorem IA {x y:al} {v w:Int} {n m:Nat} (hx:vG x v n) (hy:vG y w m) (hn:n<=900) (hm:m<=900):∃ z,co x y=some z/\vG z (v+w) (max n m+1):=by
 unfold co cT;dsimp only
 obtain⟨o,k1,k2,k3,k4⟩:=Jb x.fabs y.fabs hx.ok hy.ok (by have:=hx.len;omega) (by have:=hy.len;omega)
 obtain⟨t,q1,q2,q3,q4,q5⟩:=Ao false o k2 (by have:=hx.len;have:=hy.len;omega)
 simp only[hx.neg,hy.neg,Lo,J1,k1,JP,q1]
 refine⟨_,rfl,by simp,q2,q3,by rw[q4,k3,hx.val,hy.val], ?_⟩
 show t.length<=_
 have:=hx.len;have:=hy.len;omega
theorem Eq {e y:Int} (he:0<=e/\e<4294967296) (hy:0<=y/\y<4294967296):0<=e * y/\e * y<=18446744065119617025:=by
 refine⟨Int.mul_nonneg he.1 hy.1, ?_⟩
 have:=Int.mul_le_mul (show e<=4294967295 by omega) (show y<=4294967295 by omega) hy.1 oM
 omega
theorem IB {i k:Nat} (h:i+k<=2000):IntKind.i64.wrap ((i:Int)+(k:Int))=((i+k:Nat):Int):=by rw[eJ _ oM oM];simp
theorem Hh {x y:al} {v w:Int} {n m:Nat} (hx:vG x v n) (hy:vG y w m) (hn:n+m<=900):∃ z,ce x y=some z/\vG z (v * w) (n+m):=by
 have lx:=hx.len;have ly:=hy.len
 have ox:=hx.ok;have oy:=hy.ok
 have vx:=hx.val;have vy:=hy.val
 have nx:=hx.neg;have ny:=hy.neg
 have nX:∀ (b:Bool),(b=b):=fun _=>rfl
 obtain⟨xn,xa⟩:=x
 obtain⟨yn,ya⟩:=y
 simp only at lx ly ox oy vx vy nx ny
 subst nx;subst ny
 unfold ce cT;dsimp only
 have e0:IntKind.i64.wrap ((xa.length:Int)+(ya.length:Int))=((xa.length+ya.length:Nat):Int):=IB oM
 have hsh:C2 IntKind.u64 32=some ():=lS.2 ⟨by omega,by simp[IntKind.bits]⟩
 simp only[e0,K9,Lo,J3]
 rw[cd (xG.2 ⟨by omega,KL _,by omega⟩)]
 refine iG (X:=List Int×Nat) (C:=fun z:al=>vG z (v * w) (n+m)) (fun s=>(s.1,(s.2:Int))) (fun s=>xa.length - s.2)
  (fun s=>s.2<=xa.length/\s.1.length=xa.length+ya.length/\pn s.1/\bA s.1=bA (xa.take s.2) * bA ya/\∀ j z,s.2+ya.length<=j->s.1[j]?=some z->z=0) ?_ (List.replicate (xa.length+ya.length) 0,0)
  ⟨Kf _,by simp,Hk _,by simp[BN,bA],fun j z _ hz=>by
   simp only[List.getElem?_replicate] at hz
   split at hz
   ·simpa using hz.symm
   ·cases hz⟩
 rintro⟨out,i⟩ ⟨h1,h2,h3,h4,h5⟩
 simp only at h1 h2 h3 h4 h5⊢
 rcases J9 i xa.length with hi|hi
 ·obtain⟨e,he⟩:=dI hi
  have ke:=ox.get he
  have e1:IntKind.u64.wrap e=e:=Aq ke.1 oM
  have inner:∃ r:(List Int×Int)⊕((List Int×Int)⊕al),_=some r/\∃ o,r= .inl (o,((i+1:Nat):Int))/\o.length=xa.length+ya.length/\pn o/\bA o=bA (xa.take (i+1)) * bA ya/\∀ j z,i+1+ya.length<=j->o[j]?=some z->z=0:=
   iG (R:=(List Int×Int)⊕((List Int×Int)⊕al)) (X:=(List Int×Int)×Nat) (f:=fun s_1:List Int×Int×Int=>
     bif decide (s_1.snd.snd<(ya.length:Int)) then(cx ya s_1.snd.snd).bind fun e_1=>(cx s_1.fst (IntKind.i64.wrap ((i:Int)+s_1.snd.snd))).bind fun e_2=>s_1.fst[(IntKind.i64.wrap ((i:Int)+s_1.snd.snd)).toNat]?.bind fun e_3=>(cx s_1.fst (IntKind.i64.wrap ((i:Int)+s_1.snd.snd))).bind fun e_4=>s_1.fst[(IntKind.i64.wrap ((i:Int)+s_1.snd.snd)).toNat]?.bind fun e_5=>
      jg (C2 IntKind.u64 32) (some (Sum.inl (s_1.fst.set (IntKind.i64.wrap ((i:Int)+s_1.snd.snd)).toNat (IntKind.u32.wrap (IntKind.u64.wrap (s_1.snd.fst+IntKind.u64.wrap (IntKind.u64.wrap e_3+IntKind.u64.wrap (IntKind.u64.wrap e * IntKind.u64.wrap e_1))))),IntKind.u64.wrap (s_1.snd.fst+IntKind.u64.wrap (IntKind.u64.wrap e_3+IntKind.u64.wrap (IntKind.u64.wrap e * IntKind.u64.wrap e_1)))/4294967296,IntKind.i64.wrap (s_1.snd.snd+1))))
     else dg (some (Sum.inl (s_1.fst,s_1.snd.fst,s_1.snd.snd))))
    (k:=eh fun s_1:List Int×Int×Int=>(cx s_1.fst (IntKind.i64.wrap ((i:Int)+(ya.length:Int)))).bind fun e=>s_1.fst[(IntKind.i64.wrap ((i:Int)+(ya.length:Int))).toNat]?.bind fun e=>some (Sum.inl (s_1.fst.set (IntKind.i64.wrap ((i:Int)+(ya.length:Int))).toNat (IntKind.u32.wrap s_1.snd.fst),IntKind.i64.wrap ((i:Int)+1))))
    (fun s=>(s.1.1,s.1.2,(s.2:Int))) (fun s=>ya.length - s.2)
    (fun s=>s.2<=ya.length/\s.1.1.length=xa.length+ya.length/\pn s.1.1/\(0<=s.1.2/\s.1.2<4294967296)/\bA s.1.1+4294967296^(i+s.2) * s.1.2=bA out+4294967296^i * (e * bA (ya.take s.2))/\∀ j z,i+ya.length<=j->s.1.1[j]?=some z->z=0) (by
     rintro⟨⟨o,c⟩,k⟩ ⟨q1,q2,q3,q4,q5,q6⟩
     simp only at q1 q2 q3 q4 q5 q6⊢
     rcases J9 k ya.length with hk|hk
     ·obtain⟨y,hy⟩:=dI hk
      have ky:=oy.get hy
      obtain⟨p,hp⟩:∃ p,o[i+k]?=some p:=dI oM
      have kp:=q3.get hp
      have km:=Eq ke ky
      have e2:IntKind.u64.wrap y=y:=Aq ky.1 oM
      have e3:IntKind.u64.wrap p=p:=Aq kp.1 oM
      have e4:IntKind.u64.wrap (e * y)=e * y:=Aq km.1 oM
      have e5:IntKind.u64.wrap (p+e * y)=p+e * y:=Aq oM oM
      have e6:IntKind.u64.wrap (c+(p+e * y))=c+(p+e * y):=Aq oM oM
      have e7:IntKind.i64.wrap ((i:Int)+(k:Int))=((i+k:Nat):Int):=IB oM
      refine .inl ⟨((o.set (i+k) ((c+(p+e * y))%4294967296),(c+(p+e * y))/4294967296),k+1),⟨hk,by simpa using q2,q3.set _ oM,by simp only;omega, ?_,fun j z hj hz=> ?_⟩,by simp only;omega, ?_⟩
      ·simp only
       rw[<-Nat.add_assoc,Es hp rfl,sE hy,Lp,<-LB,q5,Lp,Lp,Int.pow_add,LB]
       congr 2
       ac_rfl
      ·simp only at hz
       rw[List.getElem?_set_ne oM] at hz
       exact q6 j z hj hz
      ·simp only[bl hk,J1,aB,hy,JP,e7,K9,hp,e1,e2,e3,e4,e5,e6,ID,bY k oM]
       rw[cd hsh]
     ·have hl:k=ya.length:=by omega
      subst hl
      obtain⟨p,hp⟩:∃ p,o[i+ya.length]?=some p:=dI oM
      have hz:=q6 _ p (JW _) hp
      subst hz
      have e7:IntKind.i64.wrap ((i:Int)+(ya.length:Int))=((i+ya.length:Nat):Int):=IB oM
      have e8:IntKind.u32.wrap c=c:=by rw[ID];omega
      rw[Kx] at q5
      refine .inr ⟨_,_,by simp only[ak,J4];rfl,by simp only[eh,e7,aB,K9,hp,JP,e8,bY i oM];rfl,_,rfl,by simpa using q2,q3.set _ q4, ?_,fun j z hj hz=> ?_⟩
      ·rw[yi _ hp,Int.sub_zero,q5,h4,sE he,Int.add_mul]
       congr 1
       ac_rfl
      ·rw[List.getElem?_set_ne oM] at hz
       exact q6 j z oM hz)
    ((out,0),0) ⟨Kf _,h2,h3,⟨KL _,by simp⟩,by simp[bA],h5⟩
  obtain⟨r,hr,o,rfl,g1,g2,g3,g4⟩:=inner
  refine .inl ⟨(o,i+1),⟨hi,g1,g2,g3,g4⟩,by simp only;omega, ?_⟩
  simp only[bl hi,J1,aB,he,JP]
  exact hr
 ·have hl:i=xa.length:=by omega
  subst hl
  rw[Kx] at h4
  obtain⟨t,k1,k2,k3,k4,k5⟩:=Ao false out h3 oM
  refine .inr ⟨_,_,by simp only[ak,J4];rfl,by simp only[eh,k1,JP];rfl, ?_⟩
  exact⟨by simp,k2,k3,by rw[k4,h4,vx,vy],by show t.length<=n+m;omega⟩
theorem Hi {x:al} {v:Int} {n:Nat} (hx:vG x v n) (hn:n<=900) (hv:v≠0):∃ t,bh x=some ⟨true,t⟩/\pn t/\Gc t/\bA t=v/\t.length<=n:=by
 unfold bh cT;dsimp only
 have lx:=hx.len
 obtain⟨t,k1,k2,k3,k4,k5⟩:=Ao (!x.fneg) x.fabs hx.ok oM
 refine⟨t, ?_,k2,k3,k4.trans hx.val,by omega⟩
 rw[k1,hx.neg,hx.val]
 simp[hv]
theorem IC {x:al} {v:Int} {n:Nat} (hx:vG x v n):bn x=some (if v=0 then 0 else 1):=by
 unfold bn cS;dsimp only
 have h:=BO hx.ok hx.nz
 rw[hx.val] at h
 simp only[hx.neg,J4]
 by_cases hv:v=0
 ·have hl:=h.1 hv
  rw[Ll hv,hl];rfl
 ·have hl:x.fabs.length≠0:=fun e=>hv (h.2 e)
  rw[if_neg hv,Lj (show¬ ((x.fabs.length:Int)=0) by omega)];rfl
theorem Jc (b:Bool) (l:List Int) (h:pn l) (hz:Gc l) (m:Int) (h0:0<=m) (h1:m<9223372036854775807):∃ r,dX ⟨b,l⟩ m=some (r,decide (bA l<=m)):=by
 unfold dX cS;dsimp only
 by_cases hl:2<l.length
 ·have hg:=Er h hz hl
  have hd:decide (2<((l.length:Nat):Int))=true:=by simp;omega
  have hv:decide (bA l<=m)=false:=by simp;omega
  rw[hd,hv];exact⟨_,rfl⟩
 ·have hd:decide (2<((l.length:Nat):Int))=false:=by simp;omega
  rw[hd]
  simp only[J4]
  have hw:IntKind.u64.wrap m=m:=Aq h0 oM
  have hfin:∀ u:Int,u=bA l->∃ r,(bif decide (IntKind.u64.wrap m<u) then some ((0:Int),false) else bif b then some (IntKind.i64.wrap (0 - IntKind.i64.wrap u),true) else some (IntKind.i64.wrap u,true))=some (r,decide (bA l<=m)):=by
   intro u hu
   rw[hw,hu]
   by_cases hc:m<bA l
   ·rw[Lb hc,show decide (bA l<=m)=false by simp;omega];exact⟨_,rfl⟩
   ·rw[Lj hc,show decide (bA l<=m)=true by simp;omega]
    cases b<;>exact⟨_,rfl⟩
  have s0:IntKind.i64.wrap (32 * 0)=0:=by rw[eJ _ oM oM];rfl
  have s1:IntKind.i64.wrap (32 * (0+1))=32:=by rw[eJ _ oM oM];rfl
  have s2:IntKind.i64.wrap (0+1)=1:=by rw[eJ _ oM oM];rfl
  have s3:IntKind.i64.wrap (32 * 1)=32:=by rw[eJ _ oM oM];rfl
  have s4:IntKind.i64.wrap (1+1)=2:=by rw[eJ _ oM oM];rfl
  have hsa:C2 IntKind.u64 0=some ():=lS.2 ⟨by omega,by simp[IntKind.bits]⟩
  have hsb:C2 IntKind.u64 32=some ():=lS.2 ⟨by omega,by simp[IntKind.bits]⟩
  match l,h,hz,hl with
  |[],_,_,_=>
   rw[bM]
   have d0:decide ((0:Int)<(([]:List Int).length:Int))=false:=by simp
   simp only[d0,J4,dg,Ku,JP,eh]
   exact hfin 0 rfl
  |[x],h,_,_=>
   have kx:=h x oS
   have e1:IntKind.u64.wrap x=x:=Aq kx.1 oM
   rw[bM]
   have d1:decide ((0:Int)<(([x]:List Int).length:Int))=true:=by simp
   have d2:decide ((1:Int)<(([x]:List Int).length:Int))=false:=by simp
   have g1:cx [x] 0=some x:=rfl
   simp only[d1,J1,g1,JP,s0,s2,cd hsa,Int.toNat_zero,Int.pow_zero,Int.mul_one,e1,Dy kx]
   rw[bM]
   simp only[d2,J4,dg,Ku,JP,eh]
   exact hfin x (by simp[bA])
  |[x,y],h,_,_=>
   have kx:=h x oS
   have ky:=h y oS
   have e1:IntKind.u64.wrap x=x:=Aq kx.1 oM
   have e2:IntKind.u64.wrap y=y:=Aq ky.1 oM
   have e3:IntKind.u64.wrap (y * 4294967296)=y * 4294967296:=Aq oM oM
   rw[bM]
   have d1:decide ((0:Int)<(([x,y]:List Int).length:Int))=true:=by simp
   have d2:decide ((1:Int)<(([x,y]:List Int).length:Int))=true:=by simp
   have d3:decide ((2:Int)<(([x,y]:List Int).length:Int))=false:=by simp
   have g1:cx [x,y] 0=some x:=rfl
   have g2:cx [x,y] 1=some y:=rfl
   simp only[d1,J1,g1,JP,s0,s2,cd hsa,Int.toNat_zero,Int.pow_zero,Int.mul_one,e1,Dy kx]
   rw[bM]
   have p32:(2:Int)^(32:Int).toNat=4294967296:=by decide
   simp only[d2,J1,g2,JP,s3,s4,cd hsb,e2,p32,e3,Hl kx ky]
   rw[bM]
   simp only[d3,J4,dg,Ku,JP,eh]
   exact hfin _ (by simp[bA])
  |_::_::_::_,_,_,hl=>simp at hl
end Go.Proofs.YtgocgdgknpdknaaGreatDoor
