/-
  Texts of mine, one behind the other (SZG3, SZC2, SZC3, SZC4, SZG4, SZGN, SZRowN, SZC5, SZC6, SZG6, SZGW, SZPM, SZE1, SZQ1).
-/
import Derived.Test.YtgmnipfafmphaaaGreatDoorBZ1
import Derived.Test.YtgmnipfafmphaaaGreatDoorBZ2
import Derived.Test.YtgmnipfafmphaaaGreatDoorBZ3
import Derived.Test.YtgmnipfafmphaaaGreatDoorSZEngZz
import Derived.Test.YtgmnipfafmphaaaGreatDoorProg
import Derived.Test.YtgmnipfafmphaaaGreatDoorSZEngRq
import Derived.Test.YtgmnipfafmphaaaGreatDoorSZEngRk
import Derived.Test.YtgmnipfafmphaaaGreatDoorSZEngRl
import Derived.Test.YtgmnipfafmphaaaGreatDoorCards
import Derived.Test.YtgmnipfafmphaaaGreatDoorTie
import Derived.Test.YtgmnipfafmphaaaGreatDoorSZEngRn
import Derived.Test.YtgmnipfafmphaaaGreatDoorSZEngR
import Derived.Test.YtgmnipfafmphaaaGreatDoorSZEngRm
import Derived.Test.YtgmnipfafmphaaaGreatDoorSZEngRj
import Derived.Test.YtgmnipfafmphaaaGreatDoorSZPL
import Derived.Test.YtgmnipfafmphaaaGreatDoorSZEngN
namespace Go.Proofs.YtgmnipfafmphaaaGreatDoor
open Go.RowKit
set_option linter.unusedSimpArgs false
set_option linter.unusedVariables false
structure aD where
 fRef:List UInt8
 fKind:List UInt8
 fVersion:List UInt8
 fSegments:List aa
 deriving DecidableEq
def aq (x:aD):List DV:=[.str x.fRef,.str x.fKind,.str x.fVersion,.slice (List.map af x.fSegments)]
attribute [push_cast] aq
structure aU where
 fRef:List UInt8
 fKind:List UInt8
 fMessages:List aD
 deriving DecidableEq
def aE (x:aU):List DV:=[.str x.fRef,.str x.fKind,.slice (List.map aq x.fMessages)]
attribute [push_cast] aE
structure aG where
 fRef:List UInt8
 fSender:List UInt8
 fReceiver:List UInt8
 fDay:Int
 fSecond:Int
 fTest:Bool
 fGroups:List aU
 deriving DecidableEq
def ay (x:aG):List DV:=[.str x.fRef,.str x.fSender,.str x.fReceiver,.int .i64 x.fDay,.int .i64 x.fSecond,.bool x.fTest,.slice (List.map aE x.fGroups)]
attribute [push_cast] ay
def kJ:SC:=
 (.seq (.reg [.r 2 (.boxI (.t 0)),
   .r 3 (.mv (.c (.d (.bool false))))])
 (.seq (.reg [.r 4 (.fld 0 (.t 2)),
   .o 5 (.ld1 (.t 4)),
   .r 6 (.fld 0 (.t 1)),
   .o 7 (.ld1 (.t 6)),
   .r 8 (.bin .eql (.t 5) (.t 7)),
   .r 3 (.mv (.t 8))])
 .ret))
theorem oy:fits Tryz.prog 83 Tryz.f83 kJ [.t 3] 2=true:=oK
def aN:SC:=
 (.seq (.reg [.r 9 (.bin .lss (.t 8) (.t 7))])
 (.seq (.cond (.t 9)
  .skip
  (.exit 0))
 (.seq (.block 1 (.seq (.reg [.r 10 (.mv (.t 8)),
    .r 5 (.mv (.t 10))])
  (.seq (.reg [.r 11 (.mv (.t 1)),
    .r 12 (.mv (.t 0)),
    .r 13 (.mv (.t 5)),
    .r 14 (.idx 3 (.t 12) (.t 13)),
    .o 15 (.ldA 3 (.t 14)),
    .c 16 (.t 11) [.t 15]])
  (.cond (.t 16)
   (.seq (.reg [.r 17 (.mv (.t 5)),
     .r 4 (.mv (.t 17))])
   .ret)
   .skip))))
 (.reg [.r 18 (.bin .add (.t 8) (.c (.d (.int .i64 1)))),
   .r 8 (.mv (.t 18))]))))
def bp:SC:= .block 0 (.loop aN)
def bF:SC:=
 (.seq (.reg [.r 4 (.mv (.c (.d (.int .i64 0))))])
 (.seq (.seq (.reg [.r 6 (.mv (.t 0)),
   .r 7 (.len (.t 6)),
   .r 8 (.mv (.c (.d (.int .i64 0))))])
 bp)
 (.seq (.reg [.r 4 (.mv (.c (.d (.int .i64 (-1)))))])
 .ret)))
theorem du:fits Tryz.prog 122 Tryz.f122 bF [.t 4] 2=true:=oK
def jG:SC:=
 (.seq (.reg [.r 2 (.boxI (.t 0)),
   .r 3 (.mv (.c (.d (.bool false))))])
 (.seq (.reg [.r 4 (.fld 0 (.t 2)),
   .o 5 (.ld1 (.t 4)),
   .r 6 (.fld 0 (.t 1)),
   .o 7 (.ld1 (.t 6)),
   .r 8 (.bin .eql (.t 5) (.t 7)),
   .r 3 (.mv (.t 8))])
 .ret))
theorem nj:fits Tryz.prog 124 Tryz.f124 jG [.t 3] 2=true:=oK
def aH:SC:=
 (.seq (.reg [.r 9 (.bin .lss (.t 8) (.t 7))])
 (.seq (.cond (.t 9)
  .skip
  (.exit 0))
 (.seq (.block 1 (.seq (.reg [.r 10 (.mv (.t 8)),
    .r 5 (.mv (.t 10))])
  (.seq (.reg [.r 11 (.mv (.t 1)),
    .r 12 (.mv (.t 0)),
    .r 13 (.mv (.t 5)),
    .r 14 (.idx 4 (.t 12) (.t 13)),
    .o 15 (.ldA 4 (.t 14)),
    .c 16 (.t 11) [.t 15]])
  (.cond (.t 16)
   (.seq (.reg [.r 17 (.mv (.t 5)),
     .r 4 (.mv (.t 17))])
   .ret)
   .skip))))
 (.reg [.r 18 (.bin .add (.t 8) (.c (.d (.int .i64 1)))),
   .r 8 (.mv (.t 18))]))))
def ba:SC:= .block 0 (.loop aH)
def bn:SC:=
 (.seq (.reg [.r 4 (.mv (.c (.d (.int .i64 0))))])
 (.seq (.seq (.reg [.r 6 (.mv (.t 0)),
   .r 7 (.len (.t 6)),
   .r 8 (.mv (.c (.d (.int .i64 0))))])
 ba)
 (.seq (.reg [.r 4 (.mv (.c (.d (.int .i64 (-1)))))])
 .ret)))
theorem cR:fits Tryz.prog 155 Tryz.f155 bn [.t 4] 2=true:=oK
def fk:SC:=
 (.seq (.reg [.r 4 (.mv (.c (.d (.bool false))))])
 (.seq (.reg [.r 5 (.mv (.t 0)),
   .r 6 (.mv (.t 1)),
   .c 7 (.f 22) [.t 5,.t 6],
   .r 8 (.bin .geq (.t 7) (.c (.d (.int .i64 0)))),
   .r 4 (.mv (.t 8))])
 .ret))
theorem ji:fits Tryz.prog 9 Tryz.f9 fk [.t 4] 2=true:=oK
def jH:SC:=
 (.seq (.reg [.r 26 (.bin .lss (.t 25) (.t 24))])
 (.seq (.cond (.t 26)
  .skip
  (.exit 2))
 (.seq (.block 3 (.seq (.reg [.r 27 (.idx 4 (.t 23) (.t 25)),
    .o 28 (.ldA 4 (.t 27)),
    .w 7 (.boxM (.c (.agg [.d (.str []),.d (.str []),.d (.str []),.nils]))),
    .w 0 (.st 4 (.t 7) (.t 28))])
  (.reg [.r 29 (.mv (.t 3)),
    .r 30 (.fld 3 (.t 7)),
    .o 31 (.ld1 (.t 30)),
    .r 32 (.len (.t 31)),
    .r 33 (.bin .add (.c (.d (.int .i64 2))) (.t 32)),
    .r 34 (.bin .add (.t 29) (.t 33)),
    .r 3 (.mv (.t 34))])))
 (.reg [.r 35 (.bin .add (.t 25) (.c (.d (.int .i64 1)))),
   .r 25 (.mv (.t 35))]))))
def mn:SC:= .block 2 (.loop jH)
def jI:SC:=
 (.seq (.reg [.r 12 (.bin .lss (.t 11) (.t 10))])
 (.seq (.cond (.t 12)
  .skip
  (.exit 0))
 (.seq (.block 1 (.seq (.reg [.r 13 (.idx 3 (.t 9) (.t 11)),
    .o 14 (.ldA 3 (.t 13)),
    .w 5 (.boxM (.c (.agg [.d (.str []),.d (.str []),.nils]))),
    .w 0 (.st 3 (.t 5) (.t 14))])
  (.seq (.reg [.r 15 (.mv (.t 3)),
    .r 16 (.bin .add (.t 15) (.c (.d (.int .i64 2)))),
    .r 3 (.mv (.t 16))])
  (.seq (.reg [.r 17 (.mv (.t 2)),
    .r 18 (.fld 2 (.t 5)),
    .o 19 (.ld1 (.t 18)),
    .r 20 (.len (.t 19)),
    .r 21 (.bin .add (.t 17) (.t 20)),
    .r 2 (.mv (.t 21))])
  (.seq (.reg [.r 22 (.fld 2 (.t 5)),
    .o 23 (.ld1 (.t 22)),
    .r 24 (.len (.t 23)),
    .r 25 (.mv (.c (.d (.int .i64 0))))])
  mn)))))
 (.reg [.r 36 (.bin .add (.t 11) (.c (.d (.int .i64 1)))),
   .r 11 (.mv (.t 36))]))))
def mo:SC:= .block 0 (.loop jI)
def pc:SC:=
 (.seq (.reg [.r 1 (.boxI (.t 0)),
   .r 2 (.mv (.c (.d (.int .i64 0)))),
   .r 3 (.mv (.c (.d (.int .i64 0))))])
 (.seq (.reg [.r 3 (.mv (.c (.d (.int .i64 2))))])
 (.seq (.seq (.reg [.r 8 (.fld 6 (.t 1)),
   .o 9 (.ld1 (.t 8)),
   .r 10 (.len (.t 9)),
   .r 11 (.mv (.c (.d (.int .i64 0))))])
 mo)
 (.seq (.reg [.r 37 (.mv (.t 2)),
   .r 38 (.mv (.t 3)),
   .r 2 (.mv (.t 37)),
   .r 3 (.mv (.t 38))])
 .ret))))
theorem uH:fits Tryz.prog 41 Tryz.f41 pc [.t 2,.t 3] 1=true:=oK
def im:SC:=
 (.seq (.reg [.r 10 (.bin .lss (.t 9) (.t 8))])
 (.seq (.cond (.t 10)
  .skip
  (.exit 0))
 (.seq (.block 1 (.seq (.reg [.r 11 (.mv (.t 9)),
    .r 12 (.idx 2 (.t 7) (.t 9)),
    .o 13 (.ldA 2 (.t 12)),
    .w 4 (.boxM (.c (.agg [.d (.str []),.nils]))),
    .r 3 (.mv (.t 11)),
    .w 0 (.st 2 (.t 4) (.t 13))])
  (.reg [.r 14 (.mv (.t 0)),
    .r 15 (.mv (.t 3)),
    .o 16 (.ldA 2 (.t 4)),
    .c 17 (.f 86) [.t 16],
    .r 18 (.idx 2 (.t 14) (.t 15)),
    .w 0 (.st 2 (.t 18) (.t 17))])))
 (.reg [.r 19 (.bin .add (.t 9) (.c (.d (.int .i64 1)))),
   .r 9 (.mv (.t 19))]))))
def k8:SC:= .block 0 (.loop im)
def nk:SC:=
 (.seq (.reg [.r 2 (.mv (.c (.nils)))])
 (.seq (.reg [.r 5 (.mv (.t 0)),
   .p (some 6) (.f 11) [.t 5],
   .r 0 (.mv (.t 6))])
 (.seq (.seq (.reg [.r 7 (.mv (.t 0)),
   .r 8 (.len (.t 7)),
   .r 9 (.mv (.c (.d (.int .i64 0))))])
 k8)
 (.seq (.reg [.r 20 (.mv (.t 0)),
   .r 2 (.mv (.t 20))])
 .ret))))
theorem sf:fits Tryz.prog 44 Tryz.f44 nk [.t 2] 1=true:=oK
def da:SC:=
 (.seq (.seq (.reg [.r 27 (.mv (.t 6)),
   .r 28 (.mv (.t 1)),
   .r 29 (.bin .lss (.t 27) (.t 28))])
 (.cond (.t 29)
  .skip
  (.exit 0)))
 (.seq (.block 1 (.seq (.regD [.r 32 (.mv (.t 0)),
    .r 33 (.mv (.t 6)),
    .r 34 (.idx 4 (.t 32) (.t 33)),
    .r 35 (.fld 0 (.t 34)),
    .r 36 (.ld1 (.t 35)),
    .r 37 (.fld 0 (.t 5)),
    .r 38 (.ld1 (.t 37)),
    .r 39 (.bin .eql (.t 36) (.t 38))])
  (.cond (.t 39)
   (.seq (.reg [.r 4 (.mv (.c (.d (.int .i64 7))))])
   .ret)
   .skip)))
 (.reg [.r 30 (.mv (.t 6)),
   .r 31 (.bin .add (.t 30) (.c (.d (.int .i64 1)))),
   .r 6 (.mv (.t 31))])))
def iL:SC:= .block 0 (.loop da)
def db:SC:=
 (.seq (.seq (.reg [.r 46 (.mv (.t 8)),
   .r 47 (.fld 3 (.t 5)),
   .o 48 (.ld1 (.t 47)),
   .r 49 (.len (.t 48)),
   .r 50 (.bin .lss (.t 46) (.t 49))])
 (.cond (.t 50)
  .skip
  (.exit 2)))
 (.seq (.block 3 (.seq (.reg [.r 53 (.fld 3 (.t 5)),
    .o 54 (.ld1 (.t 53)),
    .r 55 (.mv (.t 8)),
    .r 56 (.idx 2 (.t 54) (.t 55)),
    .r 57 (.fld 0 (.t 56)),
    .o 58 (.ld1 (.t 57)),
    .c 59 (.f 66) [.t 58]])
  (.cond (.t 59)
   (.seq (.reg [.r 4 (.mv (.c (.d (.int .i64 4))))])
   .ret)
   .skip)))
 (.reg [.r 51 (.mv (.t 8)),
   .r 52 (.bin .add (.t 51) (.c (.d (.int .i64 1)))),
   .r 8 (.mv (.t 52))])))
def iM:SC:= .block 2 (.loop db)
def dT:SC:=
 (.seq (.seq (.reg [.r 11 (.mv (.t 5)),
   .r 12 (.mv (.t 0)),
   .r 13 (.len (.t 12)),
   .r 14 (.bin .lss (.t 11) (.t 13))])
 (.cond (.t 14)
  .skip
  (.exit 0)))
 (.seq (.block 1 (.seq (.regD [.r 17 (.mv (.t 0)),
    .r 18 (.mv (.t 5)),
    .r 19 (.idx 1 (.t 17) (.t 18)),
    .r 20 (.ld1 (.t 19)),
    .r 21 (.mv (.t 1)),
    .r 22 (.mv (.t 5)),
    .r 23 (.idx 1 (.t 21) (.t 22)),
    .r 24 (.ld1 (.t 23)),
    .r 25 (.bin .neq (.t 20) (.t 24))])
  (.cond (.t 25)
   (.seq (.reg [.r 4 (.mv (.c (.d (.bool false))))])
   .ret)
   .skip)))
 (.reg [.r 15 (.mv (.t 5)),
   .r 16 (.bin .add (.t 15) (.c (.d (.int .i64 1)))),
   .r 5 (.mv (.t 16))])))
def jZ:SC:= .block 0 (.loop dT)
set_option maxRecDepth 100000 in
set_option maxHeartbeats 40000000 in
noncomputable def bl:(∀ (x0:aU) (y0:aU),{m:Option (Bool)//∀ r,m=some r->ae Tryz.prog 83 [.agg (aE x0),.ptr (aE y0)] (.bool r)})×(∀ (x0:List aU) (f1:FuncId) (c1:List DV) (p1:aU->Option (Bool)) (h1:∀ a0 r,p1 a0=some r->ae Tryz.prog f1 ([.agg (aE a0)]++c1) (.bool r)),{m:Option (Int)//∀ r,m=some r->ae Tryz.prog 122 [.slice (List.map aE x0),.fn f1 c1] (.int .i64 r)})×(∀ (x0:aD) (y0:aD),{m:Option (Bool)//∀ r,m=some r->ae Tryz.prog 124 [.agg (aq x0),.ptr (aq y0)] (.bool r)})×(∀ (x0:List aD) (f1:FuncId) (c1:List DV) (p1:aD->Option (Bool)) (h1:∀ a0 r,p1 a0=some r->ae Tryz.prog f1 ([.agg (aq a0)]++c1) (.bool r)),{m:Option (Int)//∀ r,m=some r->ae Tryz.prog 155 [.slice (List.map aq x0),.fn f1 c1] (.int .i64 r)})×(∀ (x0:List (List UInt8)) (x1:List UInt8),{m:Option (Bool)//∀ r,m=some r->ae Tryz.prog 9 [.slice (List.map dB x0),.str x1] (.bool r)})×(∀ (x0:aG),{m:Option (Int×Int)//∀ r,m=some r->ae Tryz.prog 41 [.agg (ay x0)] (.tup [.int .i64 r.1,.int .i64 r.2])})×(∀ (x0:List aa),{m:Option ((List aa))//∀ r,m=some r->ae Tryz.prog 44 [.slice (List.map af x0)] (.slice (List.map af r))}):=by
 refine⟨?g0, ?g1, ?g2, ?g3, ?g4, ?g5, ?g6⟩
 case' g0=>(intro x0 y0;apply Subtype.mk;intro r hm;apply az Tryz.func83 oy;unfold kJ)
 case' g1=>(intro x0 f1 c1 p1 h1;apply Subtype.mk;intro r hm;apply az Tryz.func122 du;unfold bF)
 case' g2=>(intro x0 y0;apply Subtype.mk;intro r hm;apply az Tryz.func124 nj;unfold jG)
 case' g3=>(intro x0 f1 c1 p1 h1;apply Subtype.mk;intro r hm;apply az Tryz.func155 cR;unfold bn)
 case' g4=>(intro x0 x1;apply Subtype.mk;intro r hm;apply az Tryz.func9 ji;unfold fk)
 case' g5=>(intro x0;apply Subtype.mk;intro r hm;apply az Tryz.func41 uH;unfold pc)
 case' g6=>(intro x0;apply Subtype.mk;intro r hm;apply az Tryz.func44 sf;unfold nk)
 all_goals(repeat'(first|with_reducible refine d6 ?_|with_reducible refine dL ?_|with_reducible refine ii ?_|with_reducible refine cd ?_|with_reducible refine cG ?_|with_reducible refine fL ?_|with_reducible refine d8 ?_|with_reducible refine dM ?_|with_reducible refine d7 ?_|with_reducible refine d9 ?_|with_reducible refine eO ?_|with_reducible refine cg ?_|with_reducible refine eh ?_|with_reducible refine fV ?_|((with_reducible apply gy hm);(iterate 2 (simp only[push_cast,seval];rfl));(intro _;rfl);intro e hm)|((with_reducible apply rZ hm);(iterate 3 (simp only[push_cast,seval];rfl));intro e hm)|((with_reducible apply CR);(simp only[push_cast,seval];rfl))|((with_reducible apply j1);(simp only[push_cast,seval];rfl);(first|exact trivial))|((with_reducible apply vb hm);(iterate 2 (simp only[push_cast,seval];rfl));(intro _;rfl);intro e hm)|((with_reducible apply uz hm);(simp only[push_cast,seval];rfl);rfl;intro v hm;rotate_left;intro v g hm)|((with_reducible apply mb hm);(simp only[push_cast,seval];rfl);(first|apply fM _ _|apply uS _);(any_goals((repeat'(first|rfl));done));intro x hm)|((with_reducible apply Ft hm);(iterate 2 (simp only[push_cast,seval];rfl));(focus(first|exact h1 _));intro x hm)|((with_reducible apply zg);(simp only[push_cast,seval];rfl);(first|exact trivial))|((with_reducible apply I3 hm);(iterate 4 (simp only[push_cast,seval];rfl));(focus((repeat'(first|rfl));done));decide;(intro _;rfl);intro e hm)|((with_reducible apply cj hm);(simp only[push_cast,seval];rfl);intro hm;rotate_left;intro hm)|((with_reducible apply wu hm);(focus(simp only[eN,jg,RV.get,push_cast,seval];rfl));(focus(first|(dsimp only;done)));(focus((repeat'(first|rfl));done)))|((with_reducible apply fT hm);(focus(simp only[eN,jg,RV.get,push_cast,seval];rfl));(focus((repeat'(first|rfl));done)))|((with_reducible apply gT hm);(simp only[push_cast,seval];rfl))|((with_reducible apply dZ hm);intro r hm)|((with_reducible apply gn hm);intro r hm)|((apply aF (b:=0) (X:=bp) (x:=aN) rfl (fun(c:SV×SV×SV) (s:Int)=>st [(0,c.1),(1,c.2.1),(7,c.2.2),(8,.d (.int .i64 s))] []) (c:=(_,_,_)) (s0:=_) hm);(focus(first|(dsimp only;done)));(with_reducible refine dP.mk ?_ ?_))|((apply aF (b:=0) (X:=ba) (x:=aH) rfl (fun(c:SV×SV×SV) (s:Int)=>st [(0,c.1),(1,c.2.1),(7,c.2.2),(8,.d (.int .i64 s))] []) (c:=(_,_,_)) (s0:=_) hm);(focus(first|(dsimp only;done)));(with_reducible refine dP.mk ?_ ?_))|((apply aF (b:=2) (X:=mn) (x:=jH) rfl (fun(c:SV×SV×SV×SV×SV×SV) (s:Int×Int)=>st [(2,c.1),(3,.d (.int .i64 s.1)),(9,c.2.1),(10,c.2.2.1),(11,c.2.2.2.1),(23,c.2.2.2.2.1),(24,c.2.2.2.2.2),(25,.d (.int .i64 s.2))] []) (c:=(_,_,_,_,_,_)) (s0:=(_,_)) hm);(focus(first|(dsimp only;done)));(with_reducible refine dP.mk ?_ ?_))|((apply aF (b:=0) (X:=mo) (x:=jI) rfl (fun(c:SV×SV) (s:Int×Int×Int)=>st [(2,.d (.int .i64 s.1)),(3,.d (.int .i64 s.2.1)),(9,c.1),(10,c.2),(11,.d (.int .i64 s.2.2))] []) (c:=(_,_)) (s0:=(_,_,_)) hm);(focus(first|(dsimp only;done)));(with_reducible refine dP.mk ?_ ?_))|((apply aF (b:=0) (X:=k8) (x:=im) rfl (fun(c:SV) (s:(List aa)×Int)=>st [(0,.vec 6),(7,.vec 6),(8,c),(9,.d (.int .i64 s.2))] [(6,.vec 37 2 (bH af s.1))]) (c:=_) (s0:=(_,_)) hm);(focus(first|(dsimp only;done)));(with_reducible refine dP.mk ?_ ?_))|((apply aF (b:=0) (X:=iL) (x:=da) rfl (fun(c:SV×SV×Ch) (s:Int)=>st [(0,c.1),(1,c.2.1),(5,.ref 5 0),(6,.d (.int .i64 s))] [(5,c.2.2)]) (c:=(_,_,_)) (s0:=_) hm);(focus(first|(dsimp only;done)));(with_reducible refine dP.mk ?_ ?_))|((apply aF (b:=2) (X:=iM) (x:=db) rfl (fun(c:Ch) (s:Int)=>st [(5,.ref 5 0),(8,.d (.int .i64 s))] [(5,c)]) (c:=_) (s0:=_) hm);(focus(first|(dsimp only;done)));(with_reducible refine dP.mk ?_ ?_))|((apply aF (b:=0) (X:=jZ) (x:=dT) rfl (fun(c:SV×SV) (s:Int)=>st [(0,c.1),(1,c.2),(5,.d (.int .i64 s))] []) (c:=(_,_)) (s0:=_) hm);(focus(first|(dsimp only;done)));(with_reducible refine dP.mk ?_ ?_))|((apply ea (s':=(_,_,_)) hm);(focus(first|(dsimp only;done))))|((apply fU (s':=(_,_,_)) hm);(focus(first|(dsimp only;done))))|((apply ea (s':=(_,_)) hm);(focus(first|(dsimp only;done))))|((apply fU (s':=(_,_)) hm);(focus(first|(dsimp only;done))))|((apply ea (s':=_) hm);(focus(first|(dsimp only;done))))|((apply fU (s':=_) hm);(focus(first|(dsimp only;done))))|(((with_reducible apply kQ hm);intro r hm))|(((with_reducible apply JX hm);(focus(simp only[push_cast,seval];rfl));(first|apply bw _);(any_goals(focus((repeat'(first|rfl));done)));(any_goals(focus(intro _;rfl)));intro y hm))|(((with_reducible apply go.of);(focus(first|(dsimp only;done)));(focus((intro _;repeat'(first|with_reducible exact fd|with_reducible refine di ?_|with_reducible refine gi ?_|((with_reducible refine jB ?_);intro _)|((with_reducible refine jC ?_);intro _)))));(intro s o hm;first|unfold aN|unfold aH|unfold jH|unfold jI|unfold im|unfold da|unfold db|unfold dT);rotate_left;intro s hm))|(((apply dt;(repeat'(first|with_reducible exact bS|with_reducible exact bT|with_reducible apply bi|with_reducible apply c8|((with_reducible apply ck);(focus(first|(simp only[push_cast,seval];rfl)));(focus((repeat'(first|rfl));done)))|((with_reducible apply gj);(focus(first|(simp only[push_cast,seval];rfl)));(first|with_reducible exact bk rfl))));done)))))
noncomputable def io (x0:aU) (y0:aU):Option (Bool):=(bl.1 x0 y0).1
theorem nR (x0:aU) (y0:aU):∀ r,io x0 y0=some r->ae Tryz.prog 83 [.agg (aE x0),.ptr (aE y0)] (.bool r):=(bl.1 x0 y0).2
noncomputable def bK (x0:List aU) (f1:FuncId) (c1:List DV) (p1:aU->Option (Bool)) (h1:∀ a0 r,p1 a0=some r->ae Tryz.prog f1 ([.agg (aE a0)]++c1) (.bool r)):Option (Int):=(bl.2.1 x0 f1 c1 p1 h1).1
theorem dj (x0:List aU) (f1:FuncId) (c1:List DV) (p1:aU->Option (Bool)) (h1:∀ a0 r,p1 a0=some r->ae Tryz.prog f1 ([.agg (aE a0)]++c1) (.bool r)):∀ r,bK x0 f1 c1 p1 h1=some r->ae Tryz.prog 122 [.slice (List.map aE x0),.fn f1 c1] (.int .i64 r):=(bl.2.1 x0 f1 c1 p1 h1).2
noncomputable def gB (x0:aD) (y0:aD):Option (Bool):=(bl.2.2.1 x0 y0).1
theorem mD (x0:aD) (y0:aD):∀ r,gB x0 y0=some r->ae Tryz.prog 124 [.agg (aq x0),.ptr (aq y0)] (.bool r):=(bl.2.2.1 x0 y0).2
noncomputable def bq (x0:List aD) (f1:FuncId) (c1:List DV) (p1:aD->Option (Bool)) (h1:∀ a0 r,p1 a0=some r->ae Tryz.prog f1 ([.agg (aq a0)]++c1) (.bool r)):Option (Int):=(bl.2.2.2.1 x0 f1 c1 p1 h1).1
theorem cP (x0:List aD) (f1:FuncId) (c1:List DV) (p1:aD->Option (Bool)) (h1:∀ a0 r,p1 a0=some r->ae Tryz.prog f1 ([.agg (aq a0)]++c1) (.bool r)):∀ r,bq x0 f1 c1 p1 h1=some r->ae Tryz.prog 155 [.slice (List.map aq x0),.fn f1 c1] (.int .i64 r):=(bl.2.2.2.1 x0 f1 c1 p1 h1).2
noncomputable def be (x0:List (List UInt8)) (x1:List UInt8):Option (Bool):=(bl.2.2.2.2.1 x0 x1).1
theorem eQ (x0:List (List UInt8)) (x1:List UInt8):∀ r,be x0 x1=some r->ae Tryz.prog 9 [.slice (List.map dB x0),.str x1] (.bool r):=(bl.2.2.2.2.1 x0 x1).2
noncomputable def mE (x0:aG):Option (Int×Int):=(bl.2.2.2.2.2.1 x0).1
theorem tv (x0:aG):∀ r,mE x0=some r->ae Tryz.prog 41 [.agg (ay x0)] (.tup [.int .i64 r.1,.int .i64 r.2]):=(bl.2.2.2.2.2.1 x0).2
noncomputable def kS (x0:List aa):Option ((List aa)):=(bl.2.2.2.2.2.2 x0).1
theorem ri (x0:List aa):∀ r,kS x0=some r->ae Tryz.prog 44 [.slice (List.map af x0)] (.slice (List.map af r)):=(bl.2.2.2.2.2.2 x0).2
def br:SC:=
 (.seq (.reg [.r 4 (.mv (.c (.d (.bool false))))])
 (.seq (.reg [.r 5 (.mv (.t 0)),
   .r 6 (.mv (.t 1)),
   .c 7 (.f 122) [.t 5,.t 6],
   .r 8 (.bin .geq (.t 7) (.c (.d (.int .i64 0)))),
   .r 4 (.mv (.t 8))])
 .ret))
theorem cY:fits Tryz.prog 82 Tryz.f82 br [.t 4] 2=true:=oK
def bc:SC:=
 (.seq (.reg [.r 4 (.mv (.c (.d (.bool false))))])
 (.seq (.reg [.r 5 (.mv (.t 0)),
   .r 6 (.mv (.t 1)),
   .c 7 (.f 155) [.t 5,.t 6],
   .r 8 (.bin .geq (.t 7) (.c (.d (.int .i64 0)))),
   .r 4 (.mv (.t 8))])
 .ret))
theorem cE:fits Tryz.prog 123 Tryz.f123 bc [.t 4] 2=true:=oK
def dE:SC:=
 (.seq (.seq (.reg [.r 22 (.mv (.t 5)),
   .r 23 (.mv (.t 1)),
   .r 24 (.bin .lss (.t 22) (.t 23))])
 (.cond (.t 24)
  .skip
  (.exit 0)))
 (.seq (.block 1 (.seq (.regD [.r 27 (.mv (.t 0)),
    .r 28 (.mv (.t 5)),
    .r 29 (.idx 3 (.t 27) (.t 28)),
    .r 30 (.fld 0 (.t 29)),
    .r 31 (.ld1 (.t 30)),
    .r 32 (.mv (.t 0)),
    .r 33 (.mv (.t 1)),
    .r 34 (.idx 3 (.t 32) (.t 33)),
    .r 35 (.fld 0 (.t 34)),
    .r 36 (.ld1 (.t 35)),
    .r 37 (.bin .eql (.t 31) (.t 36))])
  (.cond (.t 37)
   (.seq (.reg [.r 4 (.mv (.c (.d (.int .i64 7))))])
   .ret)
   .skip)))
 (.reg [.r 25 (.mv (.t 5)),
   .r 26 (.bin .add (.t 25) (.c (.d (.int .i64 1)))),
   .r 5 (.mv (.t 26))])))
def jJ:SC:= .block 0 (.loop dE)
def dF:SC:=
 (.seq (.seq (.reg [.r 38 (.mv (.t 6)),
   .r 39 (.mv (.t 0)),
   .r 40 (.mv (.t 1)),
   .r 41 (.idx 3 (.t 39) (.t 40)),
   .r 42 (.fld 2 (.t 41)),
   .o 43 (.ld1 (.t 42)),
   .r 44 (.len (.t 43)),
   .r 45 (.bin .lss (.t 38) (.t 44))])
 (.cond (.t 45)
  .skip
  (.exit 2)))
 (.seq (.block 3 (.seq (.reg [.r 48 (.mv (.t 0)),
    .r 49 (.mv (.t 1)),
    .r 50 (.idx 3 (.t 48) (.t 49)),
    .r 51 (.fld 2 (.t 50)),
    .o 52 (.ld1 (.t 51)),
    .r 53 (.mv (.t 6)),
    .c 54 (.f 110) [.t 52,.t 53],
    .r 7 (.mv (.t 54))])
  (.seq (.reg [.r 55 (.mv (.t 7)),
    .r 56 (.bin .neq (.t 55) (.c (.d (.int .i64 0))))])
  (.cond (.t 56)
   (.seq (.reg [.r 57 (.mv (.t 7)),
     .r 4 (.mv (.t 57))])
   .ret)
   .skip))))
 (.reg [.r 46 (.mv (.t 6)),
   .r 47 (.bin .add (.t 46) (.c (.d (.int .i64 1)))),
   .r 6 (.mv (.t 47))])))
def jK:SC:= .block 2 (.loop dF)
def dw:SC:=
 (.seq (.seq (.reg [.r 47 (.mv (.t 8)),
   .r 48 (.mv (.t 6)),
   .r 49 (.len (.t 48)),
   .r 50 (.bin .lss (.t 47) (.t 49))])
 (.cond (.t 50)
  .skip
  (.exit 2)))
 (.seq (.block 3 (.seq (.regD [.r 53 (.mv (.t 6)),
    .r 54 (.mv (.t 8)),
    .r 55 (.idx 1 (.t 53) (.t 54)),
    .r 56 (.ld1 (.t 55)),
    .r 57 (.mv (.t 7)),
    .r 58 (.mv (.t 8)),
    .r 59 (.idx 1 (.t 57) (.t 58)),
    .r 60 (.ld1 (.t 59)),
    .c 61 (.f 150) [.t 56,.t 60],
    .r 62 (.not (.t 61))])
  (.cond (.t 62)
   (.seq (.reg [.r 4 (.mv (.c (.d (.bool false))))])
   .ret)
   .skip)))
 (.reg [.r 51 (.mv (.t 8)),
   .r 52 (.bin .add (.t 51) (.c (.d (.int .i64 1)))),
   .r 8 (.mv (.t 52))])))
def eY:SC:= .block 2 (.loop dw)
def dx:SC:=
 (.seq (.seq (.reg [.r 23 (.mv (.t 5)),
   .r 24 (.fld 1 (.t 2)),
   .o 25 (.ld1 (.t 24)),
   .r 26 (.len (.t 25)),
   .r 27 (.bin .lss (.t 23) (.t 26))])
 (.cond (.t 27)
  .skip
  (.exit 0)))
 (.seq (.block 1 (.seq (.regD [.r 30 (.fld 1 (.t 2)),
    .r 31 (.ld1 (.t 30)),
    .r 32 (.mv (.t 5)),
    .r 33 (.idx 1 (.t 31) (.t 32)),
    .r 34 (.fld 0 (.t 33)),
    .r 35 (.ld1 (.t 34)),
    .r 36 (.fld 1 (.t 3)),
    .r 37 (.ld1 (.t 36)),
    .r 38 (.mv (.t 5)),
    .r 39 (.idx 1 (.t 37) (.t 38)),
    .r 40 (.fld 0 (.t 39)),
    .r 41 (.ld1 (.t 40)),
    .r 6 (.mv (.t 35)),
    .r 7 (.mv (.t 41))])
  (.seq (.seq (.reg [.r 42 (.mv (.t 6)),
    .r 43 (.len (.t 42)),
    .r 44 (.mv (.t 7)),
    .r 45 (.len (.t 44)),
    .r 46 (.bin .neq (.t 43) (.t 45))])
  (.cond (.t 46)
   (.seq (.reg [.r 4 (.mv (.c (.d (.bool false))))])
   .ret)
   .skip))
  (.seq (.reg [.r 8 (.mv (.c (.d (.int .i64 0))))])
  eY))))
 (.reg [.r 28 (.mv (.t 5)),
   .r 29 (.bin .add (.t 28) (.c (.d (.int .i64 1)))),
   .r 5 (.mv (.t 29))])))
def jj:SC:= .block 0 (.loop dx)
set_option maxRecDepth 100000 in
set_option maxHeartbeats 40000000 in
noncomputable def i_:(∀ (x0:List aU) (f1:FuncId) (c1:List DV) (p1:aU->Option (Bool)) (h1:∀ a0 r,p1 a0=some r->ae Tryz.prog f1 ([.agg (aE a0)]++c1) (.bool r)),{m:Option (Bool)//∀ r,m=some r->ae Tryz.prog 82 [.slice (List.map aE x0),.fn f1 c1] (.bool r)})×(∀ (x0:List aD) (f1:FuncId) (c1:List DV) (p1:aD->Option (Bool)) (h1:∀ a0 r,p1 a0=some r->ae Tryz.prog f1 ([.agg (aq a0)]++c1) (.bool r)),{m:Option (Bool)//∀ r,m=some r->ae Tryz.prog 123 [.slice (List.map aq x0),.fn f1 c1] (.bool r)}):=by
 refine⟨?g0, ?g1⟩
 case' g0=>(intro x0 f1 c1 p1 h1;apply Subtype.mk;intro r hm;apply az Tryz.func82 cY;unfold br)
 case' g1=>(intro x0 f1 c1 p1 h1;apply Subtype.mk;intro r hm;apply az Tryz.func123 cE;unfold bc)
 all_goals(repeat'(first|with_reducible refine d6 ?_|with_reducible refine dL ?_|with_reducible refine ii ?_|with_reducible refine cd ?_|with_reducible refine cG ?_|with_reducible refine fL ?_|with_reducible refine d8 ?_|with_reducible refine dM ?_|with_reducible refine d7 ?_|with_reducible refine d9 ?_|with_reducible refine eO ?_|with_reducible refine cg ?_|with_reducible refine eh ?_|with_reducible refine fV ?_|((with_reducible apply gy hm);(iterate 2 (simp only[push_cast,seval];rfl));(intro _;rfl);intro e hm)|((with_reducible apply j1);(simp only[push_cast,seval];rfl);(first|exact trivial))|((with_reducible apply uz hm);(simp only[push_cast,seval];rfl);rfl;intro v hm;rotate_left;intro v g hm)|((with_reducible apply mb hm);(simp only[push_cast,seval];rfl);(first|apply dj _ _ _ _ h1|apply cP _ _ _ _ h1);(any_goals((repeat'(first|rfl));done));intro x hm)|((with_reducible apply cj hm);(simp only[push_cast,seval];rfl);intro hm;rotate_left;intro hm)|((with_reducible apply fT hm);(focus(simp only[eN,jg,RV.get,push_cast,seval];rfl));(focus((repeat'(first|rfl));done)))|((with_reducible apply gT hm);(simp only[push_cast,seval];rfl))|((with_reducible apply dZ hm);intro r hm)|((with_reducible apply gn hm);intro r hm)|((apply aF (b:=0) (X:=jJ) (x:=dE) rfl (fun(c:SV×SV) (s:Int)=>st [(0,c.1),(1,c.2),(5,.d (.int .i64 s))] []) (c:=(_,_)) (s0:=_) hm);(focus(first|(dsimp only;done)));(with_reducible refine dP.mk ?_ ?_))|((apply aF (b:=2) (X:=jK) (x:=dF) rfl (fun(c:SV×SV) (s:Int)=>st [(0,c.1),(1,c.2),(6,.d (.int .i64 s))] []) (c:=(_,_)) (s0:=_) hm);(focus(first|(dsimp only;done)));(with_reducible refine dP.mk ?_ ?_))|((apply aF (b:=2) (X:=eY) (x:=dw) rfl (fun(c:SV×SV×SV×SV×SV) (s:Int)=>st [(2,c.1),(3,c.2.1),(5,c.2.2.1),(6,c.2.2.2.1),(7,c.2.2.2.2),(8,.d (.int .i64 s))] []) (c:=(_,_,_,_,_)) (s0:=_) hm);(focus(first|(dsimp only;done)));(with_reducible refine dP.mk ?_ ?_))|((apply aF (b:=0) (X:=jj) (x:=dx) rfl (fun(c:SV×SV) (s:Int)=>st [(2,c.1),(3,c.2),(5,.d (.int .i64 s))] []) (c:=(_,_)) (s0:=_) hm);(focus(first|(dsimp only;done)));(with_reducible refine dP.mk ?_ ?_))|((apply ea (s':=_) hm);(focus(first|(dsimp only;done))))|((apply fU (s':=_) hm);(focus(first|(dsimp only;done))))|(((with_reducible apply kQ hm);intro r hm))|(((with_reducible apply go.of);(focus(first|(dsimp only;done)));(focus((intro _;repeat'(first|with_reducible exact fd|with_reducible refine di ?_|with_reducible refine gi ?_|((with_reducible refine jB ?_);intro _)|((with_reducible refine jC ?_);intro _)))));(intro s o hm;first|unfold dE|unfold dF|unfold dw|unfold dx);rotate_left;intro s hm))|(((apply dt;(repeat'(first|with_reducible exact bS|with_reducible exact bT|with_reducible apply bi|((with_reducible apply ck);(focus(first|(simp only[push_cast,seval];rfl)));(focus((repeat'(first|rfl));done)))));done)))))
noncomputable def aQ (x0:List aU) (f1:FuncId) (c1:List DV) (p1:aU->Option (Bool)) (h1:∀ a0 r,p1 a0=some r->ae Tryz.prog f1 ([.agg (aE a0)]++c1) (.bool r)):Option (Bool):=(i_.1 x0 f1 c1 p1 h1).1
theorem cS (x0:List aU) (f1:FuncId) (c1:List DV) (p1:aU->Option (Bool)) (h1:∀ a0 r,p1 a0=some r->ae Tryz.prog f1 ([.agg (aE a0)]++c1) (.bool r)):∀ r,aQ x0 f1 c1 p1 h1=some r->ae Tryz.prog 82 [.slice (List.map aE x0),.fn f1 c1] (.bool r):=(i_.1 x0 f1 c1 p1 h1).2
noncomputable def aI (x0:List aD) (f1:FuncId) (c1:List DV) (p1:aD->Option (Bool)) (h1:∀ a0 r,p1 a0=some r->ae Tryz.prog f1 ([.agg (aq a0)]++c1) (.bool r)):Option (Bool):=(i_.2 x0 f1 c1 p1 h1).1
theorem cz (x0:List aD) (f1:FuncId) (c1:List DV) (p1:aD->Option (Bool)) (h1:∀ a0 r,p1 a0=some r->ae Tryz.prog f1 ([.agg (aq a0)]++c1) (.bool r)):∀ r,aI x0 f1 c1 p1 h1=some r->ae Tryz.prog 123 [.slice (List.map aq x0),.fn f1 c1] (.bool r):=(i_.2 x0 f1 c1 p1 h1).2
def fZ:SC:=
 (.seq (.reg [.r 35 (.bin .lss (.t 34) (.t 33))])
 (.seq (.cond (.t 35)
  .skip
  (.exit 0))
 (.seq (.block 1 (.seq (.reg [.r 36 (.idx 2 (.t 32) (.t 34)),
    .o 37 (.ldA 2 (.t 36)),
    .w 7 (.boxM (.c (.agg [.d (.str []),.nils]))),
    .w 0 (.st 2 (.t 7) (.t 37))])
  (.seq (.regD (.c 38 (.f 49) []:: .r 39 (.fld 0 (.t 7)):: .r 40 (.ld1 (.t 39)):: .c 41 (.f 9) [.t 38,.t 40]:: .r 42 (.mv (.t 41))::cD [43,44,45,46] 42 false (.c 43 (.f 51) []:: .r 44 (.fld 0 (.t 7)):: .r 45 (.ld1 (.t 44)):: .c 46 (.f 9) [.t 43,.t 45]::[]) (.r 47 (.pick (.t 42) (.c (.d (.bool true))) (.t 46))::[])))
  (.cond (.t 47)
   (.seq (.reg [.r 4 (.mv (.c (.d (.int .i64 4))))])
   .ret)
   .skip))))
 (.reg [.r 48 (.bin .add (.t 34) (.c (.d (.int .i64 1)))),
   .r 34 (.mv (.t 48))]))))
def ja:SC:= .block 0 (.loop fZ)
def kK:SC:=
 (.seq (.reg [.r 2 (.boxI (.t 0)),
   .r 4 (.mv (.c (.d (.int .i64 0))))])
 (.seq (.seq (.reg [.r 8 (.fld 0 (.t 2)),
   .o 9 (.ld1 (.t 8)),
   .c 10 (.f 36) [.t 9],
   .r 11 (.not (.t 10))])
 (.cond (.t 11)
  (.seq (.reg [.r 4 (.mv (.c (.d (.int .i64 3))))])
  .ret)
  .skip))
 (.seq (.seq (.reg (.r 12 (.fld 1 (.t 2)):: .o 13 (.ld1 (.t 12)):: .c 14 (.f 37) [.t 13]:: .r 15 (.not (.t 14)):: .r 16 (.mv (.t 15))::cD [17,18,19,20] 16 false (.r 17 (.fld 2 (.t 2)):: .r 18 (.ld1 (.t 17)):: .c 19 (.f 37) [.t 18]:: .r 20 (.not (.t 19))::[]) (.r 21 (.pick (.t 16) (.c (.d (.bool true))) (.t 20))::[])))
 (.cond (.t 21)
  (.seq (.reg [.r 4 (.mv (.c (.d (.int .i64 5))))])
  .ret)
  .skip))
 (.seq (.seq (.reg [.r 22 (.mv (.t 1)),
   .r 23 (.mkfn 124 [.t 2]),
   .c 24 (.f 123) [.t 22,.t 23]])
 (.cond (.t 24)
  (.seq (.reg [.r 4 (.mv (.c (.d (.int .i64 7))))])
  .ret)
  .skip))
 (.seq (.seq (.reg [.r 25 (.fld 3 (.t 2)),
   .o 26 (.ld1 (.t 25)),
   .c 27 (.f 20) [.t 26],
   .r 5 (.mv (.t 27))])
 (.seq (.reg [.r 28 (.mv (.t 5)),
   .r 29 (.bin .neq (.t 28) (.c (.d (.int .i64 0))))])
 (.cond (.t 29)
  (.seq (.reg [.r 30 (.mv (.t 5)),
    .r 4 (.mv (.t 30))])
  .ret)
  .skip)))
 (.seq (.seq (.reg [.r 31 (.fld 3 (.t 2)),
   .o 32 (.ld1 (.t 31)),
   .r 33 (.len (.t 32)),
   .r 34 (.mv (.c (.d (.int .i64 0))))])
 ja)
 (.seq (.reg [.r 4 (.mv (.c (.d (.int .i64 0))))])
 .ret)))))))
theorem oz:fits Tryz.prog 84 Tryz.f84 kK [.t 4] 2=true:=oK
def co:SC:=
 (.seq (.seq (.reg [.r 69 (.mv (.t 7)),
   .r 70 (.fld 6 (.t 1)),
   .o 71 (.ld1 (.t 70)),
   .r 72 (.mv (.t 5)),
   .r 73 (.idx 3 (.t 71) (.t 72)),
   .r 74 (.fld 2 (.t 73)),
   .o 75 (.ld1 (.t 74)),
   .r 76 (.len (.t 75)),
   .r 77 (.bin .lss (.t 69) (.t 76))])
 (.cond (.t 77)
  .skip
  (.exit 2)))
 (.seq (.block 3 (.reg [.r 80 (.mv (.t 4)),
    .r 81 (.fld 6 (.t 1)),
    .o 82 (.ld1 (.t 81)),
    .r 83 (.mv (.t 5)),
    .r 84 (.idx 3 (.t 82) (.t 83)),
    .r 85 (.fld 2 (.t 84)),
    .o 86 (.ld1 (.t 85)),
    .r 87 (.mv (.t 7)),
    .r 88 (.idx 4 (.t 86) (.t 87)),
    .r 89 (.fld 3 (.t 88)),
    .o 90 (.ld1 (.t 89)),
    .r 91 (.len (.t 90)),
    .r 92 (.bin .add (.c (.d (.int .i64 2))) (.t 91)),
    .r 93 (.bin .add (.t 80) (.t 92)),
    .r 4 (.mv (.t 93))]))
 (.reg [.r 78 (.mv (.t 7)),
   .r 79 (.bin .add (.t 78) (.c (.d (.int .i64 1)))),
   .r 7 (.mv (.t 79))])))
def ek:SC:= .block 2 (.loop co)
def cp:SC:=
 (.seq (.seq (.reg [.r 44 (.mv (.t 5)),
   .r 45 (.fld 6 (.t 1)),
   .o 46 (.ld1 (.t 45)),
   .r 47 (.len (.t 46)),
   .r 48 (.bin .lss (.t 44) (.t 47))])
 (.cond (.t 48)
  .skip
  (.exit 0)))
 (.seq (.block 1 (.seq (.seq (.reg [.r 51 (.fld 6 (.t 1)),
    .o 52 (.ld1 (.t 51)),
    .r 53 (.mv (.t 5)),
    .c 54 (.f 74) [.t 52,.t 53],
    .r 6 (.mv (.t 54))])
  (.seq (.reg [.r 55 (.mv (.t 6)),
    .r 56 (.bin .neq (.t 55) (.c (.d (.int .i64 0))))])
  (.cond (.t 56)
   (.seq (.reg [.r 57 (.mv (.t 6)),
     .r 2 (.mv (.t 57))])
   .ret)
   .skip)))
  (.seq (.reg [.r 58 (.mv (.t 4)),
    .r 59 (.bin .add (.t 58) (.c (.d (.int .i64 2)))),
    .r 4 (.mv (.t 59))])
  (.seq (.reg [.r 60 (.mv (.t 3)),
    .r 61 (.fld 6 (.t 1)),
    .o 62 (.ld1 (.t 61)),
    .r 63 (.mv (.t 5)),
    .r 64 (.idx 3 (.t 62) (.t 63)),
    .r 65 (.fld 2 (.t 64)),
    .o 66 (.ld1 (.t 65)),
    .r 67 (.len (.t 66)),
    .r 68 (.bin .add (.t 60) (.t 67)),
    .r 3 (.mv (.t 68))])
  (.seq (.reg [.r 7 (.mv (.c (.d (.int .i64 0))))])
  ek)))))
 (.reg [.r 49 (.mv (.t 5)),
   .r 50 (.bin .add (.t 49) (.c (.d (.int .i64 1)))),
   .r 5 (.mv (.t 50))])))
def gW:SC:= .block 0 (.loop cp)
def dc:SC:=
 (.seq (.seq (.reg [.r 11 (.mv (.t 5)),
   .r 12 (.mv (.t 0)),
   .r 13 (.len (.t 12)),
   .r 14 (.bin .lss (.t 11) (.t 13))])
 (.cond (.t 14)
  .skip
  (.exit 0)))
 (.seq (.block 1 (.seq (.regD [.r 17 (.mv (.t 0)),
    .r 18 (.mv (.t 5)),
    .r 19 (.idx 2 (.t 17) (.t 18)),
    .r 20 (.ldA 2 (.t 19)),
    .r 21 (.mv (.t 1)),
    .r 22 (.mv (.t 5)),
    .r 23 (.idx 2 (.t 21) (.t 22)),
    .r 24 (.ldA 2 (.t 23)),
    .c 25 (.f 111) [.t 20,.t 24],
    .r 26 (.not (.t 25))])
  (.cond (.t 26)
   (.seq (.reg [.r 4 (.mv (.c (.d (.bool false))))])
   .ret)
   .skip)))
 (.reg [.r 15 (.mv (.t 5)),
   .r 16 (.bin .add (.t 15) (.c (.d (.int .i64 1)))),
   .r 5 (.mv (.t 16))])))
def iN:SC:= .block 0 (.loop dc)
set_option maxRecDepth 100000 in
set_option maxHeartbeats 40000000 in
noncomputable def pd:(∀ (x0:aD) (x1:List aD),{m:Option (Int)//∀ r,m=some r->ae Tryz.prog 84 [.agg (aq x0),.slice (List.map aq x1)] (.int .i64 r)}):=by
 (intro x0 x1;apply Subtype.mk;intro r hm;apply az Tryz.func84 oz;unfold kK)
 repeat'(first|with_reducible refine d6 ?_|with_reducible refine dL ?_|with_reducible refine ii ?_|with_reducible refine cd ?_|with_reducible refine cG ?_|with_reducible refine fL ?_|with_reducible refine d8 ?_|with_reducible refine dM ?_|with_reducible refine d7 ?_|with_reducible refine d9 ?_|with_reducible refine eO ?_|with_reducible refine cg ?_|with_reducible refine eh ?_|with_reducible refine fV ?_|((with_reducible apply gy hm);(iterate 2 (simp only[push_cast,seval];rfl));(intro _;rfl);intro e hm)|((with_reducible apply j1);(simp only[push_cast,seval];rfl);(first|exact trivial))|((with_reducible apply uz hm);(simp only[push_cast,seval];rfl);rfl;intro v hm;rotate_left;intro v g hm)|((with_reducible apply mb hm);(simp only[push_cast,seval];rfl);(first|apply ga _|apply iF _|apply cz _ _ _ _ (fun a0 r h=>mD a0 _ r h)|apply i8 _|apply kX|apply eQ _ _|apply og);(any_goals((repeat'(first|rfl));done));intro x hm)|((with_reducible apply zg);(simp only[push_cast,seval];rfl);(first|exact trivial))|((with_reducible apply cj hm);(simp only[push_cast,seval];rfl);intro hm;rotate_left;intro hm)|((with_reducible apply fT hm);(focus(simp only[eN,jg,RV.get,push_cast,seval];rfl));(focus((repeat'(first|rfl));done)))|((with_reducible apply gT hm);(simp only[push_cast,seval];rfl))|((with_reducible apply dZ hm);intro r hm)|((with_reducible apply gn hm);intro r hm)|((apply aF (b:=0) (X:=ja) (x:=fZ) rfl (fun(c:SV×SV) (s:Int)=>st [(32,c.1),(33,c.2),(34,.d (.int .i64 s))] []) (c:=(_,_)) (s0:=_) hm);(focus(first|(dsimp only;done)));(with_reducible refine dP.mk ?_ ?_))|((apply aF (b:=2) (X:=ek) (x:=co) rfl (fun(c:SV×SV×SV) (s:Int×Int)=>st [(1,c.1),(3,c.2.1),(4,.d (.int .i64 s.1)),(5,c.2.2),(7,.d (.int .i64 s.2))] []) (c:=(_,_,_)) (s0:=(_,_)) hm);(focus(first|(dsimp only;done)));(with_reducible refine dP.mk ?_ ?_))|((apply aF (b:=0) (X:=gW) (x:=cp) rfl (fun(c:SV) (s:Int×Int×Int)=>st [(1,c),(3,.d (.int .i64 s.1)),(4,.d (.int .i64 s.2.1)),(5,.d (.int .i64 s.2.2))] []) (c:=_) (s0:=(_,_,_)) hm);(focus(first|(dsimp only;done)));(with_reducible refine dP.mk ?_ ?_))|((apply aF (b:=0) (X:=iN) (x:=dc) rfl (fun(c:SV×SV) (s:Int)=>st [(0,c.1),(1,c.2),(5,.d (.int .i64 s))] []) (c:=(_,_)) (s0:=_) hm);(focus(first|(dsimp only;done)));(with_reducible refine dP.mk ?_ ?_))|((apply ea (s':=(_,_,_)) hm);(focus(first|(dsimp only;done))))|((apply fU (s':=(_,_,_)) hm);(focus(first|(dsimp only;done))))|((apply ea (s':=(_,_)) hm);(focus(first|(dsimp only;done))))|((apply fU (s':=(_,_)) hm);(focus(first|(dsimp only;done))))|((apply ea (s':=_) hm);(focus(first|(dsimp only;done))))|((apply fU (s':=_) hm);(focus(first|(dsimp only;done))))|(((with_reducible apply kQ hm);intro r hm))|(((with_reducible apply go.of);(focus(first|(dsimp only;done)));(focus((intro _;repeat'(first|with_reducible exact fd|with_reducible refine di ?_|with_reducible refine gi ?_|((with_reducible refine jB ?_);intro _)|((with_reducible refine jC ?_);intro _)))));(intro s o hm;first|unfold fZ|unfold co|unfold cp|unfold dc);rotate_left;intro s hm))|(((apply dt;(repeat'(first|with_reducible exact bS|with_reducible exact bT|with_reducible apply bi|((with_reducible apply ck);(focus(first|(simp only[push_cast,seval];rfl)));(focus((repeat'(first|rfl));done)))));done))))
noncomputable def ip (x0:aD) (x1:List aD):Option (Int):=(pd x0 x1).1
theorem nS (x0:aD) (x1:List aD):∀ r,ip x0 x1=some r->ae Tryz.prog 84 [.agg (aq x0),.slice (List.map aq x1)] (.int .i64 r):=(pd x0 x1).2
def gC:SC:=
 (.seq (.reg [.r 23 (.bin .lss (.t 22) (.t 21))])
 (.seq (.cond (.t 23)
  .skip
  (.exit 0))
 (.seq (.block 1 (.seq (.reg [.r 24 (.mv (.t 22)),
    .r 25 (.idx 4 (.t 20) (.t 22)),
    .o 26 (.ldA 4 (.t 25)),
    .w 6 (.boxM (.c (.agg [.d (.str []),.d (.str []),.d (.str []),.nils]))),
    .r 5 (.mv (.t 24)),
    .w 0 (.st 4 (.t 6) (.t 26))])
  (.seq (.regD [.r 27 (.ldA 4 (.t 6)),
    .r 28 (.fld 2 (.t 2)),
    .r 29 (.ld1 (.t 28)),
    .r 30 (.mv (.t 5)),
    .r 31 (.slc 4 (.t 29) none (some (.t 30))),
    .c 32 (.f 84) [.t 27,.t 31],
    .r 7 (.mv (.t 32))])
  (.seq (.reg [.r 33 (.mv (.t 7)),
    .r 34 (.bin .neq (.t 33) (.c (.d (.int .i64 0))))])
  (.cond (.t 34)
   (.seq (.reg [.r 35 (.mv (.t 7)),
     .r 4 (.mv (.t 35))])
   .ret)
   .skip)))))
 (.reg [.r 36 (.bin .add (.t 22) (.c (.d (.int .i64 1)))),
   .r 22 (.mv (.t 36))]))))
def j5:SC:= .block 0 (.loop gC)
def lP:SC:=
 (.seq (.reg [.r 2 (.boxI (.t 0)),
   .r 4 (.mv (.c (.d (.int .i64 0))))])
 (.seq (.seq (.reg [.r 8 (.fld 0 (.t 2)),
   .o 9 (.ld1 (.t 8)),
   .c 10 (.f 36) [.t 9],
   .r 11 (.not (.t 10))])
 (.cond (.t 11)
  (.seq (.reg [.r 4 (.mv (.c (.d (.int .i64 3))))])
  .ret)
  .skip))
 (.seq (.seq (.reg [.r 12 (.fld 1 (.t 2)),
   .o 13 (.ld1 (.t 12)),
   .c 14 (.f 37) [.t 13],
   .r 15 (.not (.t 14))])
 (.cond (.t 15)
  (.seq (.reg [.r 4 (.mv (.c (.d (.int .i64 5))))])
  .ret)
  .skip))
 (.seq (.seq (.reg [.r 16 (.mv (.t 1)),
   .r 17 (.mkfn 83 [.t 2]),
   .c 18 (.f 82) [.t 16,.t 17]])
 (.cond (.t 18)
  (.seq (.reg [.r 4 (.mv (.c (.d (.int .i64 7))))])
  .ret)
  .skip))
 (.seq (.seq (.reg [.r 19 (.fld 2 (.t 2)),
   .o 20 (.ld1 (.t 19)),
   .r 21 (.len (.t 20)),
   .r 22 (.mv (.c (.d (.int .i64 0))))])
 j5)
 (.seq (.reg [.r 4 (.mv (.c (.d (.int .i64 0))))])
 .ret))))))
theorem qn:fits Tryz.prog 40 Tryz.f40 lP [.t 4] 2=true:=oK
def dg:SC:=
 (.seq (.seq (.reg [.r 11 (.mv (.t 5)),
   .r 12 (.mv (.t 0)),
   .r 13 (.len (.t 12)),
   .r 14 (.bin .lss (.t 11) (.t 13))])
 (.cond (.t 14)
  .skip
  (.exit 0)))
 (.seq (.block 1 (.seq (.regD (.r 17 (.mv (.t 0)):: .r 18 (.mv (.t 5)):: .r 19 (.idx 4 (.t 17) (.t 18)):: .r 20 (.fld 0 (.t 19)):: .r 21 (.ld1 (.t 20)):: .r 22 (.mv (.t 1)):: .r 23 (.mv (.t 5)):: .r 24 (.idx 4 (.t 22) (.t 23)):: .r 25 (.fld 0 (.t 24)):: .r 26 (.ld1 (.t 25)):: .r 27 (.bin .neq (.t 21) (.t 26)):: .r 28 (.mv (.t 27))::cD [29,30,31,32,33,34,35,36,37,38,39] 28 false (.r 29 (.mv (.t 0)):: .r 30 (.mv (.t 5)):: .r 31 (.idx 4 (.t 29) (.t 30)):: .r 32 (.fld 1 (.t 31)):: .r 33 (.ld1 (.t 32)):: .r 34 (.mv (.t 1)):: .r 35 (.mv (.t 5)):: .r 36 (.idx 4 (.t 34) (.t 35)):: .r 37 (.fld 1 (.t 36)):: .r 38 (.ld1 (.t 37)):: .r 39 (.bin .neq (.t 33) (.t 38))::[]) (.r 40 (.pick (.t 28) (.c (.d (.bool true))) (.t 39)):: .r 41 (.mv (.t 40))::cD [42,43,44,45,46,47,48,49,50,51,52] 41 false (.r 42 (.mv (.t 0)):: .r 43 (.mv (.t 5)):: .r 44 (.idx 4 (.t 42) (.t 43)):: .r 45 (.fld 2 (.t 44)):: .r 46 (.ld1 (.t 45)):: .r 47 (.mv (.t 1)):: .r 48 (.mv (.t 5)):: .r 49 (.idx 4 (.t 47) (.t 48)):: .r 50 (.fld 2 (.t 49)):: .r 51 (.ld1 (.t 50)):: .r 52 (.bin .neq (.t 46) (.t 51))::[]) (.r 53 (.pick (.t 41) (.c (.d (.bool true))) (.t 52)):: .r 54 (.mv (.t 53))::cD [55,56,57,58,59,60,61,62,63,64,65,66] 54 false (.r 55 (.mv (.t 0)):: .r 56 (.mv (.t 5)):: .r 57 (.idx 4 (.t 55) (.t 56)):: .r 58 (.fld 3 (.t 57)):: .r 59 (.ld1 (.t 58)):: .r 60 (.mv (.t 1)):: .r 61 (.mv (.t 5)):: .r 62 (.idx 4 (.t 60) (.t 61)):: .r 63 (.fld 3 (.t 62)):: .r 64 (.ld1 (.t 63)):: .c 65 (.f 75) [.t 59,.t 64]:: .r 66 (.not (.t 65))::[]) (.r 67 (.pick (.t 54) (.c (.d (.bool true))) (.t 66))::[])))))
  (.cond (.t 67)
   (.seq (.reg [.r 4 (.mv (.c (.d (.bool false))))])
   .ret)
   .skip)))
 (.reg [.r 15 (.mv (.t 5)),
   .r 16 (.bin .add (.t 15) (.c (.d (.int .i64 1)))),
   .r 5 (.mv (.t 16))])))
def iO:SC:= .block 0 (.loop dg)
set_option maxRecDepth 100000 in
set_option maxHeartbeats 40000000 in
noncomputable def pe:(∀ (x0:aU) (x1:List aU),{m:Option (Int)//∀ r,m=some r->ae Tryz.prog 40 [.agg (aE x0),.slice (List.map aE x1)] (.int .i64 r)}):=by
 (intro x0 x1;apply Subtype.mk;intro r hm;apply az Tryz.func40 qn;unfold lP)
 repeat'(first|with_reducible refine d6 ?_|with_reducible refine dL ?_|with_reducible refine ii ?_|with_reducible refine cd ?_|with_reducible refine cG ?_|with_reducible refine fL ?_|with_reducible refine d8 ?_|with_reducible refine dM ?_|with_reducible refine d7 ?_|with_reducible refine d9 ?_|with_reducible refine eO ?_|with_reducible refine cg ?_|with_reducible refine eh ?_|with_reducible refine fV ?_|((with_reducible apply gy hm);(iterate 2 (simp only[push_cast,seval];rfl));(intro _;rfl);intro e hm)|((with_reducible apply B6 hm);(iterate 3 (simp only[push_cast,seval];rfl));(intro _;rfl);intro e hm)|((with_reducible apply j1);(simp only[push_cast,seval];rfl);(first|exact trivial))|((with_reducible apply uz hm);(simp only[push_cast,seval];rfl);rfl;intro v hm;rotate_left;intro v g hm)|((with_reducible apply mb hm);(simp only[push_cast,seval];rfl);(first|apply ga _|apply iF _|apply cS _ _ _ _ (fun a0 r h=>nR a0 _ r h)|apply nS _ _);(any_goals((repeat'(first|rfl));done));intro x hm)|((with_reducible apply zg);(simp only[push_cast,seval];rfl);(first|exact trivial))|((with_reducible apply cj hm);(simp only[push_cast,seval];rfl);intro hm;rotate_left;intro hm)|((with_reducible apply fT hm);(focus(simp only[eN,jg,RV.get,push_cast,seval];rfl));(focus((repeat'(first|rfl));done)))|((with_reducible apply gT hm);(simp only[push_cast,seval];rfl))|((with_reducible apply dZ hm);intro r hm)|((with_reducible apply gn hm);intro r hm)|((apply aF (b:=0) (X:=j5) (x:=gC) rfl (fun(c:SV×SV×SV) (s:Int)=>st [(2,c.1),(20,c.2.1),(21,c.2.2),(22,.d (.int .i64 s))] []) (c:=(_,_,_)) (s0:=_) hm);(focus(first|(dsimp only;done)));(with_reducible refine dP.mk ?_ ?_))|((apply aF (b:=0) (X:=iO) (x:=dg) rfl (fun(c:SV×SV) (s:Int)=>st [(0,c.1),(1,c.2),(5,.d (.int .i64 s))] []) (c:=(_,_)) (s0:=_) hm);(focus(first|(dsimp only;done)));(with_reducible refine dP.mk ?_ ?_))|((apply ea (s':=_) hm);(focus(first|(dsimp only;done))))|((apply fU (s':=_) hm);(focus(first|(dsimp only;done))))|(((with_reducible apply kQ hm);intro r hm))|(((with_reducible apply go.of);(focus(first|(dsimp only;done)));(focus((intro _;repeat'(first|with_reducible exact fd|with_reducible refine di ?_))));(intro s o hm;first|unfold gC|unfold dg);rotate_left;intro s hm))|(((apply dt;(repeat'(first|with_reducible exact bS|with_reducible exact bT|with_reducible apply bi|((with_reducible apply ck);(focus(first|(simp only[push_cast,seval];rfl)));(focus((repeat'(first|rfl));done)))));done))))
noncomputable def jL (x0:aU) (x1:List aU):Option (Int):=(pe x0 x1).1
theorem pf (x0:aU) (x1:List aU):∀ r,jL x0 x1=some r->ae Tryz.prog 40 [.agg (aE x0),.slice (List.map aE x1)] (.int .i64 r):=(pe x0 x1).2
def eE:SC:=
 (.seq (.reg [.r 43 (.bin .lss (.t 42) (.t 41))])
 (.seq (.cond (.t 43)
  .skip
  (.exit 1))
 (.seq (.block 2 (.seq (.reg [.r 44 (.mv (.t 42)),
    .r 45 (.idx 3 (.t 40) (.t 42)),
    .o 46 (.ldA 3 (.t 45)),
    .w 4 (.boxM (.c (.agg [.d (.str []),.d (.str []),.nils]))),
    .r 3 (.mv (.t 44)),
    .w 0 (.st 3 (.t 4) (.t 46))])
  (.seq (.regD [.r 47 (.ldA 3 (.t 4)),
    .r 48 (.fld 6 (.t 1)),
    .r 49 (.ld1 (.t 48)),
    .r 50 (.mv (.t 3)),
    .r 51 (.slc 3 (.t 49) none (some (.t 50))),
    .c 52 (.f 40) [.t 47,.t 51],
    .r 5 (.mv (.t 52))])
  (.seq (.reg [.r 53 (.mv (.t 5)),
    .r 54 (.bin .neq (.t 53) (.c (.d (.int .i64 0))))])
  (.cond (.t 54)
   (.seq (.reg [.r 55 (.mv (.t 5)),
     .r 2 (.mv (.t 55))])
   .ret)
   .skip)))))
 (.reg [.r 56 (.bin .add (.t 42) (.c (.d (.int .i64 1)))),
   .r 42 (.mv (.t 56))]))))
def gE:SC:= .block 1 (.loop eE)
def iA:SC:=
 (.seq (.reg [.r 1 (.boxI (.t 0)),
   .r 2 (.mv (.c (.d (.int .i64 0))))])
 (.seq (.block 0 (.seq (.reg [.r 9 (.fld 0 (.t 1)),
    .o 10 (.ld1 (.t 9)),
    .c 11 (.f 36) [.t 10],
    .r 12 (.not (.t 11)),
    .r 8 (.mv (.t 12))])
  (.cond (.t 8)
   (.seq (.reg [.r 2 (.mv (.c (.d (.int .i64 3))))])
   .ret)
   (.seq (.reg (.r 14 (.fld 1 (.t 1)):: .o 15 (.ld1 (.t 14)):: .c 16 (.f 37) [.t 15]:: .r 17 (.not (.t 16)):: .r 18 (.mv (.t 17))::cD [19,20,21,22] 18 false (.r 19 (.fld 2 (.t 1)):: .r 20 (.ld1 (.t 19)):: .c 21 (.f 37) [.t 20]:: .r 22 (.not (.t 21))::[]) (.r 23 (.pick (.t 18) (.c (.d (.bool true))) (.t 22)):: .r 13 (.mv (.t 23))::[])))
   (.cond (.t 13)
    (.seq (.reg [.r 2 (.mv (.c (.d (.int .i64 5))))])
    .ret)
    (.seq (.reg (.r 25 (.fld 3 (.t 1)):: .o 26 (.ld1 (.t 25)):: .c 27 (.f 38) [.t 26]:: .r 28 (.not (.t 27)):: .r 29 (.mv (.t 28))::cD [30,31,32] 29 false (.r 30 (.fld 4 (.t 1)):: .r 31 (.ld1 (.t 30)):: .c 32 (.f 39) [.t 31,.c (.d (.int .i64 0)),.c (.d (.int .i64 86399))]::[]) (.r 33 (.pick (.t 29) (.c (.d (.bool true))) (.t 32)):: .r 24 (.mv (.t 33))::[])))
    (.cond (.t 24)
     (.seq (.reg [.r 2 (.mv (.c (.d (.int .i64 1))))])
     .ret)
     (.seq (.reg [.r 35 (.fld 6 (.t 1)),
       .o 36 (.ld1 (.t 35)),
       .r 37 (.len (.t 36)),
       .r 38 (.bin .gtr (.t 37) (.c (.d (.int .i64 50)))),
       .r 34 (.mv (.t 38))])
     (.cond (.t 34)
      (.seq (.reg [.r 2 (.mv (.c (.d (.int .i64 2))))])
      .ret)
      .skip)))))))))
 (.seq (.seq (.reg [.r 39 (.fld 6 (.t 1)),
   .o 40 (.ld1 (.t 39)),
   .r 41 (.len (.t 40)),
   .r 42 (.mv (.c (.d (.int .i64 0))))])
 gE)
 (.seq (.seq (.reg [.o 58 (.ldA 7 (.t 1)),
   .c 59 (.f 41) [.t 58],
   .r 57 (.mv (.t 59)),
   .r 60 (.ext (.t 57) 0),
   .r 61 (.ext (.t 57) 1),
   .r 6 (.mv (.t 60)),
   .r 7 (.mv (.t 61))])
 (.seq (.reg (.r 62 (.mv (.t 6)):: .r 63 (.bin .gtr (.t 62) (.c (.d (.int .i64 200)))):: .r 64 (.mv (.t 63))::cD [65,66] 64 false (.r 65 (.mv (.t 7)):: .r 66 (.bin .gtr (.t 65) (.c (.d (.int .i64 2000))))::[]) (.r 67 (.pick (.t 64) (.c (.d (.bool true))) (.t 66))::[])))
 (.cond (.t 67)
  (.seq (.reg [.r 2 (.mv (.c (.d (.int .i64 2))))])
  .ret)
  .skip)))
 (.seq (.reg [.r 2 (.mv (.c (.d (.int .i64 0))))])
 .ret)))))
theorem mc:fits Tryz.prog 17 Tryz.f17 iA [.t 2] 1=true:=oK
def cA:SC:=
 (.seq (.seq (.reg [.r 57 (.mv (.t 5)),
   .r 58 (.fld 6 (.t 2)),
   .o 59 (.ld1 (.t 58)),
   .r 60 (.len (.t 59)),
   .r 61 (.bin .lss (.t 57) (.t 60))])
 (.cond (.t 61)
  .skip
  (.exit 0)))
 (.seq (.block 1 (.seq (.regV [0,1,2,3,4,5,6,7,8,9,11,10,12,13] [.r 64 (.fld 6 (.t 2)),.r 65 (.ld1 (.t 64)),.r 66 (.mv (.t 5)),.r 67 (.idx 3 (.t 65) (.t 66)),.r 68 (.ldA 3 (.t 67)),.r 69 (.fld 6 (.t 3)),.r 70 (.ld1 (.t 69)),.r 71 (.mv (.t 5)),.r 72 (.idx 3 (.t 70) (.t 71)),.r 73 (.ldA 3 (.t 72))] (.x 6 (.boxM (.c (.agg [.d (.str []),.d (.str []),.nils]))) [(0,64,.fld 6 (.t 2)),(1,65,.ld1 (.t 64)),(2,66,.mv (.t 5)),(3,67,.idx 3 (.t 65) (.t 66)),(4,68,.ldA 3 (.t 67)),(5,69,.fld 6 (.t 3)),(6,70,.ld1 (.t 69)),(7,71,.mv (.t 5)),(8,72,.idx 3 (.t 70) (.t 71)),(9,73,.ldA 3 (.t 72))]) (.x 7 (.boxM (.c (.agg [.d (.str []),.d (.str []),.nils]))) [(0,64,.fld 6 (.t 2)),(1,65,.ld1 (.t 64)),(2,66,.mv (.t 5)),(3,67,.idx 3 (.t 65) (.t 66)),(4,68,.ldA 3 (.t 67)),(5,69,.fld 6 (.t 3)),(6,70,.ld1 (.t 69)),(7,71,.mv (.t 5)),(8,72,.idx 3 (.t 70) (.t 71)),(9,73,.ldA 3 (.t 72))]) [.x 0 (.st 3 (.t 6) (.t 68)) [(5,69,.fld 6 (.t 3)),(6,70,.ld1 (.t 69)),(7,71,.mv (.t 5)),(8,72,.idx 3 (.t 70) (.t 71)),(9,73,.ldA 3 (.t 72))],.x 0 (.st 3 (.t 7) (.t 73)) []])
  (.seq (.reg (.r 74 (.fld 0 (.t 6)):: .o 75 (.ld1 (.t 74)):: .r 76 (.fld 0 (.t 7)):: .o 77 (.ld1 (.t 76)):: .r 78 (.bin .neq (.t 75) (.t 77)):: .r 79 (.mv (.t 78))::cD [80,81,82,83,84] 79 false (.r 80 (.fld 1 (.t 6)):: .r 81 (.ld1 (.t 80)):: .r 82 (.fld 1 (.t 7)):: .r 83 (.ld1 (.t 82)):: .r 84 (.bin .neq (.t 81) (.t 83))::[]) (.r 85 (.pick (.t 79) (.c (.d (.bool true))) (.t 84)):: .r 86 (.mv (.t 85))::cD [87,88,89,90,91,92] 86 false (.r 87 (.fld 2 (.t 6)):: .r 88 (.ld1 (.t 87)):: .r 89 (.fld 2 (.t 7)):: .r 90 (.ld1 (.t 89)):: .c 91 (.f 34) [.t 88,.t 90]:: .r 92 (.not (.t 91))::[]) (.r 93 (.pick (.t 86) (.c (.d (.bool true))) (.t 92))::[]))))
  (.cond (.t 93)
   (.seq (.reg [.r 4 (.mv (.c (.d (.bool false))))])
   .ret)
   .skip))))
 (.reg [.r 62 (.mv (.t 5)),
   .r 63 (.bin .add (.t 62) (.c (.d (.int .i64 1)))),
   .r 5 (.mv (.t 63))])))
def hZ:SC:= .block 0 (.loop cA)
set_option maxRecDepth 100000 in
set_option maxHeartbeats 40000000 in
noncomputable def pg:(∀ (x0:aG),{m:Option (Int)//∀ r,m=some r->ae Tryz.prog 17 [.agg (ay x0)] (.int .i64 r)}):=by
 (intro x0;apply Subtype.mk;intro r hm;apply az Tryz.func17 mc;unfold iA)
 repeat'(first|with_reducible refine d6 ?_|with_reducible refine dL ?_|with_reducible refine ii ?_|with_reducible refine IW ?_|with_reducible refine cd ?_|with_reducible refine cG ?_|with_reducible refine fL ?_|with_reducible refine d8 ?_|with_reducible refine dM ?_|with_reducible refine d7 ?_|with_reducible refine d9 ?_|with_reducible refine eO ?_|with_reducible refine cg ?_|with_reducible refine eh ?_|with_reducible refine fV ?_|((with_reducible apply CS hm);(iterate 2 (simp only[push_cast,seval];rfl));(intro _;rfl);intro e he hm)|((with_reducible apply B6 hm);(iterate 3 (simp only[push_cast,seval];rfl));(intro _;rfl);intro e hm)|((with_reducible apply j1);(simp only[push_cast,seval];rfl);(first|exact trivial))|((with_reducible apply uz hm);(simp only[push_cast,seval];rfl);rfl;intro v hm;rotate_left;intro v g hm)|((with_reducible apply mb hm);(simp only[push_cast,seval];rfl);(first|apply ga _|apply iF _|apply pw _|apply km _ _ _|apply pf _ _|apply tv _);(any_goals((repeat'(first|rfl));done));intro x hm)|((with_reducible apply IZ);(iterate 2 rfl);decide;(iterate 4 rfl);(focus((repeat'(first|exact eC|((with_reducible apply sb);(focus(simp only[push_cast,seval];rfl));(focus(simp only[push_cast,seval];rfl));rotate_left 2;(focus(first|(simp only[push_cast,seval];rfl)));rotate_left;(focus assumption);(focus(intro _;rfl)))|((with_reducible apply fc);(focus(simp only[push_cast,seval];rfl));(focus(first|exact trivial));(focus(simp only[push_cast,seval])))));done));(focus((repeat'(first|exact eC|((with_reducible apply sb);(focus(simp only[push_cast,seval];rfl));(focus(simp only[push_cast,seval];rfl));rotate_left 2;(focus(first|(simp only[push_cast,seval];rfl)));rotate_left;(focus assumption);(focus(intro _;rfl)))|((with_reducible apply fc);(focus(simp only[push_cast,seval];rfl));(focus(first|exact trivial));(focus(simp only[push_cast,seval])))));done));(focus((repeat'(first|exact eC|((with_reducible apply sb);(focus(simp only[push_cast,seval];rfl));(focus(simp only[push_cast,seval];rfl));rotate_left 2;(focus(first|(simp only[push_cast,seval];rfl)));rotate_left;(focus assumption);(focus(intro _;rfl)))|((with_reducible apply fc);(focus(simp only[push_cast,seval];rfl));(focus(first|exact trivial));(focus(simp only[push_cast,seval])))));done));(focus((repeat'(first|exact eC|((with_reducible apply sb);(focus(simp only[push_cast,seval];rfl));(focus(simp only[push_cast,seval];rfl));rotate_left 2;(focus(first|(simp only[push_cast,seval];rfl)));rotate_left;(focus assumption);(focus(intro _;rfl)))|((with_reducible apply fc);(focus(simp only[push_cast,seval];rfl));(focus(first|exact trivial));(focus(simp only[push_cast,seval])))));done)))|((with_reducible apply zg);(simp only[push_cast,seval];rfl);(first|exact trivial))|((with_reducible apply GA);(simp only[push_cast,seval];rfl);(first|exact trivial);(focus((repeat'(first|exact eC|((with_reducible apply sb);(focus(simp only[push_cast,seval];rfl));(focus(simp only[push_cast,seval];rfl));rotate_left 2;(focus(first|(simp only[push_cast,seval];rfl)));rotate_left;(focus assumption);(focus(intro _;rfl)))|((with_reducible apply fc);(focus(simp only[push_cast,seval];rfl));(focus(first|exact trivial));(focus(simp only[push_cast,seval])))));done)))|((with_reducible apply cj hm);(simp only[push_cast,seval];rfl);intro hm;rotate_left;intro hm)|((with_reducible apply fT hm);(focus(simp only[eN,jg,RV.get,push_cast,seval];rfl));(focus((repeat'(first|rfl));done)))|((with_reducible apply gT hm);(simp only[push_cast,seval];rfl))|((with_reducible apply dZ hm);intro r hm)|((with_reducible apply gn hm);intro r hm)|((apply aF (b:=1) (X:=gE) (x:=eE) rfl (fun(c:SV×SV×SV) (s:Int)=>st [(1,c.1),(40,c.2.1),(41,c.2.2),(42,.d (.int .i64 s))] []) (c:=(_,_,_)) (s0:=_) hm);(focus(first|(dsimp only;done)));(with_reducible refine dP.mk ?_ ?_))|((apply aF (b:=0) (X:=hZ) (x:=cA) rfl (fun(c:SV×SV) (s:Int)=>st [(2,c.1),(3,c.2),(5,.d (.int .i64 s))] []) (c:=(_,_)) (s0:=_) hm);(focus(first|(dsimp only;done)));(with_reducible refine dP.mk ?_ ?_))|((apply ea (s':=_) hm);(focus(first|(dsimp only;done))))|((apply fU (s':=_) hm);(focus(first|(dsimp only;done))))|(((with_reducible apply kQ hm);intro r hm))|(((with_reducible apply go.of);(focus(first|(dsimp only;done)));(focus((intro _;repeat'(first|with_reducible exact fd|with_reducible refine di ?_))));(intro s o hm;first|unfold eE|unfold cA);rotate_left;intro s hm))|(((apply dt;(repeat'(first|with_reducible exact bS|with_reducible exact bT|with_reducible apply bi|((with_reducible apply ck);(focus(first|(simp only[push_cast,seval];rfl)));(focus((repeat'(first|rfl));done)))));done))))
noncomputable def f_ (x0:aG):Option (Int):=(pg x0).1
theorem lQ (x0:aG):∀ r,f_ x0=some r->ae Tryz.prog 17 [.agg (ay x0)] (.int .i64 r):=(pg x0).2
def ut (p0:Nat):List SV:=[.vec p0]
attribute [push_cast] ut
structure yW where
 fm:bQ
 fb:List UInt8
 fi:Int
 flist:List aa
 fstarts:List Int
 flines:Bool
 deriving DecidableEq
def xr (x:yW):List DV:=bJ x.fm++[.slice (List.map ka x.fb),.int .i64 x.fi,.slice (List.map af x.flist),.slice (List.map uA x.fstarts),.bool x.flines]
attribute [push_cast] xr
def uv (p0:bQ) (p1:List UInt8) (p2:Int) (p3:Nat) (p4:Nat) (p5:Bool):List SV:=dR (bJ p0)++([.d (.slice (List.map ka p1))]++([.d (.int .i64 p2)]++([.vec p3]++([.vec p4]++([.d (.bool p5)])))))
attribute [push_cast] uv
theorem rx {l:List ax}:SV.frzR (aw [.sl 34 [.sl 9 [.sh]]] ap l)=some (l.map ap):=re rfl (fun _=>rfl)
attribute [push_cast] rx
structure mP where
 fb:List UInt8
 fm:bQ
 fat:Int
 fbad:Int
 flines:Bool
 deriving DecidableEq
def mA (x:mP):List DV:=[.slice (List.map ka x.fb)]++bJ x.fm++[.int .i64 x.fat,.int .i64 x.fbad,.bool x.flines]
attribute [push_cast] mA
def lD (p0:List UInt8) (p1:bQ) (p2:Int) (p3:Int) (p4:Bool):List SV:=[.d (.slice (List.map ka p0))]++(dR (bJ p1)++([.d (.int .i64 p2)]++([.d (.int .i64 p3)]++([.d (.bool p4)]))))
attribute [push_cast] lD
def oc (p0:List UInt8) (p1:Nat):List SV:=[.d (.str p0)]++([.vec p1])
attribute [push_cast] oc
def kT:SC:=
 (.seq (.reg [.r 13 (.bin .lss (.t 12) (.t 11))])
 (.seq (.cond (.t 13)
  .skip
  (.exit 0))
 (.seq (.block 1 (.seq (.reg [.r 14 (.idx 1 (.t 10) (.t 12)),
    .o 15 (.ld1 (.t 14)),
    .r 7 (.mv (.t 15))])
  (.reg [.r 16 (.fld 1 (.t 5)),
    .o 17 (.ld1 (.t 16)),
    .r 18 (.mv (.t 7)),
    .r 19 (.bslice 1 [.t 18]),
    .r 20 (.bslice 1 [.t 19]),
    .r 21 (.build [.nils] [(0,1,.t 20)]),
    .r 22 (.bslice 1 [.t 21]),
    .w 23 (.app 98 1 (.t 17) (.t 22)),
    .r 24 (.fld 1 (.t 5)),
    .w 0 (.st 1 (.t 24) (.t 23))])))
 (.reg [.r 25 (.bin .add (.t 12) (.c (.d (.int .i64 1)))),
   .r 12 (.mv (.t 25))]))))
def od:SC:= .block 0 (.loop kT)
def sg:SC:=
 (.seq (.reg [.w 4 (.boxM (.c (.agg [.d (.str []),.nils])))])
 (.seq (.reg [.r 8 (.mv (.t 0)),
   .r 9 (.build [.d (.str []),.nils] [(0,1,.t 8)]),
   .w 5 (.boxM (.c (.agg [.d (.str []),.nils]))),
   .w 0 (.st 2 (.t 5) (.t 9))])
 (.seq (.seq (.reg [.r 10 (.mv (.t 1)),
   .r 11 (.len (.t 10)),
   .r 12 (.mv (.c (.d (.int .i64 0))))])
 od)
 (.seq (.reg [.o 26 (.ldA 2 (.t 5)),
   .w 0 (.st 2 (.t 4) (.t 26))])
 .ret))))
theorem xE:fits Tryz.prog 42 Tryz.f42 sg [.cell 4 2] 2=true:=oK
set_option maxRecDepth 100000 in
set_option maxHeartbeats 40000000 in
noncomputable def ph:(∀ (x0:List UInt8) (x1:List (List UInt8)),{m:Option (aa)//∀ r,m=some r->bI Tryz.prog 42 (List.map SV.d ([.str x0,.slice (List.map dB x1)]:List DV)) (.agg (bW [.sh,.sl 98 [.sh]] (af r))) (List.map SV.d ([.str x0,.slice (List.map dB x1)]:List DV))}):=by
 (intro x0 x1;apply Subtype.mk;intro r hm;apply ul (N:=27) (k:=2) Tryz.func42 xE oK rfl rfl;unfold sg)
 repeat'(first|((with_reducible apply Ca (id:=5) (cid:=1161) (off:=1) (n:=1) (e:=98));(focus(simp only[push_cast,seval];(try rfl);done));(focus(simp only[push_cast,seval];(try rfl);done));(focus decide);(focus(simp only[push_cast,seval];(try rfl);done)))|with_reducible refine d6 ?_|with_reducible refine dL ?_|with_reducible refine cd ?_|with_reducible refine cG ?_|with_reducible refine fL ?_|with_reducible refine d8 ?_|with_reducible refine dM ?_|with_reducible refine d7 ?_|with_reducible refine d9 ?_|with_reducible refine cg ?_|with_reducible refine fV ?_|((with_reducible apply gy hm);(iterate 2 (simp only[push_cast,seval];rfl));(intro _;rfl);intro e hm)|((with_reducible apply j1);(simp only[push_cast,seval];rfl);(first|exact trivial))|((with_reducible apply zg);(simp only[push_cast,seval];rfl);(first|exact trivial))|((with_reducible apply zF hm);(iterate 4 (simp only[push_cast,seval];rfl));(focus((repeat'(first|rfl|(with_reducible first|apply uC|apply ew|apply ex|apply eL|apply I1)));done));decide;(intro _;rfl);intro hm)|((with_reducible apply cj hm);(simp only[push_cast,seval];rfl);intro hm;rotate_left;intro hm)|((with_reducible apply dZ hm);intro r hm)|(((with_reducible apply FL hm (r0:=aa.mk _ _) (row:=af));(focus(exact ce.refl _));(focus(simp only[push_cast,seval];(try rfl);done));(focus(simp only[push_cast,seval];(try rfl);done));(focus(simp only[push_cast,seval];(try rfl);done));(focus((repeat'(first|exact jh.nil|(apply jh.data;(focus rfl))|(apply FM;(focus(simp only[push_cast,seval];(try rfl);done));(focus(intro _;rfl)))));(any_goals(first|decide))));(focus(simp only[push_cast];rfl))))|((apply aF (b:=0) (X:=od) (x:=kT) rfl (fun(c:Ch×SV×SV×SV×SV) (s:(List UInt8)×(List ax)×Int)=>st [(4,.ref 4 0),(5,.ref 5 0),(10,c.2.1),(11,c.2.2.1),(12,.d (.int .i64 s.2.2)),(27,c.2.2.2.1),(28,c.2.2.2.2)] [(1161,.vec 98 1 (bH ap s.2.1)),(5,.box (oc s.1 1161)),(4,c.1)]) (c:=(_,_,_,_,_)) (s0:=(_,_,_)) hm);(focus(first|(dsimp only;done)));(with_reducible refine dP.mk ?_ ?_))|((apply ea (s':=(_,_,_)) hm);(focus(first|(dsimp only;done))))|((apply fU (s':=(_,_,_)) hm);(focus(first|(dsimp only;done))))|(((with_reducible apply go.of);(focus(first|(dsimp only;done)));(focus((intro _;repeat'(first|with_reducible exact iY|with_reducible refine di ?_))));(intro s o hm;first|unfold kT);rotate_left;intro s hm))|(((apply dt;(repeat'(first|with_reducible exact bS|with_reducible exact bT|with_reducible apply bi|with_reducible apply c8|((with_reducible apply ck);(focus(first|(simp only[push_cast,seval];rfl)));(focus((repeat'(first|rfl));done)))|((with_reducible apply gj);(focus(first|(simp only[push_cast,seval];rfl)));(first|with_reducible exact bk rfl|with_reducible apply gU))|(with_reducible first|apply CP)));done))))
noncomputable def kL (x0:List UInt8) (x1:List (List UInt8)):Option (aa):=(ph x0 x1).1
theorem uI (x0:List UInt8) (x1:List (List UInt8)):∀ r,kL x0 x1=some r->bI Tryz.prog 42 (List.map SV.d ([.str x0,.slice (List.map dB x1)]:List DV)) (.agg (bW [.sh,.sl 98 [.sh]] (af r))) (List.map SV.d ([.str x0,.slice (List.map dB x1)]:List DV)):=(ph x0 x1).2
theorem pi (x0:List UInt8) (x1:List (List UInt8)):∀ r,kL x0 x1=some r->ae Tryz.prog 42 [.str x0,.slice (List.map dB x1)] (.agg (af r)):=fun r h=>(uI x0 x1 r h).pure rfl
def si:SC:=
 (.seq (.reg [.w 6 (.boxM (.c (.agg [.d (.str []),.nils])))])
 (.seq (.reg [.r 7 (.mv (.t 0)),
   .r 8 (.mv (.t 1)),
   .c 9 (.f 43) [.t 8],
   .r 10 (.mv (.t 2)),
   .r 11 (.bslice 1 [.t 9,.t 10]),
   .c 12 (.f 42) [.t 7,.t 11],
   .w 0 (.st 2 (.t 6) (.t 12))])
 .ret))
theorem xF:fits Tryz.prog 45 Tryz.f45 si [.cell 6 2] 3=true:=oK
set_option maxRecDepth 100000 in
set_option maxHeartbeats 40000000 in
noncomputable def pj:(∀ (x0:List UInt8) (x1:Int) (x2:List UInt8),{m:Option (aa)//∀ r,m=some r->ae Tryz.prog 45 [.str x0,.int .i64 x1,.str x2] (.agg (af r))}):=by
 (intro x0 x1 x2;apply Subtype.mk;intro r hm;apply az Tryz.func45 xF;unfold si)
 repeat'(first|with_reducible refine d6 ?_|with_reducible refine dL ?_|with_reducible refine fL ?_|with_reducible refine dM ?_|with_reducible refine d7 ?_|((with_reducible apply j1);(simp only[push_cast,seval];rfl);(first|exact trivial))|((with_reducible apply mb hm);(simp only[push_cast,seval];rfl);(first|apply mt _|apply pi _ _);(any_goals((repeat'(first|rfl|(with_reducible first|apply ew|apply mC|apply ex|apply eL)));done));intro x hm)|((with_reducible apply zg);(simp only[push_cast,seval];rfl);(first|exact trivial))|((with_reducible apply fT hm);(focus(simp only[eN,jg,RV.get,push_cast,seval];rfl));(focus((repeat'(first|rfl));done))))
noncomputable def pk (x0:List UInt8) (x1:Int) (x2:List UInt8):Option (aa):=(pj x0 x1 x2).1
theorem wH (x0:List UInt8) (x1:Int) (x2:List UInt8):∀ r,pk x0 x1 x2=some r->ae Tryz.prog 45 [.str x0,.int .i64 x1,.str x2] (.agg (af r)):=(pj x0 x1 x2).2
def iq:SC:=
 (.seq (.reg [.r 47 (.bin .lss (.t 46) (.t 45))])
 (.seq (.cond (.t 47)
  .skip
  (.exit 2))
 (.seq (.block 3 (.seq (.reg [.r 48 (.idx 4 (.t 44) (.t 46)),
    .o 49 (.ldA 4 (.t 48)),
    .w 8 (.boxM (.c (.agg [.d (.str []),.d (.str []),.d (.str []),.nils]))),
    .w 0 (.st 4 (.t 8) (.t 49))])
  (.seq (.reg [.r 50 (.mv (.t 4)),
    .r 51 (.fld 0 (.t 8)),
    .o 52 (.ld1 (.t 51)),
    .r 53 (.fld 1 (.t 8)),
    .o 54 (.ld1 (.t 53)),
    .r 55 (.fld 2 (.t 8)),
    .o 56 (.ld1 (.t 55)),
    .r 57 (.bslice 1 [.t 52,.t 54,.t 56]),
    .c 58 (.f 42) [.c (.d (.str [77,72,68])),.t 57],
    .r 59 (.bslice 2 [.t 58]),
    .w 60 (.app 37 2 (.t 50) (.t 59)),
    .r 4 (.mv (.t 60))])
  (.seq (.reg [.r 61 (.mv (.t 4)),
    .r 62 (.fld 3 (.t 8)),
    .o 63 (.ld1 (.t 62)),
    .c 64 (.f 44) [.t 63],
    .w 65 (.app 37 2 (.t 61) (.t 64)),
    .r 4 (.mv (.t 65))])
  (.reg [.r 66 (.mv (.t 4)),
    .r 67 (.fld 3 (.t 8)),
    .o 68 (.ld1 (.t 67)),
    .r 69 (.len (.t 68)),
    .r 70 (.bin .add (.t 69) (.c (.d (.int .i64 2)))),
    .r 71 (.fld 0 (.t 8)),
    .o 72 (.ld1 (.t 71)),
    .c 73 (.f 45) [.c (.d (.str [77,84,82])),.t 70,.t 72],
    .r 74 (.bslice 2 [.t 73]),
    .w 75 (.app 37 2 (.t 66) (.t 74)),
    .r 4 (.mv (.t 75))])))))
 (.reg [.r 76 (.bin .add (.t 46) (.c (.d (.int .i64 1)))),
   .r 46 (.mv (.t 76))]))))
def k9:SC:= .block 2 (.loop iq)
def ir:SC:=
 (.seq (.reg [.r 31 (.bin .lss (.t 30) (.t 29))])
 (.seq (.cond (.t 31)
  .skip
  (.exit 0))
 (.seq (.block 1 (.seq (.reg [.r 32 (.idx 3 (.t 28) (.t 30)),
    .o 33 (.ldA 3 (.t 32)),
    .w 6 (.boxM (.c (.agg [.d (.str []),.d (.str []),.nils]))),
    .w 0 (.st 3 (.t 6) (.t 33))])
  (.seq (.reg [.r 34 (.mv (.t 4)),
    .r 35 (.fld 0 (.t 6)),
    .o 36 (.ld1 (.t 35)),
    .r 37 (.fld 1 (.t 6)),
    .o 38 (.ld1 (.t 37)),
    .r 39 (.bslice 1 [.t 36,.t 38]),
    .c 40 (.f 42) [.c (.d (.str [71,72,68])),.t 39],
    .r 41 (.bslice 2 [.t 40]),
    .w 42 (.app 37 2 (.t 34) (.t 41)),
    .r 4 (.mv (.t 42))])
  (.seq (.seq (.reg [.r 43 (.fld 2 (.t 6)),
    .o 44 (.ld1 (.t 43)),
    .r 45 (.len (.t 44)),
    .r 46 (.mv (.c (.d (.int .i64 0))))])
  k9)
  (.reg [.r 77 (.mv (.t 4)),
    .r 78 (.fld 2 (.t 6)),
    .o 79 (.ld1 (.t 78)),
    .r 80 (.len (.t 79)),
    .r 81 (.fld 0 (.t 6)),
    .o 82 (.ld1 (.t 81)),
    .c 83 (.f 45) [.c (.d (.str [71,84,82])),.t 80,.t 82],
    .r 84 (.bslice 2 [.t 83]),
    .w 85 (.app 37 2 (.t 77) (.t 84)),
    .r 4 (.mv (.t 85))])))))
 (.reg [.r 86 (.bin .add (.t 30) (.c (.d (.int .i64 1)))),
   .r 30 (.mv (.t 86))]))))
def k_:SC:= .block 0 (.loop ir)
def nl:SC:=
 (.seq (.reg [.r 1 (.boxI (.t 0)),
   .r 2 (.mv (.c (.nils)))])
 (.seq (.reg [.r 3 (.mv (.c (.d (.str []))))])
 (.seq (.seq (.reg [.r 9 (.fld 5 (.t 1)),
   .o 10 (.ld1 (.t 9))])
 (.cond (.t 10)
  (.reg [.r 3 (.mv (.c (.d (.str [49]))))])
  .skip))
 (.seq (.regE [.r 11 (.fld 0 (.t 1)),
   .r 12 (.ld1 (.t 11)),
   .r 13 (.fld 1 (.t 1)),
   .r 14 (.ld1 (.t 13)),
   .r 15 (.fld 2 (.t 1)),
   .r 16 (.ld1 (.t 15)),
   .r 17 (.fld 3 (.t 1)),
   .r 18 (.ld1 (.t 17)),
   .c 19 (.f 43) [.t 18],
   .r 20 (.fld 4 (.t 1)),
   .r 21 (.ld1 (.t 20)),
   .c 22 (.f 43) [.t 21],
   .r 23 (.mv (.t 3)),
   .r 24 (.bslice 1 [.t 12,.t 14,.t 16,.t 19,.t 22,.t 23]),
   .c 25 (.f 42) [.c (.d (.str [73,72,68])),.t 24],
   .x 26 (.slM 37 2 [.t 25]) [],
   .r 4 (.mv (.t 26))])
 (.seq (.seq (.reg [.r 27 (.fld 6 (.t 1)),
   .o 28 (.ld1 (.t 27)),
   .r 29 (.len (.t 28)),
   .r 30 (.mv (.c (.d (.int .i64 0))))])
 k_)
 (.seq (.reg [.r 87 (.mv (.t 4)),
   .r 88 (.fld 6 (.t 1)),
   .o 89 (.ld1 (.t 88)),
   .r 90 (.len (.t 89)),
   .r 91 (.fld 0 (.t 1)),
   .o 92 (.ld1 (.t 91)),
   .c 93 (.f 45) [.c (.d (.str [73,84,82])),.t 90,.t 92],
   .r 94 (.bslice 2 [.t 93]),
   .w 95 (.app 37 2 (.t 87) (.t 94)),
   .r 2 (.mv (.t 95))])
 .ret))))))
theorem sj:fits Tryz.prog 18 Tryz.f18 nl [.t 2] 1=true:=oK
set_option maxRecDepth 100000 in
set_option maxHeartbeats 40000000 in
noncomputable def pm:(∀ (x0:aG),{m:Option ((List aa))//∀ r,m=some r->ae Tryz.prog 18 [.agg (ay x0)] (.slice (List.map af r))}):=by
 (intro x0;apply Subtype.mk;intro r hm;apply az Tryz.func18 sj;unfold nl)
 repeat'(first|with_reducible refine d6 ?_|with_reducible refine dL ?_|with_reducible refine nI ?_|with_reducible refine cd ?_|with_reducible refine cG ?_|with_reducible refine fL ?_|with_reducible refine d8 ?_|with_reducible refine dM ?_|with_reducible refine d7 ?_|with_reducible refine d9 ?_|with_reducible refine cg ?_|with_reducible refine fV ?_|((with_reducible apply gy hm);(iterate 2 (simp only[push_cast,seval];rfl));(intro _;rfl);intro e hm)|((with_reducible apply j1);(simp only[push_cast,seval];rfl);(first|exact trivial))|((with_reducible apply mb hm);(simp only[push_cast,seval];rfl);(first|apply mt _|apply pi _ _|apply ri _|apply wH _ _ _);(any_goals((repeat'(first|rfl|(with_reducible first|apply ew|apply mC|apply ex|apply eL)));done));intro x hm)|((with_reducible apply zg);(simp only[push_cast,seval];rfl);(first|exact trivial))|((with_reducible apply zF hm);(iterate 4 (simp only[push_cast,seval];rfl));(focus((repeat'(first|rfl|(with_reducible first|apply ew|apply ex|apply eL)));done));decide;(intro _;rfl);intro hm)|((with_reducible apply GA);(simp only[push_cast,seval];rfl);(first|exact trivial);(focus((repeat'(first|exact eC));done)))|((with_reducible apply cj hm);(simp only[push_cast,seval];rfl);intro hm;rotate_left;intro hm)|((with_reducible apply fT hm);(focus(simp only[eN,jg,RV.get,push_cast,seval];rfl));(focus((repeat'(first|rfl));done)))|((with_reducible apply dZ hm);intro r hm)|((apply aF (b:=2) (X:=k9) (x:=iq) rfl (fun(c:SV×Ch×SV×SV×SV×SV×SV) (s:(List aa)×Int)=>st [(1,c.1),(4,.vec 26),(6,.ref 6 0),(28,c.2.2.1),(29,c.2.2.2.1),(30,c.2.2.2.2.1),(44,c.2.2.2.2.2.1),(45,c.2.2.2.2.2.2),(46,.d (.int .i64 s.2))] [(26,.vec 37 2 (bH af s.1)),(6,c.2.1)]) (c:=(_,_,_,_,_,_,_)) (s0:=(_,_)) hm);(focus(first|(dsimp only;done)));(with_reducible refine dP.mk ?_ ?_))|((apply aF (b:=0) (X:=k_) (x:=ir) rfl (fun(c:SV×SV×SV) (s:(List aa)×Int)=>st [(1,c.1),(4,.vec 26),(28,c.2.1),(29,c.2.2),(30,.d (.int .i64 s.2))] [(26,.vec 37 2 (bH af s.1))]) (c:=(_,_,_)) (s0:=(_,_)) hm);(focus(first|(dsimp only;done)));(with_reducible refine dP.mk ?_ ?_))|((apply ea (s':=(_,_)) hm);(focus(first|(dsimp only;done))))|((apply fU (s':=(_,_)) hm);(focus(first|(dsimp only;done))))|(((with_reducible apply go.of);(focus(first|(dsimp only;done)));(focus((intro _;repeat'(first|with_reducible exact fd|with_reducible refine di ?_|with_reducible refine gi ?_|((with_reducible refine jB ?_);intro _)|((with_reducible refine jC ?_);intro _)))));(intro s o hm;first|unfold iq|unfold ir);rotate_left;intro s hm))|(((apply dt;(repeat'(first|with_reducible exact bS|with_reducible exact bT|with_reducible apply bi|with_reducible apply c8|((with_reducible apply ck);(focus(first|(simp only[push_cast,seval];rfl)|rfl));(focus((repeat'(first|rfl));done)))|((with_reducible apply gj);(focus(first|(simp only[push_cast,seval];rfl)));(first|with_reducible exact bk rfl|with_reducible apply gU))|(with_reducible first|apply uE|apply CP|apply I2)));done))))
noncomputable def kU (x0:aG):Option ((List aa)):=(pm x0).1
theorem rj (x0:aG):∀ r,kU x0=some r->ae Tryz.prog 18 [.agg (ay x0)] (.slice (List.map af r)):=(pm x0).2
def nm:SC:=
 (.seq (.reg [.r 1 (.boxI (.t 0)),
   .r 2 (.mv (.c (.nils))),
   .r 3 (.mv (.c (.d (.int .i64 0))))])
 (.seq (.seq (.reg [.o 5 (.ldA 7 (.t 1)),
   .c 6 (.f 17) [.t 5],
   .r 4 (.mv (.t 6))])
 (.seq (.reg [.r 7 (.mv (.t 4)),
   .r 8 (.bin .neq (.t 7) (.c (.d (.int .i64 0))))])
 (.cond (.t 8)
  (.seq (.reg [.r 9 (.mv (.t 4)),
    .r 2 (.mv (.c (.nils))),
    .r 3 (.mv (.t 9))])
  .ret)
  .skip)))
 (.seq (.reg [.o 10 (.ldA 7 (.t 1)),
   .c 11 (.f 18) [.t 10],
   .r 2 (.mv (.t 11)),
   .r 3 (.mv (.c (.d (.int .i64 0))))])
 .ret)))
theorem sk:fits Tryz.prog 6 Tryz.f6 nm [.t 2,.t 3] 1=true:=oK
set_option maxRecDepth 100000 in
set_option maxHeartbeats 40000000 in
noncomputable def po:(∀ (x0:aG),{m:Option ((List aa)×Int)//∀ r,m=some r->ae Tryz.prog 6 [.agg (ay x0)] (.tup [.slice (List.map af r.1),.int .i64 r.2])}):=by
 (intro x0;apply Subtype.mk;intro r hm;apply az Tryz.func6 sk;unfold nm)
 repeat'(first|with_reducible refine d6 ?_|with_reducible refine dL ?_|with_reducible refine cG ?_|with_reducible refine fL ?_|with_reducible refine dM ?_|with_reducible refine d7 ?_|with_reducible refine eO ?_|with_reducible refine fV ?_|((with_reducible apply j1);(simp only[push_cast,seval];rfl);(first|exact trivial))|((with_reducible apply mb hm);(simp only[push_cast,seval];rfl);(first|apply lQ _|apply rj _);(any_goals((repeat'(first|rfl));done));intro x hm)|((with_reducible apply cj hm);(simp only[push_cast,seval];rfl);intro hm;rotate_left;intro hm)|((with_reducible apply wu hm);(focus(simp only[eN,jg,RV.get,push_cast,seval];rfl));(focus(first|(dsimp only;done)));(focus((repeat'(first|rfl|(with_reducible first|apply Fy|apply ew|apply mC|apply ex)));done))))
noncomputable def kV (x0:aG):Option ((List aa)×Int):=(po x0).1
theorem rk (x0:aG):∀ r,kV x0=some r->ae Tryz.prog 6 [.agg (ay x0)] (.tup [.slice (List.map af r.1),.int .i64 r.2]):=(po x0).2
def iD:SC:=
 (.seq (.reg [.r 0 (.mv (.c (.d (.bool false))))])
 (.seq (.reg [.r 4 (.build [.d (.int .u8 0),.d (.int .u8 0),.d (.int .u8 0),.d (.int .u8 0),.d (.int .u8 0)] [(0,1,.c (.d (.int .u8 42))),(1,1,.c (.d (.int .u8 58))),(2,1,.c (.d (.int .u8 94))),(3,1,.c (.d (.int .u8 63))),(4,1,.c (.d (.int .u8 126)))]),
   .c 5 (.f 19) [.t 4],
   .r 3 (.mv (.t 5)),
   .r 6 (.ext (.t 3) 0),
   .r 7 (.ext (.t 3) 1),
   .r 1 (.mv (.t 6)),
   .r 2 (.mv (.t 7))])
 (.seq (.reg (.r 8 (.mv (.t 2)):: .r 9 (.bin .eql (.t 8) (.c (.d (.int .i64 0)))):: .r 10 (.mv (.t 9))::cD [11,12,13] 10 true (.r 11 (.mv (.t 1)):: .r 12 (.cvbs (.t 11)):: .r 13 (.bin .eql (.t 12) (.c (.d (.str [77,82,75,42,58,94,63,126]))))::[]) (.r 14 (.pick (.t 10) (.t 13) (.c (.d (.bool false)))):: .r 0 (.mv (.t 14))::[])))
 .ret)))
theorem me:fits Tryz.prog 7 Tryz.f7 iD [.t 0] 0=true:=oK
set_option maxRecDepth 100000 in
set_option maxHeartbeats 40000000 in
noncomputable def pF:({m:Option (Bool)//∀ r,m=some r->ae Tryz.prog 7 [] (.bool r)}):=by
 (apply Subtype.mk;intro r hm;apply az Tryz.func7 me;unfold iD)
 repeat'(first|with_reducible refine d6 ?_|with_reducible refine dL ?_|with_reducible refine fL ?_|with_reducible refine dM ?_|with_reducible refine d7 ?_|((with_reducible apply CR);(simp only[push_cast,seval];rfl))|((with_reducible apply j1);(simp only[push_cast,seval];rfl);(first|exact trivial))|((with_reducible apply oW hm);(simp only[push_cast,seval];rfl);rfl;intro v hm;rotate_left;intro v g hm)|((with_reducible apply mb hm);(simp only[push_cast,seval];rfl);(first|apply ss _);(any_goals((repeat'(first|rfl|(with_reducible first|apply xC|apply Il|apply mC)|(with_reducible apply B7;decide)));done));intro x hm)|((with_reducible apply fT hm);(focus(simp only[eN,jg,RV.get,push_cast,seval];rfl));(focus((repeat'(first|rfl));done)))|((with_reducible apply gT hm);(simp only[push_cast,seval];rfl)))
noncomputable def gb:Option (Bool):=(pF).1
theorem lY:∀ r,gb=some r->ae Tryz.prog 7 [] (.bool r):=(pF).2
def e6:SC:=
 (.seq (.reg [.r 2 (.boxI (.t 0)),
   .r 4 (.mv (.c (.d (.bool false))))])
 (.seq (.reg [.o 9 (.ldA 7 (.t 2)),
   .c 10 (.f 6) [.t 9],
   .r 8 (.mv (.t 10)),
   .r 11 (.ext (.t 8) 0),
   .r 12 (.ext (.t 8) 1),
   .r 5 (.mv (.t 11)),
   .r 6 (.mv (.t 12))])
 (.seq (.seq (.reg [.r 13 (.mv (.t 6)),
   .r 14 (.bin .neq (.t 13) (.c (.d (.int .i64 0))))])
 (.cond (.t 14)
  (.seq (.reg (.r 15 (.mv (.t 5)):: .r 16 (.len (.t 15)):: .r 17 (.bin .eql (.t 16) (.c (.d (.int .i64 0)))):: .r 18 (.mv (.t 17))::cD [19] 18 true (.c 19 (.f 7) []::[]) (.r 20 (.pick (.t 18) (.t 19) (.c (.d (.bool false)))):: .r 4 (.mv (.t 20))::[])))
  .ret)
  .skip))
 (.seq (.reg [.r 22 (.mv (.t 5)),
   .c 23 (.f 8) [.t 22],
   .r 21 (.mv (.t 23)),
   .r 24 (.ext (.t 21) 0),
   .r 25 (.ext (.t 21) 1),
   .r 7 (.mv (.t 24)),
   .r 6 (.mv (.t 25))])
 (.seq (.seq (.reg (.r 26 (.mv (.t 6)):: .r 27 (.bin .neq (.t 26) (.c (.d (.int .i64 0)))):: .r 28 (.mv (.t 27))::cD [29,30,31] 28 false (.r 29 (.mv (.t 7)):: .r 30 (.len (.t 29)):: .r 31 (.bin .neq (.t 30) (.c (.d (.int .i64 0))))::[]) (.r 32 (.pick (.t 28) (.c (.d (.bool true))) (.t 31))::[])))
 (.cond (.t 32)
  (.seq (.reg [.r 4 (.mv (.c (.d (.bool false))))])
  .ret)
  .skip))
 (.seq (.seq (.reg (.r 33 (.mv (.t 1)):: .r 34 (.bin .lss (.t 33) (.c (.d (.int .i64 0)))):: .r 35 (.mv (.t 34))::cD [36,37,38,39] 35 false (.r 36 (.mv (.t 1)):: .r 37 (.mv (.t 5)):: .r 38 (.len (.t 37)):: .r 39 (.bin .geq (.t 36) (.t 38))::[]) (.r 40 (.pick (.t 35) (.c (.d (.bool true))) (.t 39)):: .r 41 (.mv (.t 40))::cD [42,43,44,45,46,47,48,49] 41 false (.r 42 (.bslice 1 [.c (.d (.str [73,72,68])),.c (.d (.str [71,72,68])),.c (.d (.str [77,72,68])),.c (.d (.str [73,84,82])),.c (.d (.str [71,84,82])),.c (.d (.str [77,84,82]))]):: .r 43 (.mv (.t 5)):: .r 44 (.mv (.t 1)):: .r 45 (.idx 2 (.t 43) (.t 44)):: .r 46 (.fld 0 (.t 45)):: .r 47 (.ld1 (.t 46)):: .c 48 (.f 9) [.t 42,.t 47]:: .r 49 (.not (.t 48))::[]) (.r 50 (.pick (.t 41) (.c (.d (.bool true))) (.t 49))::[]))))
 (.cond (.t 50)
  (.seq (.reg [.c 51 (.f 7) [],
    .r 4 (.mv (.t 51))])
  .ret)
  .skip))
 (.seq (.reg [.r 53 (.mv (.t 5)),
   .p (some 54) (.f 11) [.t 53],
   .r 55 (.mv (.t 1)),
   .r 56 (.mv (.t 1)),
   .r 57 (.bin .add (.t 56) (.c (.d (.int .i64 1)))),
   .p (some 58) (.f 10) [.t 54,.t 55,.t 57],
   .c 59 (.f 8) [.t 58],
   .r 52 (.mv (.t 59)),
   .r 60 (.ext (.t 52) 0),
   .r 61 (.ext (.t 52) 1),
   .r 7 (.mv (.t 60)),
   .r 6 (.mv (.t 61))])
 (.seq (.reg (.r 62 (.mv (.t 6)):: .r 63 (.bin .eql (.t 62) (.c (.d (.int .i64 0)))):: .r 64 (.mv (.t 63))::cD [65,66,67] 64 true (.r 65 (.mv (.t 7)):: .r 66 (.len (.t 65)):: .r 67 (.bin .gtr (.t 66) (.c (.d (.int .i64 0))))::[]) (.r 68 (.pick (.t 64) (.t 67) (.c (.d (.bool false)))):: .r 69 (.mv (.t 68))::cD [70] 69 true (.c 70 (.f 7) []::[]) (.r 71 (.pick (.t 69) (.t 70) (.c (.d (.bool false)))):: .r 4 (.mv (.t 71))::[]))))
 .ret))))))))
theorem iU:fits Tryz.prog 3 Tryz.f3 e6 [.t 4] 2=true:=oK
set_option maxRecDepth 100000 in
set_option maxHeartbeats 40000000 in
noncomputable def jc:(∀ (x0:aG) (x1:Int),{m:Option (Bool)//∀ r,m=some r->ae Tryz.prog 3 [.agg (ay x0),.int .i64 x1] (.bool r)}):=by
 (intro x0 x1;apply Subtype.mk;intro r hm;apply az Tryz.func3 iU;unfold e6)
 repeat'(first|with_reducible refine d6 ?_|with_reducible refine dL ?_|with_reducible refine cG ?_|with_reducible refine fL ?_|with_reducible refine dM ?_|with_reducible refine d7 ?_|with_reducible refine eO ?_|with_reducible refine fV ?_|((with_reducible apply gy hm);(iterate 2 (simp only[push_cast,seval];rfl));(intro _;rfl);intro e hm)|((with_reducible apply j1);(simp only[push_cast,seval];rfl);(first|exact trivial))|((with_reducible apply oW hm);(simp only[push_cast,seval];rfl);rfl;intro v hm;rotate_left;intro v g hm)|((with_reducible apply uz hm);(simp only[push_cast,seval];rfl);rfl;intro v hm;rotate_left;intro v g hm)|((with_reducible apply mb hm);(simp only[push_cast,seval];rfl);(first|apply rk _|apply lY|apply uQ _|apply eQ _ _);(any_goals((repeat'(first|rfl|(with_reducible first|apply ew|apply mC|apply ex|apply eL)));done));intro x hm)|((with_reducible apply cj hm);(simp only[push_cast,seval];rfl);intro hm;rotate_left;intro hm)|((with_reducible apply fT hm);(focus(simp only[eN,jg,RV.get,push_cast,seval];rfl));(focus((repeat'(first|rfl));done)))|((with_reducible apply gT hm);(simp only[push_cast,seval];rfl))|(((with_reducible apply JX hm);(focus(simp only[push_cast,seval];rfl));(first|apply bw _);(any_goals(focus((repeat'(first|rfl));done)));(any_goals(focus(intro _;rfl)));intro y hm))|(((with_reducible apply J3 hm (l':=fun y=>y));(focus(simp only[push_cast,seval];rfl));(focus(simp only[push_cast,seval];rfl));(focus(simp only[push_cast,seval];rfl));(focus(intro _;rfl));(focus(apply c6));(any_goals(focus((repeat'(first|rfl));done)));intro y hm)))
noncomputable def aY (x0:aG) (x1:Int):Option (Bool):=(jc x0 x1).1
theorem iE (x0:aG) (x1:Int):∀ r,aY x0 x1=some r->ae Tryz.prog 3 [.agg (ay x0),.int .i64 x1] (.bool r):=(jc x0 x1).2
end Go.Proofs.YtgmnipfafmphaaaGreatDoor
namespace Go.Proofs.YtgmnipfafmphaaaGreatDoor
open Go.ChangeShapes Go.WideShapes Go.ChangeAt Go.RowKit
set_option linter.unusedSimpArgs false
set_option linter.unusedVariables false
theorem J8 {a b:Bool} (h1:a=true) (h2:b=true):(a&&b)=true:=by rw[h1,h2];rfl
def Wt (P:Program) (n:Nat) (t:TypeId) {α:Type} (row:α->List DV) (ok:α->Prop):Prop:=∀ m ds,WT P (m+n) t ds->∃ x,ds=row x/\ok x
theorem Wt.up {P:Program} {n:Nat} {t:TypeId} {α:Type} {row:α->List DV} {ok:α->Prop} (h:Wt P n t row ok) (k:Nat):Wt P (n+k) t row ok:=fun m ds hd=>h (m+k) ds (by rwa[show m+k+n=m+(n+k) by omega])
def Jv (n:Int):Prop:= -9223372036854775808<=n/\n<=9223372036854775807
def Cl (s:List UInt8):Prop:=s.length<=9223372036854775807
def Kz (_:Bool):Prop:=True
def C3 {α:Type} (ok:α->Prop) (l:List α):Prop:=l.length<=9223372036854775807/\∀ a∈l,ok a
theorem nw {P:Program} {n:Nat} {t:TypeId} {fs:Array Field} {ds:List DV} (hu:P.underlying t=some (.struct fs)) (h:WT P (n+1) t ds):Hd (WT P n) fs.toList ds:=by
 simp only[WT,hu] at h;exact h
theorem Jl {P:Program} {t:TypeId} (hu:P.underlying t=some (.int .i64)):Wt P 1 t uA Jv:=by
 intro m ds h
 simp only[WT,hu] at h
 obtain⟨k,rfl,hw⟩:=h
 refine⟨k,rfl, ?_⟩
 simp[Lit.wf] at hw
 have e:IntKind.i64.min= -9223372036854775808:=by decide
 unfold Jv;omega
theorem HO {P:Program} {t:TypeId} (hu:P.underlying t=some .bool):Wt P 1 t zB Kz:=by
 intro m ds h
 simp only[WT,hu] at h
 obtain⟨b,rfl⟩:=h
 exact⟨b,rfl,trivial⟩
theorem Jm {P:Program} {t:TypeId} (hu:P.underlying t=some .string):Wt P 1 t dB Cl:=by
 intro m ds h
 simp only[WT,hu] at h
 obtain⟨b,rfl,hl⟩:=h
 exact⟨b,rfl,by unfold Cl;unfold maxLen at hl;omega⟩
theorem nx {P:Program} {n:Nat} {t e:TypeId} {α:Type} {row:α->List DV} {ok:α->Prop} (hu:P.underlying t=some (.slice e)) (he:Wt P n e row ok):Wt P (n+1) t (gf row) (C3 ok):=by
 intro m ds h
 rw[show m+(n+1)=(m+n)+1 by omega] at h
 simp only[WT,hu] at h
 obtain⟨rows,rfl,hl,hr⟩:=h
 have:∀ rows:List (List DV),(∀ r∈rows,WT P (m+n) e r)->∃ l:List α,rows=l.map row/\∀ a∈l,ok a:=by
  intro rows
  induction rows with
  |nil=>intro _;exact⟨[],rfl,by simp⟩
  |cons r rows ih=>
   intro h
   obtain⟨a,rfl,ha⟩:=he m r (h r oS)
   obtain⟨l,rfl,hl⟩:=ih (fun r hr=>h r (by simp[hr]))
   exact⟨a::l,rfl,by simpa using⟨ha,hl⟩⟩
 obtain⟨l,rfl,hok⟩:=this rows hr
 exact⟨l,rfl,by unfold maxLen at hl;simp at hl;omega,hok⟩
theorem KA:ownKnob Tryz.prog.godebug=none:=oK
theorem HP:laidOutB Tryz.prog=true:=oK
theorem GC:Wt Tryz.prog 1 9 dB Cl:=Jm Tryz.underlying9
theorem KB:Wt Tryz.prog 1 3 uA Jv:=Jl Tryz.underlying3
theorem KZ:Wt Tryz.prog 1 4 zB Kz:=HO Tryz.underlying4
theorem KC:Wt Tryz.prog 2 34 (gf dB) (C3 Cl):=nx Tryz.underlying34 GC
theorem KD:Wt Tryz.prog 3 96 (gf (gf dB)) (C3 (C3 Cl)):=nx Tryz.underlying96 KC
def l5 (x:ax):Prop:=(C3 (C3 Cl)) x.fRepeats
set_option maxRecDepth 100000 in
theorem KE:Wt Tryz.prog 4 98 ap l5:=by
 intro m ds h
 have h:=nw Tryz.underlying98 h
 simp only[Hd] at h
 obtain⟨a0,_,rfl,h0,rfl⟩:=h
 obtain⟨x0,rfl,o0⟩:=(KD.up 0) m _ h0
 refine⟨⟨x0⟩, ?_,o0⟩
 simp only[ap,uA,ka,dB,zB,gf,Lc,Lw,Lk,Lr]
theorem KF:Wt Tryz.prog 5 35 (gf ap) (C3 l5):=nx Tryz.underlying35 KE
def l6 (x:aa):Prop:=Cl x.fTag/\(C3 l5) x.fElements
set_option maxRecDepth 100000 in
theorem KG:Wt Tryz.prog 6 37 af l6:=by
 intro m ds h
 have h:=nw Tryz.underlying37 h
 simp only[Hd] at h
 obtain⟨a0,_,rfl,h0,a1,_,rfl,h1,rfl⟩:=h
 obtain⟨x0,rfl,o0⟩:=(GC.up 4) m _ h0
 obtain⟨x1,rfl,o1⟩:=(KF.up 0) m _ h1
 refine⟨⟨x0,x1⟩, ?_,o0,o1⟩
 simp only[af,uA,ka,dB,zB,gf,Lc,Lw,Lk,Lr]
theorem KH:Wt Tryz.prog 7 25 (gf af) (C3 l6):=nx Tryz.underlying25 KG
def l7 (x:aD):Prop:=Cl x.fRef/\Cl x.fKind/\Cl x.fVersion/\(C3 l6) x.fSegments
set_option maxRecDepth 100000 in
theorem KI:Wt Tryz.prog 8 93 aq l7:=by
 intro m ds h
 have h:=nw Tryz.underlying93 h
 simp only[Hd] at h
 obtain⟨a0,_,rfl,h0,a1,_,rfl,h1,a2,_,rfl,h2,a3,_,rfl,h3,rfl⟩:=h
 obtain⟨x0,rfl,o0⟩:=(GC.up 6) m _ h0
 obtain⟨x1,rfl,o1⟩:=(GC.up 6) m _ h1
 obtain⟨x2,rfl,o2⟩:=(GC.up 6) m _ h2
 obtain⟨x3,rfl,o3⟩:=(KH.up 0) m _ h3
 refine⟨⟨x0,x1,x2,x3⟩, ?_,o0,o1,o2,o3⟩
 simp only[aq,uA,ka,dB,zB,gf,Lc,Lw,Lk,Lr]
theorem KJ:Wt Tryz.prog 9 74 (gf aq) (C3 l7):=nx Tryz.underlying74 KI
def n9 (x:aU):Prop:=Cl x.fRef/\Cl x.fKind/\(C3 l7) x.fMessages
set_option maxRecDepth 100000 in
theorem KL:Wt Tryz.prog 10 76 aE n9:=by
 intro m ds h
 have h:=nw Tryz.underlying76 h
 simp only[Hd] at h
 obtain⟨a0,_,rfl,h0,a1,_,rfl,h1,a2,_,rfl,h2,rfl⟩:=h
 obtain⟨x0,rfl,o0⟩:=(GC.up 8) m _ h0
 obtain⟨x1,rfl,o1⟩:=(GC.up 8) m _ h1
 obtain⟨x2,rfl,o2⟩:=(KJ.up 0) m _ h2
 refine⟨⟨x0,x1,x2⟩, ?_,o0,o1,o2⟩
 simp only[aE,uA,ka,dB,zB,gf,Lc,Lw,Lk,Lr]
theorem KM:Wt Tryz.prog 11 22 (gf aE) (C3 n9):=nx Tryz.underlying22 KL
def gk (x:aG):Prop:=Cl x.fRef/\Cl x.fSender/\Cl x.fReceiver/\Jv x.fDay/\Jv x.fSecond/\Kz x.fTest/\(C3 n9) x.fGroups
set_option maxRecDepth 100000 in
theorem KN:Wt Tryz.prog 12 24 ay gk:=by
 intro m ds h
 have h:=nw Tryz.underlying24 h
 simp only[Hd] at h
 obtain⟨a0,_,rfl,h0,a1,_,rfl,h1,a2,_,rfl,h2,a3,_,rfl,h3,a4,_,rfl,h4,a5,_,rfl,h5,a6,_,rfl,h6,rfl⟩:=h
 obtain⟨x0,rfl,o0⟩:=(GC.up 10) m _ h0
 obtain⟨x1,rfl,o1⟩:=(GC.up 10) m _ h1
 obtain⟨x2,rfl,o2⟩:=(GC.up 10) m _ h2
 obtain⟨x3,rfl,o3⟩:=(KB.up 10) m _ h3
 obtain⟨x4,rfl,o4⟩:=(KB.up 10) m _ h4
 obtain⟨x5,rfl,o5⟩:=(KZ.up 10) m _ h5
 obtain⟨x6,rfl,o6⟩:=(KM.up 0) m _ h6
 refine⟨⟨x0,x1,x2,x3,x4,x5,x6⟩, ?_,o0,o1,o2,o3,o4,o5,o6⟩
 simp only[ay,uA,ka,dB,zB,gf,Lc,Lw,Lk,Lr]
def qd:Nat->DataW Unit->List Value
 |0,_=>[]
 |_+1,.lit (.int k n)=>[.int k n]
 |n+1,.agg ps=>ps.flatMap (qd n)
 |_+1,_=>[]
def l8 (l:List Value):Obj->Obj
 | .cells _ t frozen=> .cells l.toArray t frozen
 |o=>o
noncomputable def Bp:Nat:=(World.holding Tryz.prog default ⟨#[],#[],[]⟩).heap.size
noncomputable def tI (os:Os):World:=
 {World.holding Tryz.prog os ⟨#[],#[],[]⟩ with
  heap:=((((((((World.holding Tryz.prog os ⟨#[.cells #[.string ⟨#[118,97,108,117,101,32,111,117,116,32,111,102,32,114,97,110,103,101]⟩] 244,.cells #[.string ⟨#[105,110,118,97,108,105,100,32,115,121,110,116,97,120]⟩] 244],#[],[]⟩).heap.modify 6 (l8 (qd 5 Rows.laid_math_bits_deBruijn32tab))).modify 7 (l8 (qd 5 Rows.laid_math_bits_deBruijn64tab))).modify 3 (l8 (qd 5 Rows.laid_internal_strconv_uint64pow10))).modify 5 (l8 (qd 5 Rows.laid_unicode_utf8_acceptRanges))).modify 2 (l8 [.iface 242 (.pointer (some ⟨Bp+0,0,none⟩))])).modify 1 (l8 [.iface 242 (.pointer (some ⟨Bp+1,0,none⟩))])).modify 4 (l8 (qd 5 Rows.laid_unicode_utf8_first)))}
end Go.Proofs.YtgmnipfafmphaaaGreatDoor
namespace Go.Proofs.YtgmnipfafmphaaaGreatDoor
open Go.RowKit
set_option linter.unusedSimpArgs false
set_option linter.unusedVariables false


structure um where
 fsegment:Int
 fat:lu
 ffrom:Int
 fto:Int
 deriving DecidableEq
def sm (x:um):List DV:=[.int .i64 x.fsegment]++iP x.fat++[.int .i64 x.ffrom,.int .i64 x.fto]
attribute [push_cast] sm
structure zJ where
 fm:bQ
 flines:Bool
 fb:List UInt8
 fplaces:List um
 fstarts:List Int
 fbad:Bool
 deriving DecidableEq
def xG (x:zJ):List DV:=bJ x.fm++[.bool x.flines,.slice (List.map ka x.fb),.slice (List.map sm x.fplaces),.slice (List.map uA x.fstarts),.bool x.fbad]
attribute [push_cast] xG
def uJ (p0:bQ) (p1:Bool) (p2:Nat) (p3:Nat) (p4:Nat) (p5:Bool):List SV:=dR (bJ p0)++([.d (.bool p1)]++([.vec p2]++([.vec p3]++([.vec p4]++([.d (.bool p5)])))))
attribute [push_cast] uJ
structure jM where
 fsegment:Int
 fat:lu
 fbegin:Int
 ffrom:Int
 fto:Int
 deriving DecidableEq
def jb (x:jM):List DV:=[.int .i64 x.fsegment]++iP x.fat++[.int .i64 x.fbegin,.int .i64 x.ffrom,.int .i64 x.fto]
attribute [push_cast] jb
structure nn where
 fm:bQ
 fout:List UInt8
 fpieces:List jM
 fescapes:Int
 deriving DecidableEq
def mF (x:nn):List DV:=bJ x.fm++[.slice (List.map ka x.fout),.slice (List.map jb x.fpieces),.int .i64 x.fescapes]
attribute [push_cast] mF
def lR (p0:bQ) (p1:Nat) (p2:Nat) (p3:Int):List SV:=dR (bJ p0)++([.vec p1]++([.vec p2]++([.d (.int .i64 p3)])))
attribute [push_cast] lR
end Go.Proofs.YtgmnipfafmphaaaGreatDoor

namespace Go.Proofs.YtgmnipfafmphaaaGreatDoor
open Go.RowKit
set_option linter.unusedSimpArgs false
set_option linter.unusedVariables false
theorem tG {α:Type} {l t:List α} {e:α} {i:Nat} (hd:l.drop i=e::t):l[i]?=some e/\i<l.length/\l.drop (i+1)=t:=by
 refine⟨?_, ?_, ?_⟩
 ·have:=Na (fun q=>q[0]?) hd
  simpa using this
 ·rcases Lx i l.length with h|h
  ·exact h
  ·rw[Mi h] at hd;cases hd
 ·have:=Na List.tail hd
  simpa using this
theorem n8 {α:Type} {l:List α} {i:Nat} (hd:l.drop i=[]) (hi:i<=l.length):i=l.length:=by
 have:=Na List.length hd;simp at this;omega
theorem sA {α T A:Type} (l:List α) (st:Nat->List α->T) {f:T->Option (T⊕A)} {a:A}
  (hb:∀ (i:Nat) (e:α),l[i]?=some e->f (st i (l.take i))=some (.inl (st (i+1) (l.take i++[e]))))
  (he:f (st l.length l)=some (.inr a)):bg f (st 0 [])=some a:=by
 have:=n0 (f:=f) (a:=a) (fun i=>st i (l.take i)) l.length (fun i hi=>by
  obtain⟨e,h⟩:=eH hi
  show f (st i (l.take i))=some (.inl (st (i+1) (l.take (i+1))))
  rw[hb i e h,lz h]) (by
  show f (st l.length (l.take l.length))=_
  rw[MB];exact he)
 simpa using this
theorem gD {α:Type} {l:List α} {i:Nat} {e:α} (h:l[i]?=some e):i<l.length:=(K5.1 h).1
theorem l3 {R:Type} {n:Nat} {m:Option R} (h:n<=137438953472):mi (mB n) m=m:=xa (CY h)
theorem Ae {α β R:Type} (l:List α) (base:List β) (f:α->List β) (B:Nat) (hB:(base++l.flatMap f).length<=B) {F:List β×Int->Option ((List β×Int)⊕((List β×Int)⊕R))} (K:List β×Int->Option R)
  (hb:∀ (i:Nat) e (out:List β),l[i]?=some e->out.length+(f e).length<=B->F (out,(i:Int))=some (.inl (out++f e,((i+1:Nat):Int)))) (he:∀ out,F (out,(l.length:Int))=some (.inr (.inl (out,(l.length:Int))))):
  (bg F (base,0)).bind (eg K)=K (base++l.flatMap f,(l.length:Int)):=by
 refine kx (a:= .inl (base++l.flatMap f,(l.length:Int))) ?_ rfl
 have h:=sA (f:=F) (a:= .inl (base++l.flatMap f,(l.length:Int))) l (fun i q=>(base++q.flatMap f,(i:Int))) (fun i e h=> ?_) (he _)
 ·simpa using h
 ·have hlen:(base++(l.take i).flatMap f).length+(f e).length<=B:=by
   have h1:l.flatMap f=(l.take i).flatMap f++(f e++(l.drop (i+1)).flatMap f):=by
    conv=>lhs;rw[<-Lg i l]
    rw[List.flatMap_append,L6 (gD h)]
    rw[L_]
    have:l[i]'(gD h)=e:=by
     have:=K6 (gD h)
     rw[h] at this;exact(Mj this).symm
    rw[this]
   rw[h1] at hB
   simp only[K4] at hB⊢
   omega
  rw[hb i e _ h hlen]
  simp[Lc]
theorem ry {α β:Type} {row:α->List DV} {f:α->List β}:∀ {l:List α},(∀ a∈l,(f a).length<=eK (row a))->(l.flatMap f).length<=oq (l.map row)
 |[],_=>by simp
 |a::l,h=>by
  have h1:=h a oS
  have h2:=ry (l:=l) fun b hb=>h b (by simp[hb])
  simp only[L_,K4,Lh,oq]
  omega
def Iy (t:List UInt8):ax:=⟨[[t]]⟩
theorem uX (tag:List UInt8) (ts:List (List UInt8)) (h:ts.length<=1000):kL tag ts=some ⟨tag,ts.map Iy⟩:=by
 unfold kL ph;dsimp only
 refine kx (a:= .inl (tag,ts.map Iy,(ts.length:Int))) (sA ts (fun i q=>(tag,q.map Iy,(i:Int))) (fun i e he=> ?_) ?_) rfl
 ·have hi:=gD he
  simp only[eu hi,Ln,aW,he,K3,ge i oM]
  rw[l3 oT,Mw]
  rfl
 ·simp only[bm,LE];rfl
abbrev i64 (n:Int):Prop:= -9223372036854775808<=n/\n<=9223372036854775807
theorem yX {n:Int} (h:i64 n):jS n=some (Lib.itoa n):=by unfold jS;rw[if_pos h]
theorem rz {α β:Type} {f:α->List β}:∀ {l:List α} {i:Nat} {e:α},l[i]?=some e->(f e).length<=(l.flatMap f).length
 |[],i,e,h=>by simp at h
 |a::l,0,e,h=>by simp at h;subst h;simp
 |a::l,i+1,e,h=>by
  have:=rz (f:=f) (l:=l) (i:=i) (e:=e) (by simpa using h)
  simp only[L_,K4];omega
def je (b:UInt8):Bool:= !(decide ((b.toNat:Int)<33)||decide (126<(b.toNat:Int))||decide ((b.toNat:Int)=46)||decide ((b.toNat:Int)=45)||decide ((b.toNat:Int)=43)||decide ((b.toNat:Int)=95))&& !(decide (65<=(b.toNat:Int))&&decide ((b.toNat:Int)<=90)||decide (97<=(b.toNat:Int))&&decide ((b.toNat:Int)<=122)||decide (48<=(b.toNat:Int))&&decide ((b.toNat:Int)<=57))
theorem DT {α R:Type} (l:List α) (h:α->Option R) {f:Int->Option (Int⊕(Int⊕R))} (hb:∀ (i:Nat) (e:α),l[i]?=some e->f (i:Int)=(match h e with|some a=>some (.inr (.inr a))|none=>some (.inl ((i+1:Nat):Int))))
  (he:f (l.length:Int)=some (.inr (.inl (l.length:Int)))):bg f 0=some (match l.findSome? h with|some a=> .inr a|none=> .inl (l.length:Int)):=by
 have:∀ (t:List α) (i:Nat),l.drop i=t->i<=l.length->bg f (i:Int)=some (match t.findSome? h with|some a=> .inr a|none=> .inl (l.length:Int)):=by
  intro t
  induction t with
  |nil=>
   intro i hd hi
   have:i=l.length:=by have:=Na List.length hd;simp at this;omega
   subst this
   rw[cC,he]
   rfl
  |cons e t ih=>
   intro i hd hi
   have h1:l[i]?=some e:=by
    have:=Na (fun q=>q[0]?) hd
    simpa using this
   have h2:i<l.length:=by
    rcases Lx i l.length with h|h
    ·exact h
    ·rw[Mi h] at hd;cases hd
   have h3:l.drop (i+1)=t:=by
    have:=Na List.tail hd
    simpa using this
   rw[cC,hb i e h1,List.findSome?_cons]
   cases h e with
   |some a=>rfl
   |none=>exact ih (i+1) h3 h2
 exact this l 0 rfl (LT _)
theorem xb (l:List UInt8) (lo hi:UInt8) (hl:l.length<9223372036854775807):iw l lo hi=some (match l.findSome? fun x=>if(decide ((x.toNat:Int)<(lo.toNat:Int))||decide ((hi.toNat:Int)<(x.toNat:Int)))=true then some false else none with|some b=>b|none=>true):=by
 unfold iw eI;dsimp only
 refine kx (DT l (fun x=>if(decide ((x.toNat:Int)<(lo.toNat:Int))||decide ((hi.toNat:Int)<(x.toNat:Int)))=true then some false else none) (fun i e h=> ?_) ?_) ?_
 ·obtain⟨hi', -⟩:=K5.1 h
  simp only[eu hi',Ln,aW,h,K3,eo,ge i oM]
  cases(decide ((e.toNat:Int)<(lo.toNat:Int))||decide ((hi.toNat:Int)<(e.toNat:Int)))<;>rfl
 ·simp only[bm,LE];rfl
 ·cases l.findSome? _<;>rfl
theorem DU (b:UInt8) (h:b.toNat<128):(Utf8.encode (b.toNat:Int)).data.toList=[b]:=by
 have:∀ n:Fin 128,(Utf8.encode ((n.1:Nat):Int)).data.toList=[UInt8.ofNat n.1]:=by decide
 have:=this ⟨b.toNat,h⟩
 rw[this]
 simp
end Go.Proofs.YtgmnipfafmphaaaGreatDoor
