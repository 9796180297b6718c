/-
  Laws on the way to the theorem.
-/
import Derived.Test.YteaolfcegaidpaaGreatDoorBY1
namespace Go.Proofs.YteaolfcegaidpaaGreatDoor
open Go.RowKit
set_option linter.unusedSimpArgs false
set_option linter.unusedVariables false
structure bV where
 fRepeats:List (List (List UInt8))
 deriving DecidableEq
def b_ (x:bV):List DV:=[.slice (List.map (rz en) x.fRepeats)]
attribute [push_cast] b_
theorem AC {d0:DV} {v0:List (List (List UInt8))} (h0:d0= .slice (List.map (rz en) v0)):[d0]=b_ ⟨v0⟩:=by unfold b_;simp only[h0,OM,OR,OK,OY]
structure aj where
 fTag:List UInt8
 fElements:List bV
 deriving DecidableEq
def aN (x:aj):List DV:=[.str x.fTag,.slice (List.map b_ x.fElements)]
attribute [push_cast] aN
theorem AD {d0 d1:DV} {v0:List UInt8} {v1:List bV} (h0:d0= .str v0) (h1:d1= .slice (List.map b_ v1)):[d0,d1]=aN ⟨v0,v1⟩:=by unfold aN;simp only[h0,h1,OM,OR,OK,OY]
def wU:SC:=
 (.seq (.reg [.r 2 (.mv (.c (.d (.bool false))))])
 (.seq (.reg (.r 3 (.mv (.t 0)):: .r 4 (.lenT (.t 3)):: .r 5 (.bin .leq (.t 4) (.c (.d (.int .i64 1000)))):: .r 6 (.mv (.t 5))::aV [7,8] 6 true (.r 7 (.mv (.t 0)):: .c 8 (.f 162) [.t 7,.c (.d (.int .u8 32)),.c (.d (.int .u8 126))]::[]) (.r 9 (.pick (.t 6) (.t 8) (.c (.d (.bool false)))):: .r 2 (.mv (.t 9))::[])))
 .ret))
theorem B7:fits Tryz.prog 141 Tryz.f141 wU [.t 2] 1=true:=oK
def eO:SC:=
 (.seq (.seq (.reg [.r 7 (.mv (.t 3)),
   .r 8 (.mv (.t 0)),
   .r 9 (.lenT (.t 8)),
   .r 10 (.bin .lss (.t 7) (.t 9))])
 (.cond (.t 10)
  .skip
  (.exit 0)))
 (.seq (.block 1 (.seq (.reg (.r 13 (.mv (.t 0)):: .r 14 (.mv (.t 3)):: .r 15 (.sidx (.t 13) (.t 14)):: .r 16 (.bin .lss (.t 15) (.c (.d (.int .u8 32)))):: .r 17 (.mv (.t 16))::aV [18,19,20,21] 17 false (.r 18 (.mv (.t 0)):: .r 19 (.mv (.t 3)):: .r 20 (.sidx (.t 18) (.t 19)):: .r 21 (.bin .gtr (.t 20) (.c (.d (.int .u8 126))))::[]) (.r 22 (.pick (.t 17) (.c (.d (.bool true))) (.t 21))::[])))
  (.cond (.t 22)
   (.seq (.reg [.r 2 (.mv (.c (.d (.int .i64 3))))])
   .ret)
   .skip)))
 (.reg [.r 11 (.mv (.t 3)),
   .r 12 (.bin .add (.t 11) (.c (.d (.int .i64 1)))),
   .r 3 (.mv (.t 12))])))
def iJ:SC:= .block 0 (.loop eO)
def jM:SC:=
 (.seq (.reg [.r 2 (.mv (.c (.d (.int .i64 0))))])
 (.seq (.seq (.reg [.r 4 (.mv (.t 0)),
   .r 5 (.lenT (.t 4)),
   .r 6 (.bin .gtr (.t 5) (.c (.d (.int .i64 1000))))])
 (.cond (.t 6)
  (.seq (.reg [.r 2 (.mv (.c (.d (.int .i64 2))))])
  .ret)
  .skip))
 (.seq (.seq (.reg [.r 3 (.mv (.c (.d (.int .i64 0))))])
 iJ)
 (.seq (.reg [.r 2 (.mv (.c (.d (.int .i64 0))))])
 .ret))))
theorem pv:fits Tryz.prog 108 Tryz.f108 jM [.t 2] 1=true:=oK
set_option maxRecDepth 100000 in
set_option maxHeartbeats 40000000 in
noncomputable def m9:(∀ (x0:List UInt8),{m:Option (Bool)//∀ r,m=some r->aa Tryz.prog 141 [.str x0] (.bool r)})×(∀ (x0:List UInt8),{m:Option (Int)//∀ r,m=some r->aa Tryz.prog 108 [.str x0] (.int .i64 r)}):=by
 refine⟨?g0, ?g1⟩
 case' g0=>(intro x0;apply Subtype.mk;intro r hm;apply af Tryz.func141 B7;unfold wU)
 case' g1=>(intro x0;apply Subtype.mk;intro r hm;apply af Tryz.func108 pv;unfold jM)
 all_goals(repeat'(first|with_reducible refine bA ?_|with_reducible refine bt ?_|with_reducible refine bm ?_|with_reducible refine bl ?_|with_reducible refine bR ?_|with_reducible refine cw ?_|with_reducible refine bv ?_|with_reducible refine bB ?_|with_reducible refine cx ?_|with_reducible refine cb ?_|with_reducible refine bq ?_|with_reducible refine cg ?_|((with_reducible apply nA hm);(iterate 2 (simp only[push_cast,seval];rfl));intro e hm)|((with_reducible apply im);(simp only[push_cast,seval];rfl);(first|exact trivial))|((with_reducible apply fG hm);(simp only[push_cast,seval];rfl);rfl;intro v hm;rotate_left;intro v g hm)|((with_reducible apply qC hm);(simp only[push_cast,seval];rfl);rfl;intro v hm;rotate_left;intro v g hm)|((with_reducible apply fg hm);(simp only[push_cast,seval];rfl);(first|apply oN _ _ _);(any_goals((repeat'(first|rfl|(with_reducible first|apply eo)|(with_reducible apply Ef;decide)));done));intro x hm)|((with_reducible apply aO hm);(simp only[push_cast,seval];rfl);intro hm;rotate_left;intro hm)|((with_reducible apply bQ hm);(focus(simp only[bu,dc,RV.get,push_cast,seval];rfl));(focus((repeat'(first|rfl));done)))|((with_reducible apply cJ hm);(simp only[push_cast,seval];rfl))|((with_reducible apply bE hm);intro r hm)|((with_reducible apply di hm);intro r hm)|((apply az (b:=0) (X:=iJ) (x:=eO) rfl (fun(c:SV) (s:Int)=>st [(0,c),(3,.d (.int .i64 s))] []) (c:=_) (s0:=_) hm);(focus(first|(dsimp only;done)));(with_reducible refine cN.mk ?_ ?_))|((apply bG (s':=_) hm);(focus(first|(dsimp only;done))))|((apply cZ (s':=_) hm);(focus(first|(dsimp only;done))))|(((with_reducible apply gq hm);intro r hm))|(((with_reducible apply dC.of);(focus(first|(dsimp only;done)));(focus((intro _;repeat'(first|with_reducible exact bo|with_reducible refine aG ?_))));(intro s o hm;first|unfold eO);rotate_left;intro s hm))|(((apply aW;(repeat'(first|with_reducible exact aw|with_reducible exact ax|with_reducible apply ap|((with_reducible apply aP);(focus(first|(simp only[push_cast,seval];rfl)));(focus((repeat'(first|rfl));done)))));done)))))
noncomputable def yM (x0:List UInt8):Option (Bool):=(m9.1 x0).1
theorem AE (x0:List UInt8):∀ r,yM x0=some r->aa Tryz.prog 141 [.str x0] (.bool r):=(m9.1 x0).2
noncomputable def gh (x0:List UInt8):Option (Int):=(m9.2 x0).1
theorem oR (x0:List UInt8):∀ r,gh x0=some r->aa Tryz.prog 108 [.str x0] (.int .i64 r):=(m9.2 x0).2
def si:SC:=
 (.seq (.reg [.r 2 (.mv (.c (.d (.int .i64 0))))])
 (.seq (.seq (.reg [.r 3 (.mv (.t 0)),
   .r 4 (.lenT (.t 3)),
   .r 5 (.bin .gtr (.t 4) (.c (.d (.int .i64 1000))))])
 (.cond (.t 5)
  (.seq (.reg [.r 2 (.mv (.c (.d (.int .i64 2))))])
  .ret)
  .skip))
 (.seq (.seq (.reg [.r 6 (.mv (.t 0)),
   .c 7 (.f 141) [.t 6],
   .r 8 (.not (.t 7))])
 (.cond (.t 8)
  (.seq (.reg [.r 2 (.mv (.c (.d (.int .i64 3))))])
  .ret)
  .skip))
 (.seq (.reg [.r 2 (.mv (.c (.d (.int .i64 0))))])
 .ret))))
theorem xL:fits Tryz.prog 100 Tryz.f100 si [.t 2] 1=true:=oK
def ea:SC:=
 (.seq (.seq (.reg [.r 35 (.mv (.t 4)),
   .r 36 (.fld 0 (.t 1)),
   .o 37 (.ld1 (.t 36)),
   .r 38 (.mv (.t 3)),
   .r 39 (.idx 1 (.t 37) (.t 38)),
   .o 40 (.ld1 (.t 39)),
   .r 41 (.len (.t 40)),
   .r 42 (.bin .lss (.t 35) (.t 41))])
 (.cond (.t 42)
  .skip
  (.exit 2)))
 (.seq (.block 3 (.seq (.reg [.r 45 (.fld 0 (.t 1)),
    .o 46 (.ld1 (.t 45)),
    .r 47 (.mv (.t 3)),
    .r 48 (.idx 1 (.t 46) (.t 47)),
    .o 49 (.ld1 (.t 48)),
    .r 50 (.mv (.t 4)),
    .r 51 (.idx 1 (.t 49) (.t 50)),
    .o 52 (.ld1 (.t 51)),
    .c 53 (.f 108) [.t 52],
    .r 5 (.mv (.t 53))])
  (.seq (.reg [.r 54 (.mv (.t 5)),
    .r 55 (.bin .neq (.t 54) (.c (.d (.int .i64 0))))])
  (.cond (.t 55)
   (.seq (.reg [.r 56 (.mv (.t 5)),
     .r 2 (.mv (.t 56))])
   .ret)
   .skip))))
 (.reg [.r 43 (.mv (.t 4)),
   .r 44 (.bin .add (.t 43) (.c (.d (.int .i64 1)))),
   .r 4 (.mv (.t 44))])))
def gI:SC:= .block 2 (.loop ea)
def eb:SC:=
 (.seq (.seq (.reg [.r 14 (.mv (.t 3)),
   .r 15 (.fld 0 (.t 1)),
   .o 16 (.ld1 (.t 15)),
   .r 17 (.len (.t 16)),
   .r 18 (.bin .lss (.t 14) (.t 17))])
 (.cond (.t 18)
  .skip
  (.exit 0)))
 (.seq (.block 1 (.seq (.seq (.reg [.r 21 (.fld 0 (.t 1)),
    .o 22 (.ld1 (.t 21)),
    .r 23 (.mv (.t 3)),
    .r 24 (.idx 1 (.t 22) (.t 23)),
    .o 25 (.ld1 (.t 24)),
    .r 26 (.len (.t 25)),
    .r 27 (.bin .eql (.t 26) (.c (.d (.int .i64 0))))])
  (.cond (.t 27)
   (.seq (.reg [.r 2 (.mv (.c (.d (.int .i64 9))))])
   .ret)
   .skip))
  (.seq (.seq (.reg [.r 28 (.fld 0 (.t 1)),
    .o 29 (.ld1 (.t 28)),
    .r 30 (.mv (.t 3)),
    .r 31 (.idx 1 (.t 29) (.t 30)),
    .o 32 (.ld1 (.t 31)),
    .r 33 (.len (.t 32)),
    .r 34 (.bin .gtr (.t 33) (.c (.d (.int .i64 20))))])
  (.cond (.t 34)
   (.seq (.reg [.r 2 (.mv (.c (.d (.int .i64 2))))])
   .ret)
   .skip))
  (.seq (.reg [.r 4 (.mv (.c (.d (.int .i64 0))))])
  gI))))
 (.reg [.r 19 (.mv (.t 3)),
   .r 20 (.bin .add (.t 19) (.c (.d (.int .i64 1)))),
   .r 3 (.mv (.t 20))])))
def gJ:SC:= .block 0 (.loop eb)
def iK:SC:=
 (.seq (.reg [.r 1 (.boxI (.t 0)),
   .r 2 (.mv (.c (.d (.int .i64 0))))])
 (.seq (.seq (.reg [.r 6 (.fld 0 (.t 1)),
   .o 7 (.ld1 (.t 6)),
   .r 8 (.len (.t 7)),
   .r 9 (.bin .eql (.t 8) (.c (.d (.int .i64 0))))])
 (.cond (.t 9)
  (.seq (.reg [.r 2 (.mv (.c (.d (.int .i64 9))))])
  .ret)
  .skip))
 (.seq (.seq (.reg [.r 10 (.fld 0 (.t 1)),
   .o 11 (.ld1 (.t 10)),
   .r 12 (.len (.t 11)),
   .r 13 (.bin .gtr (.t 12) (.c (.d (.int .i64 20))))])
 (.cond (.t 13)
  (.seq (.reg [.r 2 (.mv (.c (.d (.int .i64 2))))])
  .ret)
  .skip))
 (.seq (.seq (.reg [.r 3 (.mv (.c (.d (.int .i64 0))))])
 gJ)
 (.seq (.reg [.r 2 (.mv (.c (.d (.int .i64 0))))])
 .ret)))))
theorem nS:fits Tryz.prog 63 Tryz.f63 iK [.t 2] 1=true:=oK
set_option maxRecDepth 100000 in
set_option maxHeartbeats 40000000 in
noncomputable def m_:(∀ (x0:List UInt8),{m:Option (Int)//∀ r,m=some r->aa Tryz.prog 100 [.str x0] (.int .i64 r)})×(∀ (x0:bV),{m:Option (Int)//∀ r,m=some r->aa Tryz.prog 63 [.agg (b_ x0)] (.int .i64 r)}):=by
 refine⟨?g0, ?g1⟩
 case' g0=>(intro x0;apply Subtype.mk;intro r hm;apply af Tryz.func100 xL;unfold si)
 case' g1=>(intro x0;apply Subtype.mk;intro r hm;apply af Tryz.func63 nS;unfold iK)
 all_goals(repeat'(first|with_reducible refine bA ?_|with_reducible refine bt ?_|with_reducible refine bm ?_|with_reducible refine bl ?_|with_reducible refine bR ?_|with_reducible refine cw ?_|with_reducible refine bv ?_|with_reducible refine bB ?_|with_reducible refine cx ?_|with_reducible refine cb ?_|with_reducible refine bq ?_|with_reducible refine cg ?_|with_reducible refine dI ?_|((with_reducible apply dz hm);(iterate 2 (simp only[push_cast,seval];rfl));(intro _;rfl);intro e hm)|((with_reducible apply im);(simp only[push_cast,seval];rfl);(first|exact trivial))|((with_reducible apply fg hm);(simp only[push_cast,seval];rfl);(first|apply AE _|apply oR _);(any_goals((repeat'(first|rfl));done));intro x hm)|((with_reducible apply aO hm);(simp only[push_cast,seval];rfl);intro hm;rotate_left;intro hm)|((with_reducible apply bQ hm);(focus(simp only[bu,dc,RV.get,push_cast,seval];rfl));(focus((repeat'(first|rfl));done)))|((with_reducible apply bE hm);intro r hm)|((with_reducible apply di hm);intro r hm)|((apply az (b:=2) (X:=gI) (x:=ea) rfl (fun(c:SV×SV) (s:Int)=>st [(1,c.1),(3,c.2),(4,.d (.int .i64 s))] []) (c:=(_,_)) (s0:=_) hm);(focus(first|(dsimp only;done)));(with_reducible refine cN.mk ?_ ?_))|((apply az (b:=0) (X:=gJ) (x:=eb) rfl (fun(c:SV) (s:Int)=>st [(1,c),(3,.d (.int .i64 s))] []) (c:=_) (s0:=_) hm);(focus(first|(dsimp only;done)));(with_reducible refine cN.mk ?_ ?_))|((apply bG (s':=_) hm);(focus(first|(dsimp only;done))))|((apply cZ (s':=_) hm);(focus(first|(dsimp only;done))))|(((with_reducible apply gq hm);intro r hm))|(((with_reducible apply dC.of);(focus(first|(dsimp only;done)));(focus((intro _;repeat'(first|with_reducible exact bo|with_reducible refine aG ?_|with_reducible refine dj ?_|((with_reducible refine ec ?_);intro _)|((with_reducible refine fH ?_);intro _)))));(intro s o hm;first|unfold ea|unfold eb);rotate_left;intro s hm))|(((apply aW;(repeat'(first|with_reducible exact aw|with_reducible exact ax|with_reducible apply ap|((with_reducible apply aP);(focus(first|(simp only[push_cast,seval];rfl)));(focus((repeat'(first|rfl));done)))));done)))))
noncomputable def oU (x0:List UInt8):Option (Int):=(m_.1 x0).1
theorem wL (x0:List UInt8):∀ r,oU x0=some r->aa Tryz.prog 100 [.str x0] (.int .i64 r):=(m_.1 x0).2
noncomputable def eY (x0:bV):Option (Int):=(m_.2 x0).1
theorem nk (x0:bV):∀ r,eY x0=some r->aa Tryz.prog 63 [.agg (b_ x0)] (.int .i64 r):=(m_.2 x0).2
def ja:SC:=
 (.seq (.reg [.r 32 (.bin .lss (.t 31) (.t 30))])
 (.seq (.cond (.t 32)
  .skip
  (.exit 2))
 (.seq (.block 3 (.seq (.reg [.r 33 (.idx 1 (.t 29) (.t 31)),
    .o 34 (.ld1 (.t 33)),
    .r 6 (.mv (.t 34))])
  (.seq (.reg [.r 35 (.mv (.t 6)),
    .c 36 (.f 100) [.t 35],
    .r 7 (.mv (.t 36))])
  (.seq (.reg [.r 37 (.mv (.t 7)),
    .r 38 (.bin .neq (.t 37) (.c (.d (.int .i64 0))))])
  (.cond (.t 38)
   (.seq (.reg [.r 39 (.mv (.t 7)),
     .r 2 (.mv (.t 39))])
   .ret)
   .skip)))))
 (.reg [.r 40 (.bin .add (.t 31) (.c (.d (.int .i64 1)))),
   .r 31 (.mv (.t 40))]))))
def na:SC:= .block 2 (.loop ja)
def jb:SC:=
 (.seq (.reg [.r 20 (.bin .lss (.t 19) (.t 18))])
 (.seq (.cond (.t 20)
  .skip
  (.exit 0))
 (.seq (.block 1 (.seq (.reg [.r 21 (.idx 1 (.t 17) (.t 19)),
    .o 22 (.ld1 (.t 21)),
    .r 4 (.mv (.t 22))])
  (.seq (.seq (.reg [.r 23 (.mv (.t 4)),
    .r 24 (.len (.t 23)),
    .r 25 (.bin .eql (.t 24) (.c (.d (.int .i64 0))))])
  (.cond (.t 25)
   (.seq (.reg [.r 2 (.mv (.c (.d (.int .i64 9))))])
   .ret)
   .skip))
  (.seq (.seq (.reg [.r 26 (.mv (.t 4)),
    .r 27 (.len (.t 26)),
    .r 28 (.bin .gtr (.t 27) (.c (.d (.int .i64 20))))])
  (.cond (.t 28)
   (.seq (.reg [.r 2 (.mv (.c (.d (.int .i64 2))))])
   .ret)
   .skip))
  (.seq (.reg [.r 29 (.mv (.t 4)),
    .r 30 (.len (.t 29)),
    .r 31 (.mv (.c (.d (.int .i64 0))))])
  na)))))
 (.reg [.r 41 (.bin .add (.t 19) (.c (.d (.int .i64 1)))),
   .r 19 (.mv (.t 41))]))))
def nb:SC:= .block 0 (.loop jb)
def pw:SC:=
 (.seq (.reg [.r 1 (.boxI (.t 0)),
   .r 2 (.mv (.c (.d (.int .i64 0))))])
 (.seq (.seq (.reg [.r 8 (.fld 0 (.t 1)),
   .o 9 (.ld1 (.t 8)),
   .r 10 (.len (.t 9)),
   .r 11 (.bin .eql (.t 10) (.c (.d (.int .i64 0))))])
 (.cond (.t 11)
  (.seq (.reg [.r 2 (.mv (.c (.d (.int .i64 9))))])
  .ret)
  .skip))
 (.seq (.seq (.reg [.r 12 (.fld 0 (.t 1)),
   .o 13 (.ld1 (.t 12)),
   .r 14 (.len (.t 13)),
   .r 15 (.bin .gtr (.t 14) (.c (.d (.int .i64 20))))])
 (.cond (.t 15)
  (.seq (.reg [.r 2 (.mv (.c (.d (.int .i64 2))))])
  .ret)
  .skip))
 (.seq (.seq (.reg [.r 16 (.fld 0 (.t 1)),
   .o 17 (.ld1 (.t 16)),
   .r 18 (.len (.t 17)),
   .r 19 (.mv (.c (.d (.int .i64 0))))])
 nb)
 (.seq (.reg [.r 2 (.mv (.c (.d (.int .i64 0))))])
 .ret)))))
theorem uv:fits Tryz.prog 53 Tryz.f53 pw [.t 2] 1=true:=oK
def eZ:SC:=
 (.seq (.seq (.reg [.r 13 (.mv (.t 3)),
   .r 14 (.fld 1 (.t 1)),
   .o 15 (.ld1 (.t 14)),
   .r 16 (.len (.t 15)),
   .r 17 (.bin .lss (.t 13) (.t 16))])
 (.cond (.t 17)
  .skip
  (.exit 0)))
 (.seq (.block 1 (.seq (.reg [.r 20 (.fld 1 (.t 1)),
    .o 21 (.ld1 (.t 20)),
    .r 22 (.mv (.t 3)),
    .r 23 (.idx 1 (.t 21) (.t 22)),
    .o 24 (.ldA 1 (.t 23)),
    .c 25 (.f 63) [.t 24],
    .r 4 (.mv (.t 25))])
  (.seq (.reg [.r 26 (.mv (.t 4)),
    .r 27 (.bin .neq (.t 26) (.c (.d (.int .i64 0))))])
  (.cond (.t 27)
   (.seq (.reg [.r 28 (.mv (.t 4)),
     .r 2 (.mv (.t 28))])
   .ret)
   .skip))))
 (.reg [.r 18 (.mv (.t 3)),
   .r 19 (.bin .add (.t 18) (.c (.d (.int .i64 1)))),
   .r 3 (.mv (.t 19))])))
def jc:SC:= .block 0 (.loop eZ)
def kg:SC:=
 (.seq (.reg [.r 1 (.boxI (.t 0)),
   .r 2 (.mv (.c (.d (.int .i64 0))))])
 (.seq (.seq (.reg [.r 5 (.fld 0 (.t 1)),
   .o 6 (.ld1 (.t 5)),
   .c 7 (.f 61) [.t 6],
   .r 8 (.not (.t 7))])
 (.cond (.t 8)
  (.seq (.reg [.r 2 (.mv (.c (.d (.int .i64 5))))])
  .ret)
  .skip))
 (.seq (.seq (.reg [.r 9 (.fld 1 (.t 1)),
   .o 10 (.ld1 (.t 9)),
   .r 11 (.len (.t 10)),
   .r 12 (.bin .gtr (.t 11) (.c (.d (.int .i64 50))))])
 (.cond (.t 12)
  (.seq (.reg [.r 2 (.mv (.c (.d (.int .i64 2))))])
  .ret)
  .skip))
 (.seq (.seq (.reg [.r 3 (.mv (.c (.d (.int .i64 0))))])
 jc)
 (.seq (.reg [.r 2 (.mv (.c (.d (.int .i64 0))))])
 .ret)))))
theorem pY:fits Tryz.prog 29 Tryz.f29 kg [.t 2] 1=true:=oK
set_option maxRecDepth 100000 in
set_option maxHeartbeats 40000000 in
noncomputable def ne:(∀ (x0:bV),{m:Option (Int)//∀ r,m=some r->aa Tryz.prog 53 [.agg (b_ x0)] (.int .i64 r)})×(∀ (x0:aj),{m:Option (Int)//∀ r,m=some r->aa Tryz.prog 29 [.agg (aN x0)] (.int .i64 r)}):=by
 refine⟨?g0, ?g1⟩
 case' g0=>(intro x0;apply Subtype.mk;intro r hm;apply af Tryz.func53 uv;unfold pw)
 case' g1=>(intro x0;apply Subtype.mk;intro r hm;apply af Tryz.func29 pY;unfold kg)
 all_goals(repeat'(first|with_reducible refine bA ?_|with_reducible refine bt ?_|with_reducible refine bm ?_|with_reducible refine bl ?_|with_reducible refine bR ?_|with_reducible refine cw ?_|with_reducible refine bv ?_|with_reducible refine bB ?_|with_reducible refine cx ?_|with_reducible refine cb ?_|with_reducible refine bq ?_|with_reducible refine cg ?_|with_reducible refine dI ?_|((with_reducible apply dz hm);(iterate 2 (simp only[push_cast,seval];rfl));(intro _;rfl);intro e hm)|((with_reducible apply im);(simp only[push_cast,seval];rfl);(first|exact trivial))|((with_reducible apply fg hm);(simp only[push_cast,seval];rfl);(first|apply wL _|apply gH _|apply nk _);(any_goals((repeat'(first|rfl));done));intro x hm)|((with_reducible apply aO hm);(simp only[push_cast,seval];rfl);intro hm;rotate_left;intro hm)|((with_reducible apply bQ hm);(focus(simp only[bu,dc,RV.get,push_cast,seval];rfl));(focus((repeat'(first|rfl));done)))|((with_reducible apply bE hm);intro r hm)|((with_reducible apply di hm);intro r hm)|((apply az (b:=2) (X:=na) (x:=ja) rfl (fun(c:SV×SV×SV×SV×SV) (s:Int)=>st [(17,c.1),(18,c.2.1),(19,c.2.2.1),(29,c.2.2.2.1),(30,c.2.2.2.2),(31,.d (.int .i64 s))] []) (c:=(_,_,_,_,_)) (s0:=_) hm);(focus(first|(dsimp only;done)));(with_reducible refine cN.mk ?_ ?_))|((apply az (b:=0) (X:=nb) (x:=jb) rfl (fun(c:SV×SV) (s:Int)=>st [(17,c.1),(18,c.2),(19,.d (.int .i64 s))] []) (c:=(_,_)) (s0:=_) hm);(focus(first|(dsimp only;done)));(with_reducible refine cN.mk ?_ ?_))|((apply az (b:=0) (X:=jc) (x:=eZ) rfl (fun(c:SV) (s:Int)=>st [(1,c),(3,.d (.int .i64 s))] []) (c:=_) (s0:=_) hm);(focus(first|(dsimp only;done)));(with_reducible refine cN.mk ?_ ?_))|((apply bG (s':=_) hm);(focus(first|(dsimp only;done))))|((apply cZ (s':=_) hm);(focus(first|(dsimp only;done))))|(((with_reducible apply gq hm);intro r hm))|(((with_reducible apply dC.of);(focus(first|(dsimp only;done)));(focus((intro _;repeat'(first|with_reducible exact bo|with_reducible refine aG ?_|with_reducible refine dj ?_|((with_reducible refine ec ?_);intro _)|((with_reducible refine fH ?_);intro _)))));(intro s o hm;first|unfold ja|unfold jb|unfold eZ);rotate_left;intro s hm))|(((apply aW;(repeat'(first|with_reducible exact aw|with_reducible exact ax|with_reducible apply ap|((with_reducible apply aP);(focus(first|(simp only[push_cast,seval];rfl)));(focus((repeat'(first|rfl));done)))));done)))))
noncomputable def lJ (x0:bV):Option (Int):=(ne.1 x0).1
theorem tP (x0:bV):∀ r,lJ x0=some r->aa Tryz.prog 53 [.agg (b_ x0)] (.int .i64 r):=(ne.1 x0).2
noncomputable def gK (x0:aj):Option (Int):=(ne.2 x0).1
theorem px (x0:aj):∀ r,gK x0=some r->aa Tryz.prog 29 [.agg (aN x0)] (.int .i64 r):=(ne.2 x0).2
def iA:SC:=
 (.seq (.reg [.r 29 (.bin .lss (.t 28) (.t 27))])
 (.seq (.cond (.t 29)
  .skip
  (.exit 2))
 (.seq (.block 3 (.seq (.reg [.r 30 (.idx 1 (.t 26) (.t 28)),
    .o 31 (.ldA 1 (.t 30)),
    .w 6 (.boxM (.c (.agg [.nils]))),
    .w 0 (.st 1 (.t 6) (.t 31))])
  (.seq (.reg [.o 32 (.ldA 1 (.t 6)),
    .c 33 (.f 53) [.t 32],
    .r 7 (.mv (.t 33))])
  (.seq (.reg [.r 34 (.mv (.t 7)),
    .r 35 (.bin .neq (.t 34) (.c (.d (.int .i64 0))))])
  (.cond (.t 35)
   (.seq (.reg [.r 36 (.mv (.t 7)),
     .r 2 (.mv (.t 36))])
   .ret)
   .skip)))))
 (.reg [.r 37 (.bin .add (.t 28) (.c (.d (.int .i64 1)))),
   .r 28 (.mv (.t 37))]))))
def mc:SC:= .block 2 (.loop iA)
def iB:SC:=
 (.seq (.reg [.r 14 (.bin .lss (.t 13) (.t 12))])
 (.seq (.cond (.t 14)
  .skip
  (.exit 0))
 (.seq (.block 1 (.seq (.reg [.r 15 (.idx 2 (.t 11) (.t 13)),
    .o 16 (.ldA 2 (.t 15)),
    .w 4 (.boxM (.c (.agg [.d (.str []),.nils]))),
    .w 0 (.st 2 (.t 4) (.t 16))])
  (.seq (.seq (.reg [.r 17 (.fld 0 (.t 4)),
    .o 18 (.ld1 (.t 17)),
    .c 19 (.f 52) [.t 18],
    .r 20 (.not (.t 19))])
  (.cond (.t 20)
   (.seq (.reg [.r 2 (.mv (.c (.d (.int .i64 5))))])
   .ret)
   .skip))
  (.seq (.seq (.reg [.r 21 (.fld 1 (.t 4)),
    .o 22 (.ld1 (.t 21)),
    .r 23 (.len (.t 22)),
    .r 24 (.bin .gtr (.t 23) (.c (.d (.int .i64 50))))])
  (.cond (.t 24)
   (.seq (.reg [.r 2 (.mv (.c (.d (.int .i64 2))))])
   .ret)
   .skip))
  (.seq (.reg [.r 25 (.fld 1 (.t 4)),
    .o 26 (.ld1 (.t 25)),
    .r 27 (.len (.t 26)),
    .r 28 (.mv (.c (.d (.int .i64 0))))])
  mc)))))
 (.reg [.r 38 (.bin .add (.t 13) (.c (.d (.int .i64 1)))),
   .r 13 (.mv (.t 38))]))))
def md:SC:= .block 0 (.loop iB)
def oh:SC:=
 (.seq (.reg [.r 2 (.mv (.c (.d (.int .i64 0))))])
 (.seq (.seq (.reg [.r 8 (.mv (.t 0)),
   .r 9 (.len (.t 8)),
   .r 10 (.bin .gtr (.t 9) (.c (.d (.int .i64 2000))))])
 (.cond (.t 10)
  (.seq (.reg [.r 2 (.mv (.c (.d (.int .i64 2))))])
  .ret)
  .skip))
 (.seq (.seq (.reg [.r 11 (.mv (.t 0)),
   .r 12 (.len (.t 11)),
   .r 13 (.mv (.c (.d (.int .i64 0))))])
 md)
 (.seq (.reg [.r 2 (.mv (.c (.d (.int .i64 0))))])
 .ret))))
theorem tQ:fits Tryz.prog 26 Tryz.f26 oh [.t 2] 1=true:=oK
set_option maxRecDepth 100000 in
set_option maxHeartbeats 40000000 in
noncomputable def vW:(∀ (x0:List aj),{m:Option (Int)//∀ r,m=some r->aa Tryz.prog 26 [.slice (List.map aN x0)] (.int .i64 r)}):=by
 (intro x0;apply Subtype.mk;intro r hm;apply af Tryz.func26 tQ;unfold oh)
 repeat'(first|with_reducible refine bA ?_|with_reducible refine bt ?_|with_reducible refine bm ?_|with_reducible refine bl ?_|with_reducible refine bR ?_|with_reducible refine cw ?_|with_reducible refine bv ?_|with_reducible refine bB ?_|with_reducible refine cx ?_|with_reducible refine cb ?_|with_reducible refine bq ?_|with_reducible refine cg ?_|with_reducible refine dI ?_|((with_reducible apply dz hm);(iterate 2 (simp only[push_cast,seval];rfl));(intro _;rfl);intro e hm)|((with_reducible apply im);(simp only[push_cast,seval];rfl);(first|exact trivial))|((with_reducible apply fg hm);(simp only[push_cast,seval];rfl);(first|apply nR _|apply tP _);(any_goals((repeat'(first|rfl));done));intro x hm)|((with_reducible apply wM);(simp only[push_cast,seval];rfl);(first|exact trivial))|((with_reducible apply aO hm);(simp only[push_cast,seval];rfl);intro hm;rotate_left;intro hm)|((with_reducible apply bQ hm);(focus(simp only[bu,dc,RV.get,push_cast,seval];rfl));(focus((repeat'(first|rfl));done)))|((with_reducible apply bE hm);intro r hm)|((with_reducible apply di hm);intro r hm)|((apply az (b:=2) (X:=mc) (x:=iA) rfl (fun(c:SV×SV×SV×SV×SV) (s:Int)=>st [(11,c.1),(12,c.2.1),(13,c.2.2.1),(26,c.2.2.2.1),(27,c.2.2.2.2),(28,.d (.int .i64 s))] []) (c:=(_,_,_,_,_)) (s0:=_) hm);(focus(first|(dsimp only;done)));(with_reducible refine cN.mk ?_ ?_))|((apply az (b:=0) (X:=md) (x:=iB) rfl (fun(c:SV×SV) (s:Int)=>st [(11,c.1),(12,c.2),(13,.d (.int .i64 s))] []) (c:=(_,_)) (s0:=_) hm);(focus(first|(dsimp only;done)));(with_reducible refine cN.mk ?_ ?_))|((apply bG (s':=_) hm);(focus(first|(dsimp only;done))))|((apply cZ (s':=_) hm);(focus(first|(dsimp only;done))))|(((with_reducible apply gq hm);intro r hm))|(((with_reducible apply dC.of);(focus(first|(dsimp only;done)));(focus((intro _;repeat'(first|with_reducible exact bo|with_reducible refine aG ?_|with_reducible refine dj ?_|((with_reducible refine ec ?_);intro _)|((with_reducible refine fH ?_);intro _)))));(intro s o hm;first|unfold iA|unfold iB);rotate_left;intro s hm))|(((apply aW;(repeat'(first|with_reducible exact aw|with_reducible exact ax|with_reducible apply ap|((with_reducible apply aP);(focus(first|(simp only[push_cast,seval];rfl)));(focus((repeat'(first|rfl));done)))));done))))
noncomputable def ij (x0:List aj):Option (Int):=(vW x0).1
theorem nf (x0:List aj):∀ r,ij x0=some r->aa Tryz.prog 26 [.slice (List.map aN x0)] (.int .i64 r):=(vW x0).2
structure dk where
 fmany:Int
 deriving DecidableEq
def dq (x:dk):List DV:=[.int .i64 x.fmany]
attribute [push_cast] dq
theorem j8 {d0:SV} {v0:Int} (h0:tw d0 (.d (.int .i64 v0))):ba [d0] (iP [.sh] (dq ⟨v0⟩)):=by have h:=(ba.consS h0 ba.nil);simp only[push_cast,seval,dR] at h⊢;exact h
def rZ (p0:Int):List SV:=[.d (.int .i64 p0)]
attribute [push_cast] rZ
structure a8 where
 fName:List UInt8
 fSegment:aj
 fKids:List a8
mutual
def ss:a8->List DV
 |⟨v0,v1,v2⟩=>[.str v0]++aN v1++[.slice (ix v2)]
def ix:List a8->List (List DV)
 |[]=>[]
 |x::l=>ss x::ix l
end
def bd (x:a8):List DV:=[.str x.fName]++aN x.fSegment++[.slice (ix x.fKids)]
theorem zx (x:a8):ss x=bd x:=by cases x;simp only[ss,bd]
theorem r_:∀ l:List a8,ix l=List.map bd l
 |[]=>by simp only[ix,PU]
 |x::l=>by simp only[ix,OQ,r_ l,zx]
theorem uc (x:a8):bd x=[.str x.fName]++aN x.fSegment++[.slice (List.map bd x.fKids)]:=by show([.str x.fName]++aN x.fSegment++[.slice (ix x.fKids)]:List DV)=_;simp only[r_]
attribute [push_cast] uc
theorem vp {d0 d1 d2 d3:DV} {v0:List UInt8} {v1:aj} {v2:List a8} (h0:d0= .str v0) (h1:[d1,d2]=aN v1) (h2:d3= .slice (List.map bd v2)):[d0,d1,d2,d3]=bd ⟨v0,v1,v2⟩:=by rw[uc];simp only[h0,<-h1,h2,OM,OR,OK,OY]
structure mX where
 fNames:List (List UInt8)
 fTag:List UInt8
 fElement:Int
 fPart:Int
 deriving DecidableEq
def jt (x:mX):List DV:=[.slice (List.map en x.fNames),.str x.fTag,.int .i64 x.fElement,.int .i64 x.fPart]
attribute [push_cast] jt
theorem B3 {d0 d1 d2 d3:DV} {v0:List (List UInt8)} {v1:List UInt8} {v2:Int} {v3:Int} (h0:d0= .slice (List.map en v0)) (h1:d1= .str v1) (h2:d2= .int .i64 v2) (h3:d3= .int .i64 v3):[d0,d1,d2,d3]=jt ⟨v0,v1,v2,v3⟩:=by unfold jt;simp only[h0,h1,h2,h3,OM,OR,OK,OY]
def sS:SC:=
 (.seq (.reg [.r 1 (.boxI (.t 0)),
   .r 2 (.mv (.c (.d (.bool false))))])
 (.seq (.reg (.r 3 (.fld 0 (.t 1)):: .o 4 (.ld1 (.t 3)):: .r 5 (.bin .eql (.t 4) (.c (.d (.str [])))):: .r 6 (.mv (.t 5))::aV [7,8,9,10] 6 true (.r 7 (.fld 1 (.t 1)):: .r 8 (.ld1 (.t 7)):: .r 9 (.len (.t 8)):: .r 10 (.bin .eql (.t 9) (.c (.d (.int .i64 0))))::[]) (.r 11 (.pick (.t 6) (.t 10) (.c (.d (.bool false)))):: .r 2 (.mv (.t 11))::[])))
 .ret))
theorem yD:fits Tryz.prog 128 Tryz.f128 sS [.t 2] 1=true:=oK
def cO:SC:=
 (.seq (.seq (.reg [.r 9 (.mv (.t 5)),
   .r 10 (.bin .geq (.t 9) (.c (.d (.int .i64 0))))])
 (.cond (.t 10)
  .skip
  (.exit 0)))
 (.seq (.block 1 (.seq (.reg [.r 13 (.mv (.t 0)),
    .r 14 (.mv (.t 5)),
    .r 15 (.sidx (.t 13) (.t 14)),
    .r 16 (.mv (.t 1)),
    .r 17 (.bin .eql (.t 15) (.t 16))])
  (.cond (.t 17)
   (.seq (.reg [.r 18 (.mv (.t 5)),
     .r 4 (.mv (.t 18))])
   .ret)
   .skip)))
 (.reg [.r 11 (.mv (.t 5)),
   .r 12 (.bin .sub (.t 11) (.c (.d (.int .i64 1)))),
   .r 5 (.mv (.t 12))])))
def er:SC:= .block 0 (.loop cO)
def fa:SC:=
 (.seq (.reg [.r 4 (.mv (.c (.d (.int .i64 0))))])
 (.seq (.seq (.reg [.r 6 (.mv (.t 0)),
   .r 7 (.lenT (.t 6)),
   .r 8 (.bin .sub (.t 7) (.c (.d (.int .i64 1)))),
   .r 5 (.mv (.t 8))])
 er)
 (.seq (.reg [.r 4 (.mv (.c (.d (.int .i64 (-1)))))])
 .ret)))
theorem jR:fits Tryz.prog 148 Tryz.f148 fa [.t 4] 2=true:=oK
def lF:SC:=
 (.seq (.reg [.r 18 (.bin .lss (.t 17) (.t 16))])
 (.seq (.cond (.t 18)
  .any
  (.exit 0))
 .any))
def p9:SC:= .block 0 (.loop lF)
def sT:SC:=
 (.seq (.reg [.r 4 (.mv (.c (.nils)))])
 (.seq (.reg [.r 13 (.mv (.t 0)),
   .r 14 (.bslice 1 [.t 13]),
   .r 5 (.mv (.t 14))])
 (.seq (.seq (.reg [.r 15 (.mv (.t 1)),
   .r 16 (.len (.t 15)),
   .r 17 (.mv (.c (.d (.int .i64 0))))])
 p9)
 (.seq (.reg [.r 46 (.mv (.t 5)),
   .r 4 (.mv (.t 46))])
 .ret))))
theorem yE:fits Tryz.prog 115 Tryz.f115 sT [.t 4] 2=true:=oK
set_option maxRecDepth 100000 in
set_option maxHeartbeats 40000000 in
noncomputable def jk:(∀ (x0:aj),{m:Option (Bool)//∀ r,m=some r->aa Tryz.prog 128 [.agg (aN x0)] (.bool r)})×(∀ (x0:List UInt8) (x1:UInt8),{m:Option (Int)//∀ r,m=some r->aa Tryz.prog 148 [.str x0,.int .u8 (x1).toNat] (.int .i64 r)})×(∀ (x0:List a8) (x1:List (List UInt8)),{m:Option ((List (List a8)))//∀ r,m=some r->aa Tryz.prog 115 [.slice (List.map bd x0),.slice (List.map en x1)] (.slice (List.map (rz bd) r))}):=by
 refine⟨?g0, ?g1, ?g2⟩
 case' g0=>(intro x0;apply Subtype.mk;intro r hm;apply af Tryz.func128 yD;unfold sS)
 case' g1=>(intro x0 x1;apply Subtype.mk;intro r hm;apply af Tryz.func148 jR;unfold fa)
 case' g2=>(intro x0 x1;apply Subtype.mk;intro r hm;apply af Tryz.func115 yE;unfold sT)
 all_goals(repeat'(first|with_reducible refine bA ?_|with_reducible refine bt ?_|with_reducible refine bm ?_|with_reducible refine bl ?_|with_reducible refine bR ?_|with_reducible refine cw ?_|with_reducible refine bv ?_|with_reducible refine bB ?_|with_reducible refine cx ?_|with_reducible refine cb ?_|with_reducible refine bq ?_|with_reducible refine cg ?_|with_reducible refine dI ?_|((with_reducible apply nA hm);(iterate 2 (simp only[push_cast,seval];rfl));intro e hm)|((with_reducible apply im);(simp only[push_cast,seval];rfl);(first|exact trivial))|(with_reducible apply yl hm)|((with_reducible apply fG hm);(simp only[push_cast,seval];rfl);rfl;intro v hm;rotate_left;intro v g hm)|((with_reducible apply aO hm);(simp only[push_cast,seval];rfl);intro hm;rotate_left;intro hm)|((with_reducible apply bQ hm);(focus(simp only[bu,dc,RV.get,push_cast,seval];rfl));(focus((repeat'(first|rfl|(with_reducible first|apply cT|apply cU|apply ez)));done)))|((with_reducible apply cJ hm);(simp only[push_cast,seval];rfl))|((with_reducible apply bE hm);intro r hm)|((with_reducible apply di hm);intro r hm)|((apply az (b:=0) (X:=er) (x:=cO) rfl (fun(c:SV×SV) (s:Int)=>st [(0,c.1),(1,c.2),(5,.d (.int .i64 s))] []) (c:=(_,_)) (s0:=_) hm);(focus(first|(dsimp only;done)));(with_reducible refine cN.mk ?_ ?_))|((apply az (b:=0) (X:=p9) (x:=lF) rfl (fun(c:SV×SV×SV) (s:Unit)=>st [(5,c.1),(16,c.2.1),(17,c.2.2)] []) (c:=(_,_,_)) (s0:=()) hm);(focus(first|(dsimp only;done)));(with_reducible refine cN.mk ?_ ?_))|((apply bG (s':=_) hm);(focus(first|(dsimp only;done))))|((apply cZ (s':=_) hm);(focus(first|(dsimp only;done))))|(((with_reducible apply gq hm);intro r hm))|(((with_reducible apply dC.of);(focus(first|(dsimp only;done)));(focus((intro _;repeat'(first|with_reducible exact bo|with_reducible refine aG ?_))));(intro s o hm;first|unfold cO|unfold lF);rotate_left;intro s hm))|(((apply aW;(repeat'(first|with_reducible exact aw|with_reducible exact ax|with_reducible apply ap|((with_reducible apply aP);(focus(first|(simp only[push_cast,seval];rfl)));(focus((repeat'(first|rfl));done)))));done)))))
 all_goals(intros;exact())
noncomputable def Ay (x0:aj):Option (Bool):=(jk.1 x0).1
theorem xE (x0:aj):∀ r,Ay x0=some r->aa Tryz.prog 128 [.agg (aN x0)] (.bool r):=(jk.1 x0).2
noncomputable def fi (x0:List UInt8) (x1:UInt8):Option (Int):=(jk.2.1 x0 x1).1
theorem jD (x0:List UInt8) (x1:UInt8):∀ r,fi x0 x1=some r->aa Tryz.prog 148 [.str x0,.int .u8 (x1).toNat] (.int .i64 r):=(jk.2.1 x0 x1).2
noncomputable def ud (x0:List a8) (x1:List (List UInt8)):Option ((List (List a8))):=(jk.2.2 x0 x1).1
theorem xF (x0:List a8) (x1:List (List UInt8)):∀ r,ud x0 x1=some r->aa Tryz.prog 115 [.slice (List.map bd x0),.slice (List.map en x1)] (.slice (List.map (rz bd) r)):=(jk.2.2 x0 x1).2
def lX:SC:=
 (.seq (.reg [.r 4 (.mv (.c (.d (.int .i64 0))))])
 (.seq (.reg [.r 5 (.mv (.t 0)),
   .r 6 (.mv (.t 1)),
   .c 7 (.f 148) [.t 5,.t 6],
   .r 4 (.mv (.t 7))])
 .ret))
theorem rE:fits Tryz.prog 110 Tryz.f110 lX [.t 4] 2=true:=oK
def mz:SC:=
 (.seq (.reg [.r 26 (.bin .lss (.t 25) (.t 24))])
 (.seq (.cond (.t 26)
  .skip
  (.exit 2))
 (.seq (.block 3 (.seq (.reg [.r 27 (.idx 4 (.t 23) (.t 25)),
    .o 28 (.ldA 4 (.t 27)),
    .w 9 (.boxM (.c (.agg [.d (.str []),.d (.str []),.nils,.nils]))),
    .w 0 (.st 4 (.t 9) (.t 28))])
  (.seq (.seq (.reg (.r 29 (.fld 0 (.t 9)):: .o 30 (.ld1 (.t 29)):: .r 31 (.bin .neq (.t 30) (.c (.d (.str [])))):: .r 32 (.mv (.t 31))::aV [33,34,35,36,37,38] 32 false (.r 33 (.fld 1 (.t 9)):: .r 34 (.fld 0 (.t 33)):: .r 35 (.ld1 (.t 34)):: .r 36 (.fld 1 (.t 3)):: .r 37 (.ld1 (.t 36)):: .r 38 (.bin .neq (.t 35) (.t 37))::[]) (.r 39 (.pick (.t 32) (.c (.d (.bool true))) (.t 38))::[])))
  (.cond (.t 39)
   .any
   .skip))
  (.seq (.seq (.reg [.r 40 (.fld 2 (.t 3)),
    .o 41 (.ld1 (.t 40)),
    .r 42 (.bin .eql (.t 41) (.c (.d (.int .i64 0))))])
  (.cond (.t 42)
   (.seq (.reg [.r 43 (.mv (.t 5)),
     .r 44 (.fld 1 (.t 3)),
     .o 45 (.ld1 (.t 44)),
     .r 46 (.bslice 1 [.t 45]),
     .w 47 (.app 9 1 (.t 43) (.t 46)),
     .r 5 (.mv (.t 47))])
   (.exit 3))
   .any))
  .any))))
 (.reg [.r 90 (.bin .add (.t 25) (.c (.d (.int .i64 1)))),
   .r 25 (.mv (.t 90))]))))
def q0:SC:= .block 2 (.loop mz)
def mA:SC:=
 (.seq (.reg [.r 20 (.bin .lss (.t 19) (.t 18))])
 (.seq (.cond (.t 20)
  .skip
  (.exit 0))
 (.seq (.block 1 (.seq (.reg [.r 21 (.idx 1 (.t 17) (.t 19)),
    .o 22 (.ld1 (.t 21)),
    .r 7 (.mv (.t 22))])
  (.seq (.reg [.r 23 (.mv (.t 7)),
    .r 24 (.len (.t 23)),
    .r 25 (.mv (.c (.d (.int .i64 0))))])
  q0)))
 (.reg [.r 91 (.bin .add (.t 19) (.c (.d (.int .i64 1)))),
   .r 19 (.mv (.t 91))]))))
def q8:SC:= .block 0 (.loop mA)
def ue:SC:=
 (.seq (.reg [.r 3 (.boxI (.t 1)),
   .r 4 (.mv (.c (.nils)))])
 (.seq (.reg [.r 5 (.mv (.c (.nils)))])
 (.seq (.seq (.reg [.r 14 (.mv (.t 0)),
   .r 15 (.fld 0 (.t 3)),
   .o 16 (.ld1 (.t 15)),
   .c 17 (.f 115) [.t 14,.t 16],
   .r 18 (.len (.t 17)),
   .r 19 (.mv (.c (.d (.int .i64 0))))])
 q8)
 (.seq (.reg [.r 92 (.mv (.t 5)),
   .r 4 (.mv (.t 92))])
 .ret))))
theorem zy:fits Tryz.prog 69 Tryz.f69 ue [.t 4] 2=true:=oK
set_option maxRecDepth 100000 in
set_option maxHeartbeats 40000000 in
noncomputable def mY:(∀ (x0:List UInt8) (x1:UInt8),{m:Option (Int)//∀ r,m=some r->aa Tryz.prog 110 [.str x0,.int .u8 (x1).toNat] (.int .i64 r)})×(∀ (x0:List a8) (x1:mX),{m:Option ((List (List UInt8)))//∀ r,m=some r->aa Tryz.prog 69 [.slice (List.map bd x0),.agg (jt x1)] (.slice (List.map en r))}):=by
 refine⟨?g0, ?g1⟩
 case' g0=>(intro x0 x1;apply Subtype.mk;intro r hm;apply af Tryz.func110 rE;unfold lX)
 case' g1=>(intro x0 x1;apply Subtype.mk;intro r hm;apply af Tryz.func69 zy;unfold ue)
 all_goals(repeat'(first|with_reducible refine bA ?_|with_reducible refine bt ?_|with_reducible refine bm ?_|with_reducible refine bl ?_|with_reducible refine bR ?_|with_reducible refine cw ?_|with_reducible refine bv ?_|with_reducible refine bB ?_|with_reducible refine cx ?_|with_reducible refine bq ?_|with_reducible refine sI ?_|with_reducible refine dI ?_|((with_reducible apply dz hm);(iterate 2 (simp only[push_cast,seval];rfl));(intro _;rfl);intro e hm)|((with_reducible apply im);(simp only[push_cast,seval];rfl);(first|exact trivial))|(with_reducible apply yl hm)|((with_reducible apply qC hm);(simp only[push_cast,seval];rfl);rfl;intro v hm;rotate_left;intro v g hm)|((with_reducible apply fg hm);(simp only[push_cast,seval];rfl);(first|apply jD _ _|apply xF _ _);(any_goals((repeat'(first|rfl));done));intro x hm)|((with_reducible apply wM);(simp only[push_cast,seval];rfl);(first|exact trivial))|((with_reducible apply xt hm);(iterate 4 (simp only[push_cast,seval];rfl));(focus((repeat'(first|rfl|(with_reducible first|apply cT|apply cU|apply ez)));done));decide;(intro _;rfl);intro hm)|((with_reducible apply aO hm);(simp only[push_cast,seval];rfl);intro hm;rotate_left;intro hm)|((with_reducible apply bQ hm);(focus(simp only[bu,dc,RV.get,push_cast,seval];rfl));(focus((repeat'(first|rfl));done)))|((with_reducible apply cJ hm);(simp only[push_cast,seval];rfl))|((with_reducible apply bE hm);intro r hm)|((apply az (b:=2) (X:=q0) (x:=mz) rfl (fun(c:SV×SV×SV×SV×SV×SV) (s:(List (List UInt8))×Int)=>st [(3,c.1),(5,.vec 5),(17,c.2.1),(18,c.2.2.1),(19,c.2.2.2.1),(23,c.2.2.2.2.1),(24,c.2.2.2.2.2),(25,.d (.int .i64 s.2))] [(5,.vec 9 1 (bF en s.1))]) (c:=(_,_,_,_,_,_)) (s0:=(_,_)) hm);(focus(first|(dsimp only;done)));(with_reducible refine cN.mk ?_ ?_))|((apply az (b:=0) (X:=q8) (x:=mA) rfl (fun(c:SV×SV×SV) (s:(List (List UInt8))×Int)=>st [(3,c.1),(5,.vec 5),(17,c.2.1),(18,c.2.2),(19,.d (.int .i64 s.2))] [(5,.vec 9 1 (bF en s.1))]) (c:=(_,_,_)) (s0:=(_,_)) hm);(focus(first|(dsimp only;done)));(with_reducible refine cN.mk ?_ ?_);apply dB.trans;(focus(apply tk (slot:=5) (id:=5) (e:=9) (sz:=1);(focus(simp only[push_cast,seval];done)))))|((apply bG (s':=(_,_)) hm);(focus(first|(dsimp only;done))))|((apply cZ (s':=(_,_)) hm);(focus(first|(dsimp only;done))))|(((with_reducible apply dC.of);(focus(first|(dsimp only;done)));(focus((intro _;repeat'(first|with_reducible exact bo|with_reducible refine aG ?_|with_reducible refine dj ?_|((with_reducible refine ec ?_);intro _)|((with_reducible refine fH ?_);intro _)))));(intro s o hm;first|unfold mz|unfold mA);rotate_left;intro s hm))|(((apply aW;(repeat'(first|with_reducible exact aw|with_reducible exact ax|with_reducible apply ap|with_reducible apply aU|((with_reducible apply aP);(focus(first|(simp only[push_cast,seval];rfl)));(focus((repeat'(first|rfl));done)))|((with_reducible apply cC);(focus(first|(simp only[push_cast,seval];rfl)));(first|with_reducible exact bj rfl|with_reducible apply qD))|(with_reducible first|apply Hg)));done)))))
 all_goals(intros;exact())
noncomputable def iY (x0:List UInt8) (x1:UInt8):Option (Int):=(mY.1 x0 x1).1
theorem q9 (x0:List UInt8) (x1:UInt8):∀ r,iY x0 x1=some r->aa Tryz.prog 110 [.str x0,.int .u8 (x1).toNat] (.int .i64 r):=(mY.1 x0 x1).2
noncomputable def nM (x0:List a8) (x1:mX):Option ((List (List UInt8))):=(mY.2 x0 x1).1
theorem yF (x0:List a8) (x1:mX):∀ r,nM x0 x1=some r->aa Tryz.prog 69 [.slice (List.map bd x0),.agg (jt x1)] (.slice (List.map en r)):=(mY.2 x0 x1).2
def gi:SC:=
 (.seq (.reg [.r 4 (.boxI (.t 1)),
   .r 6 (.mv (.c (.d (.int .i64 0))))])
 (.seq (.seq (.reg [.r 7 (.fld 0 (.t 4)),
   .o 8 (.ld1 (.t 7)),
   .r 9 (.bin .eql (.t 8) (.c (.d (.str []))))])
 (.cond (.t 9)
  (.reg [.r 10 (.mv (.t 0)),
    .r 11 (.nilc (.t 10)),
    .r 12 (.fld 0 (.t 11)),
    .o 13 (.ld1 (.t 12)),
    .r 14 (.bin .add (.t 13) (.c (.d (.int .i64 1)))),
    .r 15 (.nilc (.t 10)),
    .r 16 (.fld 0 (.t 15)),
    .w 0 (.st 1 (.t 16) (.t 14))])
  .any))
 (.seq (.block 0 (.seq (.reg (.r 18 (.mv (.t 0)):: .r 19 (.nilc (.t 18)):: .r 20 (.fld 0 (.t 19)):: .o 21 (.ld1 (.t 20)):: .r 22 (.bin .gtr (.t 21) (.c (.d (.int .i64 2000)))):: .r 23 (.mv (.t 22))::aV [24,25] 23 false (.r 24 (.mv (.t 2)):: .r 25 (.bin .gtr (.t 24) (.c (.d (.int .i64 6))))::[]) (.r 26 (.pick (.t 23) (.c (.d (.bool true))) (.t 25)):: .r 17 (.mv (.t 26))::[])))
  (.cond (.t 17)
   .any
   (.seq (.reg (.r 28 (.fld 0 (.t 4)):: .o 29 (.ld1 (.t 28)):: .r 30 (.bin .neq (.t 29) (.c (.d (.str [])))):: .r 31 (.mv (.t 30))::aV [32,33,34,35] 31 true (.r 32 (.fld 0 (.t 4)):: .r 33 (.ld1 (.t 32)):: .c 34 (.f 47) [.t 33]:: .r 35 (.not (.t 34))::[]) (.r 36 (.pick (.t 31) (.t 35) (.c (.d (.bool false)))):: .r 27 (.mv (.t 36))::[])))
   (.cond (.t 27)
    .any
    (.seq (.reg (.r 38 (.fld 0 (.t 4)):: .o 39 (.ld1 (.t 38)):: .r 40 (.bin .eql (.t 39) (.c (.d (.str [])))):: .r 41 (.mv (.t 40))::aV [42,43,44,45] 41 true (.r 42 (.fld 3 (.t 4)):: .r 43 (.ld1 (.t 42)):: .r 44 (.len (.t 43)):: .r 45 (.bin .gtr (.t 44) (.c (.d (.int .i64 0))))::[]) (.r 46 (.pick (.t 41) (.t 45) (.c (.d (.bool false)))):: .r 37 (.mv (.t 46))::[])))
    (.cond (.t 37)
     .any
     (.seq (.reg (.r 48 (.fld 0 (.t 4)):: .o 49 (.ld1 (.t 48)):: .r 50 (.bin .neq (.t 49) (.c (.d (.str [])))):: .r 51 (.mv (.t 50))::aV [52,53,54,55,56,57,58,59,60,61,62,63,64,65,66,67,68,69] 51 true (.r 52 (.fld 1 (.t 4)):: .r 53 (.ldA 2 (.t 52)):: .c 54 (.f 128) [.t 53]:: .r 55 (.not (.t 54)):: .r 56 (.mv (.t 55))::aV [57,58,59,60] 56 false (.r 57 (.fld 3 (.t 4)):: .r 58 (.ld1 (.t 57)):: .r 59 (.len (.t 58)):: .r 60 (.bin .eql (.t 59) (.c (.d (.int .i64 0))))::[]) (.r 61 (.pick (.t 56) (.c (.d (.bool true))) (.t 60)):: .r 62 (.mv (.t 61))::aV [63,64,65,66,67,68] 62 false (.r 63 (.fld 3 (.t 4)):: .r 64 (.ld1 (.t 63)):: .r 65 (.idx 4 (.t 64) (.c (.d (.int .i64 0)))):: .r 66 (.fld 0 (.t 65)):: .r 67 (.ld1 (.t 66)):: .r 68 (.bin .neq (.t 67) (.c (.d (.str []))))::[]) (.r 69 (.pick (.t 62) (.c (.d (.bool true))) (.t 68))::[]))) (.r 70 (.pick (.t 51) (.t 69) (.c (.d (.bool false)))):: .r 47 (.mv (.t 70))::[])))
     (.cond (.t 47)
      .any
      (.seq (.reg [.r 72 (.fld 0 (.t 4)),
        .o 73 (.ld1 (.t 72)),
        .r 74 (.bin .eql (.t 73) (.c (.d (.str [])))),
        .r 71 (.mv (.t 74))])
      (.cond (.t 71)
       (.seq (.reg [.r 75 (.fld 1 (.t 4)),
         .o 76 (.ldA 2 (.t 75)),
         .r 77 (.bslice 2 [.t 76]),
         .c 78 (.f 26) [.t 77],
         .r 6 (.mv (.t 78))])
       .ret)
       .any)))))))))))
 .any)))
theorem lG:fits Tryz.prog 87 Tryz.f87 gi [.t 6] 3=true:=oK
set_option maxRecDepth 100000 in
set_option maxHeartbeats 40000000 in
noncomputable def vq:(∀ (x0:dk) (x1:a8) (x2:Int),{m:Option ((Int)×dk)//∀ r,m=some r->cF Tryz.prog 87 (.own (.pt [.sh]) (.ptr (dq x0))::List.map SV.d ([.agg (bd x1),.int .i64 x2]:List DV)) (.d (.int .i64 r.1)) (.own (.pt [.sh]) (.ptr (dq r.2))::List.map SV.d ([.agg (bd x1),.int .i64 x2]:List DV))}):=by
 (intro x0 x1 x2;apply Subtype.mk;intro r hm;apply je (N:=85) (k:=3) Tryz.func87 lG oK rfl rfl oD;unfold gi)
 repeat'(first|with_reducible refine bA ?_|with_reducible refine bt ?_|with_reducible refine bm ?_|with_reducible refine bR ?_|with_reducible refine bv ?_|with_reducible refine bB ?_|with_reducible refine cb ?_|with_reducible refine cg ?_|with_reducible refine dI ?_|((with_reducible apply dz hm);(iterate 2 (simp only[push_cast,seval];rfl));(intro _;rfl);intro e hm)|((with_reducible apply im);(simp only[push_cast,seval];rfl);(first|exact trivial))|(with_reducible apply yl hm)|((with_reducible apply fG hm);(simp only[push_cast,seval];rfl);rfl;intro v hm;rotate_left;intro v g hm)|((with_reducible apply qC hm);(simp only[push_cast,seval];rfl);rfl;intro v hm;rotate_left;intro v g hm)|((with_reducible apply fg hm);(simp only[push_cast,seval];rfl);(first|apply pW _|apply xE _|apply nf _);(any_goals((repeat'(first|rfl|(with_reducible first|apply cT|apply eo|apply cU|apply ez)));done));intro x hm)|((with_reducible apply wM);(simp only[push_cast,seval];rfl);(first|exact trivial))|((with_reducible apply aO hm);(simp only[push_cast,seval];rfl);intro hm;rotate_left;intro hm)|((with_reducible apply cJ hm);(simp only[push_cast,seval];rfl))|(((with_reducible apply Ej hm (ms:=[.sh]));(focus(exact dB.refl _));(focus(simp only[push_cast,seval];(try rfl);done));(focus((repeat'(first|(with_reducible first|apply j8)|((with_reducible apply aP);(focus(first|rfl));(focus((repeat'(first|rfl));done)))));done));(focus(intro _;rfl));(focus(simp only[push_cast,seval];(try rfl);done));(focus(simp only[push_cast,seval];(try rfl);done));(focus(simp only[push_cast,seval];(try rfl);done));(focus(simp only[push_cast,seval];(try rfl);done));(focus(first|(apply Lu;(focus((repeat'(first|rfl));done))))))))
 all_goals(intros;exact())
noncomputable def cP (x0:dk) (x1:a8) (x2:Int):Option ((Int)×dk):=(vq x0 x1 x2).1
theorem kZ (x0:dk) (x1:a8) (x2:Int):∀ r,cP x0 x1 x2=some r->cF Tryz.prog 87 (.own (.pt [.sh]) (.ptr (dq x0))::List.map SV.d ([.agg (bd x1),.int .i64 x2]:List DV)) (.d (.int .i64 r.1)) (.own (.pt [.sh]) (.ptr (dq r.2))::List.map SV.d ([.agg (bd x1),.int .i64 x2]:List DV)):=(vq x0 x1 x2).2
def mB:SC:=
 (.seq (.reg [.r 55 (.bin .lss (.t 54) (.t 53))])
 (.seq (.cond (.t 55)
  .any
  (.exit 0))
 .any))
def q_:SC:= .block 0 (.loop mB)
def uf:SC:=
 (.seq (.reg [.w 2 (.boxM (.c (.agg [.nils,.d (.str []),.d (.int .i64 0),.d (.int .i64 0)]))),
   .r 3 (.mv (.c (.d (.bool false))))])
 (.seq (.reg [.r 13 (.build [.nils,.d (.str []),.d (.int .i64 0),.d (.int .i64 0)] []),
   .w 4 (.boxM (.c (.agg [.nils,.d (.str []),.d (.int .i64 0),.d (.int .i64 0)]))),
   .w 0 (.st 4 (.t 4) (.t 13))])
 (.seq (.seq (.reg [.r 14 (.mv (.t 0)),
   .c 15 (.f 110) [.t 14,.c (.d (.int .u8 47))],
   .r 5 (.mv (.t 15))])
 (.seq (.reg [.r 16 (.mv (.t 5)),
   .r 17 (.bin .geq (.t 16) (.c (.d (.int .i64 0))))])
 (.cond (.t 17)
  .any
  .skip)))
 (.seq (.reg [.r 34 (.mv (.t 0)),
   .c 35 (.f 112) [.t 34,.c (.d (.str [46]))],
   .r 8 (.mv (.t 35))])
 (.seq (.seq (.reg (.r 36 (.mv (.t 8)):: .r 37 (.len (.t 36)):: .r 38 (.bin .gtr (.t 37) (.c (.d (.int .i64 3)))):: .r 39 (.mv (.t 38))::aV [40,41,42,43,44] 39 false (.r 40 (.mv (.t 8)):: .r 41 (.idx 1 (.t 40) (.c (.d (.int .i64 0)))):: .r 42 (.ld1 (.t 41)):: .c 43 (.f 52) [.t 42]:: .r 44 (.not (.t 43))::[]) (.r 45 (.pick (.t 39) (.c (.d (.bool true))) (.t 44))::[])))
 (.cond (.t 45)
  .any
  .skip))
 (.seq (.reg [.r 47 (.mv (.t 8)),
   .r 48 (.idx 1 (.t 47) (.c (.d (.int .i64 0)))),
   .o 49 (.ld1 (.t 48)),
   .r 50 (.fld 1 (.t 4)),
   .w 0 (.st 1 (.t 50) (.t 49))])
 (.seq (.seq (.reg [.r 51 (.mv (.t 8)),
   .r 52 (.slc 1 (.t 51) (some (.c (.d (.int .i64 1)))) none),
   .r 53 (.len (.t 52)),
   .r 54 (.mv (.c (.d (.int .i64 0))))])
 q_)
 (.seq (.reg [.o 82 (.ldA 4 (.t 4)),
   .w 0 (.st 4 (.t 2) (.t 82)),
   .r 3 (.mv (.c (.d (.bool true))))])
 .ret))))))))
theorem zz:fits Tryz.prog 68 Tryz.f68 uf [.cell 2 4,.t 3] 1=true:=oK
set_option maxRecDepth 100000 in
set_option maxHeartbeats 40000000 in
noncomputable def vr:(∀ (x0:List UInt8),{m:Option (mX×Bool)//∀ r,m=some r->aa Tryz.prog 68 [.str x0] (.tup [.agg (jt r.1),.bool r.2])}):=by
 (intro x0;apply Subtype.mk;intro r hm;apply af Tryz.func68 zz;unfold uf)
 repeat'(first|with_reducible refine bA ?_|with_reducible refine bt ?_|with_reducible refine bl ?_|with_reducible refine bR ?_|with_reducible refine cw ?_|with_reducible refine bv ?_|with_reducible refine bB ?_|with_reducible refine cx ?_|with_reducible refine dI ?_|((with_reducible apply dz hm);(iterate 2 (simp only[push_cast,seval];rfl));(intro _;rfl);intro e hm)|((with_reducible apply Ee hm);(iterate 3 (simp only[push_cast,seval];rfl));(intro _;rfl);intro e hm)|((with_reducible apply im);(simp only[push_cast,seval];rfl);(first|exact trivial))|(with_reducible apply yl hm)|((with_reducible apply qC hm);(simp only[push_cast,seval];rfl);rfl;intro v hm;rotate_left;intro v g hm)|((with_reducible apply fg hm);(simp only[push_cast,seval];rfl);(first|apply q9 _ _|apply xM _ _|apply nR _);(any_goals((repeat'(first|rfl|(with_reducible first|apply eo)|(with_reducible apply Ef;decide)));done));intro x hm)|((with_reducible apply wM);(simp only[push_cast,seval];rfl);(first|exact trivial))|((with_reducible apply aO hm);(simp only[push_cast,seval];rfl);intro hm;rotate_left;intro hm)|((with_reducible apply jO hm);(focus(simp only[bu,dc,RV.get,push_cast,seval];rfl));(focus(first|(dsimp only;done)));(focus((repeat'(first|rfl|(with_reducible first|apply B3|apply wP|apply p5|apply cT|apply eo|apply cU)));done)))|((with_reducible apply cJ hm);(simp only[push_cast,seval];rfl))|((with_reducible apply bE hm);intro r hm)|((apply az (b:=0) (X:=q_) (x:=mB) rfl (fun(c:Ch×Ch×SV×SV) (s:Unit)=>st [(2,.ref 2 0),(4,.ref 4 0),(53,c.2.2.1),(54,c.2.2.2)] [(2,c.1),(4,c.2.1)]) (c:=(_,_,_,_)) (s0:=()) hm);(focus(first|(dsimp only;done)));(with_reducible refine cN.mk ?_ ?_))|((apply cZ (s':=()) hm);(focus(first|(dsimp only;done))))|(((with_reducible apply dC.of);(focus(first|(dsimp only;done)));(focus((intro _;repeat'(first|with_reducible exact bo|with_reducible refine aG ?_))));(intro s o hm;first|unfold mB);rotate_left;intro s hm))|(((apply aW;(repeat'(first|with_reducible exact aw|with_reducible exact ax|with_reducible apply ap|with_reducible apply aU|((with_reducible apply aP);(focus(first|(simp only[push_cast,seval];rfl)));(focus((repeat'(first|rfl));done)))|((with_reducible apply cC);(focus(first|(simp only[push_cast,seval];rfl)));(first|with_reducible exact bj rfl))));done))))
 all_goals(intros;exact())
noncomputable def ra (x0:List UInt8):Option (mX×Bool):=(vr x0).1
theorem sa (x0:List UInt8):∀ r,ra x0=some r->aa Tryz.prog 68 [.str x0] (.tup [.agg (jt r.1),.bool r.2]):=(vr x0).2
def dF:SC:=
 (.seq (.reg [.r 13 (.bin .lss (.t 12) (.t 11))])
 (.seq (.cond (.t 13)
  .skip
  (.exit 0))
 (.seq (.block 1 (.seq (.reg [.r 14 (.idx 4 (.t 10) (.t 12)),
    .o 15 (.ldA 4 (.t 14)),
    .w 8 (.boxM (.c (.agg [.d (.str []),.d (.str []),.nils,.nils]))),
    .w 0 (.st 4 (.t 8) (.t 15))])
  (.seq (.reg [.r 16 (.mv (.t 0)),
    .o 17 (.ldA 4 (.t 8)),
    .r 18 (.mv (.t 2)),
    .p (some 19) (.f 87) [.t 16,.t 17,.t 18],
    .r 9 (.mv (.t 19))])
  (.seq (.reg [.r 20 (.mv (.t 9)),
    .r 21 (.bin .neq (.t 20) (.c (.d (.int .i64 0))))])
  (.cond (.t 21)
   .any
   .skip)))))
 (.reg [.r 23 (.bin .add (.t 12) (.c (.d (.int .i64 1)))),
   .r 12 (.mv (.t 23))]))))
def fJ:SC:= .block 0 (.loop dF)
def gQ:SC:=
 (.seq (.reg [.r 6 (.mv (.c (.d (.int .i64 0))))])
 (.seq (.seq (.reg [.r 10 (.mv (.t 1)),
   .r 11 (.len (.t 10)),
   .r 12 (.mv (.c (.d (.int .i64 0))))])
 fJ)
 (.seq (.reg [.r 6 (.mv (.c (.d (.int .i64 0))))])
 .ret)))
theorem mC:fits Tryz.prog 39 Tryz.f39 gQ [.t 6] 3=true:=oK
set_option maxRecDepth 100000 in
set_option maxHeartbeats 40000000 in
noncomputable def vt:(∀ (x0:dk) (x1:List a8) (x2:Int),{m:Option ((Int)×dk)//∀ r,m=some r->cF Tryz.prog 39 (.own (.pt [.sh]) (.ptr (dq x0))::List.map SV.d ([.slice (List.map bd x1),.int .i64 x2]:List DV)) (.d (.int .i64 r.1)) (.own (.pt [.sh]) (.ptr (dq r.2))::List.map SV.d ([.slice (List.map bd x1),.int .i64 x2]:List DV))}):=by
 (intro x0 x1 x2;apply Subtype.mk;intro r hm;apply je (N:=24) (k:=3) Tryz.func39 mC oK rfl rfl oD;unfold gQ)
 repeat'(first|with_reducible refine bA ?_|with_reducible refine bt ?_|with_reducible refine bm ?_|with_reducible refine bl ?_|with_reducible refine bR ?_|with_reducible refine cw ?_|with_reducible refine bv ?_|with_reducible refine bB ?_|with_reducible refine cx ?_|with_reducible refine bq ?_|with_reducible refine dI ?_|((with_reducible apply dz hm);(iterate 2 (simp only[push_cast,seval];rfl));(intro _;rfl);intro e hm)|((with_reducible apply im);(simp only[push_cast,seval];rfl);(first|exact trivial))|(with_reducible apply yl hm)|((with_reducible apply wM);(simp only[push_cast,seval];rfl);(first|exact trivial))|((with_reducible apply aO hm);(simp only[push_cast,seval];rfl);intro hm;rotate_left;intro hm)|((with_reducible apply bE hm);intro r hm)|((apply az (b:=0) (X:=fJ) (x:=dF) rfl (fun(c:SV×SV×SV×SV×SV) (s:Int×Int)=>st [(0,.ref 0 0),(2,c.1),(10,c.2.1),(11,c.2.2.1),(12,.d (.int .i64 s.2)),(24,.ref 0 0),(25,c.2.2.2.1),(26,c.2.2.2.2)] [(0,.box (rZ s.1))]) (c:=(_,_,_,_,_)) (s0:=(_,_)) hm);(focus(first|(dsimp only;done)));(with_reducible refine cN.mk ?_ ?_))|((apply bG (s':=(_,_)) hm);(focus(first|(dsimp only;done))))|((apply cZ (s':=(_,_)) hm);(focus(first|(dsimp only;done))))|(((with_reducible apply At hm (id:=0) (ms:=[.sh]));(focus(exact dB.refl _));(focus(simp only[push_cast,seval];(try rfl);done));(focus(simp only[push_cast,seval];(try rfl);done));(focus(simp only[push_cast,seval];(try rfl);done));(focus((repeat'(first|(with_reducible first|apply j8)|((with_reducible apply aP);(focus(first|rfl));(focus((repeat'(first|rfl));done)))));done));(focus rfl);(first|apply kZ _ _ _);(any_goals(focus((repeat'(first|rfl|(with_reducible first|apply vp|apply p5|apply eo)));done)));(focus(intro _;exact⟨rfl,rfl,rfl⟩));intro y hm))|(((with_reducible apply Ej hm (ms:=[.sh]));(focus(exact dB.refl _));(focus(simp only[push_cast,seval];(try rfl);done));(focus((repeat'(first|(with_reducible first|apply j8)|((with_reducible apply aP);(focus(first|rfl));(focus((repeat'(first|rfl));done)))));done));(focus(intro _;rfl));(focus(simp only[push_cast,seval];(try rfl);done));(focus(simp only[push_cast,seval];(try rfl);done));(focus(simp only[push_cast,seval];(try rfl);done));(focus(simp only[push_cast,seval];(try rfl);done));(focus(first|(apply Lu;(focus((repeat'(first|rfl));done)))))))|(((with_reducible apply dC.of);(focus(first|(dsimp only;done)));(focus((intro _;repeat'(first|with_reducible exact dy|with_reducible refine aG ?_))));(intro s o hm;first|unfold dF);rotate_left;intro s hm))|(((apply aW;(repeat'(first|with_reducible exact aw|with_reducible exact ax|with_reducible apply ap|with_reducible apply aU|((with_reducible apply aP);(focus(first|(simp only[push_cast,seval];rfl)));(focus((repeat'(first|rfl));done)))|((with_reducible apply cC);(focus(first|(simp only[push_cast,seval];rfl)));(first|with_reducible exact bj rfl))));done))))
 all_goals(intros;exact())
noncomputable def hJ (x0:dk) (x1:List a8) (x2:Int):Option ((Int)×dk):=(vt x0 x1 x2).1
theorem lY (x0:dk) (x1:List a8) (x2:Int):∀ r,hJ x0 x1 x2=some r->cF Tryz.prog 39 (.own (.pt [.sh]) (.ptr (dq x0))::List.map SV.d ([.slice (List.map bd x1),.int .i64 x2]:List DV)) (.d (.int .i64 r.1)) (.own (.pt [.sh]) (.ptr (dq r.2))::List.map SV.d ([.slice (List.map bd x1),.int .i64 x2]:List DV)):=(vt x0 x1 x2).2
def p_:SC:=
 (.seq (.reg [.r 2 (.mv (.c (.d (.int .i64 0))))])
 (.seq (.seq (.reg [.r 5 (.mv (.t 0)),
   .r 6 (.lenT (.t 5)),
   .r 7 (.bin .gtr (.t 6) (.c (.d (.int .i64 200))))])
 (.cond (.t 7)
  .any
  .skip))
 (.seq (.seq (.reg [.r 9 (.mv (.t 0)),
   .c 10 (.f 68) [.t 9],
   .r 8 (.mv (.t 10)),
   .r 11 (.ext (.t 8) 0),
   .r 12 (.ext (.t 8) 1),
   .w 3 (.boxM (.c (.agg [.nils,.d (.str []),.d (.int .i64 0),.d (.int .i64 0)]))),
   .w 0 (.st 4 (.t 3) (.t 11)),
   .r 4 (.mv (.t 12))])
 (.seq (.reg [.r 13 (.mv (.t 4)),
   .r 14 (.not (.t 13))])
 (.cond (.t 14)
  .any
  .skip)))
 (.seq (.reg [.r 2 (.mv (.c (.d (.int .i64 0))))])
 .ret))))
theorem vu:fits Tryz.prog 67 Tryz.f67 p_ [.t 2] 1=true:=oK
set_option maxRecDepth 100000 in
set_option maxHeartbeats 40000000 in
noncomputable def vw:(∀ (x0:List UInt8),{m:Option (Int)//∀ r,m=some r->aa Tryz.prog 67 [.str x0] (.int .i64 r)}):=by
 (intro x0;apply Subtype.mk;intro r hm;apply af Tryz.func67 vu;unfold p_)
 repeat'(first|with_reducible refine bA ?_|with_reducible refine bt ?_|with_reducible refine bl ?_|with_reducible refine bR ?_|with_reducible refine bv ?_|with_reducible refine bB ?_|((with_reducible apply im);(simp only[push_cast,seval];rfl);(first|exact trivial))|(with_reducible apply yl hm)|((with_reducible apply fg hm);(simp only[push_cast,seval];rfl);(first|apply sa _);(any_goals((repeat'(first|rfl));done));intro x hm)|((with_reducible apply wM);(simp only[push_cast,seval];rfl);(first|exact trivial))|((with_reducible apply aO hm);(simp only[push_cast,seval];rfl);intro hm;rotate_left;intro hm)|((with_reducible apply bQ hm);(focus(simp only[bu,dc,RV.get,push_cast,seval];rfl));(focus((repeat'(first|rfl));done))))
 all_goals(intros;exact())
noncomputable def rb (x0:List UInt8):Option (Int):=(vw x0).1
theorem uq (x0:List UInt8):∀ r,rb x0=some r->aa Tryz.prog 67 [.str x0] (.int .i64 r):=(vw x0).2
def qa:SC:=
 (.seq (.reg [.r 2 (.mv (.c (.d (.int .i64 0))))])
 (.seq (.reg [.r 3 (.build [.d (.int .i64 0)] []),
   .w 4 (.boxM (.t 3)),
   .r 5 (.mv (.t 0)),
   .p (some 6) (.f 39) [.t 4,.t 5,.c (.d (.int .i64 0))],
   .r 2 (.mv (.t 6))])
 .ret))
theorem vz:fits Tryz.prog 18 Tryz.f18 qa [.t 2] 1=true:=oK
set_option maxRecDepth 100000 in
set_option maxHeartbeats 40000000 in
noncomputable def vA:(∀ (x0:List a8),{m:Option (Int)//∀ r,m=some r->aa Tryz.prog 18 [.slice (List.map bd x0)] (.int .i64 r)}):=by
 (intro x0;apply Subtype.mk;intro r hm;apply af Tryz.func18 vz;unfold qa)
 repeat'(first|with_reducible refine bA ?_|with_reducible refine bt ?_|with_reducible refine bR ?_|with_reducible refine bv ?_|with_reducible refine bB ?_|((with_reducible apply im);(simp only[push_cast,seval];rfl);(first|exact trivial))|((with_reducible apply wM);(simp only[push_cast,seval];rfl);(first|exact trivial))|((with_reducible apply bQ hm);(focus(simp only[bu,dc,RV.get,push_cast,seval];rfl));(focus((repeat'(first|rfl));done)))|(((with_reducible apply At hm (id:=4) (ms:=[.sh]));(focus(exact dB.refl _));(focus(simp only[push_cast,seval];(try rfl);done));(focus(simp only[push_cast,seval];(try rfl);done));(focus(simp only[push_cast,seval];(try rfl);done));(focus((repeat'(first|(with_reducible first|apply j8)|((with_reducible apply aP);(focus(first|rfl));(focus((repeat'(first|rfl));done)))));done));(focus rfl);(first|apply lY _ _ _);(any_goals(focus((repeat'(first|rfl));done)));(focus(intro _;exact⟨rfl,rfl,rfl⟩));intro y hm)))
noncomputable def mD (x0:List a8):Option (Int):=(vA x0).1
theorem ur (x0:List a8):∀ r,mD x0=some r->aa Tryz.prog 18 [.slice (List.map bd x0)] (.int .i64 r):=(vA x0).2
def vB:SC:=
 (.seq (.reg [.r 4 (.mv (.c (.nils))),
   .r 5 (.mv (.c (.d (.int .i64 0))))])
 (.seq (.seq (.reg [.r 10 (.mv (.t 0)),
   .c 11 (.f 18) [.t 10],
   .r 6 (.mv (.t 11))])
 (.seq (.reg [.r 12 (.mv (.t 6)),
   .r 13 (.bin .neq (.t 12) (.c (.d (.int .i64 0))))])
 (.cond (.t 13)
  (.seq (.reg [.r 14 (.mv (.t 6)),
    .r 4 (.mv (.c (.nils))),
    .r 5 (.mv (.t 14))])
  .ret)
  .skip)))
 (.seq (.seq (.reg [.r 15 (.mv (.t 1)),
   .c 16 (.f 67) [.t 15],
   .r 7 (.mv (.t 16))])
 (.seq (.reg [.r 17 (.mv (.t 7)),
   .r 18 (.bin .neq (.t 17) (.c (.d (.int .i64 0))))])
 (.cond (.t 18)
  (.seq (.reg [.r 19 (.mv (.t 7)),
    .r 4 (.mv (.c (.nils))),
    .r 5 (.mv (.t 19))])
  .ret)
  .skip)))
 (.seq (.reg [.r 21 (.mv (.t 1)),
   .c 22 (.f 68) [.t 21],
   .r 20 (.mv (.t 22)),
   .r 23 (.ext (.t 20) 0),
   .r 24 (.ext (.t 20) 1),
   .w 8 (.boxM (.c (.agg [.nils,.d (.str []),.d (.int .i64 0),.d (.int .i64 0)]))),
   .w 0 (.st 4 (.t 8) (.t 23)),
   .r 9 (.mv (.t 24))])
 (.seq (.reg [.r 25 (.mv (.t 0)),
   .o 26 (.ldA 4 (.t 8)),
   .c 27 (.f 69) [.t 25,.t 26],
   .r 4 (.mv (.t 27)),
   .r 5 (.mv (.c (.d (.int .i64 0))))])
 .ret)))))
theorem Az:fits Tryz.prog 31 Tryz.f31 vB [.t 4,.t 5] 2=true:=oK
set_option maxRecDepth 100000 in
set_option maxHeartbeats 40000000 in
noncomputable def vC:(∀ (x0:List a8) (x1:List UInt8),{m:Option ((List (List UInt8))×Int)//∀ r,m=some r->aa Tryz.prog 31 [.slice (List.map bd x0),.str x1] (.tup [.slice (List.map en r.1),.int .i64 r.2])}):=by
 (intro x0 x1;apply Subtype.mk;intro r hm;apply af Tryz.func31 Az;unfold vB)
 repeat'(first|with_reducible refine bA ?_|with_reducible refine bt ?_|with_reducible refine bl ?_|with_reducible refine bR ?_|with_reducible refine bv ?_|with_reducible refine bB ?_|with_reducible refine cb ?_|with_reducible refine dI ?_|((with_reducible apply im);(simp only[push_cast,seval];rfl);(first|exact trivial))|((with_reducible apply fg hm);(simp only[push_cast,seval];rfl);(first|apply ur _|apply uq _|apply sa _|apply yF _ _);(any_goals((repeat'(first|rfl));done));intro x hm)|((with_reducible apply wM);(simp only[push_cast,seval];rfl);(first|exact trivial))|((with_reducible apply aO hm);(simp only[push_cast,seval];rfl);intro hm;rotate_left;intro hm)|((with_reducible apply jO hm);(focus(simp only[bu,dc,RV.get,push_cast,seval];rfl));(focus(first|(dsimp only;done)));(focus((repeat'(first|rfl|(with_reducible first|apply wP|apply cT|apply eo|apply cU)));done))))
noncomputable def wR (x0:List a8) (x1:List UInt8):Option ((List (List UInt8))×Int):=(vC x0 x1).1
theorem zA (x0:List a8) (x1:List UInt8):∀ r,wR x0 x1=some r->aa Tryz.prog 31 [.slice (List.map bd x0),.str x1] (.tup [.slice (List.map en r.1),.int .i64 r.2]):=(vC x0 x1).2
def lZ:SC:=
 (.seq (.reg [.r 0 (.mv (.c (.d (.bool false))))])
 (.seq (.reg [.r 4 (.build [.d (.str []),.nils] [(0,1,.c (.d (.str [66,71,77])))]),
   .r 5 (.build [.d (.str []),.d (.str []),.nils,.nils] [(1,2,.t 4)]),
   .r 6 (.bslice 4 [.t 5]),
   .c 7 (.f 31) [.t 6,.c (.d (.str [66,71,77]))],
   .r 3 (.mv (.t 7)),
   .r 8 (.ext (.t 3) 0),
   .r 9 (.ext (.t 3) 1),
   .r 1 (.mv (.t 8)),
   .r 2 (.mv (.t 9))])
 (.seq (.reg (.r 10 (.mv (.t 2)):: .r 11 (.bin .eql (.t 10) (.c (.d (.int .i64 0)))):: .r 12 (.mv (.t 11))::aV [13,14,15] 12 true (.r 13 (.mv (.t 1)):: .r 14 (.len (.t 13)):: .r 15 (.bin .eql (.t 14) (.c (.d (.int .i64 1))))::[]) (.r 16 (.pick (.t 12) (.t 15) (.c (.d (.bool false)))):: .r 17 (.mv (.t 16))::aV [18,19,20,21] 17 true (.r 18 (.mv (.t 1)):: .r 19 (.idx 1 (.t 18) (.c (.d (.int .i64 0)))):: .r 20 (.ld1 (.t 19)):: .r 21 (.bin .eql (.t 20) (.c (.d (.str [66,71,77]))))::[]) (.r 22 (.pick (.t 17) (.t 21) (.c (.d (.bool false)))):: .r 0 (.mv (.t 22))::[]))))
 .ret)))
theorem rF:fits Tryz.prog 10 Tryz.f10 lZ [.t 0] 0=true:=oK
set_option maxRecDepth 100000 in
set_option maxHeartbeats 40000000 in
noncomputable def vD:({m:Option (Bool)//∀ r,m=some r->aa Tryz.prog 10 [] (.bool r)}):=by
 (apply Subtype.mk;intro r hm;apply af Tryz.func10 rF;unfold lZ)
 repeat'(first|with_reducible refine bA ?_|with_reducible refine bt ?_|with_reducible refine bR ?_|with_reducible refine bv ?_|with_reducible refine bB ?_|((with_reducible apply dz hm);(iterate 2 (simp only[push_cast,seval];rfl));(intro _;rfl);intro e hm)|((with_reducible apply im);(simp only[push_cast,seval];rfl);(first|exact trivial))|((with_reducible apply fG hm);(simp only[push_cast,seval];rfl);rfl;intro v hm;rotate_left;intro v g hm)|((with_reducible apply fg hm);(simp only[push_cast,seval];rfl);(first|apply zA _ _);(any_goals((repeat'(first|rfl|(with_reducible first|apply AD|apply vp|apply cT|apply eo|apply cU|apply ez)));done));intro x hm)|((with_reducible apply bQ hm);(focus(simp only[bu,dc,RV.get,push_cast,seval];rfl));(focus((repeat'(first|rfl));done)))|((with_reducible apply cJ hm);(simp only[push_cast,seval];rfl)))
noncomputable def iZ:Option (Bool):=(vD).1
theorem rc:∀ r,iZ=some r->aa Tryz.prog 10 [] (.bool r):=(vD).2
def sM:SC:=
 (.seq (.reg [.r 2 (.mv (.c (.d (.bool false))))])
 (.seq (.reg [.r 3 (.mv (.t 0)),
   .c 4 (.f 114) [.t 3,.c (.d (.int .i64 1)),.c (.d (.int .i64 5))],
   .r 5 (.not (.t 4)),
   .r 2 (.mv (.t 5))])
 .ret))
theorem yw:fits Tryz.prog 205 Tryz.f205 sM [.t 2] 1=true:=oK
def ml:SC:=
 (.seq (.reg [.r 14 (.bin .lss (.t 13) (.t 12))])
 (.seq (.cond (.t 14)
  .skip
  (.exit 0))
 (.seq (.block 1 (.seq (.reg [.r 15 (.idx 1 (.t 11) (.t 13)),
    .o 16 (.ld1 (.t 15)),
    .r 8 (.mv (.t 16))])
  (.seq (.seq (.reg (.r 17 (.mv (.t 0)):: .r 18 (.lenT (.t 17)):: .r 19 (.mv (.t 8)):: .r 20 (.bin .lss (.t 18) (.t 19)):: .r 21 (.mv (.t 20))::aV [22,23,24,25,26] 21 false (.r 22 (.mv (.t 0)):: .r 23 (.mv (.t 8)):: .r 24 (.sslc (.t 22) none (some (.t 23))):: .c 25 (.f 151) [.t 24]:: .r 26 (.not (.t 25))::[]) (.r 27 (.pick (.t 21) (.c (.d (.bool true))) (.t 26))::[])))
  (.cond (.t 27)
   (.seq (.reg [.r 4 (.mv (.c (.nils))),
     .r 5 (.mv (.c (.d (.bool false))))])
   .ret)
   .skip))
  (.seq (.reg [.r 29 (.mv (.t 0)),
    .r 30 (.mv (.t 8)),
    .r 31 (.sslc (.t 29) none (some (.t 30))),
    .c 32 (.f 152) [.t 31],
    .r 28 (.mv (.t 32)),
    .r 33 (.ext (.t 28) 0),
    .r 34 (.ext (.t 28) 1),
    .r 9 (.mv (.t 33)),
    .r 10 (.mv (.t 34))])
  (.seq (.reg [.r 35 (.mv (.t 6)),
    .r 36 (.mv (.t 9)),
    .r 37 (.bslice 1 [.t 36]),
    .w 38 (.app 3 1 (.t 35) (.t 37)),
    .r 6 (.mv (.t 38))])
  (.reg [.r 39 (.mv (.t 0)),
    .r 40 (.mv (.t 8)),
    .r 41 (.sslc (.t 39) (some (.t 40)) none),
    .r 0 (.mv (.t 41))]))))))
 (.reg [.r 42 (.bin .add (.t 13) (.c (.d (.int .i64 1)))),
   .r 13 (.mv (.t 42))]))))
def qF:SC:= .block 0 (.loop ml)
def t7:SC:=
 (.seq (.reg [.r 4 (.mv (.c (.nils))),
   .r 5 (.mv (.c (.d (.bool false))))])
 (.seq (.reg [.r 6 (.mv (.c (.nils)))])
 (.seq (.seq (.reg [.r 11 (.mv (.t 1)),
   .r 12 (.len (.t 11)),
   .r 13 (.mv (.c (.d (.int .i64 0))))])
 qF)
 (.seq (.reg [.r 43 (.mv (.t 6)),
   .r 44 (.mv (.t 0)),
   .r 45 (.bin .eql (.t 44) (.c (.d (.str [])))),
   .r 4 (.mv (.t 43)),
   .r 5 (.mv (.t 45))])
 .ret))))
theorem zq:fits Tryz.prog 224 Tryz.f224 t7 [.t 4,.t 5] 2=true:=oK
def sN:SC:=
 (.seq (.reg [.r 2 (.mv (.c (.d (.bool false))))])
 (.seq (.reg (.r 3 (.mv (.t 0)):: .r 4 (.bin .rem (.t 3) (.c (.d (.int .i64 4)))):: .r 5 (.bin .eql (.t 4) (.c (.d (.int .i64 0)))):: .r 6 (.mv (.t 5))::aV [7,8,9,10,11,12,13,14] 6 true (.r 7 (.mv (.t 0)):: .r 8 (.bin .rem (.t 7) (.c (.d (.int .i64 100)))):: .r 9 (.bin .neq (.t 8) (.c (.d (.int .i64 0)))):: .r 10 (.mv (.t 9))::aV [11,12,13] 10 false (.r 11 (.mv (.t 0)):: .r 12 (.bin .rem (.t 11) (.c (.d (.int .i64 400)))):: .r 13 (.bin .eql (.t 12) (.c (.d (.int .i64 0))))::[]) (.r 14 (.pick (.t 10) (.c (.d (.bool true))) (.t 13))::[])) (.r 15 (.pick (.t 6) (.t 14) (.c (.d (.bool false)))):: .r 2 (.mv (.t 15))::[])))
 .ret))
theorem yx:fits Tryz.prog 248 Tryz.f248 sN [.t 2] 1=true:=oK
def sO:SC:=
 (.seq (.reg [.r 2 (.mv (.c (.d (.int .i64 0))))])
 (.seq (.reg [.r 4 (.mv (.t 0)),
   .r 5 (.bin .sub (.t 4) (.c (.d (.int .i64 1)))),
   .r 3 (.mv (.t 5))])
 (.seq (.reg [.r 6 (.mv (.t 3)),
   .r 7 (.bin .mul (.c (.d (.int .i64 365))) (.t 6)),
   .r 8 (.mv (.t 3)),
   .r 9 (.bin .quo (.t 8) (.c (.d (.int .i64 4)))),
   .r 10 (.bin .add (.t 7) (.t 9)),
   .r 11 (.mv (.t 3)),
   .r 12 (.bin .quo (.t 11) (.c (.d (.int .i64 100)))),
   .r 13 (.bin .sub (.t 10) (.t 12)),
   .r 14 (.mv (.t 3)),
   .r 15 (.bin .quo (.t 14) (.c (.d (.int .i64 400)))),
   .r 16 (.bin .add (.t 13) (.t 15)),
   .r 2 (.mv (.t 16))])
 .ret)))
theorem yy:fits Tryz.prog 241 Tryz.f241 sO [.t 2] 1=true:=oK
set_option maxRecDepth 100000 in
set_option maxHeartbeats 40000000 in
noncomputable def eE:(∀ (x0:Int),{m:Option (Bool)//∀ r,m=some r->aa Tryz.prog 205 [.int .i64 x0] (.bool r)})×(∀ (x0:List UInt8) (x1:List Int),{m:Option ((List Int)×Bool)//∀ r,m=some r->aa Tryz.prog 224 [.str x0,.slice (List.map yp x1)] (.tup [.slice (List.map yp r.1),.bool r.2])})×(∀ (x0:Int),{m:Option (Bool)//∀ r,m=some r->aa Tryz.prog 248 [.int .i64 x0] (.bool r)})×(∀ (x0:Int),{m:Option (Int)//∀ r,m=some r->aa Tryz.prog 241 [.int .i64 x0] (.int .i64 r)}):=by
 refine⟨?g0, ?g1, ?g2, ?g3⟩
 case' g0=>(intro x0;apply Subtype.mk;intro r hm;apply af Tryz.func205 yw;unfold sM)
 case' g1=>(intro x0 x1;apply Subtype.mk;intro r hm;apply af Tryz.func224 zq;unfold t7)
 case' g2=>(intro x0;apply Subtype.mk;intro r hm;apply af Tryz.func248 yx;unfold sN)
 case' g3=>(intro x0;apply Subtype.mk;intro r hm;apply af Tryz.func241 yy;unfold sO)
 all_goals(repeat'(first|with_reducible refine bA ?_|with_reducible refine bt ?_|with_reducible refine bm ?_|with_reducible refine bl ?_|with_reducible refine bR ?_|with_reducible refine cw ?_|with_reducible refine bv ?_|with_reducible refine bB ?_|with_reducible refine cx ?_|with_reducible refine cb ?_|with_reducible refine bq ?_|with_reducible refine cg ?_|with_reducible refine dI ?_|((with_reducible apply dz hm);(iterate 2 (simp only[push_cast,seval];rfl));(intro _;rfl);intro e hm)|((with_reducible apply He hm);(iterate 3 (simp only[push_cast,seval];rfl));intro e hm)|((with_reducible apply im);(simp only[push_cast,seval];rfl);(first|exact trivial))|((with_reducible apply fG hm);(simp only[push_cast,seval];rfl);rfl;intro v hm;rotate_left;intro v g hm)|((with_reducible apply qC hm);(simp only[push_cast,seval];rfl);rfl;intro v hm;rotate_left;intro v g hm)|((with_reducible apply fg hm);(simp only[push_cast,seval];rfl);(first|apply eX _ _ _|apply jW _|apply yO _);(any_goals((repeat'(first|rfl));done));intro x hm)|((with_reducible apply xt hm);(iterate 4 (simp only[push_cast,seval];rfl));(focus((repeat'(first|rfl|(with_reducible first|apply cT|apply cU|apply ez)));done));decide;(intro _;rfl);intro hm)|((with_reducible apply aO hm);(simp only[push_cast,seval];rfl);intro hm;rotate_left;intro hm)|((with_reducible apply jO hm);(focus(simp only[bu,dc,RV.get,push_cast,seval];rfl));(focus(first|(dsimp only;done)));(focus((repeat'(first|rfl|(with_reducible first|apply wP|apply cT|apply eo|apply cU)));done)))|((with_reducible apply bQ hm);(focus(simp only[bu,dc,RV.get,push_cast,seval];rfl));(focus((repeat'(first|rfl));done)))|((with_reducible apply cJ hm);(simp only[push_cast,seval];rfl))|((with_reducible apply bE hm);intro r hm)|((with_reducible apply di hm);intro r hm)|((apply az (b:=0) (X:=qF) (x:=ml) rfl (fun(c:SV×SV) (s:(List UInt8)×(List Int)×Int)=>st [(0,.d (.str s.1)),(6,.vec 6),(11,c.1),(12,c.2),(13,.d (.int .i64 s.2.2))] [(6,.vec 3 1 (bF yp s.2.1))]) (c:=(_,_)) (s0:=(_,_,_)) hm);(focus(first|(dsimp only;done)));(with_reducible refine cN.mk ?_ ?_);apply dB.trans;(focus(apply tk (slot:=6) (id:=6) (e:=3) (sz:=1);(focus(simp only[push_cast,seval];done)))))|((apply bG (s':=(_,_,_)) hm);(focus(first|(dsimp only;done))))|((apply cZ (s':=(_,_,_)) hm);(focus(first|(dsimp only;done))))|(((with_reducible apply gq hm);intro r hm))|(((with_reducible apply dC.of);(focus(first|(dsimp only;done)));(focus((intro _;repeat'(first|with_reducible exact bo|with_reducible refine aG ?_))));(intro s o hm;first|unfold ml);rotate_left;intro s hm))|(((apply aW;(repeat'(first|with_reducible exact aw|with_reducible exact ax|with_reducible apply ap|with_reducible apply aU|((with_reducible apply aP);(focus(first|(simp only[push_cast,seval];rfl)));(focus((repeat'(first|rfl));done)))|((with_reducible apply cC);(focus(first|(simp only[push_cast,seval];rfl)));(first|with_reducible exact bj rfl|with_reducible apply qD))|(with_reducible first|apply Hg)));done)))))
noncomputable def pN (x0:Int):Option (Bool):=(eE.1 x0).1
theorem xx (x0:Int):∀ r,pN x0=some r->aa Tryz.prog 205 [.int .i64 x0] (.bool r):=(eE.1 x0).2
noncomputable def qG (x0:List UInt8) (x1:List Int):Option ((List Int)×Bool):=(eE.2.1 x0 x1).1
theorem yz (x0:List UInt8) (x1:List Int):∀ r,qG x0 x1=some r->aa Tryz.prog 224 [.str x0,.slice (List.map yp x1)] (.tup [.slice (List.map yp r.1),.bool r.2]):=(eE.2.1 x0 x1).2
noncomputable def pO (x0:Int):Option (Bool):=(eE.2.2.1 x0).1
theorem xy (x0:Int):∀ r,pO x0=some r->aa Tryz.prog 248 [.int .i64 x0] (.bool r):=(eE.2.2.1 x0).2
noncomputable def pP (x0:Int):Option (Int):=(eE.2.2.2 x0).1
theorem xz (x0:Int):∀ r,pP x0=some r->aa Tryz.prog 241 [.int .i64 x0] (.int .i64 r):=(eE.2.2.2 x0).2
def sP:SC:=
 (.seq (.reg [.r 4 (.mv (.c (.d (.int .i64 0))))])
 (.seq (.seq (.reg (.r 5 (.mv (.t 1)):: .r 6 (.bin .eql (.t 5) (.c (.d (.int .i64 2)))):: .r 7 (.mv (.t 6))::aV [8,9] 7 true (.r 8 (.mv (.t 0)):: .c 9 (.f 248) [.t 8]::[]) (.r 10 (.pick (.t 7) (.t 9) (.c (.d (.bool false))))::[])))
 (.cond (.t 10)
  (.seq (.reg [.r 4 (.mv (.c (.d (.int .i64 29))))])
  .ret)
  .skip))
 (.seq (.reg [.r 11 (.build [.d (.int .i64 0),.d (.int .i64 0),.d (.int .i64 0),.d (.int .i64 0),.d (.int .i64 0),.d (.int .i64 0),.d (.int .i64 0),.d (.int .i64 0),.d (.int .i64 0),.d (.int .i64 0),.d (.int .i64 0),.d (.int .i64 0)] [(0,1,.c (.d (.int .i64 31))),(1,1,.c (.d (.int .i64 28))),(2,1,.c (.d (.int .i64 31))),(3,1,.c (.d (.int .i64 30))),(4,1,.c (.d (.int .i64 31))),(5,1,.c (.d (.int .i64 30))),(6,1,.c (.d (.int .i64 31))),(7,1,.c (.d (.int .i64 31))),(8,1,.c (.d (.int .i64 30))),(9,1,.c (.d (.int .i64 31))),(10,1,.c (.d (.int .i64 30))),(11,1,.c (.d (.int .i64 31)))]),
   .r 12 (.mv (.t 1)),
   .r 13 (.bin .sub (.t 12) (.c (.d (.int .i64 1)))),
   .r 14 (.vidx 12 (.t 11) (.t 13)),
   .r 4 (.mv (.t 14))])
 .ret)))
theorem yA:fits Tryz.prog 240 Tryz.f240 sP [.t 4] 2=true:=oK
set_option maxRecDepth 100000 in
set_option maxHeartbeats 40000000 in
noncomputable def uU:(∀ (x0:Int) (x1:Int),{m:Option (Int)//∀ r,m=some r->aa Tryz.prog 240 [.int .i64 x0,.int .i64 x1] (.int .i64 r)}):=by
 (intro x0 x1;apply Subtype.mk;intro r hm;apply af Tryz.func240 yA;unfold sP)
 repeat'(first|with_reducible refine bA ?_|with_reducible refine bt ?_|with_reducible refine bl ?_|with_reducible refine bR ?_|with_reducible refine bv ?_|with_reducible refine bB ?_|with_reducible refine cb ?_|((with_reducible apply MM hm);(focus(simp only[H5,push_cast,seval];rfl));(focus(show tX IntKind.i64 _=_;simp only[tX,PR,Pf];rfl));rfl;(simp only[push_cast,seval];rfl);intro e hm)|((with_reducible apply im);(simp only[push_cast,seval];rfl);(first|exact trivial))|((with_reducible apply fG hm);(simp only[push_cast,seval];rfl);rfl;intro v hm;rotate_left;intro v g hm)|((with_reducible apply fg hm);(simp only[push_cast,seval];rfl);(first|apply xy _);(any_goals((repeat'(first|rfl));done));intro x hm)|((with_reducible apply aO hm);(simp only[push_cast,seval];rfl);intro hm;rotate_left;intro hm)|((with_reducible apply bQ hm);(focus(simp only[bu,dc,RV.get,push_cast,seval];rfl));(focus((repeat'(first|rfl));done)))|((with_reducible apply cJ hm);(simp only[push_cast,seval];rfl)))
noncomputable def pQ (x0:Int) (x1:Int):Option (Int):=(uU x0 x1).1
theorem xA (x0:Int) (x1:Int):∀ r,pQ x0 x1=some r->aa Tryz.prog 240 [.int .i64 x0,.int .i64 x1] (.int .i64 r):=(uU x0 x1).2
def mm:SC:=
 (.seq (.seq (.reg [.r 27 (.mv (.t 9)),
   .r 28 (.mv (.t 1)),
   .r 29 (.bin .lss (.t 27) (.t 28))])
 (.cond (.t 29)
  .skip
  (.exit 0)))
 (.seq (.block 1 (.reg [.r 32 (.mv (.t 8)),
    .r 33 (.mv (.t 0)),
    .r 34 (.mv (.t 9)),
    .c 35 (.f 240) [.t 33,.t 34],
    .r 36 (.bin .add (.t 32) (.t 35)),
    .r 8 (.mv (.t 36))]))
 (.reg [.r 30 (.mv (.t 9)),
   .r 31 (.bin .add (.t 30) (.c (.d (.int .i64 1)))),
   .r 9 (.mv (.t 31))])))
def qH:SC:= .block 0 (.loop mm)
def t8:SC:=
 (.seq (.reg [.r 6 (.mv (.c (.d (.int .i64 0)))),
   .r 7 (.mv (.c (.d (.bool false))))])
 (.seq (.seq (.reg (.r 10 (.mv (.t 0)):: .c 11 (.f 114) [.t 10,.c (.d (.int .i64 1)),.c (.d (.int .i64 9999))]:: .r 12 (.mv (.t 11))::aV [13,14] 12 false (.r 13 (.mv (.t 1)):: .c 14 (.f 114) [.t 13,.c (.d (.int .i64 1)),.c (.d (.int .i64 12))]::[]) (.r 15 (.pick (.t 12) (.c (.d (.bool true))) (.t 14)):: .r 16 (.mv (.t 15))::aV [17,18,19,20,21] 16 false (.r 17 (.mv (.t 2)):: .r 18 (.mv (.t 0)):: .r 19 (.mv (.t 1)):: .c 20 (.f 240) [.t 18,.t 19]:: .c 21 (.f 114) [.t 17,.c (.d (.int .i64 1)),.t 20]::[]) (.r 22 (.pick (.t 16) (.c (.d (.bool true))) (.t 21))::[]))))
 (.cond (.t 22)
  (.seq (.reg [.r 6 (.mv (.c (.d (.int .i64 0)))),
    .r 7 (.mv (.c (.d (.bool false))))])
  .ret)
  .skip))
 (.seq (.reg [.r 23 (.mv (.t 0)),
   .c 24 (.f 241) [.t 23],
   .r 25 (.mv (.t 2)),
   .r 26 (.bin .add (.t 24) (.t 25)),
   .r 8 (.mv (.t 26))])
 (.seq (.seq (.reg [.r 9 (.mv (.c (.d (.int .i64 1))))])
 qH)
 (.seq (.reg [.r 37 (.mv (.t 8)),
   .r 6 (.mv (.t 37)),
   .r 7 (.mv (.c (.d (.bool true))))])
 .ret)))))
theorem zr:fits Tryz.prog 225 Tryz.f225 t8 [.t 6,.t 7] 3=true:=oK
set_option maxRecDepth 100000 in
set_option maxHeartbeats 40000000 in
noncomputable def uV:(∀ (x0:Int) (x1:Int) (x2:Int),{m:Option (Int×Bool)//∀ r,m=some r->aa Tryz.prog 225 [.int .i64 x0,.int .i64 x1,.int .i64 x2] (.tup [.int .i64 r.1,.bool r.2])}):=by
 (intro x0 x1 x2;apply Subtype.mk;intro r hm;apply af Tryz.func225 zr;unfold t8)
 repeat'(first|with_reducible refine bA ?_|with_reducible refine bt ?_|with_reducible refine bm ?_|with_reducible refine bl ?_|with_reducible refine bR ?_|with_reducible refine cw ?_|with_reducible refine bv ?_|with_reducible refine bB ?_|with_reducible refine cx ?_|with_reducible refine cb ?_|with_reducible refine bq ?_|((with_reducible apply im);(simp only[push_cast,seval];rfl);(first|exact trivial))|((with_reducible apply qC hm);(simp only[push_cast,seval];rfl);rfl;intro v hm;rotate_left;intro v g hm)|((with_reducible apply fg hm);(simp only[push_cast,seval];rfl);(first|apply eX _ _ _|apply xA _ _|apply xz _);(any_goals((repeat'(first|rfl));done));intro x hm)|((with_reducible apply aO hm);(simp only[push_cast,seval];rfl);intro hm;rotate_left;intro hm)|((with_reducible apply jO hm);(focus(simp only[bu,dc,RV.get,push_cast,seval];rfl));(focus(first|(dsimp only;done)));(focus((repeat'(first|rfl));done)))|((with_reducible apply cJ hm);(simp only[push_cast,seval];rfl))|((with_reducible apply bE hm);intro r hm)|((apply az (b:=0) (X:=qH) (x:=mm) rfl (fun(c:SV×SV) (s:Int×Int)=>st [(0,c.1),(1,c.2),(8,.d (.int .i64 s.1)),(9,.d (.int .i64 s.2))] []) (c:=(_,_)) (s0:=(_,_)) hm);(focus(first|(dsimp only;done)));(with_reducible refine cN.mk ?_ ?_))|((apply bG (s':=(_,_)) hm);(focus(first|(dsimp only;done))))|((apply cZ (s':=(_,_)) hm);(focus(first|(dsimp only;done))))|(((with_reducible apply dC.of);(focus(first|(dsimp only;done)));(focus((intro _;repeat'(first|with_reducible exact bo|with_reducible refine aG ?_))));(intro s o hm;first|unfold mm);rotate_left;intro s hm))|(((apply aW;(repeat'(first|with_reducible exact aw|with_reducible exact ax|with_reducible apply ap|((with_reducible apply aP);(focus(first|(simp only[push_cast,seval];rfl)));(focus((repeat'(first|rfl));done)))));done))))
noncomputable def nF (x0:Int) (x1:Int) (x2:Int):Option (Int×Bool):=(uV x0 x1 x2).1
theorem yB (x0:Int) (x1:Int) (x2:Int):∀ r,nF x0 x1 x2=some r->aa Tryz.prog 225 [.int .i64 x0,.int .i64 x1,.int .i64 x2] (.tup [.int .i64 r.1,.bool r.2]):=(uV x0 x1 x2).2
def rU:SC:=
 (.seq (.reg [.r 6 (.mv (.c (.d (.int .i64 0)))),
   .r 7 (.mv (.c (.d (.bool false))))])
 (.seq (.seq (.reg [.r 20 (.mv (.t 1))])
 (.block 0 (.seq (.reg [.r 22 (.bin .eql (.t 20) (.c (.d (.int .i64 1)))),
    .r 21 (.mv (.t 22))])
  (.cond (.t 21)
   (.seq (.reg [.r 24 (.mv (.t 0)),
     .r 25 (.bslice 1 [.c (.d (.int .i64 4)),.c (.d (.int .i64 2)),.c (.d (.int .i64 2))]),
     .c 26 (.f 224) [.t 24,.t 25],
     .r 23 (.mv (.t 26)),
     .r 27 (.ext (.t 23) 0),
     .r 28 (.ext (.t 23) 1),
     .r 8 (.mv (.t 27)),
     .r 9 (.mv (.t 28))])
   (.seq (.seq (.reg [.r 29 (.mv (.t 9)),
     .r 30 (.not (.t 29))])
   (.cond (.t 30)
    (.seq (.reg [.r 6 (.mv (.c (.d (.int .i64 0)))),
      .r 7 (.mv (.c (.d (.bool false))))])
    .ret)
    .skip))
   (.seq (.regD [.r 31 (.mv (.t 8)),
     .r 32 (.idx 1 (.t 31) (.c (.d (.int .i64 0)))),
     .r 33 (.ld1 (.t 32)),
     .r 34 (.mv (.t 8)),
     .r 35 (.idx 1 (.t 34) (.c (.d (.int .i64 1)))),
     .r 36 (.ld1 (.t 35)),
     .r 37 (.mv (.t 8)),
     .r 38 (.idx 1 (.t 37) (.c (.d (.int .i64 2)))),
     .r 39 (.ld1 (.t 38)),
     .c 40 (.f 225) [.t 33,.t 36,.t 39],
     .r 41 (.ext (.t 40) 0),
     .r 42 (.ext (.t 40) 1),
     .r 6 (.mv (.t 41)),
     .r 7 (.mv (.t 42))])
   .ret)))
   .any))))
 .any))
theorem xB:fits Tryz.prog 206 Tryz.f206 rU [.t 6,.t 7] 3=true:=oK
set_option maxRecDepth 100000 in
set_option maxHeartbeats 40000000 in
noncomputable def uW:(∀ (x0:List UInt8) (x1:Int) (x2:Int),{m:Option (Int×Bool)//∀ r,m=some r->aa Tryz.prog 206 [.str x0,.int .i64 x1,.int .i64 x2] (.tup [.int .i64 r.1,.bool r.2])}):=by
 (intro x0 x1 x2;apply Subtype.mk;intro r hm;apply af Tryz.func206 xB;unfold rU)
 repeat'(first|with_reducible refine bA ?_|with_reducible refine bt ?_|with_reducible refine uE ?_|with_reducible refine bm ?_|with_reducible refine bl ?_|with_reducible refine bR ?_|with_reducible refine bv ?_|with_reducible refine bB ?_|with_reducible refine cb ?_|with_reducible refine cg ?_|((with_reducible apply dz hm);(iterate 2 (simp only[push_cast,seval];rfl));(intro _;rfl);intro e hm)|((with_reducible apply im);(simp only[push_cast,seval];rfl);(first|exact trivial))|(with_reducible apply yl hm)|((with_reducible apply fg hm);(simp only[push_cast,seval];rfl);(first|apply yz _ _|apply yB _ _ _);(any_goals((repeat'(first|rfl|(with_reducible first|apply cT|apply eo|apply cU|apply ez)));done));intro x hm)|((with_reducible apply aO hm);(simp only[push_cast,seval];rfl);intro hm;rotate_left;intro hm)|((with_reducible apply jO hm);(focus(simp only[bu,dc,RV.get,push_cast,seval];rfl));(focus(first|(dsimp only;done)));(focus((repeat'(first|rfl));done))))
 all_goals(intros;exact())
noncomputable def oz (x0:List UInt8) (x1:Int) (x2:Int):Option (Int×Bool):=(uW x0 x1 x2).1
theorem wB (x0:List UInt8) (x1:Int) (x2:Int):∀ r,oz x0 x1 x2=some r->aa Tryz.prog 206 [.str x0,.int .i64 x1,.int .i64 x2] (.tup [.int .i64 r.1,.bool r.2]):=(uW x0 x1 x2).2
def rV:SC:=
 (.seq (.reg [.r 6 (.mv (.c (.d (.int .i64 0)))),
   .r 7 (.mv (.c (.d (.int .i64 0))))])
 (.seq (.seq (.reg [.r 10 (.mv (.t 1)),
   .c 11 (.f 205) [.t 10],
   .r 12 (.not (.t 11))])
 (.cond (.t 12)
  (.seq (.reg [.r 6 (.mv (.c (.d (.int .i64 0)))),
    .r 7 (.mv (.c (.d (.int .i64 4))))])
  .ret)
  .skip))
 (.seq (.seq (.reg [.r 13 (.mv (.t 2)),
   .c 14 (.f 114) [.t 13,.c (.d (.int .i64 1)),.c (.d (.int .i64 9900))]])
 (.cond (.t 14)
  (.seq (.reg [.r 6 (.mv (.c (.d (.int .i64 0)))),
    .r 7 (.mv (.c (.d (.int .i64 1))))])
  .ret)
  .skip))
 (.seq (.reg [.r 16 (.mv (.t 0)),
   .r 17 (.mv (.t 1)),
   .r 18 (.mv (.t 2)),
   .c 19 (.f 206) [.t 16,.t 17,.t 18],
   .r 15 (.mv (.t 19)),
   .r 20 (.ext (.t 15) 0),
   .r 21 (.ext (.t 15) 1),
   .r 8 (.mv (.t 20)),
   .r 9 (.mv (.t 21))])
 (.seq (.seq (.reg [.r 22 (.mv (.t 9)),
   .r 23 (.not (.t 22))])
 (.cond (.t 23)
  (.seq (.reg [.r 6 (.mv (.c (.d (.int .i64 0)))),
    .r 7 (.mv (.c (.d (.int .i64 10))))])
  .ret)
  .skip))
 (.seq (.reg [.r 24 (.mv (.t 8)),
   .r 6 (.mv (.t 24)),
   .r 7 (.mv (.c (.d (.int .i64 0))))])
 .ret))))))
theorem xC:fits Tryz.prog 180 Tryz.f180 rV [.t 6,.t 7] 3=true:=oK
set_option maxRecDepth 100000 in
set_option maxHeartbeats 40000000 in
noncomputable def uX:(∀ (x0:List UInt8) (x1:Int) (x2:Int),{m:Option (Int×Int)//∀ r,m=some r->aa Tryz.prog 180 [.str x0,.int .i64 x1,.int .i64 x2] (.tup [.int .i64 r.1,.int .i64 r.2])}):=by
 (intro x0 x1 x2;apply Subtype.mk;intro r hm;apply af Tryz.func180 xC;unfold rV)
 repeat'(first|with_reducible refine bA ?_|with_reducible refine bt ?_|with_reducible refine bl ?_|with_reducible refine bR ?_|with_reducible refine bv ?_|with_reducible refine bB ?_|with_reducible refine cb ?_|((with_reducible apply im);(simp only[push_cast,seval];rfl);(first|exact trivial))|((with_reducible apply fg hm);(simp only[push_cast,seval];rfl);(first|apply xx _|apply eX _ _ _|apply wB _ _ _);(any_goals((repeat'(first|rfl));done));intro x hm)|((with_reducible apply aO hm);(simp only[push_cast,seval];rfl);intro hm;rotate_left;intro hm)|((with_reducible apply jO hm);(focus(simp only[bu,dc,RV.get,push_cast,seval];rfl));(focus(first|(dsimp only;done)));(focus((repeat'(first|rfl));done))))
noncomputable def oB (x0:List UInt8) (x1:Int) (x2:Int):Option (Int×Int):=(uX x0 x1 x2).1
theorem wC (x0:List UInt8) (x1:Int) (x2:Int):∀ r,oB x0 x1 x2=some r->aa Tryz.prog 180 [.str x0,.int .i64 x1,.int .i64 x2] (.tup [.int .i64 r.1,.int .i64 r.2]):=(uX x0 x1 x2).2
end Go.Proofs.YteaolfcegaidpaaGreatDoor
