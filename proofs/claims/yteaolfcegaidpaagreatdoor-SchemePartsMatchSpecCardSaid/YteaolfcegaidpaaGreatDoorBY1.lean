/-
  Laws on the way to the theorem.
-/
import Derived.Test.YteaolfcegaidpaaGreatDoorProg
import Derived.Ground.NamesProg
import Derived.Shelf.Strings.SlTrimAscii
import Derived.Shelf.Small.Strs
import Derived.Shelf.Strconv.Itoa3
import Derived.Shelf.Strings.SplitShaped
import Derived.Shelf.Strings.Shaped
import Derived.Shelf.Small.Wraps
import Derived.Shelf.Strconv.Atoi
import Derived.Test.YteaolfcegaidpaaGreatDoorSYEngRu
namespace Go.Proofs.YteaolfcegaidpaaGreatDoor
open Go.RowKit
set_option linter.unusedSimpArgs false
set_option linter.unusedVariables false
structure au where
 fneg:Bool
 fabs:List Int
 deriving DecidableEq
def aT (x:au):List DV:=[.bool x.fneg,.slice (List.map sn x.fabs)]
attribute [push_cast] aT
theorem CC {d0 d1:DV} {v0:Bool} {v1:List Int} (h0:d0= .bool v0) (h1:d1= .slice (List.map sn v1)):[d0,d1]=aT ⟨v0,v1⟩:=by unfold aT;simp only[h0,h1,OM,OR,OK,OY]
def lB:SC:=
 (.seq (.seq (.reg (.r 3 (.mv (.t 0)):: .r 4 (.len (.t 3)):: .r 5 (.bin .gtr (.t 4) (.c (.d (.int .i64 0)))):: .r 6 (.mv (.t 5))::aV [7,8,9,10,11,12,13] 6 true (.r 7 (.mv (.t 0)):: .r 8 (.mv (.t 0)):: .r 9 (.len (.t 8)):: .r 10 (.bin .sub (.t 9) (.c (.d (.int .i64 1)))):: .r 11 (.idx 1 (.t 7) (.t 10)):: .r 12 (.ld1 (.t 11)):: .r 13 (.bin .eql (.t 12) (.c (.d (.int .u32 0))))::[]) (.r 14 (.pick (.t 6) (.t 13) (.c (.d (.bool false))))::[])))
 (.cond (.t 14)
  .skip
  (.exit 0)))
 (.block 1 (.reg [.r 15 (.mv (.t 0)),
    .r 16 (.mv (.t 0)),
    .r 17 (.len (.t 16)),
    .r 18 (.bin .sub (.t 17) (.c (.d (.int .i64 1)))),
    .r 19 (.slc 1 (.t 15) none (some (.t 18))),
    .r 0 (.mv (.t 19))])))
def p6:SC:= .block 0 (.loop lB)
def sL:SC:=
 (.seq (.reg [.r 2 (.mv (.c (.nils)))])
 (.seq p6
 (.seq (.reg [.r 20 (.mv (.t 0)),
   .r 2 (.mv (.t 20))])
 .ret)))
theorem yu:fits Tryz.prog 247 Tryz.f247 sL [.t 2] 1=true:=oK
def pI:SC:=
 (.seq (.reg [.r 23 (.bin .lss (.t 22) (.t 21))])
 (.seq (.cond (.t 23)
  .skip
  (.exit 0))
 (.seq (.block 1 (.seq (.reg [.r 24 (.mv (.t 22)),
    .r 25 (.idx 1 (.t 20) (.t 22)),
    .o 26 (.ld1 (.t 25)),
    .r 7 (.mv (.t 24)),
    .r 8 (.mv (.t 26))])
  (.seq (.reg [.r 27 (.mv (.t 6)),
    .r 28 (.mv (.t 8)),
    .r 29 (.cvi .u64 (.t 28)),
    .r 30 (.bin .add (.t 27) (.t 29)),
    .r 6 (.mv (.t 30))])
  (.seq (.seq (.reg [.r 31 (.mv (.t 7)),
    .r 32 (.mv (.t 1)),
    .r 33 (.len (.t 32)),
    .r 34 (.bin .lss (.t 31) (.t 33))])
  (.cond (.t 34)
   (.reg [.r 35 (.mv (.t 6)),
     .r 36 (.mv (.t 1)),
     .r 37 (.mv (.t 7)),
     .r 38 (.idx 1 (.t 36) (.t 37)),
     .o 39 (.ld1 (.t 38)),
     .r 40 (.cvi .u64 (.t 39)),
     .r 41 (.bin .add (.t 35) (.t 40)),
     .r 6 (.mv (.t 41))])
   .skip))
  (.seq (.reg [.r 42 (.mv (.t 5)),
    .r 43 (.mv (.t 6)),
    .r 44 (.cvi .u32 (.t 43)),
    .r 45 (.bslice 1 [.t 44]),
    .w 46 (.app 283 1 (.t 42) (.t 45)),
    .r 5 (.mv (.t 46))])
  (.reg [.r 47 (.mv (.t 6)),
    .r 48 (.bin .shr (.t 47) (.c (.d (.int .u64 32)))),
    .r 6 (.mv (.t 48))]))))))
 (.reg [.r 49 (.bin .add (.t 22) (.c (.d (.int .i64 1)))),
   .r 22 (.mv (.t 49))]))))
def tZ:SC:= .block 0 (.loop pI)
def yv:SC:=
 (.seq (.reg [.r 4 (.mv (.c (.nils)))])
 (.seq (.seq (.reg [.r 9 (.mv (.t 0)),
   .r 10 (.len (.t 9)),
   .r 11 (.mv (.t 1)),
   .r 12 (.len (.t 11)),
   .r 13 (.bin .lss (.t 10) (.t 12))])
 (.cond (.t 13)
  (.reg [.r 14 (.mv (.t 1)),
    .r 15 (.mv (.t 0)),
    .r 0 (.mv (.t 14)),
    .r 1 (.mv (.t 15))])
  .skip))
 (.seq (.reg [.r 16 (.mv (.t 0)),
   .r 17 (.len (.t 16)),
   .r 18 (.bin .add (.t 17) (.c (.d (.int .i64 1)))),
   .w 19 (.mkS 283 1 (.d (.int .u32 0)) (.c (.d (.int .i64 0))) (.t 18)),
   .r 5 (.mv (.t 19))])
 (.seq (.reg [.r 6 (.mv (.c (.d (.int .u64 0))))])
 (.seq (.seq (.reg [.r 20 (.mv (.t 0)),
   .r 21 (.len (.t 20)),
   .r 22 (.mv (.c (.d (.int .i64 0))))])
 tZ)
 (.seq (.reg [.r 50 (.mv (.t 5)),
   .r 51 (.mv (.t 6)),
   .r 52 (.cvi .u32 (.t 51)),
   .r 53 (.bslice 1 [.t 52]),
   .w 54 (.app 283 1 (.t 50) (.t 53)),
   .r 4 (.mv (.t 54))])
 .ret))))))
theorem CD:fits Tryz.prog 236 Tryz.f236 yv [.t 4] 2=true:=oK
def jf:SC:=
 (.seq (.reg [.r 1 (.boxI (.t 0)),
   .r 2 (.mv (.c (.d (.int .i64 0))))])
 (.seq (.block 0 (.seq (.reg [.r 4 (.fld 0 (.t 1)),
    .o 5 (.ld1 (.t 4)),
    .r 3 (.mv (.t 5))])
  (.cond (.t 3)
   (.seq (.reg [.r 2 (.mv (.c (.d (.int .i64 (-1)))))])
   .ret)
   (.seq (.reg [.r 7 (.fld 1 (.t 1)),
     .o 8 (.ld1 (.t 7)),
     .r 9 (.len (.t 8)),
     .r 10 (.bin .eql (.t 9) (.c (.d (.int .i64 0)))),
     .r 6 (.mv (.t 10))])
   (.cond (.t 6)
    (.seq (.reg [.r 2 (.mv (.c (.d (.int .i64 0))))])
    .ret)
    .skip)))))
 (.seq (.reg [.r 2 (.mv (.c (.d (.int .i64 1))))])
 .ret)))
theorem ot:fits Tryz.prog 221 Tryz.f221 jf [.t 2] 1=true:=oK
def eH:SC:=
 (.seq (.reg [.r 17 (.bin .lss (.t 16) (.t 15))])
 (.seq (.cond (.t 17)
  .skip
  (.exit 0))
 (.seq (.block 1 (.seq (.reg [.r 18 (.mv (.t 16)),
    .r 19 (.idx 1 (.t 14) (.t 16)),
    .o 20 (.ld1 (.t 19)),
    .r 7 (.mv (.t 18)),
    .r 8 (.mv (.t 20))])
  (.reg [.r 21 (.mv (.t 6)),
    .r 22 (.mv (.t 8)),
    .r 23 (.cvi .u64 (.t 22)),
    .r 24 (.mv (.t 7)),
    .r 25 (.bin .mul (.c (.d (.int .i64 32))) (.t 24)),
    .r 26 (.bin .shl (.t 23) (.t 25)),
    .r 27 (.bin .or (.t 21) (.t 26)),
    .r 6 (.mv (.t 27))])))
 (.reg [.r 28 (.bin .add (.t 16) (.c (.d (.int .i64 1)))),
   .r 16 (.mv (.t 28))]))))
def iD:SC:= .block 0 (.loop eH)
def jz:SC:=
 (.seq (.reg [.r 2 (.boxI (.t 0)),
   .r 4 (.mv (.c (.d (.int .i64 0)))),
   .r 5 (.mv (.c (.d (.bool false))))])
 (.seq (.seq (.reg [.r 9 (.fld 1 (.t 2)),
   .o 10 (.ld1 (.t 9)),
   .r 11 (.len (.t 10)),
   .r 12 (.bin .gtr (.t 11) (.c (.d (.int .i64 2))))])
 (.cond (.t 12)
  (.seq (.reg [.r 4 (.mv (.c (.d (.int .i64 0)))),
    .r 5 (.mv (.c (.d (.bool false))))])
  .ret)
  .skip))
 (.seq (.reg [.r 6 (.mv (.c (.d (.int .u64 0))))])
 (.seq (.seq (.reg [.r 13 (.fld 1 (.t 2)),
   .o 14 (.ld1 (.t 13)),
   .r 15 (.len (.t 14)),
   .r 16 (.mv (.c (.d (.int .i64 0))))])
 iD)
 (.seq (.seq (.reg [.r 29 (.mv (.t 6)),
   .r 30 (.mv (.t 1)),
   .r 31 (.cvi .u64 (.t 30)),
   .r 32 (.bin .gtr (.t 29) (.t 31))])
 (.cond (.t 32)
  (.seq (.reg [.r 4 (.mv (.c (.d (.int .i64 0)))),
    .r 5 (.mv (.c (.d (.bool false))))])
  .ret)
  .skip))
 (.seq (.seq (.reg [.r 33 (.fld 0 (.t 2)),
   .o 34 (.ld1 (.t 33))])
 (.cond (.t 34)
  (.seq (.reg [.r 35 (.mv (.t 6)),
    .r 36 (.cvi .i64 (.t 35)),
    .r 37 (.neg (.t 36)),
    .r 4 (.mv (.t 37)),
    .r 5 (.mv (.c (.d (.bool true))))])
  .ret)
  .skip))
 (.seq (.reg [.r 38 (.mv (.t 6)),
   .r 39 (.cvi .i64 (.t 38)),
   .r 4 (.mv (.t 39)),
   .r 5 (.mv (.c (.d (.bool true))))])
 .ret)))))))
theorem pf:fits Tryz.prog 239 Tryz.f239 jz [.t 4,.t 5] 2=true:=oK
set_option maxRecDepth 100000 in
set_option maxHeartbeats 40000000 in
noncomputable def eC:(∀ (x0:List Int),{m:Option ((List Int))//∀ r,m=some r->aa Tryz.prog 247 [.slice (List.map sn x0)] (.slice (List.map sn r))})×(∀ (x0:List Int) (x1:List Int),{m:Option ((List Int))//∀ r,m=some r->aa Tryz.prog 236 [.slice (List.map sn x0),.slice (List.map sn x1)] (.slice (List.map sn r))})×(∀ (x0:au),{m:Option (Int)//∀ r,m=some r->aa Tryz.prog 221 [.agg (aT x0)] (.int .i64 r)})×(∀ (x0:au) (x1:Int),{m:Option (Int×Bool)//∀ r,m=some r->aa Tryz.prog 239 [.agg (aT x0),.int .i64 x1] (.tup [.int .i64 r.1,.bool r.2])}):=by
 refine⟨?g0, ?g1, ?g2, ?g3⟩
 case' g0=>(intro x0;apply Subtype.mk;intro r hm;apply af Tryz.func247 yu;unfold sL)
 case' g1=>(intro x0 x1;apply Subtype.mk;intro r hm;apply af Tryz.func236 CD;unfold yv)
 case' g2=>(intro x0;apply Subtype.mk;intro r hm;apply af Tryz.func221 ot;unfold jf)
 case' g3=>(intro x0 x1;apply Subtype.mk;intro r hm;apply af Tryz.func239 pf;unfold jz)
 all_goals(repeat'(first|with_reducible refine bA ?_|with_reducible refine bt ?_|with_reducible refine bm ?_|with_reducible refine bl ?_|with_reducible refine bR ?_|with_reducible refine cw ?_|with_reducible refine bv ?_|with_reducible refine bB ?_|with_reducible refine cx ?_|with_reducible refine cb ?_|with_reducible refine bq ?_|with_reducible refine cg ?_|with_reducible refine dI ?_|((with_reducible apply dz hm);(iterate 2 (simp only[push_cast,seval];rfl));(intro _;rfl);intro e hm)|((with_reducible apply Ee hm);(iterate 3 (simp only[push_cast,seval];rfl));(intro _;rfl);intro e hm)|((with_reducible apply im);(simp only[push_cast,seval];rfl);(first|exact trivial))|((with_reducible apply G6 hm);(iterate 2 (simp only[push_cast,seval];rfl));intro hm)|((with_reducible apply Ny hm);(iterate 2 (simp only[push_cast,seval];rfl));intro hm)|((with_reducible apply fG hm);(simp only[push_cast,seval];rfl);rfl;intro v hm;rotate_left;intro v g hm)|((with_reducible apply xt hm);(iterate 4 (simp only[push_cast,seval];rfl));(focus((repeat'(first|rfl|(with_reducible first|apply cT|apply cU|apply ez)));done));decide;(intro _;rfl);intro hm)|((with_reducible apply aO hm);(simp only[push_cast,seval];rfl);intro hm;rotate_left;intro hm)|((with_reducible apply jO hm);(focus(simp only[bu,dc,RV.get,push_cast,seval];rfl));(focus(first|(dsimp only;done)));(focus((repeat'(first|rfl));done)))|((with_reducible apply bQ hm);(focus(simp only[bu,dc,RV.get,push_cast,seval];rfl));(focus((repeat'(first|rfl));done)))|((with_reducible apply cJ hm);(simp only[push_cast,seval];rfl))|((with_reducible apply bE hm);intro r hm)|((apply az (b:=0) (X:=p6) (x:=lB) rfl (fun(c:Unit) (s:(List Int))=>st [(0,.d (.slice (List.map sn s)))] []) (c:=()) (s0:=_) hm);(focus(first|(dsimp only;done)));(with_reducible refine cN.mk ?_ ?_))|((apply az (b:=0) (X:=tZ) (x:=pI) rfl (fun(c:SV×SV×SV) (s:(List Int)×Int×Int)=>st [(1,c.1),(5,.vec 19),(6,.d (.int .u64 s.2.1)),(20,c.2.1),(21,c.2.2),(22,.d (.int .i64 s.2.2))] [(19,.vec 283 1 (bF sn s.1))]) (c:=(_,_,_)) (s0:=(_,_,_)) hm);(focus(first|(dsimp only;done)));(with_reducible refine cN.mk ?_ ?_))|(((with_reducible apply Mf (row:=sn) (z:=(0:Int)) hm);(focus(simp only[push_cast,seval];rfl));(focus(simp only[push_cast,seval];rfl));(focus rfl);(focus rfl);intro hm))|((apply az (b:=0) (X:=iD) (x:=eH) rfl (fun(c:SV×SV×SV×SV) (s:Int×Int)=>st [(1,c.1),(2,c.2.1),(6,.d (.int .u64 s.1)),(14,c.2.2.1),(15,c.2.2.2),(16,.d (.int .i64 s.2))] []) (c:=(_,_,_,_)) (s0:=(_,_)) hm);(focus(first|(dsimp only;done)));(with_reducible refine cN.mk ?_ ?_))|((apply bG (s':=(_,_,_)) hm);(focus(first|(dsimp only;done))))|((apply cZ (s':=(_,_,_)) hm);(focus(first|(dsimp only;done))))|((apply bG (s':=(_,_)) hm);(focus(first|(dsimp only;done))))|((apply cZ (s':=(_,_)) hm);(focus(first|(dsimp only;done))))|((apply bG (s':=_) hm);(focus(first|(dsimp only;done))))|((apply cZ (s':=_) hm);(focus(first|(dsimp only;done))))|(((with_reducible apply dC.of);(focus(first|(dsimp only;done)));(focus((intro _;repeat'(first|with_reducible exact bo|with_reducible refine aG ?_))));(intro s o hm;first|unfold lB|unfold pI|unfold eH);rotate_left;intro s hm))|(((apply aW;(repeat'(first|with_reducible exact aw|with_reducible exact ax|with_reducible apply ap|with_reducible apply aU|((with_reducible apply aP);(focus(first|(simp only[push_cast,seval];rfl)));(focus((repeat'(first|rfl));done)))|((with_reducible apply cC);(focus(first|(simp only[push_cast,seval];rfl)));(first|with_reducible exact bj rfl))));done)))))
noncomputable def pJ (x0:List Int):Option ((List Int)):=(eC.1 x0).1
theorem xv (x0:List Int):∀ r,pJ x0=some r->aa Tryz.prog 247 [.slice (List.map sn x0)] (.slice (List.map sn r)):=(eC.1 x0).2
noncomputable def uP (x0:List Int) (x1:List Int):Option ((List Int)):=(eC.2.1 x0 x1).1
theorem B1 (x0:List Int) (x1:List Int):∀ r,uP x0 x1=some r->aa Tryz.prog 236 [.slice (List.map sn x0),.slice (List.map sn x1)] (.slice (List.map sn r)):=(eC.2.1 x0 x1).2
noncomputable def ce (x0:au):Option (Int):=(eC.2.2.1 x0).1
theorem nY (x0:au):∀ r,ce x0=some r->aa Tryz.prog 221 [.agg (aT x0)] (.int .i64 r):=(eC.2.2.1 x0).2
noncomputable def fR (x0:au) (x1:Int):Option (Int×Bool):=(eC.2.2.2 x0 x1).1
theorem ou (x0:au) (x1:Int):∀ r,fR x0 x1=some r->aa Tryz.prog 239 [.agg (aT x0),.int .i64 x1] (.tup [.int .i64 r.1,.bool r.2]):=(eC.2.2.2 x0 x1).2
def wQ:SC:=
 (.seq (.reg [.w 4 (.boxM (.c (.agg [.d (.bool false),.nils])))])
 (.seq (.reg [.r 5 (.mv (.t 1)),
   .c 6 (.f 247) [.t 5],
   .r 1 (.mv (.t 6))])
 (.seq (.reg (.r 7 (.mv (.t 0)):: .r 8 (.mv (.t 7))::aV [9,10,11] 8 true (.r 9 (.mv (.t 1)):: .r 10 (.len (.t 9)):: .r 11 (.bin .gtr (.t 10) (.c (.d (.int .i64 0))))::[]) (.r 12 (.pick (.t 8) (.t 11) (.c (.d (.bool false)))):: .r 13 (.mv (.t 1)):: .r 14 (.build [.d (.bool false),.nils] [(0,1,.t 12),(1,1,.t 13)]):: .w 0 (.st 2 (.t 4) (.t 14))::[])))
 .ret)))
theorem B2:fits Tryz.prog 235 Tryz.f235 wQ [.cell 4 2] 2=true:=oK
set_option maxRecDepth 100000 in
set_option maxHeartbeats 40000000 in
noncomputable def uQ:(∀ (x0:Bool) (x1:List Int),{m:Option (au)//∀ r,m=some r->aa Tryz.prog 235 [.bool x0,.slice (List.map sn x1)] (.agg (aT r))}):=by
 (intro x0 x1;apply Subtype.mk;intro r hm;apply af Tryz.func235 B2;unfold wQ)
 repeat'(first|with_reducible refine bA ?_|with_reducible refine bt ?_|with_reducible refine bR ?_|with_reducible refine bv ?_|with_reducible refine bB ?_|((with_reducible apply im);(simp only[push_cast,seval];rfl);(first|exact trivial))|((with_reducible apply fG hm);(simp only[push_cast,seval];rfl);rfl;intro v hm;rotate_left;intro v g hm)|((with_reducible apply fg hm);(simp only[push_cast,seval];rfl);(first|apply xv _);(any_goals((repeat'(first|rfl));done));intro x hm)|((with_reducible apply wM);(simp only[push_cast,seval];rfl);(first|exact trivial))|((with_reducible apply bQ hm);(focus(simp only[bu,dc,RV.get,push_cast,seval];rfl));(focus((repeat'(first|rfl|(with_reducible first|apply CC|apply p5)));done)))|((with_reducible apply cJ hm);(simp only[push_cast,seval];rfl)))
noncomputable def tz (x0:Bool) (x1:List Int):Option (au):=(uQ x0 x1).1
theorem Av (x0:Bool) (x1:List Int):∀ r,tz x0 x1=some r->aa Tryz.prog 235 [.bool x0,.slice (List.map sn x1)] (.agg (aT r)):=(uQ x0 x1).2
def Al:SC:=
 (.seq (.reg [.w 2 (.boxM (.c (.agg [.d (.bool false),.nils])))])
 (.seq (.reg [.r 4 (.mv (.t 0)),
   .r 5 (.cvi .u64 (.t 4)),
   .r 3 (.mv (.t 5))])
 (.seq (.seq (.reg [.r 6 (.mv (.t 0)),
   .r 7 (.bin .lss (.t 6) (.c (.d (.int .i64 0))))])
 (.cond (.t 7)
  (.reg [.r 8 (.mv (.t 3)),
    .r 9 (.neg (.t 8)),
    .r 3 (.mv (.t 9))])
  .skip))
 (.seq (.reg [.r 10 (.mv (.t 0)),
   .r 11 (.bin .lss (.t 10) (.c (.d (.int .i64 0)))),
   .r 12 (.mv (.t 3)),
   .r 13 (.cvi .u32 (.t 12)),
   .r 14 (.mv (.t 3)),
   .r 15 (.bin .shr (.t 14) (.c (.d (.int .u64 32)))),
   .r 16 (.cvi .u32 (.t 15)),
   .r 17 (.bslice 1 [.t 13,.t 16]),
   .c 18 (.f 235) [.t 11,.t 17],
   .w 0 (.st 2 (.t 2) (.t 18))])
 .ret))))
theorem Ek:fits Tryz.prog 218 Tryz.f218 Al [.cell 2 2] 1=true:=oK
def eg:SC:=
 (.seq (.reg [.r 31 (.bin .lss (.t 30) (.t 29))])
 (.seq (.cond (.t 31)
  .skip
  (.exit 2))
 (.seq (.block 3 (.seq (.reg [.r 32 (.mv (.t 30)),
    .r 33 (.idx 1 (.t 28) (.t 30)),
    .o 34 (.ld1 (.t 33)),
    .r 9 (.mv (.t 32)),
    .r 10 (.mv (.t 34))])
  (.seq (.reg [.r 35 (.mv (.t 8)),
    .r 36 (.mv (.t 5)),
    .r 37 (.mv (.t 6)),
    .r 38 (.mv (.t 9)),
    .r 39 (.bin .add (.t 37) (.t 38)),
    .r 40 (.idx 1 (.t 36) (.t 39)),
    .o 41 (.ld1 (.t 40)),
    .r 42 (.cvi .u64 (.t 41)),
    .r 43 (.mv (.t 7)),
    .r 44 (.cvi .u64 (.t 43)),
    .r 45 (.mv (.t 10)),
    .r 46 (.cvi .u64 (.t 45)),
    .r 47 (.bin .mul (.t 44) (.t 46)),
    .r 48 (.bin .add (.t 42) (.t 47)),
    .r 49 (.bin .add (.t 35) (.t 48)),
    .r 8 (.mv (.t 49))])
  (.seq (.reg [.r 50 (.mv (.t 5)),
    .r 51 (.mv (.t 6)),
    .r 52 (.mv (.t 9)),
    .r 53 (.bin .add (.t 51) (.t 52)),
    .r 54 (.mv (.t 8)),
    .r 55 (.cvi .u32 (.t 54)),
    .r 56 (.idx 1 (.t 50) (.t 53)),
    .w 0 (.st 1 (.t 56) (.t 55))])
  (.reg [.r 57 (.mv (.t 8)),
    .r 58 (.bin .shr (.t 57) (.c (.d (.int .u64 32)))),
    .r 8 (.mv (.t 58))])))))
 (.reg [.r 59 (.bin .add (.t 30) (.c (.d (.int .i64 1)))),
   .r 30 (.mv (.t 59))]))))
def gO:SC:= .block 2 (.loop eg)
def eh:SC:=
 (.seq (.reg [.r 23 (.bin .lss (.t 22) (.t 21))])
 (.seq (.cond (.t 23)
  .skip
  (.exit 0))
 (.seq (.block 1 (.seq (.reg [.r 24 (.mv (.t 22)),
    .r 25 (.idx 1 (.t 20) (.t 22)),
    .o 26 (.ld1 (.t 25)),
    .r 6 (.mv (.t 24)),
    .r 7 (.mv (.t 26))])
  (.seq (.reg [.r 8 (.mv (.c (.d (.int .u64 0))))])
  (.seq (.seq (.reg [.r 27 (.fld 1 (.t 3)),
    .o 28 (.ld1 (.t 27)),
    .r 29 (.len (.t 28)),
    .r 30 (.mv (.c (.d (.int .i64 0))))])
  gO)
  (.reg [.r 60 (.mv (.t 5)),
    .r 61 (.mv (.t 6)),
    .r 62 (.fld 1 (.t 3)),
    .o 63 (.ld1 (.t 62)),
    .r 64 (.len (.t 63)),
    .r 65 (.bin .add (.t 61) (.t 64)),
    .r 66 (.mv (.t 8)),
    .r 67 (.cvi .u32 (.t 66)),
    .r 68 (.idx 1 (.t 60) (.t 65)),
    .w 0 (.st 1 (.t 68) (.t 67))])))))
 (.reg [.r 69 (.bin .add (.t 22) (.c (.d (.int .i64 1)))),
   .r 22 (.mv (.t 69))]))))
def gP:SC:= .block 0 (.loop eh)
def d7:SC:=(.reg [.r 70 (.fld 0 (.t 2)),
   .o 71 (.ld1 (.t 70)),
   .r 72 (.fld 0 (.t 3)),
   .o 73 (.ld1 (.t 72)),
   .r 74 (.binB .neq (.t 71) (.t 73)),
   .r 75 (.mv (.t 5)),
   .c 76 (.f 235) [.t 74,.t 75],
   .w 0 (.st 2 (.t 4) (.t 76))])
def iQ:SC:=
 (.seq (.reg [.r 2 (.boxI (.t 0)),
   .r 3 (.boxI (.t 1)),
   .w 4 (.boxM (.c (.agg [.d (.bool false),.nils])))])
 (.seq (.reg [.r 11 (.fld 1 (.t 2)),
   .o 12 (.ld1 (.t 11)),
   .r 13 (.len (.t 12)),
   .r 14 (.fld 1 (.t 3)),
   .o 15 (.ld1 (.t 14)),
   .r 16 (.len (.t 15)),
   .r 17 (.bin .add (.t 13) (.t 16)),
   .w 18 (.mkS 283 1 (.d (.int .u32 0)) (.t 17) (.t 17)),
   .r 5 (.mv (.t 18))])
 (.seq (.seq (.reg [.r 19 (.fld 1 (.t 2)),
   .o 20 (.ld1 (.t 19)),
   .r 21 (.len (.t 20)),
   .r 22 (.mv (.c (.d (.int .i64 0))))])
 gP)
 (.seq d7
 .ret))))
theorem nZ:fits Tryz.prog 219 Tryz.f219 iQ [.cell 4 2] 2=true:=oK
def jg:SC:=
 (.seq (.reg [.r 2 (.boxI (.t 0)),
   .r 3 (.boxI (.t 1)),
   .w 4 (.boxM (.c (.agg [.d (.bool false),.nils])))])
 (.seq (.block 0 (.seq (.reg [.r 6 (.fld 0 (.t 2)),
    .o 7 (.ld1 (.t 6)),
    .r 8 (.fld 0 (.t 3)),
    .o 9 (.ld1 (.t 8)),
    .r 10 (.binB .eql (.t 7) (.t 9)),
    .r 5 (.mv (.t 10))])
  (.cond (.t 5)
   (.seq (.regE [.r 11 (.fld 0 (.t 2)),
     .r 12 (.ld1 (.t 11)),
     .r 13 (.fld 1 (.t 2)),
     .r 14 (.ld1 (.t 13)),
     .r 15 (.fld 1 (.t 3)),
     .r 16 (.ld1 (.t 15)),
     .c 17 (.f 236) [.t 14,.t 16],
     .c 18 (.f 235) [.t 12,.t 17],
     .x 0 (.st 2 (.t 4) (.t 18)) []])
   .ret)
   .any)))
 .any))
theorem ov:fits Tryz.prog 220 Tryz.f220 jg [.cell 4 2] 2=true:=oK
def iR:SC:=
 (.seq (.reg [.r 1 (.boxI (.t 0)),
   .w 2 (.boxM (.c (.agg [.d (.bool false),.nils])))])
 (.seq (.reg [.r 3 (.fld 0 (.t 1)),
   .o 4 (.ld1 (.t 3)),
   .r 5 (.not (.t 4)),
   .r 6 (.fld 1 (.t 1)),
   .o 7 (.ld1 (.t 6)),
   .c 8 (.f 235) [.t 5,.t 7],
   .w 0 (.st 2 (.t 2) (.t 8))])
 .ret))
theorem n0:fits Tryz.prog 222 Tryz.f222 iR [.cell 2 2] 1=true:=oK
set_option maxRecDepth 100000 in
set_option maxHeartbeats 40000000 in
noncomputable def eD:(∀ (x0:Int),{m:Option (au)//∀ r,m=some r->aa Tryz.prog 218 [.int .i64 x0] (.agg (aT r))})×(∀ (x0:au) (x1:au),{m:Option (au)//∀ r,m=some r->aa Tryz.prog 219 [.agg (aT x0),.agg (aT x1)] (.agg (aT r))})×(∀ (x0:au) (x1:au),{m:Option (au)//∀ r,m=some r->aa Tryz.prog 220 [.agg (aT x0),.agg (aT x1)] (.agg (aT r))})×(∀ (x0:au),{m:Option (au)//∀ r,m=some r->aa Tryz.prog 222 [.agg (aT x0)] (.agg (aT r))}):=by
 refine⟨?g0, ?g1, ?g2, ?g3⟩
 case' g0=>(intro x0;apply Subtype.mk;intro r hm;apply af Tryz.func218 Ek;unfold Al)
 case' g1=>(intro x0 x1;apply Subtype.mk;intro r hm;apply af Tryz.func219 nZ;unfold iQ)
 case' g2=>(intro x0 x1;apply Subtype.mk;intro r hm;apply af Tryz.func220 ov;unfold jg)
 case' g3=>(intro x0;apply Subtype.mk;intro r hm;apply af Tryz.func222 n0;unfold iR)
 all_goals(repeat'(first|((with_reducible apply MY (x:=d7) 5);(focus(simp only[push_cast,seval];(try rfl);done));(focus(simp only[push_cast,seval];(try rfl);done));(focus(simp only[push_cast,seval];(try rfl);done));unfold d7)|with_reducible refine bA ?_|with_reducible refine bt ?_|with_reducible refine xf ?_|with_reducible refine bm ?_|with_reducible refine bl ?_|with_reducible refine bR ?_|with_reducible refine cw ?_|with_reducible refine bv ?_|with_reducible refine bB ?_|with_reducible refine cx ?_|with_reducible refine cb ?_|with_reducible refine bq ?_|with_reducible refine cg ?_|with_reducible refine dI ?_|((with_reducible apply dz hm);(iterate 2 (simp only[push_cast,seval];rfl));(intro _;rfl);intro e hm)|((with_reducible apply AK hm);(iterate 3 (simp only[push_cast,seval];rfl));intro e hm)|((with_reducible apply im);(simp only[push_cast,seval];rfl);(first|exact trivial))|((with_reducible apply Lo hm);(iterate 2 (simp only[push_cast,seval];rfl));(intro _;rfl);intro e hm)|((with_reducible apply G6 hm);(iterate 2 (simp only[push_cast,seval];rfl));intro hm)|(with_reducible apply yl hm)|((with_reducible apply fg hm);(simp only[push_cast,seval];rfl);(first|apply Av _ _|apply B1 _ _);(any_goals((repeat'(first|rfl|(with_reducible first|apply cT|apply eo|apply cU|apply ez)));done));intro x hm)|((with_reducible apply wM);(simp only[push_cast,seval];rfl);(first|exact trivial))|((with_reducible apply NE hm);(iterate 3 (simp only[push_cast,seval];rfl));rfl;(intro _;rfl);rfl;(focus(intro a;simp only[push_cast,seval];rfl));(focus(intro a;(repeat'(first|rfl));done));intro e hm)|((with_reducible apply Nw);(simp only[push_cast,seval];rfl);(first|exact trivial);(focus((repeat'(first|exact tl));done)))|((with_reducible apply aO hm);(simp only[push_cast,seval];rfl);intro hm;rotate_left;intro hm)|((with_reducible apply bQ hm);(focus(simp only[bu,dc,RV.get,push_cast,seval];rfl));(focus((repeat'(first|rfl));done)))|((with_reducible apply bE hm);intro r hm)|((apply az (b:=2) (X:=gO) (x:=eg) rfl (fun(c:SV×SV×Ch×SV×SV×SV×SV×SV×SV×SV) (s:(List Int)×Int×Int)=>st [(2,c.1),(3,c.2.1),(4,.ref 4 0),(5,.vec 18),(6,c.2.2.2.1),(7,c.2.2.2.2.1),(8,.d (.int .u64 s.2.1)),(20,c.2.2.2.2.2.1),(21,c.2.2.2.2.2.2.1),(22,c.2.2.2.2.2.2.2.1),(28,c.2.2.2.2.2.2.2.2.1),(29,c.2.2.2.2.2.2.2.2.2),(30,.d (.int .i64 s.2.2))] [(4,c.2.2.1),(18,.vec 283 1 (bF sn s.1))]) (c:=(_,_,_,_,_,_,_,_,_,_)) (s0:=(_,_,_)) hm);(focus(first|(dsimp only;done)));(with_reducible refine cN.mk ?_ ?_))|((apply az (b:=0) (X:=gP) (x:=eh) rfl (fun(c:SV×SV×Ch×SV×SV) (s:(List Int)×Int)=>st [(2,c.1),(3,c.2.1),(4,.ref 4 0),(5,.vec 18),(20,c.2.2.2.1),(21,c.2.2.2.2),(22,.d (.int .i64 s.2))] [(4,c.2.2.1),(18,.vec 283 1 (bF sn s.1))]) (c:=(_,_,_,_,_)) (s0:=(_,_)) hm);(focus(first|(dsimp only;done)));(with_reducible refine cN.mk ?_ ?_))|(((with_reducible apply Mf (row:=sn) (z:=(0:Int)) hm);(focus(simp only[push_cast,seval];rfl));(focus(simp only[push_cast,seval];rfl));(focus rfl);(focus rfl);intro hm))|((apply bG (s':=(_,_,_)) hm);(focus(first|(dsimp only;done))))|((apply cZ (s':=(_,_,_)) hm);(focus(first|(dsimp only;done))))|((apply bG (s':=(_,_)) hm);(focus(first|(dsimp only;done))))|((apply cZ (s':=(_,_)) hm);(focus(first|(dsimp only;done))))|(((with_reducible apply dC.of);(focus(first|(dsimp only;done)));(focus((intro _;repeat'(first|with_reducible exact bo|with_reducible refine aG ?_|with_reducible refine dj ?_|((with_reducible refine ec ?_);intro _)|((with_reducible refine fH ?_);intro _)))));(intro s o hm;first|unfold eg|unfold eh);rotate_left;intro s hm))|(((apply aW;(repeat'(first|with_reducible exact aw|with_reducible exact ax|with_reducible apply ap|with_reducible apply aU|((with_reducible apply aP);(focus(first|(simp only[push_cast,seval];rfl)));(focus((repeat'(first|rfl));done)))|((with_reducible apply cC);(focus(first|(simp only[push_cast,seval];rfl)));(first|with_reducible exact bj rfl))));done)))))
 all_goals(intros;exact())
noncomputable def tA (x0:Int):Option (au):=(eD.1 x0).1
theorem CE (x0:Int):∀ r,tA x0=some r->aa Tryz.prog 218 [.int .i64 x0] (.agg (aT r)):=(eD.1 x0).2
noncomputable def dJ (x0:au) (x1:au):Option (au):=(eD.2.1 x0 x1).1
theorem nB (x0:au) (x1:au):∀ r,dJ x0 x1=some r->aa Tryz.prog 219 [.agg (aT x0),.agg (aT x1)] (.agg (aT r)):=(eD.2.1 x0 x1).2
noncomputable def dY (x0:au) (x1:au):Option (au):=(eD.2.2.1 x0 x1).1
theorem n7 (x0:au) (x1:au):∀ r,dY x0 x1=some r->aa Tryz.prog 220 [.agg (aT x0),.agg (aT x1)] (.agg (aT r)):=(eD.2.2.1 x0 x1).2
noncomputable def bW (x0:au):Option (au):=(eD.2.2.2 x0).1
theorem nC (x0:au):∀ r,bW x0=some r->aa Tryz.prog 222 [.agg (aT x0)] (.agg (aT r)):=(eD.2.2.2 x0).2
end Go.Proofs.YteaolfcegaidpaaGreatDoor
namespace Go.Proofs
open Go.Proofs.YteaolfcegaidpaaGreatDoor
open Go.Shelf
def Tryz.lays160_ren:Go.Shelf.Ren:=⟨fun|160=>94|232=>131|231=>130|227=>132|234=>134|233=>133|236=>136|235=>135|228=>156|271=>159|151=>158|197=>157|120=>178|152=>177|260=>176|137=>98|119=>200|224=>201|225=>202|217=>140|266=>161|n=>n,fun|9=>9|4=>4|3=>3|5=>5|117=>202|116=>201|0=>0|124=>205|21=>21|105=>220|46=>218|119=>249|139=>252|138=>251|n=>n,fun|3=>1|4=>2|n=>n⟩
theorem Tryz.lays160:Go.Proofs.Lays.n160 Tryz.prog Tryz.lays160_ren:={
 mixed:=oK
 f119:=Tryz.func200.trans (congrArg some oK)
 f120:=Tryz.func178.trans (congrArg some oK)
 f137:=Tryz.func98.trans (congrArg some oK)
 f151:=Tryz.func158.trans (congrArg some oK)
 f152:=Tryz.func177.trans (congrArg some oK)
 f160:=Tryz.func94.trans (congrArg some oK)
 f197:=Tryz.func157.trans (congrArg some oK)
 f217:=Tryz.func140.trans (congrArg some oK)
 f224:=Tryz.func201.trans (congrArg some oK)
 f225:=Tryz.func202.trans (congrArg some oK)
 f227:=Tryz.func132.trans (congrArg some oK)
 f228:=Tryz.func156.trans (congrArg some oK)
 f231:=Tryz.func130.trans (congrArg some oK)
 f232:=Tryz.func131.trans (congrArg some oK)
 f233:=Tryz.func133.trans (congrArg some oK)
 f234:=Tryz.func134.trans (congrArg some oK)
 f235:=Tryz.func135.trans (congrArg some oK)
 f236:=Tryz.func136.trans (congrArg some oK)
 f260:=Tryz.func176.trans (congrArg some oK)
 f266:=Tryz.func161.trans (congrArg some oK)
 f271:=Tryz.func159.trans (congrArg some oK)
 t0:=Tryz.underlying0
 a0:=Tryz.isAgg0
 z0:=Tryz.sizeOf0
 v0:=Tryz.zeroValue0
 t3:=Tryz.underlying3
 a3:=Tryz.isAgg3
 z3:=Tryz.sizeOf3
 v3:=Tryz.zeroValue3
 t4:=Tryz.underlying4
 a4:=Tryz.isAgg4
 z4:=Tryz.sizeOf4
 v4:=Tryz.zeroValue4
 t5:=Tryz.underlying5
 a5:=Tryz.isAgg5
 z5:=Tryz.sizeOf5
 v5:=Tryz.zeroValue5
 t9:=Tryz.underlying9
 a9:=Tryz.isAgg9
 z9:=Tryz.sizeOf9
 v9:=Tryz.zeroValue9
 t21:=Tryz.underlying21
 a21:=Tryz.isAgg21
 z21:=Tryz.sizeOf21
 v21:=Tryz.zeroValue21
 t46:=Tryz.underlying218
 a46:=Tryz.isAgg218
 z46:=Tryz.sizeOf218
 v46:=Tryz.zeroValue218
 t105:=Tryz.underlying220
 a105:=Tryz.isAgg220
 z105:=Tryz.sizeOf220
 v105:=Tryz.zeroValue220
 t116:=Tryz.underlying201
 a116:=Tryz.isAgg201
 z116:=Tryz.sizeOf201
 t117:=Tryz.underlying202
 a117:=Tryz.isAgg202
 z117:=Tryz.sizeOf202
 v117:=Tryz.zeroValue202
 t119:=Tryz.underlying249
 a119:=Tryz.isAgg249
 z119:=Tryz.sizeOf249
 t124:=Tryz.underlying205
 a124:=Tryz.isAgg205
 z124:=Tryz.sizeOf205
 v124:=Tryz.zeroValue205
 t138:=Tryz.underlying251
 a138:=Tryz.isAgg251
 z138:=Tryz.sizeOf251
 v138:=Tryz.zeroValue251
 t139:=Tryz.underlying252
 a139:=Tryz.isAgg252
 z139:=Tryz.sizeOf252
 v139:=Tryz.zeroValue252
 g3:=oK
 g4:=by kernel_rfl}
def Tryz.lays137_ren:Go.Shelf.Ren:=⟨fun|137=>98|217=>140|266=>161|n=>n,fun|9=>9|5=>5|3=>3|n=>n,fun|n=>n⟩
theorem Tryz.lays137:Go.Proofs.Lays.n137 Tryz.prog Tryz.lays137_ren:={
 mixed:=oK
 f137:=Tryz.func98.trans (congrArg some oK)
 f217:=Tryz.func140.trans (congrArg some oK)
 f266:=Tryz.func161.trans (congrArg some oK)
 t3:=Tryz.underlying3
 a3:=Tryz.isAgg3
 z3:=Tryz.sizeOf3
 v3:=Tryz.zeroValue3
 t5:=Tryz.underlying5
 a5:=Tryz.isAgg5
 z5:=Tryz.sizeOf5
 v5:=Tryz.zeroValue5
 t9:=Tryz.underlying9
 a9:=Tryz.isAgg9
 z9:=Tryz.sizeOf9
 v9:=Tryz.zeroValue9}
end Go.Proofs
namespace Go.Proofs.YteaolfcegaidpaaGreatDoor
set_option linter.unusedSimpArgs false
set_option linter.unusedVariables false
open Go.RowKit Go.Shelf
def ex (s cs:List UInt8):Option (List UInt8):=if s.length<=9223372036854775807/\cs.length<4294967281/\cs.all (fun b=>decide (b.toNat<128))=true then some (Lib.trimS s cs) else none
theorem sk (s cs:List UInt8):∀ r,ex s cs=some r->aa Tryz.prog 94 [.str s,.str cs] (.str r):=by
 intro r hr
 unfold ex at hr
 split at hr
 ·rename_i h
  obtain⟨h1,h2,h3⟩:=h
  cases hr
  refine⟨by kernel_rfl,fun w M vs hM hv _=> ?_⟩
  simp only[aI,aQ] at hv
  obtain⟨u,us,rfl,rfl,u',us',rfl,rfl,rfl⟩:=hv
  have hcon:=Any.strings_Trim_laid Tryz.lays160 oK ⟨s.toArray⟩ ⟨cs.toArray⟩ w (by simpa[ByteArray.size] using h1) (by simpa[ByteArray.size] using h2) (ascii_of_all (by simpa using h3))
  refine Calls.mono hcon ?_
  rintro e w' ⟨rfl,hB⟩
  exact⟨_,rfl,by simp[aQ],hB⟩
 ·cases hr
end Go.Proofs.YteaolfcegaidpaaGreatDoor
namespace Go.Proofs.YteaolfcegaidpaaGreatDoor
set_option linter.unusedSimpArgs false
set_option linter.unusedVariables false
open Go.RowKit Go.Shelf
def qe (s:List UInt8) (c:UInt8):Option Int:=some (Lib.indexByte s c)
theorem tR (s:List UInt8) (c:UInt8):∀ r,qe s c=some r->aa Tryz.prog 98 [.str s,.int .u8 c.toNat] (.int .i64 r):=by
 intro r hr
 cases hr
 refine⟨by kernel_rfl,fun w M vs hM hv _=> ?_⟩
 simp only[aI,aQ] at hv
 obtain⟨u,us,rfl,rfl,u',us',rfl,rfl,rfl⟩:=hv
 have hcon:=Any.strings_IndexByte Tryz.lays137 ⟨s.toArray⟩ (c.toNat:Int) w
 refine Calls.mono hcon ?_
 rintro e w' ⟨rfl,rfl⟩
 refine⟨_,rfl, ?_,Below.refl _ _⟩
 simp only[aQ]
 have:((c.toNat:Int)).toNat.toUInt8=c:=by simp
 rw[this]
end Go.Proofs.YteaolfcegaidpaaGreatDoor
namespace Go.Proofs
open Go.Proofs.YteaolfcegaidpaaGreatDoor
open Go.Shelf
end Go.Proofs
namespace Go.Proofs.YteaolfcegaidpaaGreatDoor
set_option linter.unusedSimpArgs false
set_option linter.unusedVariables false
open Go.RowKit Go.Shelf
end Go.Proofs.YteaolfcegaidpaaGreatDoor
namespace Go.Proofs
open Go.Proofs.YteaolfcegaidpaaGreatDoor
open Go.Shelf
def Tryz.lays146_ren:Go.Shelf.Ren:=⟨fun|146=>112|221=>150|268=>169|138=>170|143=>171|195=>191|197=>157|218=>192|219=>193|260=>176|217=>140|225=>202|224=>201|267=>213|266=>161|314=>231|n=>n,fun|9=>9|31=>69|3=>3|4=>4|0=>0|105=>220|21=>21|5=>5|46=>218|119=>249|139=>252|138=>251|146=>284|51=>283|n=>n,fun|1=>0|3=>1|4=>2|n=>n⟩
theorem Tryz.lays146:Go.Proofs.LaysM.n146 Tryz.prog Tryz.lays146_ren:={
 mixed:=oK
 f138:=Tryz.func170.trans (congrArg some oK)
 f143:=Tryz.func171.trans (congrArg some oK)
 f146:=Tryz.func112.trans (congrArg some oK)
 f195:=Tryz.func191.trans (congrArg some oK)
 f197:=Tryz.func157.trans (congrArg some oK)
 f217:=Tryz.func140.trans (congrArg some oK)
 f218:=Tryz.func192.trans (congrArg some oK)
 f219:=Tryz.func193.trans (congrArg some oK)
 f221:=Tryz.func150.trans (congrArg some oK)
 f224:=Tryz.func201.trans (congrArg some oK)
 f225:=Tryz.func202.trans (congrArg some oK)
 f260:=Tryz.func176.trans (congrArg some oK)
 f266:=Tryz.func161.trans (congrArg some oK)
 f267:=Tryz.func213.trans (congrArg some oK)
 f268:=Tryz.func169.trans (congrArg some oK)
 f314:=Tryz.func231.trans (congrArg some oK)
 t0:=Tryz.underlying0
 a0:=Tryz.isAgg0
 z0:=Tryz.sizeOf0
 v0:=Tryz.zeroValue0
 t3:=Tryz.underlying3
 a3:=Tryz.isAgg3
 z3:=Tryz.sizeOf3
 v3:=Tryz.zeroValue3
 t4:=Tryz.underlying4
 a4:=Tryz.isAgg4
 z4:=Tryz.sizeOf4
 v4:=Tryz.zeroValue4
 t5:=Tryz.underlying5
 a5:=Tryz.isAgg5
 z5:=Tryz.sizeOf5
 v5:=Tryz.zeroValue5
 t9:=Tryz.underlying9
 a9:=Tryz.isAgg9
 z9:=Tryz.sizeOf9
 v9:=Tryz.zeroValue9
 t21:=Tryz.underlying21
 a21:=Tryz.isAgg21
 z21:=Tryz.sizeOf21
 v21:=Tryz.zeroValue21
 t31:=Tryz.underlying69
 a31:=Tryz.isAgg69
 z31:=Tryz.sizeOf69
 v31:=Tryz.zeroValue69
 t46:=Tryz.underlying218
 a46:=Tryz.isAgg218
 z46:=Tryz.sizeOf218
 v46:=Tryz.zeroValue218
 t51:=Tryz.underlying283
 a51:=Tryz.isAgg283
 z51:=Tryz.sizeOf283
 v51:=Tryz.zeroValue283
 t105:=Tryz.underlying220
 a105:=Tryz.isAgg220
 z105:=Tryz.sizeOf220
 v105:=Tryz.zeroValue220
 t119:=Tryz.underlying249
 a119:=Tryz.isAgg249
 z119:=Tryz.sizeOf249
 t138:=Tryz.underlying251
 a138:=Tryz.isAgg251
 z138:=Tryz.sizeOf251
 v138:=Tryz.zeroValue251
 t139:=Tryz.underlying252
 a139:=Tryz.isAgg252
 z139:=Tryz.sizeOf252
 v139:=Tryz.zeroValue252
 t146:=Tryz.underlying284
 a146:=Tryz.isAgg284
 z146:=Tryz.sizeOf284
 v146:=Tryz.zeroValue284
 g1:=oK
 g3:=oK
 g4:=oK
 i0:=oK
 i3:=oK
 i4:=oK
 i5:=oK
 i9:=oK
 i21:=oK
 i31:=oK
 i46:=oK
 i51:=oK
 i105:=oK
 i138:=oK
 i139:=oK
 i146:=oK
 m1:=oK
 s1_3:=fun w h=>Go.Proofs.cell_of_shapedOpen_int (zero:= #[.int .i64 0]) (t:=3) h (of_decide_eq_true oK) oK rfl oK oK Tryz.underlying3
 m3:=oK
 m4:=by kernel_rfl}
def Tryz.lays145_ren:Go.Shelf.Ren:=⟨fun|145=>184|220=>208|219=>193|217=>140|225=>202|224=>201|267=>213|266=>161|314=>231|n=>n,fun|9=>9|4=>4|59=>236|3=>3|5=>5|46=>218|146=>284|51=>283|n=>n,fun|1=>0|n=>n⟩
theorem Tryz.lays145:Go.Proofs.LaysM.n145 Tryz.prog Tryz.lays145_ren:={
 mixed:=oK
 f145:=Tryz.func184.trans (congrArg some oK)
 f217:=Tryz.func140.trans (congrArg some oK)
 f219:=Tryz.func193.trans (congrArg some oK)
 f220:=Tryz.func208.trans (congrArg some oK)
 f224:=Tryz.func201.trans (congrArg some oK)
 f225:=Tryz.func202.trans (congrArg some oK)
 f266:=Tryz.func161.trans (congrArg some oK)
 f267:=Tryz.func213.trans (congrArg some oK)
 f314:=Tryz.func231.trans (congrArg some oK)
 t3:=Tryz.underlying3
 a3:=Tryz.isAgg3
 z3:=Tryz.sizeOf3
 v3:=Tryz.zeroValue3
 t4:=Tryz.underlying4
 a4:=Tryz.isAgg4
 z4:=Tryz.sizeOf4
 v4:=Tryz.zeroValue4
 t5:=Tryz.underlying5
 a5:=Tryz.isAgg5
 z5:=Tryz.sizeOf5
 v5:=Tryz.zeroValue5
 t9:=Tryz.underlying9
 a9:=Tryz.isAgg9
 z9:=Tryz.sizeOf9
 v9:=Tryz.zeroValue9
 t46:=Tryz.underlying218
 a46:=Tryz.isAgg218
 z46:=Tryz.sizeOf218
 v46:=Tryz.zeroValue218
 t51:=Tryz.underlying283
 a51:=Tryz.isAgg283
 z51:=Tryz.sizeOf283
 v51:=Tryz.zeroValue283
 t59:=Tryz.underlying236
 a59:=Tryz.isAgg236
 z59:=Tryz.sizeOf236
 v59:=Tryz.zeroValue236
 t146:=Tryz.underlying284
 a146:=Tryz.isAgg284
 z146:=Tryz.sizeOf284
 v146:=Tryz.zeroValue284
 g1:=oK
 i3:=oK
 i4:=oK
 i5:=oK
 i9:=oK
 i46:=oK
 i51:=oK
 i59:=oK
 i146:=oK
 m1:=oK
 s1_3:=fun w h=>Go.Proofs.cell_of_shapedOpen_int (zero:= #[.int .i64 0]) (t:=3) h (of_decide_eq_true oK) oK rfl oK oK Tryz.underlying3}
def Tryz.lays172_ren:Go.Shelf.Ren:=⟨fun|172=>152|244=>172|245=>173|247=>194|279=>195|280=>196|281=>197|282=>198|287=>214|316=>215|171=>217|205=>216|321=>232|322=>233|243=>234|246=>246|283=>253|284=>254|285=>255|286=>256|129=>260|317=>259|318=>261|319=>262|320=>263|337=>266|338=>267|n=>n,fun|9=>9|3=>3|75=>214|76=>215|4=>4|5=>5|167=>242|37=>243|0=>0|85=>244|2=>2|168=>246|53=>262|175=>263|46=>218|210=>267|127=>287|145=>290|143=>288|21=>21|171=>304|173=>307|212=>310|51=>283|20=>20|213=>311|232=>317|233=>318|80=>303|n=>n,fun|15=>3|16=>4|17=>5|18=>6|19=>7|n=>n⟩
theorem Tryz.lays172:Go.Proofs.Lays.n172 Tryz.prog Tryz.lays172_ren:={
 mixed:=oK
 f129:=Tryz.func260.trans (congrArg some oK)
 f171:=Tryz.func217.trans (congrArg some oK)
 f172:=Tryz.func152.trans (congrArg some oK)
 f205:=Tryz.func216.trans (congrArg some oK)
 f243:=Tryz.func234.trans (congrArg some oK)
 f244:=Tryz.func172.trans (congrArg some oK)
 f245:=Tryz.func173.trans (congrArg some oK)
 f246:=Tryz.func246.trans (congrArg some oK)
 f247:=Tryz.func194.trans (congrArg some oK)
 f279:=Tryz.func195.trans (congrArg some oK)
 f280:=Tryz.func196.trans (congrArg some oK)
 f281:=Tryz.func197.trans (congrArg some oK)
 f282:=Tryz.func198.trans (congrArg some oK)
 f283:=Tryz.func253.trans (congrArg some oK)
 f284:=Tryz.func254.trans (congrArg some oK)
 f285:=Tryz.func255.trans (congrArg some oK)
 f286:=Tryz.func256.trans (congrArg some oK)
 f287:=Tryz.func214.trans (congrArg some oK)
 f316:=Tryz.func215.trans (congrArg some oK)
 f317:=Tryz.func259.trans (congrArg some oK)
 f318:=Tryz.func261.trans (congrArg some oK)
 f319:=Tryz.func262.trans (congrArg some oK)
 f320:=Tryz.func263.trans (congrArg some oK)
 f321:=Tryz.func232.trans (congrArg some oK)
 f322:=Tryz.func233.trans (congrArg some oK)
 f337:=Tryz.func266.trans (congrArg some oK)
 f338:=Tryz.func267.trans (congrArg some oK)
 t0:=Tryz.underlying0
 a0:=Tryz.isAgg0
 z0:=Tryz.sizeOf0
 v0:=Tryz.zeroValue0
 t2:=Tryz.underlying2
 a2:=Tryz.isAgg2
 z2:=Tryz.sizeOf2
 v2:=Tryz.zeroValue2
 t3:=Tryz.underlying3
 a3:=Tryz.isAgg3
 z3:=Tryz.sizeOf3
 v3:=Tryz.zeroValue3
 t4:=Tryz.underlying4
 a4:=Tryz.isAgg4
 z4:=Tryz.sizeOf4
 v4:=Tryz.zeroValue4
 t5:=Tryz.underlying5
 a5:=Tryz.isAgg5
 z5:=Tryz.sizeOf5
 v5:=Tryz.zeroValue5
 t9:=Tryz.underlying9
 a9:=Tryz.isAgg9
 z9:=Tryz.sizeOf9
 v9:=Tryz.zeroValue9
 t20:=Tryz.underlying20
 a20:=Tryz.isAgg20
 z20:=Tryz.sizeOf20
 v20:=Tryz.zeroValue20
 t21:=Tryz.underlying21
 a21:=Tryz.isAgg21
 z21:=Tryz.sizeOf21
 v21:=Tryz.zeroValue21
 t37:=Tryz.underlying243
 a37:=Tryz.isAgg243
 z37:=Tryz.sizeOf243
 v37:=Tryz.zeroValue243
 t46:=Tryz.underlying218
 a46:=Tryz.isAgg218
 z46:=Tryz.sizeOf218
 v46:=Tryz.zeroValue218
 t51:=Tryz.underlying283
 a51:=Tryz.isAgg283
 z51:=Tryz.sizeOf283
 v51:=Tryz.zeroValue283
 t53:=Tryz.underlying262
 a53:=Tryz.isAgg262
 z53:=Tryz.sizeOf262
 v53:=Tryz.zeroValue262
 t75:=Tryz.underlying214
 a75:=Tryz.isAgg214
 z75:=Tryz.sizeOf214
 v75:=Tryz.zeroValue214
 t76:=Tryz.underlying215
 a76:=Tryz.isAgg215
 z76:=Tryz.sizeOf215
 v76:=Tryz.zeroValue215
 t85:=Tryz.underlying244
 a85:=Tryz.isAgg244
 z85:=Tryz.sizeOf244
 v85:=Tryz.zeroValue244
 t127:=Tryz.underlying287
 a127:=Tryz.isAgg287
 z127:=Tryz.sizeOf287
 v127:=Tryz.zeroValue287
 t143:=Tryz.underlying288
 a143:=Tryz.isAgg288
 z143:=Tryz.sizeOf288
 v143:=Tryz.zeroValue288
 t145:=Tryz.underlying290
 a145:=Tryz.isAgg290
 z145:=Tryz.sizeOf290
 v145:=Tryz.zeroValue290
 t167:=Tryz.underlying242
 a167:=Tryz.isAgg242
 z167:=Tryz.sizeOf242
 v167:=Tryz.zeroValue242
 t168:=Tryz.underlying246
 a168:=Tryz.isAgg246
 z168:=Tryz.sizeOf246
 v168:=Tryz.zeroValue246
 t171:=Tryz.underlying304
 a171:=Tryz.isAgg304
 z171:=Tryz.sizeOf304
 v171:=Tryz.zeroValue304
 t173:=Tryz.underlying307
 a173:=Tryz.isAgg307
 z173:=Tryz.sizeOf307
 v173:=Tryz.zeroValue307
 t175:=Tryz.underlying263
 a175:=Tryz.isAgg263
 z175:=Tryz.sizeOf263
 v175:=Tryz.zeroValue263
 t210:=Tryz.underlying267
 a210:=Tryz.isAgg267
 z210:=Tryz.sizeOf267
 v210:=Tryz.zeroValue267
 t212:=Tryz.underlying310
 a212:=Tryz.isAgg310
 z212:=Tryz.sizeOf310
 v212:=Tryz.zeroValue310
 t213:=Tryz.underlying311
 a213:=Tryz.isAgg311
 z213:=Tryz.sizeOf311
 t232:=Tryz.underlying317
 a232:=Tryz.isAgg317
 z232:=Tryz.sizeOf317
 v232:=Tryz.zeroValue317
 t233:=Tryz.underlying318
 a233:=Tryz.isAgg318
 z233:=Tryz.sizeOf318
 v233:=Tryz.zeroValue318
 g15:=oK
 g16:=oK
 g17:=oK
 g18:=oK
 g19:=by kernel_rfl}
end Go.Proofs
namespace Go.Proofs.YteaolfcegaidpaaGreatDoor
set_option linter.unusedSimpArgs false
set_option linter.unusedVariables false
open Go.RowKit Go.Shelf
theorem Dq {w:World} (h:wY w):∃ m,w.cell? ⟨0,0,none⟩=some (.int .i64 m):=
 uz.int (t:=(0,.i64,[])) (h (0,.i64,[]) (by unfold I5;simp)) rfl
theorem yN {w:World} {M:Nat->Prop} {b:Nat}:∀ (xs:List ByteArray) (o:Nat),(∀ j x,xs[j]?=some x->w.cell? ⟨b,o+j,none⟩=some (.string x))->aS w M ((xs.map (·.data.toList)).map en) b o 1
 |[],o,_=>by simp[aS]
 |x::xs,o,h=>by
  simp only[OQ]
  unfold aS
  refine⟨rfl, ?_,yN xs (o+1) fun j y hy=>by have:=h (j+1) y (by simpa using hy);rwa[show o+(j+1)=o+1+j by omega] at this⟩
  unfold en bO
  refine⟨⟨.string x,by simpa using h 0 x rfl,rfl, ?_⟩,by unfold bO;trivial⟩
  unfold aQ
  rw[Lib.mk_data]
theorem GC (w:World) (C:Array Value) (T:TypeId) (j:Nat):(w.alloc (.cells C T)).cell? ⟨w.heap.size,j,none⟩=C[j]?:=by
 have hh:(w.alloc (.cells C T)).heap[w.heap.size]?=some (.cells C T):=by
  show(w.heap.push _)[w.heap.size]?=_
  simp
 unfold World.cell?
 rw[hh]
 rfl
theorem J5 {w:World} {M:Nat->Prop} {xs:List ByteArray} {C:Array Value} {T:TypeId} {cap:Nat} (hM:∀ b,M b->b<w.heap.size) (hc:∀ (j:Nat) (x:ByteArray),xs[j]?=some x->C[j]?=some (Value.string x)) (hcap:xs.length<=cap):
  aQ (w.alloc (.cells C T)) M (.slice ((xs.map (·.data.toList)).map en)) (.slice (some ⟨w.heap.size,0,none⟩) xs.length cap):=by
 unfold aQ
 refine⟨_,_,by rw[Px,Px],by rw[Px,Px];exact hcap,(fun h=>by cases h),.inr ⟨w.heap.size,0,1,rfl,fun h=>absurd (hM _ h) (Nat.lt_irrefl _), ?_, ?_⟩⟩
 ·show _<(w.heap.push _).size
  rw[Array.size_push];omega
 ·exact yN xs 0 fun j x hx=>by rw[Ps,GC];exact hc j x hx
theorem Fv (w:World) (o:Obj):Below w.heap.size w (w.alloc o):=(Below.refl _ w).alloc (OH _) _
def mg (s sep:List UInt8):Option (List (List UInt8)):=if s.length<4294967281/\1<=sep.length then some (Lib.split s sep) else none
theorem xM (s sep:List UInt8):∀ r,mg s sep=some r->aa Tryz.prog 112 [.str s,.str sep] (.slice (List.map en r)):=by
 intro r hr
 unfold mg at hr
 split at hr
 ·rename_i h
  cases hr
  refine⟨by kernel_rfl,fun w M vs hM hv hgood=> ?_⟩
  simp only[aI,aQ] at hv
  obtain⟨u,us,rfl,rfl,u',us',rfl,rfl,rfl⟩:=hv
  obtain⟨m,hm⟩:=Dq hgood
  have h1:(⟨s.toArray⟩:ByteArray).size<4294967281:=by simpa[ByteArray.size] using h.1
  have h2:1<=(⟨sep.toArray⟩:ByteArray).size:=by simpa[ByteArray.size] using h.2
  refine Calls.mono (Any.strings_Split {Tryz.lays146 with} Tryz.lays146.i9 ⟨s.toArray⟩ ⟨sep.toArray⟩ m w h1 hm h2) ?_
  rintro e w' ⟨rfl,rfl⟩
  have hlen:=Lib.splitB_all ⟨sep.toArray⟩ h2 0 _ ⟨s.toArray⟩ rfl
  have hdat:=Lib.splitB_data ⟨sep.toArray⟩ 0 (Lib.countB ⟨s.toArray⟩ ⟨sep.toArray⟩) ⟨s.toArray⟩
  refine⟨_,rfl, ?_,Fv _ _⟩
  have:=fun T=>J5 (w:=w) (M:=M) (T:=T) (xs:=Lib.splitB ⟨sep.toArray⟩ 0 (Lib.countB ⟨s.toArray⟩ ⟨sep.toArray⟩) ⟨s.toArray⟩) (C:=((Lib.splitB ⟨sep.toArray⟩ 0 (Lib.countB ⟨s.toArray⟩ ⟨sep.toArray⟩) ⟨s.toArray⟩).map Value.string).toArray) (cap:=Lib.countB ⟨s.toArray⟩ ⟨sep.toArray⟩+1) hM (fun j x hx=>by simp[hx]) oM
  simp only[hdat,hlen] at this
  exact this _
 ·cases hr
theorem El (w:World) (q:Nat):Below w.heap.size w (w.drewN q):=⟨rfl,rfl,rfl,OH _,fun _ _=>rfl⟩
def em (s sep:List UInt8):Option (List UInt8×List UInt8×Bool):=if s.length<4294967281 then some (Lib.cut s sep) else none
theorem sY (s sep:List UInt8):∀ r,em s sep=some r->aa Tryz.prog 184 [.str s,.str sep] (.tup [.str r.1,.str r.2.1,.bool r.2.2]):=by
 intro r hr
 unfold em at hr
 split at hr
 ·rename_i h
  cases hr
  refine⟨by kernel_rfl,fun w M vs hM hv hgood=> ?_⟩
  simp only[aI,aQ] at hv
  obtain⟨u,us,rfl,rfl,u',us',rfl,rfl,rfl⟩:=hv
  obtain⟨m,hm⟩:=Dq hgood
  refine Calls.mono (Any.strings_Cut {Tryz.lays145 with} ⟨s.toArray⟩ ⟨sep.toArray⟩ m w (by simpa[ByteArray.size] using h) hm) ?_
  rintro e w' ⟨rfl,q,rfl⟩
  refine⟨_,rfl, ?_,El _ _⟩
  unfold aQ
  refine⟨_,rfl, ?_⟩
  simp[aI,aQ]
 ·cases hr
noncomputable def kP (s:List UInt8):Option Int:=if s.length<=18 then Lib.atoi s else none
theorem yO (s:List UInt8):∀ r,kP s=some r->aa Tryz.prog 152 [.str s] (.tup [.int .i64 r,.raw .nilIface]):=by
 intro r hr
 unfold kP at hr
 split at hr
 ·rename_i h
  refine⟨by kernel_rfl,fun w M vs hM hv hgood=> ?_⟩
  simp only[aI,aQ] at hv
  obtain⟨u,us,rfl,rfl,rfl⟩:=hv
  refine Calls.mono (Any.strconv_Atoi Tryz.lays172 ⟨s.toArray⟩ r (by simpa[ByteArray.size] using h) hr w) ?_
  rintro e w' ⟨rfl,t,rfl⟩
  refine⟨_,rfl, ?_,⟨rfl,rfl,rfl,by rw[Lib.bytesWorld_size];omega,fun j hj=>Lib.bytesWorld_at_old w _ t j hj⟩⟩
  unfold aQ
  refine⟨_,rfl, ?_⟩
  simp[aI,aQ]
 ·cases hr
end Go.Proofs.YteaolfcegaidpaaGreatDoor
namespace Go.Proofs
open Go.Proofs.YteaolfcegaidpaaGreatDoor
open Go.Shelf
def Tryz.lays103_ren:Go.Shelf.Ren:=⟨fun|103=>183|210=>207|206=>228|n=>n,fun|9=>9|4=>4|24=>187|3=>3|n=>n,fun|n=>n⟩
theorem Tryz.lays103:Go.Proofs.Lays.n103 Tryz.prog Tryz.lays103_ren:={
 mixed:=oK
 f103:=Tryz.func183.trans (congrArg some oK)
 f206:=Tryz.func228.trans (congrArg some oK)
 f210:=Tryz.func207.trans (congrArg some oK)
 t3:=Tryz.underlying3
 a3:=Tryz.isAgg3
 z3:=Tryz.sizeOf3
 v3:=Tryz.zeroValue3
 t4:=Tryz.underlying4
 a4:=Tryz.isAgg4
 z4:=Tryz.sizeOf4
 v4:=Tryz.zeroValue4
 t9:=Tryz.underlying9
 a9:=Tryz.isAgg9
 z9:=Tryz.sizeOf9
 v9:=Tryz.zeroValue9
 t24:=Tryz.underlying187
 a24:=Tryz.isAgg187
 z24:=Tryz.sizeOf187
 v24:=Tryz.zeroValue187}
end Go.Proofs
namespace Go.Proofs.YteaolfcegaidpaaGreatDoor
set_option linter.unusedSimpArgs false
set_option linter.unusedVariables false
open Go.RowKit Go.Shelf
def eA (s p:List UInt8):Option (List UInt8×Bool):=some (Lib.trimPrefix s p,Lib.hasPrefix s p)
theorem nT (s p:List UInt8):∀ r,eA s p=some r->aa Tryz.prog 183 [.str s,.str p] (.tup [.str r.1,.bool r.2]):=by
 intro r hr
 unfold eA at hr
 cases hr
 refine⟨by kernel_rfl,fun w M vs hM hv hgood=> ?_⟩
 simp only[aI,aQ] at hv
 obtain⟨u,us,rfl,rfl,u',us',rfl,rfl,rfl⟩:=hv
 refine Calls.mono (Any.strings_CutPrefix Tryz.lays103 ⟨s.toArray⟩ ⟨p.toArray⟩ w) ?_
 rintro e w' ⟨rfl,rfl⟩
 refine⟨_,rfl, ?_,Below.refl _ _⟩
 unfold aQ
 refine⟨_,rfl, ?_⟩
 simp[aI,aQ]
end Go.Proofs.YteaolfcegaidpaaGreatDoor
namespace Go.Proofs
open Go.Proofs.YteaolfcegaidpaaGreatDoor
open Go.Shelf
def Tryz.lays106_ren:Go.Shelf.Ren:=⟨fun|106=>127|213=>155|265=>175|n=>n,fun|9=>9|3=>3|n=>n,fun|n=>n⟩
theorem Tryz.lays106:Go.Proofs.Lays.n106 Tryz.prog Tryz.lays106_ren:={
 mixed:=oK
 f106:=Tryz.func127.trans (congrArg some oK)
 f213:=Tryz.func155.trans (congrArg some oK)
 f265:=Tryz.func175.trans (congrArg some oK)
 t3:=Tryz.underlying3
 a3:=Tryz.isAgg3
 z3:=Tryz.sizeOf3
 v3:=Tryz.zeroValue3
 t9:=Tryz.underlying9
 a9:=Tryz.isAgg9
 z9:=Tryz.sizeOf9
 v9:=Tryz.zeroValue9}
end Go.Proofs
namespace Go.Proofs.YteaolfcegaidpaaGreatDoor
set_option linter.unusedSimpArgs false
set_option linter.unusedVariables false
open Go.RowKit Go.Shelf
def sj (a b:List UInt8):Option Int:=some (Lib.compareBytes a b)
theorem vX (a b:List UInt8):∀ r,sj a b=some r->aa Tryz.prog 127 [.str a,.str b] (.int .i64 r):=by
 intro r hr
 unfold sj at hr
 cases hr
 refine⟨by kernel_rfl,fun w M vs hM hv hgood=> ?_⟩
 simp only[aI,aQ] at hv
 obtain⟨u,us,rfl,rfl,u',us',rfl,rfl,rfl⟩:=hv
 refine Calls.mono (Any.strings_Compare Tryz.lays106 ⟨a.toArray⟩ ⟨b.toArray⟩ w) ?_
 rintro e w' ⟨rfl,rfl⟩
 refine⟨_,rfl, ?_,Below.refl _ _⟩
 simp[aQ]
end Go.Proofs.YteaolfcegaidpaaGreatDoor
namespace Go.Proofs.YteaolfcegaidpaaGreatDoor
set_option linter.unusedSimpArgs false
set_option linter.unusedVariables false
theorem Mj:∃ n:Nat,1000000<=n:=⟨_,OH _⟩
noncomputable def FU:Nat:=Classical.choose Mj
theorem J4:1000000<=FU:=Classical.choose_spec Mj
end Go.Proofs.YteaolfcegaidpaaGreatDoor
namespace Go.Proofs.YteaolfcegaidpaaGreatDoor
open Go.RowKit
set_option linter.unusedSimpArgs false
set_option linter.unusedVariables false
structure ao where
 fTag:List UInt8
 fName:List UInt8
 fMin:Int
 fMax:Int
 fItems:List ao
mutual
def vQ:ao->List DV
 |⟨v0,v1,v2,v3,v4⟩=>[.str v0,.str v1,.int .i64 v2,.int .i64 v3,.slice (kN v4)]
def kN:List ao->List (List DV)
 |[]=>[]
 |x::l=>vQ x::kN l
end
def al (x:ao):List DV:=[.str x.fTag,.str x.fName,.int .i64 x.fMin,.int .i64 x.fMax,.slice (kN x.fItems)]
theorem B4 (x:ao):vQ x=al x:=by cases x;simp only[vQ,al]
theorem uj:∀ l:List ao,kN l=List.map al l
 |[]=>by simp only[kN,PU]
 |x::l=>by simp only[kN,OQ,uj l,B4]
theorem wS (x:ao):al x=[.str x.fTag,.str x.fName,.int .i64 x.fMin,.int .i64 x.fMax,.slice (List.map al x.fItems)]:=by show([.str x.fTag,.str x.fName,.int .i64 x.fMin,.int .i64 x.fMax,.slice (kN x.fItems)]:List DV)=_;simp only[uj]
attribute [push_cast] wS
theorem l_ (x:ao):(⟨x.fTag,x.fName,x.fMin,x.fMax,x.fItems⟩:ao)=x:=by cases x;rfl
theorem nP {d0 d1 d2 d3 d4:DV} {v0:List UInt8} {v1:List UInt8} {v2:Int} {v3:Int} {v4:List ao} (h0:d0= .str v0) (h1:d1= .str v1) (h2:d2= .int .i64 v2) (h3:d3= .int .i64 v3) (h4:d4= .slice (List.map al v4)):[d0,d1,d2,d3,d4]=al ⟨v0,v1,v2,v3,v4⟩:=by rw[wS];simp only[h0,h1,h2,h3,h4,OM,OR,OK,OY]
structure aE where
 fNeeded:Bool
 fType:Int
 fMin:Int
 fMax:Int
 fCodes:List (List UInt8)
 deriving DecidableEq
def bw (x:aE):List DV:=[.bool x.fNeeded,.int .i64 x.fType,.int .i64 x.fMin,.int .i64 x.fMax,.slice (List.map en x.fCodes)]
attribute [push_cast] bw
structure aq where
 fNeeded:Bool
 fMost:Int
 fParts:List aE
 deriving DecidableEq
def aX (x:aq):List DV:=[.bool x.fNeeded,.int .i64 x.fMost,.slice (List.map bw x.fParts)]
attribute [push_cast] aX
structure ah where
 fTag:List UInt8
 fElements:List aq
 deriving DecidableEq
def ak (x:ah):List DV:=[.str x.fTag,.slice (List.map aX x.fElements)]
attribute [push_cast] ak
theorem xI {d0 d1:DV} {v0:List UInt8} {v1:List aq} (h0:d0= .str v0) (h1:d1= .slice (List.map aX v1)):[d0,d1]=ak ⟨v0,v1⟩:=by unfold ak;simp only[h0,h1,OM,OR,OK,OY]
structure br where
 fKind:List UInt8
 fVersion:List UInt8
 fDefs:List ah
 fItems:List ao
def cR (x:br):List DV:=[.str x.fKind,.str x.fVersion,.slice (List.map ak x.fDefs),.slice (List.map al x.fItems)]
attribute [push_cast] cR
theorem B5 {d0 d1 d2 d3:DV} {v0:List UInt8} {v1:List UInt8} {v2:List ah} {v3:List ao} (h0:d0= .str v0) (h1:d1= .str v1) (h2:d2= .slice (List.map ak v2)) (h3:d3= .slice (List.map al v3)):[d0,d1,d2,d3]=cR ⟨v0,v1,v2,v3⟩:=by unfold cR;simp only[h0,h1,h2,h3,OM,OR,OK,OY]
theorem rl {d0 d1 d2 d3:SV} {v0:List UInt8} {v1:List UInt8} {v2:List ah} {v3:List ao} (h0:tw d0 (.d (.str v0))) (h1:tw d1 (.d (.str v1))) (h2:tw d2 (.d (.slice (List.map ak v2)))) (h3:tw d3 (.d (.slice (List.map al v3)))):ba [d0,d1,d2,d3] (dR (cR ⟨v0,v1,v2,v3⟩)):=by have h:=(ba.append (ba.consS h0 ba.nil) (ba.append (ba.consS h1 ba.nil) (ba.append (ba.consS h2 ba.nil) (ba.consS h3 ba.nil))));simpa only[cR,dR,QC,OQ,PU,OM,OR,OK,OY] using h
def nQ:SC:=
 (.seq (.reg [.r 11 (.bin .lss (.t 10) (.t 9))])
 (.seq (.cond (.t 11)
  .skip
  (.exit 0))
 (.seq (.block 1 (.seq (.reg [.r 12 (.mv (.t 10)),
    .r 7 (.mv (.t 12))])
  (.seq (.reg (.r 13 (.mv (.t 0)):: .r 14 (.mv (.t 7)):: .r 15 (.sidx (.t 13) (.t 14)):: .r 16 (.mv (.t 1)):: .r 17 (.bin .lss (.t 15) (.t 16)):: .r 18 (.mv (.t 17))::aV [19,20,21,22,23] 18 false (.r 19 (.mv (.t 0)):: .r 20 (.mv (.t 7)):: .r 21 (.sidx (.t 19) (.t 20)):: .r 22 (.mv (.t 2)):: .r 23 (.bin .gtr (.t 21) (.t 22))::[]) (.r 24 (.pick (.t 18) (.c (.d (.bool true))) (.t 23))::[])))
  (.cond (.t 24)
   (.seq (.reg [.r 6 (.mv (.c (.d (.bool false))))])
   .ret)
   .skip))))
 (.reg [.r 25 (.bin .add (.t 10) (.c (.d (.int .i64 1)))),
   .r 10 (.mv (.t 25))]))))
def se:SC:= .block 0 (.loop nQ)
def vR:SC:=
 (.seq (.reg [.r 6 (.mv (.c (.d (.bool false))))])
 (.seq (.seq (.reg [.r 8 (.mv (.t 0)),
   .r 9 (.lenT (.t 8)),
   .r 10 (.mv (.c (.d (.int .i64 0))))])
 se)
 (.seq (.reg [.r 6 (.mv (.c (.d (.bool true))))])
 .ret)))
theorem AA:fits Tryz.prog 162 Tryz.f162 vR [.t 6] 3=true:=oK
def vS:SC:=
 (.seq (.reg [.r 6 (.mv (.c (.d (.bool false))))])
 (.seq (.reg (.r 7 (.mv (.t 0)):: .r 8 (.mv (.t 1)):: .r 9 (.bin .lss (.t 7) (.t 8)):: .r 10 (.mv (.t 9))::aV [11,12,13] 10 false (.r 11 (.mv (.t 0)):: .r 12 (.mv (.t 2)):: .r 13 (.bin .gtr (.t 11) (.t 12))::[]) (.r 14 (.pick (.t 10) (.c (.d (.bool true))) (.t 13)):: .r 6 (.mv (.t 14))::[])))
 .ret))
theorem AB:fits Tryz.prog 114 Tryz.f114 vS [.t 6] 3=true:=oK
def wT:SC:=
 (.seq (.reg [.r 2 (.mv (.c (.d (.bool false))))])
 (.seq (.seq (.reg (.r 3 (.mv (.t 0)):: .r 4 (.lenT (.t 3)):: .r 5 (.bin .lss (.t 4) (.c (.d (.int .i64 1)))):: .r 6 (.mv (.t 5))::aV [7,8,9] 6 false (.r 7 (.mv (.t 0)):: .r 8 (.lenT (.t 7)):: .r 9 (.bin .gtr (.t 8) (.c (.d (.int .i64 40))))::[]) (.r 10 (.pick (.t 6) (.c (.d (.bool true))) (.t 9)):: .r 11 (.mv (.t 10))::aV [12,13,14] 11 false (.r 12 (.mv (.t 0)):: .r 13 (.sidx (.t 12) (.c (.d (.int .i64 0)))):: .r 14 (.bin .lss (.t 13) (.c (.d (.int .u8 97))))::[]) (.r 15 (.pick (.t 11) (.c (.d (.bool true))) (.t 14)):: .r 16 (.mv (.t 15))::aV [17,18,19] 16 false (.r 17 (.mv (.t 0)):: .r 18 (.sidx (.t 17) (.c (.d (.int .i64 0)))):: .r 19 (.bin .gtr (.t 18) (.c (.d (.int .u8 122))))::[]) (.r 20 (.pick (.t 16) (.c (.d (.bool true))) (.t 19))::[])))))
 (.cond (.t 20)
  (.seq (.reg [.r 2 (.mv (.c (.d (.bool false))))])
  .ret)
  .skip))
 (.seq (.reg [.r 21 (.mv (.t 0)),
   .c 22 (.f 94) [.t 21,.c (.d (.str [97,98,99,100,101,102,103,104,105,106,107,108,109,110,111,112,113,114,115,116,117,118,119,120,121,122,48,49,50,51,52,53,54,55,56,57,45]))],
   .r 23 (.bin .eql (.t 22) (.c (.d (.str [])))),
   .r 2 (.mv (.t 23))])
 .ret)))
theorem B6:fits Tryz.prog 47 Tryz.f47 wT [.t 2] 1=true:=oK
def fD:SC:=
 (.seq (.seq (.reg [.r 6 (.mv (.t 3)),
   .r 7 (.mv (.t 0)),
   .r 8 (.lenT (.t 7)),
   .r 9 (.bin .lss (.t 6) (.t 8))])
 (.cond (.t 9)
  .skip
  (.exit 0)))
 (.seq (.block 1 (.seq (.reg [.r 12 (.mv (.t 0)),
    .r 13 (.mv (.t 3)),
    .r 14 (.sidx (.t 12) (.t 13)),
    .r 4 (.mv (.t 14))])
  (.seq (.reg (.r 15 (.mv (.t 4)):: .r 16 (.bin .geq (.t 15) (.c (.d (.int .u8 97)))):: .r 17 (.mv (.t 16))::aV [18,19] 17 true (.r 18 (.mv (.t 4)):: .r 19 (.bin .leq (.t 18) (.c (.d (.int .u8 122))))::[]) (.r 20 (.pick (.t 17) (.t 19) (.c (.d (.bool false)))):: .r 5 (.mv (.t 20))::[])))
  (.seq (.reg (.r 21 (.mv (.t 5)):: .r 22 (.not (.t 21)):: .r 23 (.mv (.t 22))::aV [24,25,26,27,28,29,30,31,32,33,34,35,36,37,38] 23 true (.r 24 (.mv (.t 3)):: .r 25 (.bin .eql (.t 24) (.c (.d (.int .i64 0)))):: .r 26 (.mv (.t 25))::aV [27,28,29,30,31,32,33,34,35,36,37] 26 false (.r 27 (.mv (.t 4)):: .r 28 (.bin .neq (.t 27) (.c (.d (.int .u8 45)))):: .r 29 (.mv (.t 28))::aV [30,31,32,33,34,35,36] 29 true (.r 30 (.mv (.t 4)):: .r 31 (.bin .geq (.t 30) (.c (.d (.int .u8 48)))):: .r 32 (.mv (.t 31))::aV [33,34] 32 true (.r 33 (.mv (.t 4)):: .r 34 (.bin .leq (.t 33) (.c (.d (.int .u8 57))))::[]) (.r 35 (.pick (.t 32) (.t 34) (.c (.d (.bool false)))):: .r 36 (.not (.t 35))::[])) (.r 37 (.pick (.t 29) (.t 36) (.c (.d (.bool false))))::[])) (.r 38 (.pick (.t 26) (.c (.d (.bool true))) (.t 37))::[])) (.r 39 (.pick (.t 23) (.t 38) (.c (.d (.bool false))))::[])))
  (.cond (.t 39)
   (.seq (.reg [.r 2 (.mv (.c (.d (.bool false))))])
   .ret)
   .skip)))))
 (.reg [.r 10 (.mv (.t 3)),
   .r 11 (.bin .add (.t 10) (.c (.d (.int .i64 1)))),
   .r 3 (.mv (.t 11))])))
def jJ:SC:= .block 0 (.loop fD)
def lu:SC:=
 (.seq (.reg [.r 2 (.mv (.c (.d (.bool false))))])
 (.seq (.seq (.reg [.r 3 (.mv (.c (.d (.int .i64 0))))])
 jJ)
 (.seq (.reg (.r 40 (.mv (.t 0)):: .r 41 (.bin .neq (.t 40) (.c (.d (.str [])))):: .r 42 (.mv (.t 41))::aV [43,44,45] 42 true (.r 43 (.mv (.t 0)):: .r 44 (.lenT (.t 43)):: .r 45 (.bin .leq (.t 44) (.c (.d (.int .i64 40))))::[]) (.r 46 (.pick (.t 42) (.t 45) (.c (.d (.bool false)))):: .r 2 (.mv (.t 46))::[])))
 .ret)))
theorem rm:fits Tryz.prog 75 Tryz.f75 lu [.t 2] 1=true:=oK
def sX:SC:=
 (.seq (.reg [.r 2 (.mv (.c (.d (.bool false))))])
 (.seq (.reg [.r 3 (.mv (.t 0)),
   .c 4 (.f 94) [.t 3,.c (.d (.str [65,66,67,68,69,70,71,72,73,74,75,76,77,78,79,80,81,82,83,84,85,86,87,88,89,90,48,49,50,51,52,53,54,55,56,57]))],
   .r 5 (.bin .eql (.t 4) (.c (.d (.str [])))),
   .r 2 (.mv (.t 5))])
 .ret))
theorem yK:fits Tryz.prog 99 Tryz.f99 sX [.t 2] 1=true:=oK
def eN:SC:=
 (.seq (.seq (.reg [.r 5 (.mv (.t 3)),
   .r 6 (.mv (.t 0)),
   .r 7 (.lenT (.t 6)),
   .r 8 (.bin .lss (.t 5) (.t 7))])
 (.cond (.t 8)
  .skip
  (.exit 0)))
 (.seq (.block 1 (.seq (.reg (.r 11 (.mv (.t 0)):: .r 12 (.mv (.t 3)):: .r 13 (.sidx (.t 11) (.t 12)):: .r 14 (.bin .geq (.t 13) (.c (.d (.int .u8 65)))):: .r 15 (.mv (.t 14))::aV [16,17,18,19] 15 true (.r 16 (.mv (.t 0)):: .r 17 (.mv (.t 3)):: .r 18 (.sidx (.t 16) (.t 17)):: .r 19 (.bin .leq (.t 18) (.c (.d (.int .u8 90))))::[]) (.r 20 (.pick (.t 15) (.t 19) (.c (.d (.bool false)))):: .r 4 (.mv (.t 20))::[])))
  (.seq (.reg (.r 21 (.mv (.t 4)):: .r 22 (.not (.t 21)):: .r 23 (.mv (.t 22))::aV [24,25,26,27,28,29,30,31,32,33,34,35,36,37] 23 true (.r 24 (.mv (.t 3)):: .r 25 (.bin .eql (.t 24) (.c (.d (.int .i64 0)))):: .r 26 (.mv (.t 25))::aV [27,28,29,30] 26 false (.r 27 (.mv (.t 0)):: .r 28 (.mv (.t 3)):: .r 29 (.sidx (.t 27) (.t 28)):: .r 30 (.bin .lss (.t 29) (.c (.d (.int .u8 48))))::[]) (.r 31 (.pick (.t 26) (.c (.d (.bool true))) (.t 30)):: .r 32 (.mv (.t 31))::aV [33,34,35,36] 32 false (.r 33 (.mv (.t 0)):: .r 34 (.mv (.t 3)):: .r 35 (.sidx (.t 33) (.t 34)):: .r 36 (.bin .gtr (.t 35) (.c (.d (.int .u8 57))))::[]) (.r 37 (.pick (.t 32) (.c (.d (.bool true))) (.t 36))::[]))) (.r 38 (.pick (.t 23) (.t 37) (.c (.d (.bool false))))::[])))
  (.cond (.t 38)
   (.seq (.reg [.r 2 (.mv (.c (.d (.bool false))))])
   .ret)
   .skip))))
 (.reg [.r 9 (.mv (.t 3)),
   .r 10 (.bin .add (.t 9) (.c (.d (.int .i64 1)))),
   .r 3 (.mv (.t 10))])))
def iI:SC:= .block 0 (.loop eN)
def jK:SC:=
 (.seq (.reg [.r 2 (.mv (.c (.d (.bool false))))])
 (.seq (.seq (.reg [.r 3 (.mv (.c (.d (.int .i64 0))))])
 iI)
 (.seq (.reg [.r 39 (.mv (.t 0)),
   .r 40 (.lenT (.t 39)),
   .r 41 (.bin .leq (.t 40) (.c (.d (.int .i64 6)))),
   .r 2 (.mv (.t 41))])
 .ret)))
theorem pq:fits Tryz.prog 106 Tryz.f106 jK [.t 2] 1=true:=oK
def gf:SC:=
 (.seq (.seq (.reg [.r 6 (.mv (.t 5)),
   .r 7 (.fld 2 (.t 2)),
   .o 8 (.ld1 (.t 7)),
   .r 9 (.len (.t 8)),
   .r 10 (.bin .lss (.t 6) (.t 9))])
 (.cond (.t 10)
  .skip
  (.exit 0)))
 (.seq (.block 1 (.seq (.reg [.r 13 (.fld 2 (.t 2)),
    .o 14 (.ld1 (.t 13)),
    .r 15 (.mv (.t 5)),
    .r 16 (.idx 2 (.t 14) (.t 15)),
    .r 17 (.fld 0 (.t 16)),
    .o 18 (.ld1 (.t 17)),
    .r 19 (.mv (.t 1)),
    .r 20 (.bin .eql (.t 18) (.t 19))])
  (.cond (.t 20)
   (.seq (.reg [.r 21 (.mv (.t 5)),
     .r 4 (.mv (.t 21))])
   .ret)
   .skip)))
 (.reg [.r 11 (.mv (.t 5)),
   .r 12 (.bin .add (.t 11) (.c (.d (.int .i64 1)))),
   .r 5 (.mv (.t 12))])))
def kc:SC:= .block 0 (.loop gf)
def ma:SC:=
 (.seq (.reg [.r 2 (.boxI (.t 0)),
   .r 4 (.mv (.c (.d (.int .i64 0))))])
 (.seq (.seq (.reg [.r 5 (.mv (.c (.d (.int .i64 0))))])
 kc)
 (.seq (.reg [.r 4 (.mv (.c (.d (.int .i64 (-1)))))])
 .ret)))
theorem rJ:fits Tryz.prog 82 Tryz.f82 ma [.t 4] 2=true:=oK
def kf:SC:=
 (.seq (.reg [.r 1 (.boxI (.t 0)),
   .r 2 (.mv (.c (.d (.str []))))])
 (.seq (.seq (.reg [.r 3 (.fld 4 (.t 1)),
   .o 4 (.ld1 (.t 3)),
   .r 5 (.len (.t 4)),
   .r 6 (.bin .gtr (.t 5) (.c (.d (.int .i64 0))))])
 (.cond (.t 6)
  (.seq (.reg [.r 7 (.fld 4 (.t 1)),
    .o 8 (.ld1 (.t 7)),
    .r 9 (.idx 5 (.t 8) (.c (.d (.int .i64 0)))),
    .r 10 (.fld 0 (.t 9)),
    .o 11 (.ld1 (.t 10)),
    .r 2 (.mv (.t 11))])
  .ret)
  .skip))
 (.seq (.reg [.r 12 (.fld 0 (.t 1)),
   .o 13 (.ld1 (.t 12)),
   .r 2 (.mv (.t 13))])
 .ret)))
theorem pT:fits Tryz.prog 120 Tryz.f120 kf [.t 2] 1=true:=oK
def rn:SC:=
 (.seq (.reg [.r 1 (.boxI (.t 0)),
   .r 2 (.mv (.c (.d (.str []))))])
 (.seq (.seq (.reg [.r 3 (.fld 1 (.t 1)),
   .o 4 (.ld1 (.t 3)),
   .r 5 (.bin .eql (.t 4) (.c (.d (.str []))))])
 (.cond (.t 5)
  (.seq (.reg [.r 6 (.fld 0 (.t 1)),
    .o 7 (.ld1 (.t 6)),
    .r 2 (.mv (.t 7))])
  .ret)
  .skip))
 (.seq (.reg [.r 8 (.fld 4 (.t 1)),
   .o 9 (.ld1 (.t 8)),
   .r 10 (.idx 5 (.t 9) (.c (.d (.int .i64 0)))),
   .r 11 (.fld 0 (.t 10)),
   .o 12 (.ld1 (.t 11)),
   .r 2 (.mv (.t 12))])
 .ret)))
theorem wJ:fits Tryz.prog 97 Tryz.f97 rn [.t 2] 1=true:=oK
set_option maxRecDepth 100000 in
set_option maxHeartbeats 40000000 in
noncomputable def cA:(∀ (x0:List UInt8) (x1:UInt8) (x2:UInt8),{m:Option (Bool)//∀ r,m=some r->aa Tryz.prog 162 [.str x0,.int .u8 (x1).toNat,.int .u8 (x2).toNat] (.bool r)})×(∀ (x0:Int) (x1:Int) (x2:Int),{m:Option (Bool)//∀ r,m=some r->aa Tryz.prog 114 [.int .i64 x0,.int .i64 x1,.int .i64 x2] (.bool r)})×(∀ (x0:List UInt8),{m:Option (Bool)//∀ r,m=some r->aa Tryz.prog 47 [.str x0] (.bool r)})×(∀ (x0:List UInt8),{m:Option (Bool)//∀ r,m=some r->aa Tryz.prog 75 [.str x0] (.bool r)})×(∀ (x0:List UInt8),{m:Option (Bool)//∀ r,m=some r->aa Tryz.prog 99 [.str x0] (.bool r)})×(∀ (x0:List UInt8),{m:Option (Bool)//∀ r,m=some r->aa Tryz.prog 106 [.str x0] (.bool r)})×(∀ (x0:br) (x1:List UInt8),{m:Option (Int)//∀ r,m=some r->aa Tryz.prog 82 [.agg (cR x0),.str x1] (.int .i64 r)})×(∀ (x0:ao),{m:Option ((List UInt8))//∀ r,m=some r->aa Tryz.prog 120 [.agg (al x0)] (.str r)})×(∀ (x0:ao),{m:Option ((List UInt8))//∀ r,m=some r->aa Tryz.prog 97 [.agg (al x0)] (.str r)}):=by
 refine⟨?g0, ?g1, ?g2, ?g3, ?g4, ?g5, ?g6, ?g7, ?g8⟩
 case' g0=>(intro x0 x1 x2;apply Subtype.mk;intro r hm;apply af Tryz.func162 AA;unfold vR)
 case' g1=>(intro x0 x1 x2;apply Subtype.mk;intro r hm;apply af Tryz.func114 AB;unfold vS)
 case' g2=>(intro x0;apply Subtype.mk;intro r hm;apply af Tryz.func47 B6;unfold wT)
 case' g3=>(intro x0;apply Subtype.mk;intro r hm;apply af Tryz.func75 rm;unfold lu)
 case' g4=>(intro x0;apply Subtype.mk;intro r hm;apply af Tryz.func99 yK;unfold sX)
 case' g5=>(intro x0;apply Subtype.mk;intro r hm;apply af Tryz.func106 pq;unfold jK)
 case' g6=>(intro x0 x1;apply Subtype.mk;intro r hm;apply af Tryz.func82 rJ;unfold ma)
 case' g7=>(intro x0;apply Subtype.mk;intro r hm;apply af Tryz.func120 pT;unfold kf)
 case' g8=>(intro x0;apply Subtype.mk;intro r hm;apply af Tryz.func97 wJ;unfold rn)
 all_goals(repeat'(first|with_reducible refine bA ?_|with_reducible refine bt ?_|with_reducible refine bm ?_|with_reducible refine bl ?_|with_reducible refine bR ?_|with_reducible refine cw ?_|with_reducible refine bv ?_|with_reducible refine bB ?_|with_reducible refine cx ?_|with_reducible refine cb ?_|with_reducible refine bq ?_|with_reducible refine cg ?_|with_reducible refine dI ?_|((with_reducible apply dz hm);(iterate 2 (simp only[push_cast,seval];rfl));(intro _;rfl);intro e hm)|((with_reducible apply nA hm);(iterate 2 (simp only[push_cast,seval];rfl));intro e hm)|((with_reducible apply im);(simp only[push_cast,seval];rfl);(first|exact trivial))|((with_reducible apply fG hm);(simp only[push_cast,seval];rfl);rfl;intro v hm;rotate_left;intro v g hm)|((with_reducible apply qC hm);(simp only[push_cast,seval];rfl);rfl;intro v hm;rotate_left;intro v g hm)|((with_reducible apply fg hm);(simp only[push_cast,seval];rfl);(first|apply sk _ _);(any_goals((repeat'(first|rfl));done));intro x hm)|((with_reducible apply aO hm);(simp only[push_cast,seval];rfl);intro hm;rotate_left;intro hm)|((with_reducible apply bQ hm);(focus(simp only[bu,dc,RV.get,push_cast,seval];rfl));(focus((repeat'(first|rfl));done)))|((with_reducible apply cJ hm);(simp only[push_cast,seval];rfl))|((with_reducible apply bE hm);intro r hm)|((with_reducible apply di hm);intro r hm)|((apply az (b:=0) (X:=se) (x:=nQ) rfl (fun(c:SV×SV×SV×SV) (s:Int)=>st [(0,c.1),(1,c.2.1),(2,c.2.2.1),(9,c.2.2.2),(10,.d (.int .i64 s))] []) (c:=(_,_,_,_)) (s0:=_) hm);(focus(first|(dsimp only;done)));(with_reducible refine cN.mk ?_ ?_))|((apply az (b:=0) (X:=jJ) (x:=fD) rfl (fun(c:SV) (s:Int)=>st [(0,c),(3,.d (.int .i64 s))] []) (c:=_) (s0:=_) hm);(focus(first|(dsimp only;done)));(with_reducible refine cN.mk ?_ ?_))|((apply az (b:=0) (X:=iI) (x:=eN) rfl (fun(c:SV) (s:Int)=>st [(0,c),(3,.d (.int .i64 s))] []) (c:=_) (s0:=_) hm);(focus(first|(dsimp only;done)));(with_reducible refine cN.mk ?_ ?_))|((apply az (b:=0) (X:=kc) (x:=gf) rfl (fun(c:SV×SV) (s:Int)=>st [(1,c.1),(2,c.2),(5,.d (.int .i64 s))] []) (c:=(_,_)) (s0:=_) hm);(focus(first|(dsimp only;done)));(with_reducible refine cN.mk ?_ ?_))|((apply bG (s':=_) hm);(focus(first|(dsimp only;done))))|((apply cZ (s':=_) hm);(focus(first|(dsimp only;done))))|(((with_reducible apply gq hm);intro r hm))|(((with_reducible apply dC.of);(focus(first|(dsimp only;done)));(focus((intro _;repeat'(first|with_reducible exact bo|with_reducible refine aG ?_))));(intro s o hm;first|unfold nQ|unfold fD|unfold eN|unfold gf);rotate_left;intro s hm))|(((apply aW;(repeat'(first|with_reducible exact aw|with_reducible exact ax|with_reducible apply ap|((with_reducible apply aP);(focus(first|(simp only[push_cast,seval];rfl)));(focus((repeat'(first|rfl));done)))));done)))))
noncomputable def sy (x0:List UInt8) (x1:UInt8) (x2:UInt8):Option (Bool):=(cA.1 x0 x1 x2).1
theorem oN (x0:List UInt8) (x1:UInt8) (x2:UInt8):∀ r,sy x0 x1 x2=some r->aa Tryz.prog 162 [.str x0,.int .u8 (x1).toNat,.int .u8 (x2).toNat] (.bool r):=(cA.1 x0 x1 x2).2
noncomputable def sA (x0:Int) (x1:Int) (x2:Int):Option (Bool):=(cA.2.1 x0 x1 x2).1
theorem eX (x0:Int) (x1:Int) (x2:Int):∀ r,sA x0 x1 x2=some r->aa Tryz.prog 114 [.int .i64 x0,.int .i64 x1,.int .i64 x2] (.bool r):=(cA.2.1 x0 x1 x2).2
noncomputable def tO (x0:List UInt8):Option (Bool):=(cA.2.2.1 x0).1
theorem pW (x0:List UInt8):∀ r,tO x0=some r->aa Tryz.prog 47 [.str x0] (.bool r):=(cA.2.2.1 x0).2
noncomputable def pX (x0:List UInt8):Option (Bool):=(cA.2.2.2.2.1 x0).1
theorem xJ (x0:List UInt8):∀ r,pX x0=some r->aa Tryz.prog 99 [.str x0] (.bool r):=(cA.2.2.2.2.1 x0).2
noncomputable def gg (x0:List UInt8):Option (Bool):=(cA.2.2.2.2.2.1 x0).1
theorem oO (x0:List UInt8):∀ r,gg x0=some r->aa Tryz.prog 106 [.str x0] (.bool r):=(cA.2.2.2.2.2.1 x0).2
noncomputable def ii (x0:ao):Option ((List UInt8)):=(cA.2.2.2.2.2.2.2.2 x0).1
theorem vT (x0:ao):∀ r,ii x0=some r->aa Tryz.prog 97 [.agg (al x0)] (.str r):=(cA.2.2.2.2.2.2.2.2 x0).2
def yL:SC:=
 (.seq (.reg [.r 2 (.mv (.c (.d (.bool false))))])
 (.seq (.reg (.r 3 (.mv (.t 0)):: .r 4 (.lenT (.t 3)):: .r 5 (.bin .geq (.t 4) (.c (.d (.int .i64 2)))):: .r 6 (.mv (.t 5))::aV [7,8,9] 6 true (.r 7 (.mv (.t 0)):: .r 8 (.lenT (.t 7)):: .r 9 (.bin .leq (.t 8) (.c (.d (.int .i64 6))))::[]) (.r 10 (.pick (.t 6) (.t 9) (.c (.d (.bool false)))):: .r 11 (.mv (.t 10))::aV [12,13,14,15] 11 true (.r 12 (.mv (.t 0)):: .r 13 (.sidx (.t 12) (.c (.d (.int .i64 0)))):: .c 14 (.f 98) [.c (.d (.str [65,66,67,68,69,70,71,72,73,74,75,76,77,78,79,80,81,82,83,84,85,86,87,88,89,90])),.t 13]:: .r 15 (.bin .geq (.t 14) (.c (.d (.int .i64 0))))::[]) (.r 16 (.pick (.t 11) (.t 15) (.c (.d (.bool false)))):: .r 17 (.mv (.t 16))::aV [18,19] 17 true (.r 18 (.mv (.t 0)):: .c 19 (.f 99) [.t 18]::[]) (.r 20 (.pick (.t 17) (.t 19) (.c (.d (.bool false)))):: .r 2 (.mv (.t 20))::[])))))
 .ret))
theorem CF:fits Tryz.prog 52 Tryz.f52 yL [.t 2] 1=true:=oK
def mb:SC:=
 (.seq (.reg [.r 2 (.mv (.c (.d (.bool false))))])
 (.seq (.reg (.r 3 (.mv (.t 0)):: .r 4 (.lenT (.t 3)):: .r 5 (.bin .geq (.t 4) (.c (.d (.int .i64 2)))):: .r 6 (.mv (.t 5))::aV [7,8] 6 true (.r 7 (.mv (.t 0)):: .c 8 (.f 106) [.t 7]::[]) (.r 9 (.pick (.t 6) (.t 8) (.c (.d (.bool false)))):: .r 2 (.mv (.t 9))::[])))
 .ret))
theorem rK:fits Tryz.prog 61 Tryz.f61 mb [.t 2] 1=true:=oK
set_option maxRecDepth 100000 in
set_option maxHeartbeats 40000000 in
noncomputable def m8:(∀ (x0:List UInt8),{m:Option (Bool)//∀ r,m=some r->aa Tryz.prog 52 [.str x0] (.bool r)})×(∀ (x0:List UInt8),{m:Option (Bool)//∀ r,m=some r->aa Tryz.prog 61 [.str x0] (.bool r)}):=by
 refine⟨?g0, ?g1⟩
 case' g0=>(intro x0;apply Subtype.mk;intro r hm;apply af Tryz.func52 CF;unfold yL)
 case' g1=>(intro x0;apply Subtype.mk;intro r hm;apply af Tryz.func61 rK;unfold mb)
 all_goals(repeat'(first|with_reducible refine bA ?_|with_reducible refine bt ?_|with_reducible refine bR ?_|with_reducible refine bv ?_|with_reducible refine bB ?_|((with_reducible apply nA hm);(iterate 2 (simp only[push_cast,seval];rfl));intro e hm)|((with_reducible apply im);(simp only[push_cast,seval];rfl);(first|exact trivial))|((with_reducible apply fG hm);(simp only[push_cast,seval];rfl);rfl;intro v hm;rotate_left;intro v g hm)|((with_reducible apply fg hm);(simp only[push_cast,seval];rfl);(first|apply tR _ _|apply xJ _|apply oO _);(any_goals((repeat'(first|rfl));done));intro x hm)|((with_reducible apply bQ hm);(focus(simp only[bu,dc,RV.get,push_cast,seval];rfl));(focus((repeat'(first|rfl));done)))|((with_reducible apply cJ hm);(simp only[push_cast,seval];rfl))))
noncomputable def sf (x0:List UInt8):Option (Bool):=(m8.1 x0).1
theorem nR (x0:List UInt8):∀ r,sf x0=some r->aa Tryz.prog 52 [.str x0] (.bool r):=(m8.1 x0).2
noncomputable def i_ (x0:List UInt8):Option (Bool):=(m8.2 x0).1
theorem gH (x0:List UInt8):∀ r,i_ x0=some r->aa Tryz.prog 61 [.str x0] (.bool r):=(m8.2 x0).2
def qd:SC:=
 (.seq (.reg [.r 1 (.boxI (.t 0)),
   .r 2 (.mv (.c (.d (.bool false))))])
 (.seq (.reg (.r 3 (.fld 0 (.t 1)):: .o 4 (.ld1 (.t 3)):: .c 5 (.f 52) [.t 4]:: .r 6 (.mv (.t 5))::aV [7,8,9] 6 true (.r 7 (.fld 1 (.t 1)):: .r 8 (.ld1 (.t 7)):: .r 9 (.bin .eql (.t 8) (.c (.d (.str []))))::[]) (.r 10 (.pick (.t 6) (.t 9) (.c (.d (.bool false)))):: .r 11 (.mv (.t 10))::aV [12,13,14,15] 11 true (.r 12 (.fld 4 (.t 1)):: .r 13 (.ld1 (.t 12)):: .r 14 (.len (.t 13)):: .r 15 (.bin .eql (.t 14) (.c (.d (.int .i64 0))))::[]) (.r 16 (.pick (.t 11) (.t 15) (.c (.d (.bool false)))):: .r 2 (.mv (.t 16))::[]))))
 .ret))
theorem vU:fits Tryz.prog 138 Tryz.f138 qd [.t 2] 1=true:=oK
def jL:SC:=
 (.seq (.reg [.r 1 (.boxI (.t 0)),
   .r 2 (.mv (.c (.d (.bool false))))])
 (.seq (.reg (.r 3 (.fld 0 (.t 1)):: .o 4 (.ld1 (.t 3)):: .c 5 (.f 61) [.t 4]:: .r 6 (.mv (.t 5))::aV [7,8,9] 6 true (.r 7 (.fld 1 (.t 1)):: .r 8 (.ld1 (.t 7)):: .r 9 (.bin .eql (.t 8) (.c (.d (.str []))))::[]) (.r 10 (.pick (.t 6) (.t 9) (.c (.d (.bool false)))):: .r 11 (.mv (.t 10))::aV [12,13,14,15] 11 true (.r 12 (.fld 4 (.t 1)):: .r 13 (.ld1 (.t 12)):: .r 14 (.len (.t 13)):: .r 15 (.bin .eql (.t 14) (.c (.d (.int .i64 0))))::[]) (.r 16 (.pick (.t 11) (.t 15) (.c (.d (.bool false)))):: .r 2 (.mv (.t 16))::[]))))
 .ret))
theorem pr:fits Tryz.prog 118 Tryz.f118 jL [.t 2] 1=true:=oK
set_option maxRecDepth 100000 in
set_option maxHeartbeats 40000000 in
noncomputable def pu:(∀ (x0:ao),{m:Option (Bool)//∀ r,m=some r->aa Tryz.prog 138 [.agg (al x0)] (.bool r)})×(∀ (x0:ao),{m:Option (Bool)//∀ r,m=some r->aa Tryz.prog 118 [.agg (al x0)] (.bool r)}):=by
 refine⟨?g0, ?g1⟩
 case' g0=>(intro x0;apply Subtype.mk;intro r hm;apply af Tryz.func138 vU;unfold qd)
 case' g1=>(intro x0;apply Subtype.mk;intro r hm;apply af Tryz.func118 pr;unfold jL)
 all_goals(repeat'(first|with_reducible refine bA ?_|with_reducible refine bt ?_|with_reducible refine bR ?_|with_reducible refine bv ?_|with_reducible refine bB ?_|with_reducible refine dI ?_|((with_reducible apply im);(simp only[push_cast,seval];rfl);(first|exact trivial))|((with_reducible apply fG hm);(simp only[push_cast,seval];rfl);rfl;intro v hm;rotate_left;intro v g hm)|((with_reducible apply fg hm);(simp only[push_cast,seval];rfl);(first|apply nR _|apply gH _);(any_goals((repeat'(first|rfl));done));intro x hm)|((with_reducible apply bQ hm);(focus(simp only[bu,dc,RV.get,push_cast,seval];rfl));(focus((repeat'(first|rfl));done)))|((with_reducible apply cJ hm);(simp only[push_cast,seval];rfl))))
noncomputable def mH (x0:ao):Option (Bool):=(pu.1 x0).1
theorem og (x0:ao):∀ r,mH x0=some r->aa Tryz.prog 138 [.agg (al x0)] (.bool r):=(pu.1 x0).2
noncomputable def qo (x0:ao):Option (Bool):=(pu.2 x0).1
theorem oP (x0:ao):∀ r,qo x0=some r->aa Tryz.prog 118 [.agg (al x0)] (.bool r):=(pu.2 x0).2
def sg:SC:=
 (.seq (.reg [.r 1 (.boxI (.t 0)),
   .r 2 (.mv (.c (.d (.bool false))))])
 (.seq (.reg (.r 3 (.fld 1 (.t 1)):: .o 4 (.ld1 (.t 3)):: .r 5 (.bin .neq (.t 4) (.c (.d (.str [])))):: .r 6 (.mv (.t 5))::aV [7,8,9] 6 true (.r 7 (.fld 0 (.t 1)):: .r 8 (.ld1 (.t 7)):: .r 9 (.bin .eql (.t 8) (.c (.d (.str []))))::[]) (.r 10 (.pick (.t 6) (.t 9) (.c (.d (.bool false)))):: .r 11 (.mv (.t 10))::aV [12,13,14,15] 11 true (.r 12 (.fld 4 (.t 1)):: .r 13 (.ld1 (.t 12)):: .r 14 (.len (.t 13)):: .r 15 (.bin .gtr (.t 14) (.c (.d (.int .i64 0))))::[]) (.r 16 (.pick (.t 11) (.t 15) (.c (.d (.bool false)))):: .r 17 (.mv (.t 16))::aV [18,19,20,21,22] 17 true (.r 18 (.fld 4 (.t 1)):: .r 19 (.ld1 (.t 18)):: .r 20 (.idx 5 (.t 19) (.c (.d (.int .i64 0)))):: .r 21 (.ldA 5 (.t 20)):: .c 22 (.f 138) [.t 21]::[]) (.r 23 (.pick (.t 17) (.t 22) (.c (.d (.bool false)))):: .r 24 (.mv (.t 23))::aV [25,26,27,28,29,30] 24 true (.r 25 (.fld 4 (.t 1)):: .r 26 (.ld1 (.t 25)):: .r 27 (.idx 5 (.t 26) (.c (.d (.int .i64 0)))):: .r 28 (.fld 2 (.t 27)):: .r 29 (.ld1 (.t 28)):: .r 30 (.bin .eql (.t 29) (.c (.d (.int .i64 1))))::[]) (.r 31 (.pick (.t 24) (.t 30) (.c (.d (.bool false)))):: .r 32 (.mv (.t 31))::aV [33,34,35,36,37,38] 32 true (.r 33 (.fld 4 (.t 1)):: .r 34 (.ld1 (.t 33)):: .r 35 (.idx 5 (.t 34) (.c (.d (.int .i64 0)))):: .r 36 (.fld 3 (.t 35)):: .r 37 (.ld1 (.t 36)):: .r 38 (.bin .eql (.t 37) (.c (.d (.int .i64 1))))::[]) (.r 39 (.pick (.t 32) (.t 38) (.c (.d (.bool false)))):: .r 2 (.mv (.t 39))::[])))))))
 .ret))
theorem xK:fits Tryz.prog 139 Tryz.f139 sg [.t 2] 1=true:=oK
def kO:SC:=
 (.seq (.reg [.r 1 (.boxI (.t 0)),
   .r 2 (.mv (.c (.d (.bool false))))])
 (.seq (.reg (.r 3 (.fld 0 (.t 1)):: .o 4 (.ld1 (.t 3)):: .r 5 (.bin .eql (.t 4) (.c (.d (.str [])))):: .r 6 (.mv (.t 5))::aV [7,8,9] 6 true (.r 7 (.fld 1 (.t 1)):: .r 8 (.ld1 (.t 7)):: .r 9 (.bin .neq (.t 8) (.c (.d (.str []))))::[]) (.r 10 (.pick (.t 6) (.t 9) (.c (.d (.bool false)))):: .r 11 (.mv (.t 10))::aV [12,13,14,15] 11 true (.r 12 (.fld 4 (.t 1)):: .r 13 (.ld1 (.t 12)):: .r 14 (.len (.t 13)):: .r 15 (.bin .gtr (.t 14) (.c (.d (.int .i64 0))))::[]) (.r 16 (.pick (.t 11) (.t 15) (.c (.d (.bool false)))):: .r 17 (.mv (.t 16))::aV [18,19,20,21,22] 17 true (.r 18 (.fld 4 (.t 1)):: .r 19 (.ld1 (.t 18)):: .r 20 (.idx 5 (.t 19) (.c (.d (.int .i64 0)))):: .r 21 (.ldA 5 (.t 20)):: .c 22 (.f 118) [.t 21]::[]) (.r 23 (.pick (.t 17) (.t 22) (.c (.d (.bool false)))):: .r 24 (.mv (.t 23))::aV [25,26,27,28,29,30] 24 true (.r 25 (.fld 4 (.t 1)):: .r 26 (.ld1 (.t 25)):: .r 27 (.idx 5 (.t 26) (.c (.d (.int .i64 0)))):: .r 28 (.fld 2 (.t 27)):: .r 29 (.ld1 (.t 28)):: .r 30 (.bin .eql (.t 29) (.c (.d (.int .i64 1))))::[]) (.r 31 (.pick (.t 24) (.t 30) (.c (.d (.bool false)))):: .r 32 (.mv (.t 31))::aV [33,34,35,36,37,38] 32 true (.r 33 (.fld 4 (.t 1)):: .r 34 (.ld1 (.t 33)):: .r 35 (.idx 5 (.t 34) (.c (.d (.int .i64 0)))):: .r 36 (.fld 3 (.t 35)):: .r 37 (.ld1 (.t 36)):: .r 38 (.bin .eql (.t 37) (.c (.d (.int .i64 1))))::[]) (.r 39 (.pick (.t 32) (.t 38) (.c (.d (.bool false)))):: .r 2 (.mv (.t 39))::[])))))))
 .ret))
theorem qp:fits Tryz.prog 119 Tryz.f119 kO [.t 2] 1=true:=oK
set_option maxRecDepth 100000 in
set_option maxHeartbeats 40000000 in
noncomputable def vV:(∀ (x0:ao),{m:Option (Bool)//∀ r,m=some r->aa Tryz.prog 139 [.agg (al x0)] (.bool r)})×(∀ (x0:ao),{m:Option (Bool)//∀ r,m=some r->aa Tryz.prog 119 [.agg (al x0)] (.bool r)}):=by
 refine⟨?g0, ?g1⟩
 case' g0=>(intro x0;apply Subtype.mk;intro r hm;apply af Tryz.func139 xK;unfold sg)
 case' g1=>(intro x0;apply Subtype.mk;intro r hm;apply af Tryz.func119 qp;unfold kO)
 all_goals(repeat'(first|with_reducible refine bA ?_|with_reducible refine bt ?_|with_reducible refine bR ?_|with_reducible refine bv ?_|with_reducible refine bB ?_|with_reducible refine dI ?_|((with_reducible apply dz hm);(iterate 2 (simp only[push_cast,seval];rfl));(intro _;rfl);intro e hm)|((with_reducible apply im);(simp only[push_cast,seval];rfl);(first|exact trivial))|((with_reducible apply fG hm);(simp only[push_cast,seval];rfl);rfl;intro v hm;rotate_left;intro v g hm)|((with_reducible apply fg hm);(simp only[push_cast,seval];rfl);(first|apply og _|apply oP _);(any_goals((repeat'(first|rfl|(with_reducible first|apply nP|apply p5|apply eo)));done));intro x hm)|((with_reducible apply bQ hm);(focus(simp only[bu,dc,RV.get,push_cast,seval];rfl));(focus((repeat'(first|rfl));done)))|((with_reducible apply cJ hm);(simp only[push_cast,seval];rfl))))
noncomputable def oQ (x0:ao):Option (Bool):=(vV.1 x0).1
theorem wK (x0:ao):∀ r,oQ x0=some r->aa Tryz.prog 139 [.agg (al x0)] (.bool r):=(vV.1 x0).2
structure cD where
 fUnits:Int
 fPlaces:Int
 deriving DecidableEq
def dU (x:cD):List DV:=[.int .i64 x.fUnits,.int .i64 x.fPlaces]
attribute [push_cast] dU
theorem mf {d0 d1:DV} {v0:Int} {v1:Int} (h0:d0= .int .i64 v0) (h1:d1= .int .i64 v1):[d0,d1]=dU ⟨v0,v1⟩:=by unfold dU;simp only[h0,h1,OM,OR,OK,OY]
def t6:SC:=
 (.seq (.reg [.r 2 (.mv (.c (.d (.bool false))))])
 (.seq (.reg (.r 3 (.mv (.t 0)):: .r 4 (.bin .neq (.t 3) (.c (.d (.str [])))):: .r 5 (.mv (.t 4))::aV [6,7] 5 true (.r 6 (.mv (.t 0)):: .c 7 (.f 162) [.t 6,.c (.d (.int .u8 48)),.c (.d (.int .u8 57))]::[]) (.r 8 (.pick (.t 5) (.t 7) (.c (.d (.bool false)))):: .r 2 (.mv (.t 8))::[])))
 .ret))
theorem zn:fits Tryz.prog 151 Tryz.f151 t6 [.t 2] 1=true:=oK
def uR:SC:=
 (.seq (.reg [.r 2 (.boxI (.t 0)),
   .w 4 (.boxM (.c (.agg [.d (.int .i64 0),.d (.int .i64 0)]))),
   .r 5 (.mv (.c (.d (.int .i64 0))))])
 (.seq (.reg [.o 9 (.ldA 2 (.t 2)),
   .c 10 (.f 239) [.t 9,.c (.d (.int .i64 1000000000000000))],
   .r 8 (.mv (.t 10)),
   .r 11 (.ext (.t 8) 0),
   .r 12 (.ext (.t 8) 1),
   .r 6 (.mv (.t 11)),
   .r 7 (.mv (.t 12))])
 (.seq (.seq (.reg [.r 13 (.mv (.t 7)),
   .r 14 (.not (.t 13))])
 (.cond (.t 14)
  (.seq (.reg [.r 15 (.build [.d (.int .i64 0),.d (.int .i64 0)] []),
    .w 0 (.st 2 (.t 4) (.t 15)),
    .r 5 (.mv (.c (.d (.int .i64 1))))])
  .ret)
  .skip))
 (.seq (.reg [.r 16 (.mv (.t 6)),
   .r 17 (.mv (.t 1)),
   .r 18 (.build [.d (.int .i64 0),.d (.int .i64 0)] [(0,1,.t 16),(1,1,.t 17)]),
   .w 0 (.st 2 (.t 4) (.t 18)),
   .r 5 (.mv (.c (.d (.int .i64 0))))])
 .ret))))
theorem Aw:fits Tryz.prog 223 Tryz.f223 uR [.cell 4 2,.t 5] 2=true:=oK
set_option maxRecDepth 100000 in
set_option maxHeartbeats 40000000 in
noncomputable def mQ:(∀ (x0:List UInt8),{m:Option (Bool)//∀ r,m=some r->aa Tryz.prog 151 [.str x0] (.bool r)})×(∀ (x0:au) (x1:Int),{m:Option (cD×Int)//∀ r,m=some r->aa Tryz.prog 223 [.agg (aT x0),.int .i64 x1] (.tup [.agg (dU r.1),.int .i64 r.2])}):=by
 refine⟨?g0, ?g1⟩
 case' g0=>(intro x0;apply Subtype.mk;intro r hm;apply af Tryz.func151 zn;unfold t6)
 case' g1=>(intro x0 x1;apply Subtype.mk;intro r hm;apply af Tryz.func223 Aw;unfold uR)
 all_goals(repeat'(first|with_reducible refine bA ?_|with_reducible refine bt ?_|with_reducible refine bl ?_|with_reducible refine bR ?_|with_reducible refine bv ?_|with_reducible refine bB ?_|with_reducible refine cb ?_|with_reducible refine dI ?_|((with_reducible apply im);(simp only[push_cast,seval];rfl);(first|exact trivial))|((with_reducible apply fG hm);(simp only[push_cast,seval];rfl);rfl;intro v hm;rotate_left;intro v g hm)|((with_reducible apply fg hm);(simp only[push_cast,seval];rfl);(first|apply oN _ _ _|apply ou _ _);(any_goals((repeat'(first|rfl|(with_reducible first|apply eo)|(with_reducible apply Ef;decide)));done));intro x hm)|((with_reducible apply wM);(simp only[push_cast,seval];rfl);(first|exact trivial))|((with_reducible apply aO hm);(simp only[push_cast,seval];rfl);intro hm;rotate_left;intro hm)|((with_reducible apply jO hm);(focus(simp only[bu,dc,RV.get,push_cast,seval];rfl));(focus(first|(dsimp only;done)));(focus((repeat'(first|rfl|(with_reducible first|apply mf|apply wP|apply p5|apply eo)));done)))|((with_reducible apply bQ hm);(focus(simp only[bu,dc,RV.get,push_cast,seval];rfl));(focus((repeat'(first|rfl));done)))|((with_reducible apply cJ hm);(simp only[push_cast,seval];rfl))))
noncomputable def nD (x0:List UInt8):Option (Bool):=(mQ.1 x0).1
theorem jW (x0:List UInt8):∀ r,nD x0=some r->aa Tryz.prog 151 [.str x0] (.bool r):=(mQ.1 x0).2
noncomputable def el (x0:au) (x1:Int):Option (cD×Int):=(mQ.2 x0 x1).1
theorem zo (x0:au) (x1:Int):∀ r,el x0 x1=some r->aa Tryz.prog 223 [.agg (aT x0),.int .i64 x1] (.tup [.agg (dU r.1),.int .i64 r.2]):=(mQ.2 x0 x1).2
def rQ:SC:=
 (.seq (.reg [.r 2 (.mv (.c (.d (.bool false))))])
 (.seq (.reg (.r 3 (.mv (.t 0)):: .c 4 (.f 151) [.t 3]:: .r 5 (.mv (.t 4))::aV [6,7,8,9,10,11,12,13] 5 true (.r 6 (.mv (.t 0)):: .r 7 (.lenT (.t 6)):: .r 8 (.bin .eql (.t 7) (.c (.d (.int .i64 1)))):: .r 9 (.mv (.t 8))::aV [10,11,12] 9 false (.r 10 (.mv (.t 0)):: .r 11 (.sidx (.t 10) (.c (.d (.int .i64 0)))):: .r 12 (.bin .neq (.t 11) (.c (.d (.int .u8 48))))::[]) (.r 13 (.pick (.t 9) (.c (.d (.bool true))) (.t 12))::[])) (.r 14 (.pick (.t 5) (.t 13) (.c (.d (.bool false)))):: .r 2 (.mv (.t 14))::[])))
 .ret))
theorem xw:fits Tryz.prog 203 Tryz.f203 rQ [.t 2] 1=true:=oK
def nE:SC:=
 (.seq (.reg [.r 16 (.bin .lss (.t 15) (.t 14))])
 (.seq (.cond (.t 16)
  .skip
  (.exit 0))
 (.seq (.block 1 (.seq (.reg [.r 17 (.mv (.t 15)),
    .r 9 (.mv (.t 17))])
  (.regE [.r 18 (.ldA 2 (.t 8)),
    .c 19 (.f 218) [.c (.d (.int .i64 10))],
    .c 20 (.f 219) [.t 18,.t 19],
    .r 21 (.mv (.t 1)),
    .r 22 (.mv (.t 2)),
    .r 23 (.bin .add (.t 21) (.t 22)),
    .r 24 (.mv (.t 9)),
    .r 25 (.sidx (.t 23) (.t 24)),
    .r 26 (.bin .sub (.t 25) (.c (.d (.int .u8 48)))),
    .r 27 (.cvi .i64 (.t 26)),
    .c 28 (.f 218) [.t 27],
    .c 29 (.f 220) [.t 20,.t 28],
    .x 0 (.st 2 (.t 8) (.t 29)) []])))
 (.reg [.r 30 (.bin .add (.t 15) (.c (.d (.int .i64 1)))),
   .r 15 (.mv (.t 30))]))))
def rR:SC:= .block 0 (.loop nE)
def uS:SC:=
 (.seq (.reg [.w 6 (.boxM (.c (.agg [.d (.int .i64 0),.d (.int .i64 0)]))),
   .r 7 (.mv (.c (.d (.int .i64 0))))])
 (.seq (.reg [.c 10 (.f 218) [.c (.d (.int .i64 0))],
   .w 8 (.boxM (.c (.agg [.d (.bool false),.nils]))),
   .w 0 (.st 2 (.t 8) (.t 10))])
 (.seq (.seq (.reg [.r 11 (.mv (.t 1)),
   .r 12 (.mv (.t 2)),
   .r 13 (.bin .add (.t 11) (.t 12)),
   .r 14 (.lenT (.t 13)),
   .r 15 (.mv (.c (.d (.int .i64 0))))])
 rR)
 (.seq (.seq (.reg [.r 31 (.mv (.t 0))])
 (.cond (.t 31)
  (.seq (.seq (.reg [.o 32 (.ldA 2 (.t 8)),
    .c 33 (.f 221) [.t 32],
    .r 34 (.bin .eql (.t 33) (.c (.d (.int .i64 0))))])
  (.cond (.t 34)
   (.seq (.reg [.r 35 (.build [.d (.int .i64 0),.d (.int .i64 0)] []),
     .w 0 (.st 2 (.t 6) (.t 35)),
     .r 7 (.mv (.c (.d (.int .i64 10))))])
   .ret)
   .skip))
  (.reg [.o 36 (.ldA 2 (.t 8)),
    .c 37 (.f 222) [.t 36],
    .w 0 (.st 2 (.t 8) (.t 37))]))
  .skip))
 (.seq (.reg [.o 38 (.ldA 2 (.t 8)),
   .r 39 (.mv (.t 2)),
   .r 40 (.lenT (.t 39)),
   .c 41 (.f 223) [.t 38,.t 40],
   .r 42 (.ext (.t 41) 0),
   .r 43 (.ext (.t 41) 1),
   .w 0 (.st 2 (.t 6) (.t 42)),
   .r 7 (.mv (.t 43))])
 .ret)))))
theorem Ax:fits Tryz.prog 204 Tryz.f204 uS [.cell 6 2,.t 7] 3=true:=oK
set_option maxRecDepth 100000 in
set_option maxHeartbeats 40000000 in
noncomputable def mR:(∀ (x0:List UInt8),{m:Option (Bool)//∀ r,m=some r->aa Tryz.prog 203 [.str x0] (.bool r)})×(∀ (x0:Bool) (x1:List UInt8) (x2:List UInt8),{m:Option (cD×Int)//∀ r,m=some r->aa Tryz.prog 204 [.bool x0,.str x1,.str x2] (.tup [.agg (dU r.1),.int .i64 r.2])}):=by
 refine⟨?g0, ?g1⟩
 case' g0=>(intro x0;apply Subtype.mk;intro r hm;apply af Tryz.func203 xw;unfold rQ)
 case' g1=>(intro x0 x1 x2;apply Subtype.mk;intro r hm;apply af Tryz.func204 Ax;unfold uS)
 all_goals(repeat'(first|with_reducible refine bA ?_|with_reducible refine bt ?_|with_reducible refine xf ?_|with_reducible refine bm ?_|with_reducible refine bl ?_|with_reducible refine bR ?_|with_reducible refine cw ?_|with_reducible refine bv ?_|with_reducible refine bB ?_|with_reducible refine cx ?_|with_reducible refine cb ?_|with_reducible refine bq ?_|with_reducible refine dI ?_|((with_reducible apply nA hm);(iterate 2 (simp only[push_cast,seval];rfl));intro e hm)|((with_reducible apply im);(simp only[push_cast,seval];rfl);(first|exact trivial))|((with_reducible apply JX hm);(iterate 2 (simp only[push_cast,seval];rfl));intro hm)|((with_reducible apply fG hm);(simp only[push_cast,seval];rfl);rfl;intro v hm;rotate_left;intro v g hm)|((with_reducible apply qC hm);(simp only[push_cast,seval];rfl);rfl;intro v hm;rotate_left;intro v g hm)|((with_reducible apply fg hm);(simp only[push_cast,seval];rfl);(first|apply jW _|apply CE _|apply nB _ _|apply n7 _ _|apply nY _|apply nC _|apply zo _ _);(any_goals((repeat'(first|rfl));done));intro x hm)|((with_reducible apply wM);(simp only[push_cast,seval];rfl);(first|exact trivial))|((with_reducible apply Nw);(simp only[push_cast,seval];rfl);(first|exact trivial);(focus((repeat'(first|exact tl));done)))|((with_reducible apply aO hm);(simp only[push_cast,seval];rfl);intro hm;rotate_left;intro hm)|((with_reducible apply jO hm);(focus(simp only[bu,dc,RV.get,push_cast,seval];rfl));(focus(first|(dsimp only;done)));(focus((repeat'(first|rfl|(with_reducible first|apply mf|apply wP|apply p5|apply eo)));done)))|((with_reducible apply bQ hm);(focus(simp only[bu,dc,RV.get,push_cast,seval];rfl));(focus((repeat'(first|rfl));done)))|((with_reducible apply cJ hm);(simp only[push_cast,seval];rfl))|((with_reducible apply bE hm);intro r hm)|((apply az (b:=0) (X:=rR) (x:=nE) rfl (fun(c:SV×SV×SV×Ch×SV) (s:au×Int)=>st [(0,c.1),(1,c.2.1),(2,c.2.2.1),(6,.ref 6 0),(8,.ref 8 0),(14,c.2.2.2.2),(15,.d (.int .i64 s.2))] [(6,c.2.2.2.1),(8,.box (dR (aT s.1)))]) (c:=(_,_,_,_,_)) (s0:=(_,_)) hm);(focus(first|(dsimp only;done)));(with_reducible refine cN.mk ?_ ?_))|((apply bG (s':=(_,_)) hm);(focus(first|(dsimp only;done))))|((apply cZ (s':=(_,_)) hm);(focus(first|(dsimp only;done))))|(((with_reducible apply dC.of);(focus(first|(dsimp only;done)));(focus((intro _;repeat'(first|with_reducible exact bo|with_reducible refine aG ?_))));(intro s o hm;first|unfold nE);rotate_left;intro s hm))|(((apply aW;(repeat'(first|with_reducible exact aw|with_reducible exact ax|with_reducible apply ap|with_reducible apply aU|((with_reducible apply aP);(focus(first|(simp only[push_cast,seval];rfl)));(focus((repeat'(first|rfl));done)))|((with_reducible apply cC);(focus(first|(simp only[push_cast,seval];rfl)));(first|with_reducible exact bj rfl))));done)))))
noncomputable def ow (x0:List UInt8):Option (Bool):=(mR.1 x0).1
theorem wz (x0:List UInt8):∀ r,ow x0=some r->aa Tryz.prog 203 [.str x0] (.bool r):=(mR.1 x0).2
noncomputable def o6 (x0:Bool) (x1:List UInt8) (x2:List UInt8):Option (cD×Int):=(mR.2 x0 x1 x2).1
theorem zp (x0:Bool) (x1:List UInt8) (x2:List UInt8):∀ r,o6 x0 x1 x2=some r->aa Tryz.prog 204 [.bool x0,.str x1,.str x2] (.tup [.agg (dU r.1),.int .i64 r.2]):=(mR.2 x0 x1 x2).2
def qE:SC:=
 (.seq (.reg [.w 2 (.boxM (.c (.agg [.d (.int .i64 0),.d (.int .i64 0)]))),
   .r 3 (.mv (.c (.d (.int .i64 0))))])
 (.seq (.reg [.r 10 (.mv (.t 0)),
   .c 11 (.f 183) [.t 10,.c (.d (.str [45]))],
   .r 9 (.mv (.t 11)),
   .r 12 (.ext (.t 9) 0),
   .r 13 (.ext (.t 9) 1),
   .r 4 (.mv (.t 12)),
   .r 5 (.mv (.t 13))])
 (.seq (.reg [.r 15 (.mv (.t 4)),
   .c 16 (.f 184) [.t 15,.c (.d (.str [46]))],
   .r 14 (.mv (.t 16)),
   .r 17 (.ext (.t 14) 0),
   .r 18 (.ext (.t 14) 1),
   .r 19 (.ext (.t 14) 2),
   .r 6 (.mv (.t 17)),
   .r 7 (.mv (.t 18)),
   .r 8 (.mv (.t 19))])
 (.seq (.seq (.reg (.r 20 (.mv (.t 0)):: .r 21 (.lenT (.t 20)):: .r 22 (.bin .gtr (.t 21) (.c (.d (.int .i64 40)))):: .r 23 (.mv (.t 22))::aV [24,25,26] 23 false (.r 24 (.mv (.t 6)):: .c 25 (.f 203) [.t 24]:: .r 26 (.not (.t 25))::[]) (.r 27 (.pick (.t 23) (.c (.d (.bool true))) (.t 26)):: .r 28 (.mv (.t 27))::aV [29,30,31,32,33,34,35,36,37,38,39] 28 false (.r 29 (.mv (.t 8)):: .r 30 (.mv (.t 29))::aV [31,32,33,34,35,36,37,38] 30 true (.r 31 (.mv (.t 7)):: .c 32 (.f 151) [.t 31]:: .r 33 (.not (.t 32)):: .r 34 (.mv (.t 33))::aV [35,36,37] 34 false (.r 35 (.mv (.t 7)):: .r 36 (.lenT (.t 35)):: .r 37 (.bin .gtr (.t 36) (.c (.d (.int .i64 9))))::[]) (.r 38 (.pick (.t 34) (.c (.d (.bool true))) (.t 37))::[])) (.r 39 (.pick (.t 30) (.t 38) (.c (.d (.bool false))))::[])) (.r 40 (.pick (.t 28) (.c (.d (.bool true))) (.t 39))::[]))))
 (.cond (.t 40)
  (.seq (.reg [.r 41 (.build [.d (.int .i64 0),.d (.int .i64 0)] []),
    .w 0 (.st 2 (.t 2) (.t 41)),
    .r 3 (.mv (.c (.d (.int .i64 10))))])
  .ret)
  .skip))
 (.seq (.reg [.r 42 (.mv (.t 5)),
   .r 43 (.mv (.t 6)),
   .r 44 (.mv (.t 7)),
   .c 45 (.f 204) [.t 42,.t 43,.t 44],
   .r 46 (.ext (.t 45) 0),
   .r 47 (.ext (.t 45) 1),
   .w 0 (.st 2 (.t 2) (.t 46)),
   .r 3 (.mv (.t 47))])
 .ret)))))
theorem wA:fits Tryz.prog 179 Tryz.f179 qE [.cell 2 2,.t 3] 1=true:=oK
set_option maxRecDepth 100000 in
set_option maxHeartbeats 40000000 in
noncomputable def rS:(∀ (x0:List UInt8),{m:Option (cD×Int)//∀ r,m=some r->aa Tryz.prog 179 [.str x0] (.tup [.agg (dU r.1),.int .i64 r.2])}):=by
 (intro x0;apply Subtype.mk;intro r hm;apply af Tryz.func179 wA;unfold qE)
 repeat'(first|with_reducible refine bA ?_|with_reducible refine bt ?_|with_reducible refine bl ?_|with_reducible refine bR ?_|with_reducible refine bv ?_|with_reducible refine bB ?_|with_reducible refine cb ?_|((with_reducible apply im);(simp only[push_cast,seval];rfl);(first|exact trivial))|((with_reducible apply fG hm);(simp only[push_cast,seval];rfl);rfl;intro v hm;rotate_left;intro v g hm)|((with_reducible apply qC hm);(simp only[push_cast,seval];rfl);rfl;intro v hm;rotate_left;intro v g hm)|((with_reducible apply fg hm);(simp only[push_cast,seval];rfl);(first|apply nT _ _|apply sY _ _|apply wz _|apply jW _|apply zp _ _ _);(any_goals((repeat'(first|rfl));done));intro x hm)|((with_reducible apply wM);(simp only[push_cast,seval];rfl);(first|exact trivial))|((with_reducible apply aO hm);(simp only[push_cast,seval];rfl);intro hm;rotate_left;intro hm)|((with_reducible apply jO hm);(focus(simp only[bu,dc,RV.get,push_cast,seval];rfl));(focus(first|(dsimp only;done)));(focus((repeat'(first|rfl|(with_reducible first|apply mf|apply wP|apply p5|apply eo)));done)))|((with_reducible apply cJ hm);(simp only[push_cast,seval];rfl)))
noncomputable def jX (x0:List UInt8):Option (cD×Int):=(rS x0).1
theorem uT (x0:List UInt8):∀ r,jX x0=some r->aa Tryz.prog 179 [.str x0] (.tup [.agg (dU r.1),.int .i64 r.2]):=(rS x0).2
end Go.Proofs.YteaolfcegaidpaaGreatDoor
