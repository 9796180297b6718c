/-
  Laws on the way to the theorem.
-/
import Derived.Test.YtgocgdgknpdknaaGreatDoorBX1
namespace Go.Proofs.YtgocgdgknpdknaaGreatDoor
open Go.RowKit
set_option linter.unusedSimpArgs false
set_option linter.unusedVariables false
structure bC where
 fUnits:Int
 fPlaces:Int
 deriving DecidableEq
def cn (x:bC):List DV:=[.int .i64 x.fUnits,.int .i64 x.fPlaces]
attribute [push_cast] cn
theorem jw {d0 d1:DV} {v0:Int} {v1:Int} (h0:d0= .int .i64 v0) (h1:d1= .int .i64 v1):[d0,d1]=cn ⟨v0,v1⟩:=by unfold cn;simp only[h0,h1,J5,Kd,KM,Ka]
def kA:SC:=
 (.seq (.reg [.r 11 (.bin .lss (.t 10) (.t 9))])
 (.seq (.cond (.t 11)
  .skip
  (.exit 0))
 (.seq (.block 1 (.seq (.reg [.r 12 (.mv (.t 10)),
    .r 7 (.mv (.t 12))])
  (.seq (.reg (.r 13 (.mv (.t 0)):: .r 14 (.mv (.t 7)):: .r 15 (.sidx (.t 13) (.t 14)):: .r 16 (.mv (.t 1)):: .r 17 (.bin .lss (.t 15) (.t 16)):: .r 18 (.mv (.t 17))::aK [19,20,21,22,23] 18 false (.r 19 (.mv (.t 0)):: .r 20 (.mv (.t 7)):: .r 21 (.sidx (.t 19) (.t 20)):: .r 22 (.mv (.t 2)):: .r 23 (.bin .gtr (.t 21) (.t 22))::[]) (.r 24 (.pick (.t 18) (.c (.d (.bool true))) (.t 23))::[])))
  (.cond (.t 24)
   (.seq (.reg [.r 6 (.mv (.c (.d (.bool false))))])
   .ret)
   .skip))))
 (.reg [.r 25 (.bin .add (.t 10) (.c (.d (.int .i64 1)))),
   .r 10 (.mv (.t 25))]))))
def ou:SC:= .block 0 (.loop kA)
def q9:SC:=
 (.seq (.reg [.r 6 (.mv (.c (.d (.bool false))))])
 (.seq (.seq (.reg [.r 8 (.mv (.t 0)),
   .r 9 (.lenT (.t 8)),
   .r 10 (.mv (.c (.d (.int .i64 0))))])
 ou)
 (.seq (.reg [.r 6 (.mv (.c (.d (.bool true))))])
 .ret)))
theorem wy:fits Tryz.prog 109 Tryz.f109 q9 [.t 6] 3=true:=oK
def q_:SC:=
 (.seq (.reg [.r 2 (.boxI (.t 0)),
   .w 4 (.boxM (.c (.agg [.d (.int .i64 0),.d (.int .i64 0)]))),
   .r 5 (.mv (.c (.d (.int .i64 0))))])
 (.seq (.reg [.o 9 (.ldA 2 (.t 2)),
   .c 10 (.f 182) [.t 9,.c (.d (.int .i64 1000000000000000))],
   .r 8 (.mv (.t 10)),
   .r 11 (.ext (.t 8) 0),
   .r 12 (.ext (.t 8) 1),
   .r 6 (.mv (.t 11)),
   .r 7 (.mv (.t 12))])
 (.seq (.seq (.reg [.r 13 (.mv (.t 7)),
   .r 14 (.not (.t 13))])
 (.cond (.t 14)
  (.seq (.reg [.r 15 (.build [.d (.int .i64 0),.d (.int .i64 0)] []),
    .w 0 (.st 2 (.t 4) (.t 15)),
    .r 5 (.mv (.c (.d (.int .i64 1))))])
  .ret)
  .skip))
 (.seq (.reg [.r 16 (.mv (.t 6)),
   .r 17 (.mv (.t 1)),
   .r 18 (.build [.d (.int .i64 0),.d (.int .i64 0)] [(0,1,.t 16),(1,1,.t 17)]),
   .w 0 (.st 2 (.t 4) (.t 18)),
   .r 5 (.mv (.c (.d (.int .i64 0))))])
 .ret))))
theorem wz:fits Tryz.prog 164 Tryz.f164 q_ [.cell 4 2,.t 5] 2=true:=oK
set_option maxRecDepth 100000 in
set_option maxHeartbeats 40000000 in
noncomputable def jW:(∀ (x0:List UInt8) (x1:UInt8) (x2:UInt8),{m:Option (Bool)//∀ r,m=some r->aa Tryz.prog 109 [.str x0,.int .u8 (x1).toNat,.int .u8 (x2).toNat] (.bool r)})×(∀ (x0:al) (x1:Int),{m:Option (bC×Int)//∀ r,m=some r->aa Tryz.prog 164 [.agg (aG x0),.int .i64 x1] (.tup [.agg (cn r.1),.int .i64 r.2])}):=by
 refine⟨?g0, ?g1⟩
 case' g0=>(intro x0 x1 x2;apply Subtype.mk;intro r hm;apply af Tryz.func109 wy;unfold q9)
 case' g1=>(intro x0 x1;apply Subtype.mk;intro r hm;apply af Tryz.func164 wz;unfold q_)
 all_goals(repeat'(first|with_reducible refine bu ?_|with_reducible refine bt ?_|with_reducible refine bf ?_|with_reducible refine be ?_|with_reducible refine bB ?_|with_reducible refine cg ?_|with_reducible refine bw ?_|with_reducible refine bv ?_|with_reducible refine ck ?_|with_reducible refine bD ?_|with_reducible refine bo ?_|with_reducible refine bE ?_|with_reducible refine du ?_|((with_reducible apply jv hm);(iterate 2 (simp only[push_cast,seval];rfl));intro e hm)|((with_reducible apply iN);(simp only[push_cast,seval];rfl);(first|exact trivial))|((with_reducible apply mV hm);(simp only[push_cast,seval];rfl);rfl;intro v hm;rotate_left;intro v g hm)|((with_reducible apply dJ hm);(simp only[push_cast,seval];rfl);(first|apply lq _ _);(any_goals((repeat'(first|rfl));done));intro x hm)|((with_reducible apply tQ);(simp only[push_cast,seval];rfl);(first|exact trivial))|((with_reducible apply aQ hm);(simp only[push_cast,seval];rfl);intro hm;rotate_left;intro hm)|((with_reducible apply ge hm);(focus(simp only[a8,cj,RV.get,push_cast,seval];rfl));(focus(first|(dsimp only;done)));(focus((repeat'(first|rfl|(with_reducible first|apply jw|apply wk|apply oq|apply dB)));done)))|((with_reducible apply bF hm);(focus(simp only[a8,cj,RV.get,push_cast,seval];rfl));(focus((repeat'(first|rfl));done)))|((with_reducible apply bO hm);(simp only[push_cast,seval];rfl))|((with_reducible apply bH hm);intro r hm)|((with_reducible apply cy hm);intro r hm)|((apply aF (b:=0) (X:=ou) (x:=kA) rfl (fun(c:SV×SV×SV×SV) (s:Int)=>st [(0,c.1),(1,c.2.1),(2,c.2.2.1),(9,c.2.2.2),(10,.d (.int .i64 s))] []) (c:=(_,_,_,_)) (s0:=_) hm);(focus(first|(dsimp only;done)));(with_reducible refine cz.mk ?_ ?_))|((apply bN (s':=_) hm);(focus(first|(dsimp only;done))))|((apply cJ (s':=_) hm);(focus(first|(dsimp only;done))))|(((with_reducible apply fD hm);intro r hm))|(((with_reducible apply dz.of);(focus(first|(dsimp only;done)));(focus((intro _;repeat'(first|with_reducible exact bp|with_reducible refine ba ?_))));(intro s o hm;first|unfold kA);rotate_left;intro s hm))|(((apply bI;(repeat'(first|with_reducible exact aS|with_reducible exact aT|with_reducible apply aL|((with_reducible apply a_);(focus(first|(simp only[push_cast,seval];rfl)));(focus((repeat'(first|rfl));done)))));done)))))
noncomputable def o_ (x0:List UInt8) (x1:UInt8) (x2:UInt8):Option (Bool):=(jW.1 x0 x1 x2).1
theorem pA (x0:List UInt8) (x1:UInt8) (x2:UInt8):∀ r,o_ x0 x1 x2=some r->aa Tryz.prog 109 [.str x0,.int .u8 (x1).toNat,.int .u8 (x2).toNat] (.bool r):=(jW.1 x0 x1 x2).2
noncomputable def cI (x0:al) (x1:Int):Option (bC×Int):=(jW.2 x0 x1).1
theorem vl (x0:al) (x1:Int):∀ r,cI x0 x1=some r->aa Tryz.prog 164 [.agg (aG x0),.int .i64 x1] (.tup [.agg (cn r.1),.int .i64 r.2]):=(jW.2 x0 x1).2
def qj:SC:=
 (.seq (.reg [.r 2 (.mv (.c (.d (.bool false))))])
 (.seq (.reg (.r 3 (.mv (.t 0)):: .r 4 (.bin .neq (.t 3) (.c (.d (.str [])))):: .r 5 (.mv (.t 4))::aK [6,7] 5 true (.r 6 (.mv (.t 0)):: .c 7 (.f 109) [.t 6,.c (.d (.int .u8 48)),.c (.d (.int .u8 57))]::[]) (.r 8 (.pick (.t 5) (.t 7) (.c (.d (.bool false)))):: .r 2 (.mv (.t 8))::[])))
 .ret))
theorem vm:fits Tryz.prog 97 Tryz.f97 qj [.t 2] 1=true:=oK
def kB:SC:=
 (.seq (.reg [.r 16 (.bin .lss (.t 15) (.t 14))])
 (.seq (.cond (.t 16)
  .skip
  (.exit 0))
 (.seq (.block 1 (.seq (.reg [.r 17 (.mv (.t 15)),
    .r 9 (.mv (.t 17))])
  (.regE [.r 18 (.ldA 2 (.t 8)),
    .c 19 (.f 159) [.c (.d (.int .i64 10))],
    .c 20 (.f 160) [.t 18,.t 19],
    .r 21 (.mv (.t 1)),
    .r 22 (.mv (.t 2)),
    .r 23 (.bin .add (.t 21) (.t 22)),
    .r 24 (.mv (.t 9)),
    .r 25 (.sidx (.t 23) (.t 24)),
    .r 26 (.bin .sub (.t 25) (.c (.d (.int .u8 48)))),
    .r 27 (.cvi .i64 (.t 26)),
    .c 28 (.f 159) [.t 27],
    .c 29 (.f 161) [.t 20,.t 28],
    .x 0 (.st 2 (.t 8) (.t 29)) []])))
 (.reg [.r 30 (.bin .add (.t 15) (.c (.d (.int .i64 1)))),
   .r 15 (.mv (.t 30))]))))
def ov:SC:= .block 0 (.loop kB)
def ra:SC:=
 (.seq (.reg [.w 6 (.boxM (.c (.agg [.d (.int .i64 0),.d (.int .i64 0)]))),
   .r 7 (.mv (.c (.d (.int .i64 0))))])
 (.seq (.reg [.c 10 (.f 159) [.c (.d (.int .i64 0))],
   .w 8 (.boxM (.c (.agg [.d (.bool false),.nils]))),
   .w 0 (.st 2 (.t 8) (.t 10))])
 (.seq (.seq (.reg [.r 11 (.mv (.t 1)),
   .r 12 (.mv (.t 2)),
   .r 13 (.bin .add (.t 11) (.t 12)),
   .r 14 (.lenT (.t 13)),
   .r 15 (.mv (.c (.d (.int .i64 0))))])
 ov)
 (.seq (.seq (.reg [.r 31 (.mv (.t 0))])
 (.cond (.t 31)
  (.seq (.seq (.reg [.o 32 (.ldA 2 (.t 8)),
    .c 33 (.f 162) [.t 32],
    .r 34 (.bin .eql (.t 33) (.c (.d (.int .i64 0))))])
  (.cond (.t 34)
   (.seq (.reg [.r 35 (.build [.d (.int .i64 0),.d (.int .i64 0)] []),
     .w 0 (.st 2 (.t 6) (.t 35)),
     .r 7 (.mv (.c (.d (.int .i64 10))))])
   .ret)
   .skip))
  (.reg [.o 36 (.ldA 2 (.t 8)),
    .c 37 (.f 163) [.t 36],
    .w 0 (.st 2 (.t 8) (.t 37))]))
  .skip))
 (.seq (.reg [.o 38 (.ldA 2 (.t 8)),
   .r 39 (.mv (.t 2)),
   .r 40 (.lenT (.t 39)),
   .c 41 (.f 164) [.t 38,.t 40],
   .r 42 (.ext (.t 41) 0),
   .r 43 (.ext (.t 41) 1),
   .w 0 (.st 2 (.t 6) (.t 42)),
   .r 7 (.mv (.t 43))])
 .ret)))))
theorem wA:fits Tryz.prog 143 Tryz.f143 ra [.cell 6 2,.t 7] 3=true:=oK
set_option maxRecDepth 100000 in
set_option maxHeartbeats 40000000 in
noncomputable def jX:(∀ (x0:List UInt8),{m:Option (Bool)//∀ r,m=some r->aa Tryz.prog 97 [.str x0] (.bool r)})×(∀ (x0:Bool) (x1:List UInt8) (x2:List UInt8),{m:Option (bC×Int)//∀ r,m=some r->aa Tryz.prog 143 [.bool x0,.str x1,.str x2] (.tup [.agg (cn r.1),.int .i64 r.2])}):=by
 refine⟨?g0, ?g1⟩
 case' g0=>(intro x0;apply Subtype.mk;intro r hm;apply af Tryz.func97 vm;unfold qj)
 case' g1=>(intro x0 x1 x2;apply Subtype.mk;intro r hm;apply af Tryz.func143 wA;unfold ra)
 all_goals(repeat'(first|with_reducible refine bu ?_|with_reducible refine bt ?_|with_reducible refine zM ?_|with_reducible refine bf ?_|with_reducible refine be ?_|with_reducible refine bB ?_|with_reducible refine cg ?_|with_reducible refine bw ?_|with_reducible refine bv ?_|with_reducible refine ck ?_|with_reducible refine bD ?_|with_reducible refine bo ?_|with_reducible refine du ?_|((with_reducible apply jv hm);(iterate 2 (simp only[push_cast,seval];rfl));intro e hm)|((with_reducible apply iN);(simp only[push_cast,seval];rfl);(first|exact trivial))|((with_reducible apply tx hm);(iterate 2 (simp only[push_cast,seval];rfl));intro hm)|((with_reducible apply eE hm);(simp only[push_cast,seval];rfl);rfl;intro v hm;rotate_left;intro v g hm)|((with_reducible apply dJ hm);(simp only[push_cast,seval];rfl);(first|apply pA _ _ _|apply yB _|apply kw _ _|apply kY _ _|apply kV _|apply kz _|apply vl _ _);(any_goals((repeat'(first|rfl|(with_reducible first|apply dB)|(with_reducible apply Ct;decide)));done));intro x hm)|((with_reducible apply tQ);(simp only[push_cast,seval];rfl);(first|exact trivial))|((with_reducible apply Jd);(simp only[push_cast,seval];rfl);(first|exact trivial);(focus((repeat'(first|exact ue));done)))|((with_reducible apply aQ hm);(simp only[push_cast,seval];rfl);intro hm;rotate_left;intro hm)|((with_reducible apply ge hm);(focus(simp only[a8,cj,RV.get,push_cast,seval];rfl));(focus(first|(dsimp only;done)));(focus((repeat'(first|rfl|(with_reducible first|apply jw|apply wk|apply oq|apply dB)));done)))|((with_reducible apply bF hm);(focus(simp only[a8,cj,RV.get,push_cast,seval];rfl));(focus((repeat'(first|rfl));done)))|((with_reducible apply bO hm);(simp only[push_cast,seval];rfl))|((with_reducible apply bH hm);intro r hm)|((apply aF (b:=0) (X:=ov) (x:=kB) rfl (fun(c:SV×SV×SV×Ch×SV) (s:al×Int)=>st [(0,c.1),(1,c.2.1),(2,c.2.2.1),(6,.ref 6 0),(8,.ref 8 0),(14,c.2.2.2.2),(15,.d (.int .i64 s.2))] [(6,c.2.2.2.1),(8,.box (dR (aG s.1)))]) (c:=(_,_,_,_,_)) (s0:=(_,_)) hm);(focus(first|(dsimp only;done)));(with_reducible refine cz.mk ?_ ?_))|((apply bN (s':=(_,_)) hm);(focus(first|(dsimp only;done))))|((apply cJ (s':=(_,_)) hm);(focus(first|(dsimp only;done))))|(((with_reducible apply dz.of);(focus(first|(dsimp only;done)));(focus((intro _;repeat'(first|with_reducible exact bp|with_reducible refine ba ?_))));(intro s o hm;first|unfold kB);rotate_left;intro s hm))|(((apply bI;(repeat'(first|with_reducible exact aS|with_reducible exact aT|with_reducible apply aL|with_reducible apply ca|((with_reducible apply a_);(focus(first|(simp only[push_cast,seval];rfl)));(focus((repeat'(first|rfl));done)))|((with_reducible apply fx);(focus(first|(simp only[push_cast,seval];rfl)));(first|with_reducible exact cK rfl))));done)))))
noncomputable def kC (x0:List UInt8):Option (Bool):=(jX.1 x0).1
theorem gL (x0:List UInt8):∀ r,kC x0=some r->aa Tryz.prog 97 [.str x0] (.bool r):=(jX.1 x0).2
noncomputable def lJ (x0:Bool) (x1:List UInt8) (x2:List UInt8):Option (bC×Int):=(jX.2 x0 x1 x2).1
theorem vn (x0:Bool) (x1:List UInt8) (x2:List UInt8):∀ r,lJ x0 x1 x2=some r->aa Tryz.prog 143 [.bool x0,.str x1,.str x2] (.tup [.agg (cn r.1),.int .i64 r.2]):=(jX.2 x0 x1 x2).2
def ow:SC:=
 (.seq (.reg [.r 2 (.mv (.c (.d (.bool false))))])
 (.seq (.reg (.r 3 (.mv (.t 0)):: .c 4 (.f 97) [.t 3]:: .r 5 (.mv (.t 4))::aK [6,7,8,9,10,11,12,13] 5 true (.r 6 (.mv (.t 0)):: .r 7 (.lenT (.t 6)):: .r 8 (.bin .eql (.t 7) (.c (.d (.int .i64 1)))):: .r 9 (.mv (.t 8))::aK [10,11,12] 9 false (.r 10 (.mv (.t 0)):: .r 11 (.sidx (.t 10) (.c (.d (.int .i64 0)))):: .r 12 (.bin .neq (.t 11) (.c (.d (.int .u8 48))))::[]) (.r 13 (.pick (.t 9) (.c (.d (.bool true))) (.t 12))::[])) (.r 14 (.pick (.t 5) (.t 13) (.c (.d (.bool false)))):: .r 2 (.mv (.t 14))::[])))
 .ret))
theorem tA:fits Tryz.prog 142 Tryz.f142 ow [.t 2] 1=true:=oK
set_option maxRecDepth 100000 in
set_option maxHeartbeats 40000000 in
noncomputable def rb:(∀ (x0:List UInt8),{m:Option (Bool)//∀ r,m=some r->aa Tryz.prog 142 [.str x0] (.bool r)}):=by
 (intro x0;apply Subtype.mk;intro r hm;apply af Tryz.func142 tA;unfold ow)
 repeat'(first|with_reducible refine bu ?_|with_reducible refine bt ?_|with_reducible refine bB ?_|with_reducible refine bw ?_|with_reducible refine bv ?_|((with_reducible apply jv hm);(iterate 2 (simp only[push_cast,seval];rfl));intro e hm)|((with_reducible apply iN);(simp only[push_cast,seval];rfl);(first|exact trivial))|((with_reducible apply eE hm);(simp only[push_cast,seval];rfl);rfl;intro v hm;rotate_left;intro v g hm)|((with_reducible apply mV hm);(simp only[push_cast,seval];rfl);rfl;intro v hm;rotate_left;intro v g hm)|((with_reducible apply dJ hm);(simp only[push_cast,seval];rfl);(first|apply gL _);(any_goals((repeat'(first|rfl));done));intro x hm)|((with_reducible apply bF hm);(focus(simp only[a8,cj,RV.get,push_cast,seval];rfl));(focus((repeat'(first|rfl));done)))|((with_reducible apply bO hm);(simp only[push_cast,seval];rfl)))
noncomputable def ls (x0:List UInt8):Option (Bool):=(rb x0).1
theorem sI (x0:List UInt8):∀ r,ls x0=some r->aa Tryz.prog 142 [.str x0] (.bool r):=(rb x0).2
def nm:SC:=
 (.seq (.reg [.w 2 (.boxM (.c (.agg [.d (.int .i64 0),.d (.int .i64 0)]))),
   .r 3 (.mv (.c (.d (.int .i64 0))))])
 (.seq (.reg [.r 10 (.mv (.t 0)),
   .c 11 (.f 140) [.t 10,.c (.d (.str [45]))],
   .r 9 (.mv (.t 11)),
   .r 12 (.ext (.t 9) 0),
   .r 13 (.ext (.t 9) 1),
   .r 4 (.mv (.t 12)),
   .r 5 (.mv (.t 13))])
 (.seq (.reg [.r 15 (.mv (.t 4)),
   .c 16 (.f 141) [.t 15,.c (.d (.str [46]))],
   .r 14 (.mv (.t 16)),
   .r 17 (.ext (.t 14) 0),
   .r 18 (.ext (.t 14) 1),
   .r 19 (.ext (.t 14) 2),
   .r 6 (.mv (.t 17)),
   .r 7 (.mv (.t 18)),
   .r 8 (.mv (.t 19))])
 (.seq (.seq (.reg (.r 20 (.mv (.t 0)):: .r 21 (.lenT (.t 20)):: .r 22 (.bin .gtr (.t 21) (.c (.d (.int .i64 40)))):: .r 23 (.mv (.t 22))::aK [24,25,26] 23 false (.r 24 (.mv (.t 6)):: .c 25 (.f 142) [.t 24]:: .r 26 (.not (.t 25))::[]) (.r 27 (.pick (.t 23) (.c (.d (.bool true))) (.t 26)):: .r 28 (.mv (.t 27))::aK [29,30,31,32,33,34,35,36,37,38,39] 28 false (.r 29 (.mv (.t 8)):: .r 30 (.mv (.t 29))::aK [31,32,33,34,35,36,37,38] 30 true (.r 31 (.mv (.t 7)):: .c 32 (.f 97) [.t 31]:: .r 33 (.not (.t 32)):: .r 34 (.mv (.t 33))::aK [35,36,37] 34 false (.r 35 (.mv (.t 7)):: .r 36 (.lenT (.t 35)):: .r 37 (.bin .gtr (.t 36) (.c (.d (.int .i64 9))))::[]) (.r 38 (.pick (.t 34) (.c (.d (.bool true))) (.t 37))::[])) (.r 39 (.pick (.t 30) (.t 38) (.c (.d (.bool false))))::[])) (.r 40 (.pick (.t 28) (.c (.d (.bool true))) (.t 39))::[]))))
 (.cond (.t 40)
  (.seq (.reg [.r 41 (.build [.d (.int .i64 0),.d (.int .i64 0)] []),
    .w 0 (.st 2 (.t 2) (.t 41)),
    .r 3 (.mv (.c (.d (.int .i64 10))))])
  .ret)
  .skip))
 (.seq (.reg [.r 42 (.mv (.t 5)),
   .r 43 (.mv (.t 6)),
   .r 44 (.mv (.t 7)),
   .c 45 (.f 143) [.t 42,.t 43,.t 44],
   .r 46 (.ext (.t 45) 0),
   .r 47 (.ext (.t 45) 1),
   .w 0 (.st 2 (.t 2) (.t 46)),
   .r 3 (.mv (.t 47))])
 .ret)))))
theorem sJ:fits Tryz.prog 126 Tryz.f126 nm [.cell 2 2,.t 3] 1=true:=oK
set_option maxRecDepth 100000 in
set_option maxHeartbeats 40000000 in
noncomputable def rc:(∀ (x0:List UInt8),{m:Option (bC×Int)//∀ r,m=some r->aa Tryz.prog 126 [.str x0] (.tup [.agg (cn r.1),.int .i64 r.2])}):=by
 (intro x0;apply Subtype.mk;intro r hm;apply af Tryz.func126 sJ;unfold nm)
 repeat'(first|with_reducible refine bu ?_|with_reducible refine bt ?_|with_reducible refine be ?_|with_reducible refine bB ?_|with_reducible refine bw ?_|with_reducible refine bv ?_|with_reducible refine bD ?_|((with_reducible apply iN);(simp only[push_cast,seval];rfl);(first|exact trivial))|((with_reducible apply eE hm);(simp only[push_cast,seval];rfl);rfl;intro v hm;rotate_left;intro v g hm)|((with_reducible apply mV hm);(simp only[push_cast,seval];rfl);rfl;intro v hm;rotate_left;intro v g hm)|((with_reducible apply dJ hm);(simp only[push_cast,seval];rfl);(first|apply kQ _ _|apply pK _ _|apply sI _|apply gL _|apply vn _ _ _);(any_goals((repeat'(first|rfl));done));intro x hm)|((with_reducible apply tQ);(simp only[push_cast,seval];rfl);(first|exact trivial))|((with_reducible apply aQ hm);(simp only[push_cast,seval];rfl);intro hm;rotate_left;intro hm)|((with_reducible apply ge hm);(focus(simp only[a8,cj,RV.get,push_cast,seval];rfl));(focus(first|(dsimp only;done)));(focus((repeat'(first|rfl|(with_reducible first|apply jw|apply wk|apply oq|apply dB)));done)))|((with_reducible apply bO hm);(simp only[push_cast,seval];rfl)))
noncomputable def kD (x0:List UInt8):Option (bC×Int):=(rc x0).1
theorem re (x0:List UInt8):∀ r,kD x0=some r->aa Tryz.prog 126 [.str x0] (.tup [.agg (cn r.1),.int .i64 r.2]):=(rc x0).2
structure ab where
 fTag:List UInt8
 fName:List UInt8
 fMin:Int
 fMax:Int
 fItems:List ab
mutual
def rY:ab->List DV
 |⟨v0,v1,v2,v3,v4⟩=>[.str v0,.str v1,.int .i64 v2,.int .i64 v3,.slice (iC v4)]
def iC:List ab->List (List DV)
 |[]=>[]
 |x::l=>rY x::iC l
end
def ac (x:ab):List DV:=[.str x.fTag,.str x.fName,.int .i64 x.fMin,.int .i64 x.fMax,.slice (iC x.fItems)]
theorem x7 (x:ab):rY x=ac x:=by cases x;simp only[rY,ac]
theorem qu:∀ l:List ab,iC l=List.map ac l
 |[]=>by simp only[iC,KX]
 |x::l=>by simp only[iC,JZ,qu l,x7]
theorem pi (x:ab):ac x=[.str x.fTag,.str x.fName,.int .i64 x.fMin,.int .i64 x.fMax,.slice (List.map ac x.fItems)]:=by show([.str x.fTag,.str x.fName,.int .i64 x.fMin,.int .i64 x.fMax,.slice (iC x.fItems)]:List DV)=_;simp only[qu]
attribute [push_cast] pi
theorem fh (x:ab):(⟨x.fTag,x.fName,x.fMin,x.fMax,x.fItems⟩:ab)=x:=by cases x;rfl
theorem iP {d0 d1 d2 d3 d4:DV} {v0:List UInt8} {v1:List UInt8} {v2:Int} {v3:Int} {v4:List ab} (h0:d0= .str v0) (h1:d1= .str v1) (h2:d2= .int .i64 v2) (h3:d3= .int .i64 v3) (h4:d4= .slice (List.map ac v4)):[d0,d1,d2,d3,d4]=ac ⟨v0,v1,v2,v3,v4⟩:=by rw[pi];simp only[h0,h1,h2,h3,h4,J5,Kd,KM,Ka]
structure aH where
 fNeeded:Bool
 fType:Int
 fMin:Int
 fMax:Int
 fCodes:List (List UInt8)
 deriving DecidableEq
def bP (x:aH):List DV:=[.bool x.fNeeded,.int .i64 x.fType,.int .i64 x.fMin,.int .i64 x.fMax,.slice (List.map eK x.fCodes)]
attribute [push_cast] bP
structure aY where
 fNeeded:Bool
 fMost:Int
 fParts:List aH
 deriving DecidableEq
def cA (x:aY):List DV:=[.bool x.fNeeded,.int .i64 x.fMost,.slice (List.map bP x.fParts)]
attribute [push_cast] cA
structure aw where
 fTag:List UInt8
 fElements:List aY
 deriving DecidableEq
def au (x:aw):List DV:=[.str x.fTag,.slice (List.map cA x.fElements)]
attribute [push_cast] au
theorem tL {d0 d1:DV} {v0:List UInt8} {v1:List aY} (h0:d0= .str v0) (h1:d1= .slice (List.map cA v1)):[d0,d1]=au ⟨v0,v1⟩:=by unfold au;simp only[h0,h1,J5,Kd,KM,Ka]
structure ah where
 fKind:List UInt8
 fVersion:List UInt8
 fDefs:List aw
 fItems:List ab
def aC (x:ah):List DV:=[.str x.fKind,.str x.fVersion,.slice (List.map au x.fDefs),.slice (List.map ac x.fItems)]
attribute [push_cast] aC
theorem nU {d0 d1 d2 d3:SV} {v0:List UInt8} {v1:List UInt8} {v2:List aw} {v3:List ab} (h0:qy d0 (.d (.str v0))) (h1:qy d1 (.d (.str v1))) (h2:qy d2 (.d (.slice (List.map au v2)))) (h3:qy d3 (.d (.slice (List.map ac v3)))):aU [d0,d1,d2,d3] (dR (aC ⟨v0,v1,v2,v3⟩)):=by have h:=(aU.append (aU.consS h0 aU.nil) (aU.append (aU.consS h1 aU.nil) (aU.append (aU.consS h2 aU.nil) (aU.consS h3 aU.nil))));simpa only[aC,dR,LH,JZ,KX,J5,Kd,KM,Ka] using h
def rZ:SC:=
 (.seq (.reg [.r 6 (.mv (.c (.d (.bool false))))])
 (.seq (.reg (.r 7 (.mv (.t 0)):: .r 8 (.mv (.t 1)):: .r 9 (.bin .lss (.t 7) (.t 8)):: .r 10 (.mv (.t 9))::aK [11,12,13] 10 false (.r 11 (.mv (.t 0)):: .r 12 (.mv (.t 2)):: .r 13 (.bin .gtr (.t 11) (.t 12))::[]) (.r 14 (.pick (.t 10) (.c (.d (.bool true))) (.t 13)):: .r 6 (.mv (.t 14))::[])))
 .ret))
theorem wF:fits Tryz.prog 63 Tryz.f63 rZ [.t 6] 3=true:=oK
def ta:SC:=
 (.seq (.reg [.r 2 (.mv (.c (.d (.bool false))))])
 (.seq (.seq (.reg (.r 3 (.mv (.t 0)):: .r 4 (.lenT (.t 3)):: .r 5 (.bin .lss (.t 4) (.c (.d (.int .i64 1)))):: .r 6 (.mv (.t 5))::aK [7,8,9] 6 false (.r 7 (.mv (.t 0)):: .r 8 (.lenT (.t 7)):: .r 9 (.bin .gtr (.t 8) (.c (.d (.int .i64 40))))::[]) (.r 10 (.pick (.t 6) (.c (.d (.bool true))) (.t 9)):: .r 11 (.mv (.t 10))::aK [12,13,14] 11 false (.r 12 (.mv (.t 0)):: .r 13 (.sidx (.t 12) (.c (.d (.int .i64 0)))):: .r 14 (.bin .lss (.t 13) (.c (.d (.int .u8 97))))::[]) (.r 15 (.pick (.t 11) (.c (.d (.bool true))) (.t 14)):: .r 16 (.mv (.t 15))::aK [17,18,19] 16 false (.r 17 (.mv (.t 0)):: .r 18 (.sidx (.t 17) (.c (.d (.int .i64 0)))):: .r 19 (.bin .gtr (.t 18) (.c (.d (.int .u8 122))))::[]) (.r 20 (.pick (.t 16) (.c (.d (.bool true))) (.t 19))::[])))))
 (.cond (.t 20)
  (.seq (.reg [.r 2 (.mv (.c (.d (.bool false))))])
  .ret)
  .skip))
 (.seq (.reg [.r 21 (.mv (.t 0)),
   .c 22 (.f 35) [.t 21,.c (.d (.str [97,98,99,100,101,102,103,104,105,106,107,108,109,110,111,112,113,114,115,116,117,118,119,120,121,122,48,49,50,51,52,53,54,55,56,57,45]))],
   .r 23 (.bin .eql (.t 22) (.c (.d (.str [])))),
   .r 2 (.mv (.t 23))])
 .ret)))
theorem x8:fits Tryz.prog 20 Tryz.f20 ta [.t 2] 1=true:=oK
def dT:SC:=
 (.seq (.seq (.reg [.r 6 (.mv (.t 3)),
   .r 7 (.mv (.t 0)),
   .r 8 (.lenT (.t 7)),
   .r 9 (.bin .lss (.t 6) (.t 8))])
 (.cond (.t 9)
  .skip
  (.exit 0)))
 (.seq (.block 1 (.seq (.reg [.r 12 (.mv (.t 0)),
    .r 13 (.mv (.t 3)),
    .r 14 (.sidx (.t 12) (.t 13)),
    .r 4 (.mv (.t 14))])
  (.seq (.reg (.r 15 (.mv (.t 4)):: .r 16 (.bin .geq (.t 15) (.c (.d (.int .u8 97)))):: .r 17 (.mv (.t 16))::aK [18,19] 17 true (.r 18 (.mv (.t 4)):: .r 19 (.bin .leq (.t 18) (.c (.d (.int .u8 122))))::[]) (.r 20 (.pick (.t 17) (.t 19) (.c (.d (.bool false)))):: .r 5 (.mv (.t 20))::[])))
  (.seq (.reg (.r 21 (.mv (.t 5)):: .r 22 (.not (.t 21)):: .r 23 (.mv (.t 22))::aK [24,25,26,27,28,29,30,31,32,33,34,35,36,37,38] 23 true (.r 24 (.mv (.t 3)):: .r 25 (.bin .eql (.t 24) (.c (.d (.int .i64 0)))):: .r 26 (.mv (.t 25))::aK [27,28,29,30,31,32,33,34,35,36,37] 26 false (.r 27 (.mv (.t 4)):: .r 28 (.bin .neq (.t 27) (.c (.d (.int .u8 45)))):: .r 29 (.mv (.t 28))::aK [30,31,32,33,34,35,36] 29 true (.r 30 (.mv (.t 4)):: .r 31 (.bin .geq (.t 30) (.c (.d (.int .u8 48)))):: .r 32 (.mv (.t 31))::aK [33,34] 32 true (.r 33 (.mv (.t 4)):: .r 34 (.bin .leq (.t 33) (.c (.d (.int .u8 57))))::[]) (.r 35 (.pick (.t 32) (.t 34) (.c (.d (.bool false)))):: .r 36 (.not (.t 35))::[])) (.r 37 (.pick (.t 29) (.t 36) (.c (.d (.bool false))))::[])) (.r 38 (.pick (.t 26) (.c (.d (.bool true))) (.t 37))::[])) (.r 39 (.pick (.t 23) (.t 38) (.c (.d (.bool false))))::[])))
  (.cond (.t 39)
   (.seq (.reg [.r 2 (.mv (.c (.d (.bool false))))])
   .ret)
   .skip)))))
 (.reg [.r 10 (.mv (.t 3)),
   .r 11 (.bin .add (.t 10) (.c (.d (.int .i64 1)))),
   .r 3 (.mv (.t 11))])))
def gA:SC:= .block 0 (.loop dT)
def iX:SC:=
 (.seq (.reg [.r 2 (.mv (.c (.d (.bool false))))])
 (.seq (.seq (.reg [.r 3 (.mv (.c (.d (.int .i64 0))))])
 gA)
 (.seq (.reg (.r 40 (.mv (.t 0)):: .r 41 (.bin .neq (.t 40) (.c (.d (.str [])))):: .r 42 (.mv (.t 41))::aK [43,44,45] 42 true (.r 43 (.mv (.t 0)):: .r 44 (.lenT (.t 43)):: .r 45 (.bin .leq (.t 44) (.c (.d (.int .i64 40))))::[]) (.r 46 (.pick (.t 42) (.t 45) (.c (.d (.bool false)))):: .r 2 (.mv (.t 46))::[])))
 .ret)))
theorem nV:fits Tryz.prog 25 Tryz.f25 iX [.t 2] 1=true:=oK
def pJ:SC:=
 (.seq (.reg [.r 2 (.mv (.c (.d (.bool false))))])
 (.seq (.reg [.r 3 (.mv (.t 0)),
   .c 4 (.f 35) [.t 3,.c (.d (.str [65,66,67,68,69,70,71,72,73,74,75,76,77,78,79,80,81,82,83,84,85,86,87,88,89,90,48,49,50,51,52,53,54,55,56,57]))],
   .r 5 (.bin .eql (.t 4) (.c (.d (.str [])))),
   .r 2 (.mv (.t 5))])
 .ret))
theorem uA:fits Tryz.prog 62 Tryz.f62 pJ [.t 2] 1=true:=oK
def c8:SC:=
 (.seq (.seq (.reg [.r 5 (.mv (.t 3)),
   .r 6 (.mv (.t 0)),
   .r 7 (.lenT (.t 6)),
   .r 8 (.bin .lss (.t 5) (.t 7))])
 (.cond (.t 8)
  .skip
  (.exit 0)))
 (.seq (.block 1 (.seq (.reg (.r 11 (.mv (.t 0)):: .r 12 (.mv (.t 3)):: .r 13 (.sidx (.t 11) (.t 12)):: .r 14 (.bin .geq (.t 13) (.c (.d (.int .u8 65)))):: .r 15 (.mv (.t 14))::aK [16,17,18,19] 15 true (.r 16 (.mv (.t 0)):: .r 17 (.mv (.t 3)):: .r 18 (.sidx (.t 16) (.t 17)):: .r 19 (.bin .leq (.t 18) (.c (.d (.int .u8 90))))::[]) (.r 20 (.pick (.t 15) (.t 19) (.c (.d (.bool false)))):: .r 4 (.mv (.t 20))::[])))
  (.seq (.reg (.r 21 (.mv (.t 4)):: .r 22 (.not (.t 21)):: .r 23 (.mv (.t 22))::aK [24,25,26,27,28,29,30,31,32,33,34,35,36,37] 23 true (.r 24 (.mv (.t 3)):: .r 25 (.bin .eql (.t 24) (.c (.d (.int .i64 0)))):: .r 26 (.mv (.t 25))::aK [27,28,29,30] 26 false (.r 27 (.mv (.t 0)):: .r 28 (.mv (.t 3)):: .r 29 (.sidx (.t 27) (.t 28)):: .r 30 (.bin .lss (.t 29) (.c (.d (.int .u8 48))))::[]) (.r 31 (.pick (.t 26) (.c (.d (.bool true))) (.t 30)):: .r 32 (.mv (.t 31))::aK [33,34,35,36] 32 false (.r 33 (.mv (.t 0)):: .r 34 (.mv (.t 3)):: .r 35 (.sidx (.t 33) (.t 34)):: .r 36 (.bin .gtr (.t 35) (.c (.d (.int .u8 57))))::[]) (.r 37 (.pick (.t 32) (.c (.d (.bool true))) (.t 36))::[]))) (.r 38 (.pick (.t 23) (.t 37) (.c (.d (.bool false))))::[])))
  (.cond (.t 38)
   (.seq (.reg [.r 2 (.mv (.c (.d (.bool false))))])
   .ret)
   .skip))))
 (.reg [.r 9 (.mv (.t 3)),
   .r 10 (.bin .add (.t 9) (.c (.d (.int .i64 1)))),
   .r 3 (.mv (.t 10))])))
def fr:SC:= .block 0 (.loop c8)
def gB:SC:=
 (.seq (.reg [.r 2 (.mv (.c (.d (.bool false))))])
 (.seq (.seq (.reg [.r 3 (.mv (.c (.d (.int .i64 0))))])
 fr)
 (.seq (.reg [.r 39 (.mv (.t 0)),
   .r 40 (.lenT (.t 39)),
   .r 41 (.bin .leq (.t 40) (.c (.d (.int .i64 6)))),
   .r 2 (.mv (.t 41))])
 .ret)))
theorem l_:fits Tryz.prog 68 Tryz.f68 gB [.t 2] 1=true:=oK
def eb:SC:=
 (.seq (.seq (.reg [.r 6 (.mv (.t 5)),
   .r 7 (.fld 2 (.t 2)),
   .o 8 (.ld1 (.t 7)),
   .r 9 (.len (.t 8)),
   .r 10 (.bin .lss (.t 6) (.t 9))])
 (.cond (.t 10)
  .skip
  (.exit 0)))
 (.seq (.block 1 (.seq (.reg [.r 13 (.fld 2 (.t 2)),
    .o 14 (.ld1 (.t 13)),
    .r 15 (.mv (.t 5)),
    .r 16 (.idx 2 (.t 14) (.t 15)),
    .r 17 (.fld 0 (.t 16)),
    .o 18 (.ld1 (.t 17)),
    .r 19 (.mv (.t 1)),
    .r 20 (.bin .eql (.t 18) (.t 19))])
  (.cond (.t 20)
   (.seq (.reg [.r 21 (.mv (.t 5)),
     .r 4 (.mv (.t 21))])
   .ret)
   .skip)))
 (.reg [.r 11 (.mv (.t 5)),
   .r 12 (.bin .add (.t 11) (.c (.d (.int .i64 1)))),
   .r 5 (.mv (.t 12))])))
def gZ:SC:= .block 0 (.loop eb)
def js:SC:=
 (.seq (.reg [.r 2 (.boxI (.t 0)),
   .r 4 (.mv (.c (.d (.int .i64 0))))])
 (.seq (.seq (.reg [.r 5 (.mv (.c (.d (.int .i64 0))))])
 gZ)
 (.seq (.reg [.r 4 (.mv (.c (.d (.int .i64 (-1)))))])
 .ret)))
theorem oh:fits Tryz.prog 44 Tryz.f44 js [.t 4] 2=true:=oK
def g8:SC:=
 (.seq (.reg [.r 1 (.boxI (.t 0)),
   .r 2 (.mv (.c (.d (.str []))))])
 (.seq (.seq (.reg [.r 3 (.fld 4 (.t 1)),
   .o 4 (.ld1 (.t 3)),
   .r 5 (.len (.t 4)),
   .r 6 (.bin .gtr (.t 5) (.c (.d (.int .i64 0))))])
 (.cond (.t 6)
  (.seq (.reg [.r 7 (.fld 4 (.t 1)),
    .o 8 (.ld1 (.t 7)),
    .r 9 (.idx 5 (.t 8) (.c (.d (.int .i64 0)))),
    .r 10 (.fld 0 (.t 9)),
    .o 11 (.ld1 (.t 10)),
    .r 2 (.mv (.t 11))])
  .ret)
  .skip))
 (.seq (.reg [.r 12 (.fld 0 (.t 1)),
   .o 13 (.ld1 (.t 12)),
   .r 2 (.mv (.t 13))])
 .ret)))
theorem mC:fits Tryz.prog 46 Tryz.f46 g8 [.t 2] 1=true:=oK
def nW:SC:=
 (.seq (.reg [.r 1 (.boxI (.t 0)),
   .r 2 (.mv (.c (.d (.str []))))])
 (.seq (.seq (.reg [.r 3 (.fld 1 (.t 1)),
   .o 4 (.ld1 (.t 3)),
   .r 5 (.bin .eql (.t 4) (.c (.d (.str []))))])
 (.cond (.t 5)
  (.seq (.reg [.r 6 (.fld 0 (.t 1)),
    .o 7 (.ld1 (.t 6)),
    .r 2 (.mv (.t 7))])
  .ret)
  .skip))
 (.seq (.reg [.r 8 (.fld 4 (.t 1)),
   .o 9 (.ld1 (.t 8)),
   .r 10 (.idx 5 (.t 9) (.c (.d (.int .i64 0)))),
   .r 11 (.fld 0 (.t 10)),
   .o 12 (.ld1 (.t 11)),
   .r 2 (.mv (.t 12))])
 .ret)))
theorem sR:fits Tryz.prog 39 Tryz.f39 nW [.t 2] 1=true:=oK
set_option maxRecDepth 100000 in
set_option maxHeartbeats 40000000 in
noncomputable def aV:(∀ (x0:Int) (x1:Int) (x2:Int),{m:Option (Bool)//∀ r,m=some r->aa Tryz.prog 63 [.int .i64 x0,.int .i64 x1,.int .i64 x2] (.bool r)})×(∀ (x0:List UInt8),{m:Option (Bool)//∀ r,m=some r->aa Tryz.prog 20 [.str x0] (.bool r)})×(∀ (x0:List UInt8),{m:Option (Bool)//∀ r,m=some r->aa Tryz.prog 25 [.str x0] (.bool r)})×(∀ (x0:List UInt8),{m:Option (Bool)//∀ r,m=some r->aa Tryz.prog 62 [.str x0] (.bool r)})×(∀ (x0:List UInt8),{m:Option (Bool)//∀ r,m=some r->aa Tryz.prog 68 [.str x0] (.bool r)})×(∀ (x0:ah) (x1:List UInt8),{m:Option (Int)//∀ r,m=some r->aa Tryz.prog 44 [.agg (aC x0),.str x1] (.int .i64 r)})×(∀ (x0:ab),{m:Option ((List UInt8))//∀ r,m=some r->aa Tryz.prog 46 [.agg (ac x0)] (.str r)})×(∀ (x0:ab),{m:Option ((List UInt8))//∀ r,m=some r->aa Tryz.prog 39 [.agg (ac x0)] (.str r)}):=by
 refine⟨?g0, ?g1, ?g2, ?g3, ?g4, ?g5, ?g6, ?g7⟩
 case' g0=>(intro x0 x1 x2;apply Subtype.mk;intro r hm;apply af Tryz.func63 wF;unfold rZ)
 case' g1=>(intro x0;apply Subtype.mk;intro r hm;apply af Tryz.func20 x8;unfold ta)
 case' g2=>(intro x0;apply Subtype.mk;intro r hm;apply af Tryz.func25 nV;unfold iX)
 case' g3=>(intro x0;apply Subtype.mk;intro r hm;apply af Tryz.func62 uA;unfold pJ)
 case' g4=>(intro x0;apply Subtype.mk;intro r hm;apply af Tryz.func68 l_;unfold gB)
 case' g5=>(intro x0 x1;apply Subtype.mk;intro r hm;apply af Tryz.func44 oh;unfold js)
 case' g6=>(intro x0;apply Subtype.mk;intro r hm;apply af Tryz.func46 mC;unfold g8)
 case' g7=>(intro x0;apply Subtype.mk;intro r hm;apply af Tryz.func39 sR;unfold nW)
 all_goals(repeat'(first|with_reducible refine bu ?_|with_reducible refine bt ?_|with_reducible refine bf ?_|with_reducible refine be ?_|with_reducible refine bB ?_|with_reducible refine cg ?_|with_reducible refine bw ?_|with_reducible refine bv ?_|with_reducible refine ck ?_|with_reducible refine bD ?_|with_reducible refine bo ?_|with_reducible refine bE ?_|with_reducible refine du ?_|((with_reducible apply cD hm);(iterate 2 (simp only[push_cast,seval];rfl));(intro _;rfl);intro e hm)|((with_reducible apply jv hm);(iterate 2 (simp only[push_cast,seval];rfl));intro e hm)|((with_reducible apply iN);(simp only[push_cast,seval];rfl);(first|exact trivial))|((with_reducible apply eE hm);(simp only[push_cast,seval];rfl);rfl;intro v hm;rotate_left;intro v g hm)|((with_reducible apply mV hm);(simp only[push_cast,seval];rfl);rfl;intro v hm;rotate_left;intro v g hm)|((with_reducible apply dJ hm);(simp only[push_cast,seval];rfl);(first|apply o5 _ _);(any_goals((repeat'(first|rfl));done));intro x hm)|((with_reducible apply aQ hm);(simp only[push_cast,seval];rfl);intro hm;rotate_left;intro hm)|((with_reducible apply bF hm);(focus(simp only[a8,cj,RV.get,push_cast,seval];rfl));(focus((repeat'(first|rfl));done)))|((with_reducible apply bO hm);(simp only[push_cast,seval];rfl))|((with_reducible apply bH hm);intro r hm)|((with_reducible apply cy hm);intro r hm)|((apply aF (b:=0) (X:=gA) (x:=dT) rfl (fun(c:SV) (s:Int)=>st [(0,c),(3,.d (.int .i64 s))] []) (c:=_) (s0:=_) hm);(focus(first|(dsimp only;done)));(with_reducible refine cz.mk ?_ ?_))|((apply aF (b:=0) (X:=fr) (x:=c8) rfl (fun(c:SV) (s:Int)=>st [(0,c),(3,.d (.int .i64 s))] []) (c:=_) (s0:=_) hm);(focus(first|(dsimp only;done)));(with_reducible refine cz.mk ?_ ?_))|((apply aF (b:=0) (X:=gZ) (x:=eb) rfl (fun(c:SV×SV) (s:Int)=>st [(1,c.1),(2,c.2),(5,.d (.int .i64 s))] []) (c:=(_,_)) (s0:=_) hm);(focus(first|(dsimp only;done)));(with_reducible refine cz.mk ?_ ?_))|((apply bN (s':=_) hm);(focus(first|(dsimp only;done))))|((apply cJ (s':=_) hm);(focus(first|(dsimp only;done))))|(((with_reducible apply fD hm);intro r hm))|(((with_reducible apply dz.of);(focus(first|(dsimp only;done)));(focus((intro _;repeat'(first|with_reducible exact bp|with_reducible refine ba ?_))));(intro s o hm;first|unfold dT|unfold c8|unfold eb);rotate_left;intro s hm))|(((apply bI;(repeat'(first|with_reducible exact aS|with_reducible exact aT|with_reducible apply aL|((with_reducible apply a_);(focus(first|(simp only[push_cast,seval];rfl)));(focus((repeat'(first|rfl));done)))));done)))))
noncomputable def pj (x0:Int) (x1:Int) (x2:Int):Option (Bool):=(aV.1 x0 x1 x2).1
theorem dr (x0:Int) (x1:Int) (x2:Int):∀ r,pj x0 x1 x2=some r->aa Tryz.prog 63 [.int .i64 x0,.int .i64 x1,.int .i64 x2] (.bool r):=(aV.1 x0 x1 x2).2
noncomputable def qc (x0:List UInt8):Option (Bool):=(aV.2.1 x0).1
theorem mD (x0:List UInt8):∀ r,qc x0=some r->aa Tryz.prog 20 [.str x0] (.bool r):=(aV.2.1 x0).2
noncomputable def fi (x0:List UInt8):Option (Bool):=(aV.2.2.1 x0).1
theorem g9 (x0:List UInt8):∀ r,fi x0=some r->aa Tryz.prog 25 [.str x0] (.bool r):=(aV.2.2.1 x0).2
noncomputable def mE (x0:List UInt8):Option (Bool):=(aV.2.2.2.1 x0).1
theorem tM (x0:List UInt8):∀ r,mE x0=some r->aa Tryz.prog 62 [.str x0] (.bool r):=(aV.2.2.2.1 x0).2
noncomputable def ec (x0:List UInt8):Option (Bool):=(aV.2.2.2.2.1 x0).1
theorem lF (x0:List UInt8):∀ r,ec x0=some r->aa Tryz.prog 68 [.str x0] (.bool r):=(aV.2.2.2.2.1 x0).2
noncomputable def dO (x0:ah) (x1:List UInt8):Option (Int):=(aV.2.2.2.2.2.1 x0 x1).1
theorem nY (x0:ah) (x1:List UInt8):∀ r,dO x0 x1=some r->aa Tryz.prog 44 [.agg (aC x0),.str x1] (.int .i64 r):=(aV.2.2.2.2.2.1 x0 x1).2
noncomputable def eB (x0:ab):Option ((List UInt8)):=(aV.2.2.2.2.2.2.1 x0).1
theorem ma (x0:ab):∀ r,eB x0=some r->aa Tryz.prog 46 [.agg (ac x0)] (.str r):=(aV.2.2.2.2.2.2.1 x0).2
noncomputable def eX (x0:ab):Option ((List UInt8)):=(aV.2.2.2.2.2.2.2 x0).1
theorem r_ (x0:ab):∀ r,eX x0=some r->aa Tryz.prog 39 [.agg (ac x0)] (.str r):=(aV.2.2.2.2.2.2.2 x0).2
def uB:SC:=
 (.seq (.reg [.r 2 (.mv (.c (.d (.bool false))))])
 (.seq (.reg (.r 3 (.mv (.t 0)):: .r 4 (.lenT (.t 3)):: .r 5 (.bin .geq (.t 4) (.c (.d (.int .i64 2)))):: .r 6 (.mv (.t 5))::aK [7,8,9] 6 true (.r 7 (.mv (.t 0)):: .r 8 (.lenT (.t 7)):: .r 9 (.bin .leq (.t 8) (.c (.d (.int .i64 6))))::[]) (.r 10 (.pick (.t 6) (.t 9) (.c (.d (.bool false)))):: .r 11 (.mv (.t 10))::aK [12,13,14,15] 11 true (.r 12 (.mv (.t 0)):: .r 13 (.sidx (.t 12) (.c (.d (.int .i64 0)))):: .c 14 (.f 61) [.c (.d (.str [65,66,67,68,69,70,71,72,73,74,75,76,77,78,79,80,81,82,83,84,85,86,87,88,89,90])),.t 13]:: .r 15 (.bin .geq (.t 14) (.c (.d (.int .i64 0))))::[]) (.r 16 (.pick (.t 11) (.t 15) (.c (.d (.bool false)))):: .r 17 (.mv (.t 16))::aK [18,19] 17 true (.r 18 (.mv (.t 0)):: .c 19 (.f 62) [.t 18]::[]) (.r 20 (.pick (.t 17) (.t 19) (.c (.d (.bool false)))):: .r 2 (.mv (.t 20))::[])))))
 .ret))
theorem yC:fits Tryz.prog 36 Tryz.f36 uB [.t 2] 1=true:=oK
def jt:SC:=
 (.seq (.reg [.r 2 (.mv (.c (.d (.bool false))))])
 (.seq (.reg (.r 3 (.mv (.t 0)):: .r 4 (.lenT (.t 3)):: .r 5 (.bin .geq (.t 4) (.c (.d (.int .i64 2)))):: .r 6 (.mv (.t 5))::aK [7,8] 6 true (.r 7 (.mv (.t 0)):: .c 8 (.f 68) [.t 7]::[]) (.r 9 (.pick (.t 6) (.t 8) (.c (.d (.bool false)))):: .r 2 (.mv (.t 9))::[])))
 .ret))
theorem oi:fits Tryz.prog 40 Tryz.f40 jt [.t 2] 1=true:=oK
set_option maxRecDepth 100000 in
set_option maxHeartbeats 40000000 in
noncomputable def j8:(∀ (x0:List UInt8),{m:Option (Bool)//∀ r,m=some r->aa Tryz.prog 36 [.str x0] (.bool r)})×(∀ (x0:List UInt8),{m:Option (Bool)//∀ r,m=some r->aa Tryz.prog 40 [.str x0] (.bool r)}):=by
 refine⟨?g0, ?g1⟩
 case' g0=>(intro x0;apply Subtype.mk;intro r hm;apply af Tryz.func36 yC;unfold uB)
 case' g1=>(intro x0;apply Subtype.mk;intro r hm;apply af Tryz.func40 oi;unfold jt)
 all_goals(repeat'(first|with_reducible refine bu ?_|with_reducible refine bt ?_|with_reducible refine bB ?_|with_reducible refine bw ?_|with_reducible refine bv ?_|((with_reducible apply jv hm);(iterate 2 (simp only[push_cast,seval];rfl));intro e hm)|((with_reducible apply iN);(simp only[push_cast,seval];rfl);(first|exact trivial))|((with_reducible apply eE hm);(simp only[push_cast,seval];rfl);rfl;intro v hm;rotate_left;intro v g hm)|((with_reducible apply dJ hm);(simp only[push_cast,seval];rfl);(first|apply qd _ _|apply tM _|apply lF _);(any_goals((repeat'(first|rfl));done));intro x hm)|((with_reducible apply bF hm);(focus(simp only[a8,cj,RV.get,push_cast,seval];rfl));(focus((repeat'(first|rfl));done)))|((with_reducible apply bO hm);(simp only[push_cast,seval];rfl))))
noncomputable def oX (x0:List UInt8):Option (Bool):=(j8.1 x0).1
theorem kO (x0:List UInt8):∀ r,oX x0=some r->aa Tryz.prog 36 [.str x0] (.bool r):=(j8.1 x0).2
noncomputable def fR (x0:List UInt8):Option (Bool):=(j8.2 x0).1
theorem iD (x0:List UInt8):∀ r,fR x0=some r->aa Tryz.prog 40 [.str x0] (.bool r):=(j8.2 x0).2
def mN:SC:=
 (.seq (.reg [.r 1 (.boxI (.t 0)),
   .r 2 (.mv (.c (.d (.bool false))))])
 (.seq (.reg (.r 3 (.fld 0 (.t 1)):: .o 4 (.ld1 (.t 3)):: .c 5 (.f 36) [.t 4]:: .r 6 (.mv (.t 5))::aK [7,8,9] 6 true (.r 7 (.fld 1 (.t 1)):: .r 8 (.ld1 (.t 7)):: .r 9 (.bin .eql (.t 8) (.c (.d (.str []))))::[]) (.r 10 (.pick (.t 6) (.t 9) (.c (.d (.bool false)))):: .r 11 (.mv (.t 10))::aK [12,13,14,15] 11 true (.r 12 (.fld 4 (.t 1)):: .r 13 (.ld1 (.t 12)):: .r 14 (.len (.t 13)):: .r 15 (.bin .eql (.t 14) (.c (.d (.int .i64 0))))::[]) (.r 16 (.pick (.t 11) (.t 15) (.c (.d (.bool false)))):: .r 2 (.mv (.t 16))::[]))))
 .ret))
theorem sa:fits Tryz.prog 65 Tryz.f65 mN [.t 2] 1=true:=oK
def gC:SC:=
 (.seq (.reg [.r 1 (.boxI (.t 0)),
   .r 2 (.mv (.c (.d (.bool false))))])
 (.seq (.reg (.r 3 (.fld 0 (.t 1)):: .o 4 (.ld1 (.t 3)):: .c 5 (.f 40) [.t 4]:: .r 6 (.mv (.t 5))::aK [7,8,9] 6 true (.r 7 (.fld 1 (.t 1)):: .r 8 (.ld1 (.t 7)):: .r 9 (.bin .eql (.t 8) (.c (.d (.str []))))::[]) (.r 10 (.pick (.t 6) (.t 9) (.c (.d (.bool false)))):: .r 11 (.mv (.t 10))::aK [12,13,14,15] 11 true (.r 12 (.fld 4 (.t 1)):: .r 13 (.ld1 (.t 12)):: .r 14 (.len (.t 13)):: .r 15 (.bin .eql (.t 14) (.c (.d (.int .i64 0))))::[]) (.r 16 (.pick (.t 11) (.t 15) (.c (.d (.bool false)))):: .r 2 (.mv (.t 16))::[]))))
 .ret))
theorem mb:fits Tryz.prog 42 Tryz.f42 gC [.t 2] 1=true:=oK
set_option maxRecDepth 100000 in
set_option maxHeartbeats 40000000 in
noncomputable def j9:(∀ (x0:ab),{m:Option (Bool)//∀ r,m=some r->aa Tryz.prog 65 [.agg (ac x0)] (.bool r)})×(∀ (x0:ab),{m:Option (Bool)//∀ r,m=some r->aa Tryz.prog 42 [.agg (ac x0)] (.bool r)}):=by
 refine⟨?g0, ?g1⟩
 case' g0=>(intro x0;apply Subtype.mk;intro r hm;apply af Tryz.func65 sa;unfold mN)
 case' g1=>(intro x0;apply Subtype.mk;intro r hm;apply af Tryz.func42 mb;unfold gC)
 all_goals(repeat'(first|with_reducible refine bu ?_|with_reducible refine bt ?_|with_reducible refine bB ?_|with_reducible refine bw ?_|with_reducible refine bv ?_|with_reducible refine du ?_|((with_reducible apply iN);(simp only[push_cast,seval];rfl);(first|exact trivial))|((with_reducible apply eE hm);(simp only[push_cast,seval];rfl);rfl;intro v hm;rotate_left;intro v g hm)|((with_reducible apply dJ hm);(simp only[push_cast,seval];rfl);(first|apply kO _|apply iD _);(any_goals((repeat'(first|rfl));done));intro x hm)|((with_reducible apply bF hm);(focus(simp only[a8,cj,RV.get,push_cast,seval];rfl));(focus((repeat'(first|rfl));done)))|((with_reducible apply bO hm);(simp only[push_cast,seval];rfl))))
noncomputable def jQ (x0:ab):Option (Bool):=(j9.1 x0).1
theorem lf (x0:ab):∀ r,jQ x0=some r->aa Tryz.prog 65 [.agg (ac x0)] (.bool r):=(j9.1 x0).2
noncomputable def ed (x0:ab):Option (Bool):=(j9.2 x0).1
theorem fS (x0:ab):∀ r,ed x0=some r->aa Tryz.prog 42 [.agg (ac x0)] (.bool r):=(j9.2 x0).2
def oY:SC:=
 (.seq (.reg [.r 1 (.boxI (.t 0)),
   .r 2 (.mv (.c (.d (.bool false))))])
 (.seq (.reg (.r 3 (.fld 1 (.t 1)):: .o 4 (.ld1 (.t 3)):: .r 5 (.bin .neq (.t 4) (.c (.d (.str [])))):: .r 6 (.mv (.t 5))::aK [7,8,9] 6 true (.r 7 (.fld 0 (.t 1)):: .r 8 (.ld1 (.t 7)):: .r 9 (.bin .eql (.t 8) (.c (.d (.str []))))::[]) (.r 10 (.pick (.t 6) (.t 9) (.c (.d (.bool false)))):: .r 11 (.mv (.t 10))::aK [12,13,14,15] 11 true (.r 12 (.fld 4 (.t 1)):: .r 13 (.ld1 (.t 12)):: .r 14 (.len (.t 13)):: .r 15 (.bin .gtr (.t 14) (.c (.d (.int .i64 0))))::[]) (.r 16 (.pick (.t 11) (.t 15) (.c (.d (.bool false)))):: .r 17 (.mv (.t 16))::aK [18,19,20,21,22] 17 true (.r 18 (.fld 4 (.t 1)):: .r 19 (.ld1 (.t 18)):: .r 20 (.idx 5 (.t 19) (.c (.d (.int .i64 0)))):: .r 21 (.ldA 5 (.t 20)):: .c 22 (.f 65) [.t 21]::[]) (.r 23 (.pick (.t 17) (.t 22) (.c (.d (.bool false)))):: .r 24 (.mv (.t 23))::aK [25,26,27,28,29,30] 24 true (.r 25 (.fld 4 (.t 1)):: .r 26 (.ld1 (.t 25)):: .r 27 (.idx 5 (.t 26) (.c (.d (.int .i64 0)))):: .r 28 (.fld 2 (.t 27)):: .r 29 (.ld1 (.t 28)):: .r 30 (.bin .eql (.t 29) (.c (.d (.int .i64 1))))::[]) (.r 31 (.pick (.t 24) (.t 30) (.c (.d (.bool false)))):: .r 32 (.mv (.t 31))::aK [33,34,35,36,37,38] 32 true (.r 33 (.fld 4 (.t 1)):: .r 34 (.ld1 (.t 33)):: .r 35 (.idx 5 (.t 34) (.c (.d (.int .i64 0)))):: .r 36 (.fld 3 (.t 35)):: .r 37 (.ld1 (.t 36)):: .r 38 (.bin .eql (.t 37) (.c (.d (.int .i64 1))))::[]) (.r 39 (.pick (.t 32) (.t 38) (.c (.d (.bool false)))):: .r 2 (.mv (.t 39))::[])))))))
 .ret))
theorem tN:fits Tryz.prog 66 Tryz.f66 oY [.t 2] 1=true:=oK
def iE:SC:=
 (.seq (.reg [.r 1 (.boxI (.t 0)),
   .r 2 (.mv (.c (.d (.bool false))))])
 (.seq (.reg (.r 3 (.fld 0 (.t 1)):: .o 4 (.ld1 (.t 3)):: .r 5 (.bin .eql (.t 4) (.c (.d (.str [])))):: .r 6 (.mv (.t 5))::aK [7,8,9] 6 true (.r 7 (.fld 1 (.t 1)):: .r 8 (.ld1 (.t 7)):: .r 9 (.bin .neq (.t 8) (.c (.d (.str []))))::[]) (.r 10 (.pick (.t 6) (.t 9) (.c (.d (.bool false)))):: .r 11 (.mv (.t 10))::aK [12,13,14,15] 11 true (.r 12 (.fld 4 (.t 1)):: .r 13 (.ld1 (.t 12)):: .r 14 (.len (.t 13)):: .r 15 (.bin .gtr (.t 14) (.c (.d (.int .i64 0))))::[]) (.r 16 (.pick (.t 11) (.t 15) (.c (.d (.bool false)))):: .r 17 (.mv (.t 16))::aK [18,19,20,21,22] 17 true (.r 18 (.fld 4 (.t 1)):: .r 19 (.ld1 (.t 18)):: .r 20 (.idx 5 (.t 19) (.c (.d (.int .i64 0)))):: .r 21 (.ldA 5 (.t 20)):: .c 22 (.f 42) [.t 21]::[]) (.r 23 (.pick (.t 17) (.t 22) (.c (.d (.bool false)))):: .r 24 (.mv (.t 23))::aK [25,26,27,28,29,30] 24 true (.r 25 (.fld 4 (.t 1)):: .r 26 (.ld1 (.t 25)):: .r 27 (.idx 5 (.t 26) (.c (.d (.int .i64 0)))):: .r 28 (.fld 2 (.t 27)):: .r 29 (.ld1 (.t 28)):: .r 30 (.bin .eql (.t 29) (.c (.d (.int .i64 1))))::[]) (.r 31 (.pick (.t 24) (.t 30) (.c (.d (.bool false)))):: .r 32 (.mv (.t 31))::aK [33,34,35,36,37,38] 32 true (.r 33 (.fld 4 (.t 1)):: .r 34 (.ld1 (.t 33)):: .r 35 (.idx 5 (.t 34) (.c (.d (.int .i64 0)))):: .r 36 (.fld 3 (.t 35)):: .r 37 (.ld1 (.t 36)):: .r 38 (.bin .eql (.t 37) (.c (.d (.int .i64 1))))::[]) (.r 39 (.pick (.t 32) (.t 38) (.c (.d (.bool false)))):: .r 2 (.mv (.t 39))::[])))))))
 .ret))
theorem m9:fits Tryz.prog 43 Tryz.f43 iE [.t 2] 1=true:=oK
set_option maxRecDepth 100000 in
set_option maxHeartbeats 40000000 in
noncomputable def j_:(∀ (x0:ab),{m:Option (Bool)//∀ r,m=some r->aa Tryz.prog 66 [.agg (ac x0)] (.bool r)})×(∀ (x0:ab),{m:Option (Bool)//∀ r,m=some r->aa Tryz.prog 43 [.agg (ac x0)] (.bool r)}):=by
 refine⟨?g0, ?g1⟩
 case' g0=>(intro x0;apply Subtype.mk;intro r hm;apply af Tryz.func66 tN;unfold oY)
 case' g1=>(intro x0;apply Subtype.mk;intro r hm;apply af Tryz.func43 m9;unfold iE)
 all_goals(repeat'(first|with_reducible refine bu ?_|with_reducible refine bt ?_|with_reducible refine bB ?_|with_reducible refine bw ?_|with_reducible refine bv ?_|with_reducible refine du ?_|((with_reducible apply cD hm);(iterate 2 (simp only[push_cast,seval];rfl));(intro _;rfl);intro e hm)|((with_reducible apply iN);(simp only[push_cast,seval];rfl);(first|exact trivial))|((with_reducible apply eE hm);(simp only[push_cast,seval];rfl);rfl;intro v hm;rotate_left;intro v g hm)|((with_reducible apply dJ hm);(simp only[push_cast,seval];rfl);(first|apply lf _|apply fS _);(any_goals((repeat'(first|rfl|(with_reducible first|apply iP|apply oq|apply dB)));done));intro x hm)|((with_reducible apply bF hm);(focus(simp only[a8,cj,RV.get,push_cast,seval];rfl));(focus((repeat'(first|rfl));done)))|((with_reducible apply bO hm);(simp only[push_cast,seval];rfl))))
noncomputable def lG (x0:ab):Option (Bool):=(j_.1 x0).1
theorem sS (x0:ab):∀ r,lG x0=some r->aa Tryz.prog 66 [.agg (ac x0)] (.bool r):=(j_.1 x0).2
noncomputable def eN (x0:ab):Option (Bool):=(j_.2 x0).1
theorem mF (x0:ab):∀ r,eN x0=some r->aa Tryz.prog 43 [.agg (ac x0)] (.bool r):=(j_.2 x0).2
def pB:SC:=
 (.seq (.reg [.r 2 (.mv (.c (.d (.bool false))))])
 (.seq (.reg [.r 3 (.mv (.t 0)),
   .c 4 (.f 63) [.t 3,.c (.d (.int .i64 1)),.c (.d (.int .i64 5))],
   .r 5 (.not (.t 4)),
   .r 2 (.mv (.t 5))])
 .ret))
theorem un:fits Tryz.prog 144 Tryz.f144 pB [.t 2] 1=true:=oK
def jB:SC:=
 (.seq (.reg [.r 14 (.bin .lss (.t 13) (.t 12))])
 (.seq (.cond (.t 14)
  .skip
  (.exit 0))
 (.seq (.block 1 (.seq (.reg [.r 15 (.idx 1 (.t 11) (.t 13)),
    .o 16 (.ld1 (.t 15)),
    .r 8 (.mv (.t 16))])
  (.seq (.seq (.reg (.r 17 (.mv (.t 0)):: .r 18 (.lenT (.t 17)):: .r 19 (.mv (.t 8)):: .r 20 (.bin .lss (.t 18) (.t 19)):: .r 21 (.mv (.t 20))::aK [22,23,24,25,26] 21 false (.r 22 (.mv (.t 0)):: .r 23 (.mv (.t 8)):: .r 24 (.sslc (.t 22) none (some (.t 23))):: .c 25 (.f 97) [.t 24]:: .r 26 (.not (.t 25))::[]) (.r 27 (.pick (.t 21) (.c (.d (.bool true))) (.t 26))::[])))
  (.cond (.t 27)
   (.seq (.reg [.r 4 (.mv (.c (.nils))),
     .r 5 (.mv (.c (.d (.bool false))))])
   .ret)
   .skip))
  (.seq (.reg [.r 29 (.mv (.t 0)),
    .r 30 (.mv (.t 8)),
    .r 31 (.sslc (.t 29) none (some (.t 30))),
    .c 32 (.f 98) [.t 31],
    .r 28 (.mv (.t 32)),
    .r 33 (.ext (.t 28) 0),
    .r 34 (.ext (.t 28) 1),
    .r 9 (.mv (.t 33)),
    .r 10 (.mv (.t 34))])
  (.seq (.reg [.r 35 (.mv (.t 6)),
    .r 36 (.mv (.t 9)),
    .r 37 (.bslice 1 [.t 36]),
    .w 38 (.app 3 1 (.t 35) (.t 37)),
    .r 6 (.mv (.t 38))])
  (.reg [.r 39 (.mv (.t 0)),
    .r 40 (.mv (.t 8)),
    .r 41 (.sslc (.t 39) (some (.t 40)) none),
    .r 0 (.mv (.t 41))]))))))
 (.reg [.r 42 (.bin .add (.t 13) (.c (.d (.int .i64 1)))),
   .r 13 (.mv (.t 42))]))))
def no:SC:= .block 0 (.loop jB)
def qk:SC:=
 (.seq (.reg [.r 4 (.mv (.c (.nils))),
   .r 5 (.mv (.c (.d (.bool false))))])
 (.seq (.reg [.r 6 (.mv (.c (.nils)))])
 (.seq (.seq (.reg [.r 11 (.mv (.t 1)),
   .r 12 (.len (.t 11)),
   .r 13 (.mv (.c (.d (.int .i64 0))))])
 no)
 (.seq (.reg [.r 43 (.mv (.t 6)),
   .r 44 (.mv (.t 0)),
   .r 45 (.bin .eql (.t 44) (.c (.d (.str [])))),
   .r 4 (.mv (.t 43)),
   .r 5 (.mv (.t 45))])
 .ret))))
theorem vo:fits Tryz.prog 165 Tryz.f165 qk [.t 4,.t 5] 2=true:=oK
def pC:SC:=
 (.seq (.reg [.r 2 (.mv (.c (.d (.bool false))))])
 (.seq (.reg (.r 3 (.mv (.t 0)):: .r 4 (.bin .rem (.t 3) (.c (.d (.int .i64 4)))):: .r 5 (.bin .eql (.t 4) (.c (.d (.int .i64 0)))):: .r 6 (.mv (.t 5))::aK [7,8,9,10,11,12,13,14] 6 true (.r 7 (.mv (.t 0)):: .r 8 (.bin .rem (.t 7) (.c (.d (.int .i64 100)))):: .r 9 (.bin .neq (.t 8) (.c (.d (.int .i64 0)))):: .r 10 (.mv (.t 9))::aK [11,12,13] 10 false (.r 11 (.mv (.t 0)):: .r 12 (.bin .rem (.t 11) (.c (.d (.int .i64 400)))):: .r 13 (.bin .eql (.t 12) (.c (.d (.int .i64 0))))::[]) (.r 14 (.pick (.t 10) (.c (.d (.bool true))) (.t 13))::[])) (.r 15 (.pick (.t 6) (.t 14) (.c (.d (.bool false)))):: .r 2 (.mv (.t 15))::[])))
 .ret))
theorem uo:fits Tryz.prog 192 Tryz.f192 pC [.t 2] 1=true:=oK
def pD:SC:=
 (.seq (.reg [.r 2 (.mv (.c (.d (.int .i64 0))))])
 (.seq (.reg [.r 4 (.mv (.t 0)),
   .r 5 (.bin .sub (.t 4) (.c (.d (.int .i64 1)))),
   .r 3 (.mv (.t 5))])
 (.seq (.reg [.r 6 (.mv (.t 3)),
   .r 7 (.bin .mul (.c (.d (.int .i64 365))) (.t 6)),
   .r 8 (.mv (.t 3)),
   .r 9 (.bin .quo (.t 8) (.c (.d (.int .i64 4)))),
   .r 10 (.bin .add (.t 7) (.t 9)),
   .r 11 (.mv (.t 3)),
   .r 12 (.bin .quo (.t 11) (.c (.d (.int .i64 100)))),
   .r 13 (.bin .sub (.t 10) (.t 12)),
   .r 14 (.mv (.t 3)),
   .r 15 (.bin .quo (.t 14) (.c (.d (.int .i64 400)))),
   .r 16 (.bin .add (.t 13) (.t 15)),
   .r 2 (.mv (.t 16))])
 .ret)))
theorem uq:fits Tryz.prog 184 Tryz.f184 pD [.t 2] 1=true:=oK
set_option maxRecDepth 100000 in
set_option maxHeartbeats 40000000 in
noncomputable def cU:(∀ (x0:Int),{m:Option (Bool)//∀ r,m=some r->aa Tryz.prog 144 [.int .i64 x0] (.bool r)})×(∀ (x0:List UInt8) (x1:List Int),{m:Option ((List Int)×Bool)//∀ r,m=some r->aa Tryz.prog 165 [.str x0,.slice (List.map xW x1)] (.tup [.slice (List.map xW r.1),.bool r.2])})×(∀ (x0:Int),{m:Option (Bool)//∀ r,m=some r->aa Tryz.prog 192 [.int .i64 x0] (.bool r)})×(∀ (x0:Int),{m:Option (Int)//∀ r,m=some r->aa Tryz.prog 184 [.int .i64 x0] (.int .i64 r)}):=by
 refine⟨?g0, ?g1, ?g2, ?g3⟩
 case' g0=>(intro x0;apply Subtype.mk;intro r hm;apply af Tryz.func144 un;unfold pB)
 case' g1=>(intro x0 x1;apply Subtype.mk;intro r hm;apply af Tryz.func165 vo;unfold qk)
 case' g2=>(intro x0;apply Subtype.mk;intro r hm;apply af Tryz.func192 uo;unfold pC)
 case' g3=>(intro x0;apply Subtype.mk;intro r hm;apply af Tryz.func184 uq;unfold pD)
 all_goals(repeat'(first|with_reducible refine bu ?_|with_reducible refine bt ?_|with_reducible refine bf ?_|with_reducible refine be ?_|with_reducible refine bB ?_|with_reducible refine cg ?_|with_reducible refine bw ?_|with_reducible refine bv ?_|with_reducible refine ck ?_|with_reducible refine bD ?_|with_reducible refine bo ?_|with_reducible refine bE ?_|with_reducible refine du ?_|((with_reducible apply cD hm);(iterate 2 (simp only[push_cast,seval];rfl));(intro _;rfl);intro e hm)|((with_reducible apply C9 hm);(iterate 3 (simp only[push_cast,seval];rfl));intro e hm)|((with_reducible apply iN);(simp only[push_cast,seval];rfl);(first|exact trivial))|((with_reducible apply eE hm);(simp only[push_cast,seval];rfl);rfl;intro v hm;rotate_left;intro v g hm)|((with_reducible apply mV hm);(simp only[push_cast,seval];rfl);rfl;intro v hm;rotate_left;intro v g hm)|((with_reducible apply dJ hm);(simp only[push_cast,seval];rfl);(first|apply dr _ _ _|apply gL _|apply uE _);(any_goals((repeat'(first|rfl));done));intro x hm)|((with_reducible apply vh hm);(iterate 4 (simp only[push_cast,seval];rfl));(focus((repeat'(first|rfl|(with_reducible first|apply c9|apply dA|apply ek)));done));decide;(intro _;rfl);intro hm)|((with_reducible apply aQ hm);(simp only[push_cast,seval];rfl);intro hm;rotate_left;intro hm)|((with_reducible apply ge hm);(focus(simp only[a8,cj,RV.get,push_cast,seval];rfl));(focus(first|(dsimp only;done)));(focus((repeat'(first|rfl|(with_reducible first|apply wk|apply c9|apply dB|apply dA)));done)))|((with_reducible apply bF hm);(focus(simp only[a8,cj,RV.get,push_cast,seval];rfl));(focus((repeat'(first|rfl));done)))|((with_reducible apply bO hm);(simp only[push_cast,seval];rfl))|((with_reducible apply bH hm);intro r hm)|((with_reducible apply cy hm);intro r hm)|((apply aF (b:=0) (X:=no) (x:=jB) rfl (fun(c:SV×SV) (s:(List UInt8)×(List Int)×Int)=>st [(0,.d (.str s.1)),(6,.vec 6),(11,c.1),(12,c.2),(13,.d (.int .i64 s.2.2))] [(6,.vec 3 1 (eg xW s.2.1))]) (c:=(_,_)) (s0:=(_,_,_)) hm);(focus(first|(dsimp only;done)));(with_reducible refine cz.mk ?_ ?_);apply hY.trans;(focus(apply pX (slot:=6) (id:=6) (e:=3) (sz:=1);(focus(simp only[push_cast,seval];done)))))|((apply bN (s':=(_,_,_)) hm);(focus(first|(dsimp only;done))))|((apply cJ (s':=(_,_,_)) hm);(focus(first|(dsimp only;done))))|(((with_reducible apply fD hm);intro r hm))|(((with_reducible apply dz.of);(focus(first|(dsimp only;done)));(focus((intro _;repeat'(first|with_reducible exact bp|with_reducible refine ba ?_))));(intro s o hm;first|unfold jB);rotate_left;intro s hm))|(((apply bI;(repeat'(first|with_reducible exact aS|with_reducible exact aT|with_reducible apply aL|with_reducible apply ca|((with_reducible apply a_);(focus(first|(simp only[push_cast,seval];rfl)));(focus((repeat'(first|rfl));done)))|((with_reducible apply fx);(focus(first|(simp only[push_cast,seval];rfl)));(first|with_reducible exact cK rfl|with_reducible apply uj))|(with_reducible first|apply Da)));done)))))
noncomputable def mo (x0:Int):Option (Bool):=(cU.1 x0).1
theorem tB (x0:Int):∀ r,mo x0=some r->aa Tryz.prog 144 [.int .i64 x0] (.bool r):=(cU.1 x0).2
noncomputable def np (x0:List UInt8) (x1:List Int):Option ((List Int)×Bool):=(cU.2.1 x0 x1).1
theorem ur (x0:List UInt8) (x1:List Int):∀ r,np x0 x1=some r->aa Tryz.prog 165 [.str x0,.slice (List.map xW x1)] (.tup [.slice (List.map xW r.1),.bool r.2]):=(cU.2.1 x0 x1).2
noncomputable def mq (x0:Int):Option (Bool):=(cU.2.2.1 x0).1
theorem tC (x0:Int):∀ r,mq x0=some r->aa Tryz.prog 192 [.int .i64 x0] (.bool r):=(cU.2.2.1 x0).2
noncomputable def mt (x0:Int):Option (Int):=(cU.2.2.2 x0).1
theorem tD (x0:Int):∀ r,mt x0=some r->aa Tryz.prog 184 [.int .i64 x0] (.int .i64 r):=(cU.2.2.2 x0).2
def pE:SC:=
 (.seq (.reg [.r 4 (.mv (.c (.d (.int .i64 0))))])
 (.seq (.seq (.reg (.r 5 (.mv (.t 1)):: .r 6 (.bin .eql (.t 5) (.c (.d (.int .i64 2)))):: .r 7 (.mv (.t 6))::aK [8,9] 7 true (.r 8 (.mv (.t 0)):: .c 9 (.f 192) [.t 8]::[]) (.r 10 (.pick (.t 7) (.t 9) (.c (.d (.bool false))))::[])))
 (.cond (.t 10)
  (.seq (.reg [.r 4 (.mv (.c (.d (.int .i64 29))))])
  .ret)
  .skip))
 (.seq (.reg [.r 11 (.build [.d (.int .i64 0),.d (.int .i64 0),.d (.int .i64 0),.d (.int .i64 0),.d (.int .i64 0),.d (.int .i64 0),.d (.int .i64 0),.d (.int .i64 0),.d (.int .i64 0),.d (.int .i64 0),.d (.int .i64 0),.d (.int .i64 0)] [(0,1,.c (.d (.int .i64 31))),(1,1,.c (.d (.int .i64 28))),(2,1,.c (.d (.int .i64 31))),(3,1,.c (.d (.int .i64 30))),(4,1,.c (.d (.int .i64 31))),(5,1,.c (.d (.int .i64 30))),(6,1,.c (.d (.int .i64 31))),(7,1,.c (.d (.int .i64 31))),(8,1,.c (.d (.int .i64 30))),(9,1,.c (.d (.int .i64 31))),(10,1,.c (.d (.int .i64 30))),(11,1,.c (.d (.int .i64 31)))]),
   .r 12 (.mv (.t 1)),
   .r 13 (.bin .sub (.t 12) (.c (.d (.int .i64 1)))),
   .r 14 (.vidx 12 (.t 11) (.t 13)),
   .r 4 (.mv (.t 14))])
 .ret)))
theorem ut:fits Tryz.prog 183 Tryz.f183 pE [.t 4] 2=true:=oK
set_option maxRecDepth 100000 in
set_option maxHeartbeats 40000000 in
noncomputable def rg:(∀ (x0:Int) (x1:Int),{m:Option (Int)//∀ r,m=some r->aa Tryz.prog 183 [.int .i64 x0,.int .i64 x1] (.int .i64 r)}):=by
 (intro x0 x1;apply Subtype.mk;intro r hm;apply af Tryz.func183 ut;unfold pE)
 repeat'(first|with_reducible refine bu ?_|with_reducible refine bt ?_|with_reducible refine be ?_|with_reducible refine bB ?_|with_reducible refine bw ?_|with_reducible refine bv ?_|with_reducible refine bD ?_|((with_reducible apply H3 hm);(focus(simp only[D2,push_cast,seval];rfl));(focus(show qg IntKind.i64 _=_;simp only[qg,K4,Ku];rfl));rfl;(simp only[push_cast,seval];rfl);intro e hm)|((with_reducible apply iN);(simp only[push_cast,seval];rfl);(first|exact trivial))|((with_reducible apply eE hm);(simp only[push_cast,seval];rfl);rfl;intro v hm;rotate_left;intro v g hm)|((with_reducible apply dJ hm);(simp only[push_cast,seval];rfl);(first|apply tC _);(any_goals((repeat'(first|rfl));done));intro x hm)|((with_reducible apply aQ hm);(simp only[push_cast,seval];rfl);intro hm;rotate_left;intro hm)|((with_reducible apply bF hm);(focus(simp only[a8,cj,RV.get,push_cast,seval];rfl));(focus((repeat'(first|rfl));done)))|((with_reducible apply bO hm);(simp only[push_cast,seval];rfl)))
noncomputable def mu (x0:Int) (x1:Int):Option (Int):=(rg x0 x1).1
theorem tE (x0:Int) (x1:Int):∀ r,mu x0 x1=some r->aa Tryz.prog 183 [.int .i64 x0,.int .i64 x1] (.int .i64 r):=(rg x0 x1).2
def jC:SC:=
 (.seq (.seq (.reg [.r 27 (.mv (.t 9)),
   .r 28 (.mv (.t 1)),
   .r 29 (.bin .lss (.t 27) (.t 28))])
 (.cond (.t 29)
  .skip
  (.exit 0)))
 (.seq (.block 1 (.reg [.r 32 (.mv (.t 8)),
    .r 33 (.mv (.t 0)),
    .r 34 (.mv (.t 9)),
    .c 35 (.f 183) [.t 33,.t 34],
    .r 36 (.bin .add (.t 32) (.t 35)),
    .r 8 (.mv (.t 36))]))
 (.reg [.r 30 (.mv (.t 9)),
   .r 31 (.bin .add (.t 30) (.c (.d (.int .i64 1)))),
   .r 9 (.mv (.t 31))])))
def nq:SC:= .block 0 (.loop jC)
def ql:SC:=
 (.seq (.reg [.r 6 (.mv (.c (.d (.int .i64 0)))),
   .r 7 (.mv (.c (.d (.bool false))))])
 (.seq (.seq (.reg (.r 10 (.mv (.t 0)):: .c 11 (.f 63) [.t 10,.c (.d (.int .i64 1)),.c (.d (.int .i64 9999))]:: .r 12 (.mv (.t 11))::aK [13,14] 12 false (.r 13 (.mv (.t 1)):: .c 14 (.f 63) [.t 13,.c (.d (.int .i64 1)),.c (.d (.int .i64 12))]::[]) (.r 15 (.pick (.t 12) (.c (.d (.bool true))) (.t 14)):: .r 16 (.mv (.t 15))::aK [17,18,19,20,21] 16 false (.r 17 (.mv (.t 2)):: .r 18 (.mv (.t 0)):: .r 19 (.mv (.t 1)):: .c 20 (.f 183) [.t 18,.t 19]:: .c 21 (.f 63) [.t 17,.c (.d (.int .i64 1)),.t 20]::[]) (.r 22 (.pick (.t 16) (.c (.d (.bool true))) (.t 21))::[]))))
 (.cond (.t 22)
  (.seq (.reg [.r 6 (.mv (.c (.d (.int .i64 0)))),
    .r 7 (.mv (.c (.d (.bool false))))])
  .ret)
  .skip))
 (.seq (.reg [.r 23 (.mv (.t 0)),
   .c 24 (.f 184) [.t 23],
   .r 25 (.mv (.t 2)),
   .r 26 (.bin .add (.t 24) (.t 25)),
   .r 8 (.mv (.t 26))])
 (.seq (.seq (.reg [.r 9 (.mv (.c (.d (.int .i64 1))))])
 nq)
 (.seq (.reg [.r 37 (.mv (.t 8)),
   .r 6 (.mv (.t 37)),
   .r 7 (.mv (.c (.d (.bool true))))])
 .ret)))))
theorem vp:fits Tryz.prog 166 Tryz.f166 ql [.t 6,.t 7] 3=true:=oK
set_option maxRecDepth 100000 in
set_option maxHeartbeats 40000000 in
noncomputable def rh:(∀ (x0:Int) (x1:Int) (x2:Int),{m:Option (Int×Bool)//∀ r,m=some r->aa Tryz.prog 166 [.int .i64 x0,.int .i64 x1,.int .i64 x2] (.tup [.int .i64 r.1,.bool r.2])}):=by
 (intro x0 x1 x2;apply Subtype.mk;intro r hm;apply af Tryz.func166 vp;unfold ql)
 repeat'(first|with_reducible refine bu ?_|with_reducible refine bt ?_|with_reducible refine bf ?_|with_reducible refine be ?_|with_reducible refine bB ?_|with_reducible refine cg ?_|with_reducible refine bw ?_|with_reducible refine bv ?_|with_reducible refine ck ?_|with_reducible refine bD ?_|with_reducible refine bo ?_|((with_reducible apply iN);(simp only[push_cast,seval];rfl);(first|exact trivial))|((with_reducible apply mV hm);(simp only[push_cast,seval];rfl);rfl;intro v hm;rotate_left;intro v g hm)|((with_reducible apply dJ hm);(simp only[push_cast,seval];rfl);(first|apply dr _ _ _|apply tE _ _|apply tD _);(any_goals((repeat'(first|rfl));done));intro x hm)|((with_reducible apply aQ hm);(simp only[push_cast,seval];rfl);intro hm;rotate_left;intro hm)|((with_reducible apply ge hm);(focus(simp only[a8,cj,RV.get,push_cast,seval];rfl));(focus(first|(dsimp only;done)));(focus((repeat'(first|rfl));done)))|((with_reducible apply bO hm);(simp only[push_cast,seval];rfl))|((with_reducible apply bH hm);intro r hm)|((apply aF (b:=0) (X:=nq) (x:=jC) rfl (fun(c:SV×SV) (s:Int×Int)=>st [(0,c.1),(1,c.2),(8,.d (.int .i64 s.1)),(9,.d (.int .i64 s.2))] []) (c:=(_,_)) (s0:=(_,_)) hm);(focus(first|(dsimp only;done)));(with_reducible refine cz.mk ?_ ?_))|((apply bN (s':=(_,_)) hm);(focus(first|(dsimp only;done))))|((apply cJ (s':=(_,_)) hm);(focus(first|(dsimp only;done))))|(((with_reducible apply dz.of);(focus(first|(dsimp only;done)));(focus((intro _;repeat'(first|with_reducible exact bp|with_reducible refine ba ?_))));(intro s o hm;first|unfold jC);rotate_left;intro s hm))|(((apply bI;(repeat'(first|with_reducible exact aS|with_reducible exact aT|with_reducible apply aL|((with_reducible apply a_);(focus(first|(simp only[push_cast,seval];rfl)));(focus((repeat'(first|rfl));done)))));done))))
noncomputable def kE (x0:Int) (x1:Int) (x2:Int):Option (Int×Bool):=(rh x0 x1 x2).1
theorem uv (x0:Int) (x1:Int) (x2:Int):∀ r,kE x0 x1 x2=some r->aa Tryz.prog 166 [.int .i64 x0,.int .i64 x1,.int .i64 x2] (.tup [.int .i64 r.1,.bool r.2]):=(rh x0 x1 x2).2
def oz:SC:=
 (.seq (.reg [.r 6 (.mv (.c (.d (.int .i64 0)))),
   .r 7 (.mv (.c (.d (.bool false))))])
 (.seq (.seq (.reg [.r 20 (.mv (.t 1))])
 (.block 0 (.seq (.reg [.r 22 (.bin .eql (.t 20) (.c (.d (.int .i64 1)))),
    .r 21 (.mv (.t 22))])
  (.cond (.t 21)
   (.seq (.reg [.r 24 (.mv (.t 0)),
     .r 25 (.bslice 1 [.c (.d (.int .i64 4)),.c (.d (.int .i64 2)),.c (.d (.int .i64 2))]),
     .c 26 (.f 165) [.t 24,.t 25],
     .r 23 (.mv (.t 26)),
     .r 27 (.ext (.t 23) 0),
     .r 28 (.ext (.t 23) 1),
     .r 8 (.mv (.t 27)),
     .r 9 (.mv (.t 28))])
   (.seq (.seq (.reg [.r 29 (.mv (.t 9)),
     .r 30 (.not (.t 29))])
   (.cond (.t 30)
    (.seq (.reg [.r 6 (.mv (.c (.d (.int .i64 0)))),
      .r 7 (.mv (.c (.d (.bool false))))])
    .ret)
    .skip))
   (.seq (.regD [.r 31 (.mv (.t 8)),
     .r 32 (.idx 1 (.t 31) (.c (.d (.int .i64 0)))),
     .r 33 (.ld1 (.t 32)),
     .r 34 (.mv (.t 8)),
     .r 35 (.idx 1 (.t 34) (.c (.d (.int .i64 1)))),
     .r 36 (.ld1 (.t 35)),
     .r 37 (.mv (.t 8)),
     .r 38 (.idx 1 (.t 37) (.c (.d (.int .i64 2)))),
     .r 39 (.ld1 (.t 38)),
     .c 40 (.f 166) [.t 33,.t 36,.t 39],
     .r 41 (.ext (.t 40) 0),
     .r 42 (.ext (.t 40) 1),
     .r 6 (.mv (.t 41)),
     .r 7 (.mv (.t 42))])
   .ret)))
   .any))))
 .any))
theorem tF:fits Tryz.prog 145 Tryz.f145 oz [.t 6,.t 7] 3=true:=oK
set_option maxRecDepth 100000 in
set_option maxHeartbeats 40000000 in
noncomputable def ri:(∀ (x0:List UInt8) (x1:Int) (x2:Int),{m:Option (Int×Bool)//∀ r,m=some r->aa Tryz.prog 145 [.str x0,.int .i64 x1,.int .i64 x2] (.tup [.int .i64 r.1,.bool r.2])}):=by
 (intro x0 x1 x2;apply Subtype.mk;intro r hm;apply af Tryz.func145 tF;unfold oz)
 repeat'(first|with_reducible refine bu ?_|with_reducible refine bt ?_|with_reducible refine pW ?_|with_reducible refine bf ?_|with_reducible refine be ?_|with_reducible refine bB ?_|with_reducible refine bw ?_|with_reducible refine bv ?_|with_reducible refine bD ?_|with_reducible refine bE ?_|((with_reducible apply cD hm);(iterate 2 (simp only[push_cast,seval];rfl));(intro _;rfl);intro e hm)|((with_reducible apply iN);(simp only[push_cast,seval];rfl);(first|exact trivial))|(with_reducible apply uh hm)|((with_reducible apply dJ hm);(simp only[push_cast,seval];rfl);(first|apply ur _ _|apply uv _ _ _);(any_goals((repeat'(first|rfl|(with_reducible first|apply c9|apply dB|apply dA|apply ek)));done));intro x hm)|((with_reducible apply aQ hm);(simp only[push_cast,seval];rfl);intro hm;rotate_left;intro hm)|((with_reducible apply ge hm);(focus(simp only[a8,cj,RV.get,push_cast,seval];rfl));(focus(first|(dsimp only;done)));(focus((repeat'(first|rfl));done))))
 all_goals(intros;exact())
noncomputable def lu (x0:List UInt8) (x1:Int) (x2:Int):Option (Int×Bool):=(ri x0 x1 x2).1
theorem sK (x0:List UInt8) (x1:Int) (x2:Int):∀ r,lu x0 x1 x2=some r->aa Tryz.prog 145 [.str x0,.int .i64 x1,.int .i64 x2] (.tup [.int .i64 r.1,.bool r.2]):=(ri x0 x1 x2).2
def oB:SC:=
 (.seq (.reg [.r 6 (.mv (.c (.d (.int .i64 0)))),
   .r 7 (.mv (.c (.d (.int .i64 0))))])
 (.seq (.seq (.reg [.r 10 (.mv (.t 1)),
   .c 11 (.f 144) [.t 10],
   .r 12 (.not (.t 11))])
 (.cond (.t 12)
  (.seq (.reg [.r 6 (.mv (.c (.d (.int .i64 0)))),
    .r 7 (.mv (.c (.d (.int .i64 4))))])
  .ret)
  .skip))
 (.seq (.seq (.reg [.r 13 (.mv (.t 2)),
   .c 14 (.f 63) [.t 13,.c (.d (.int .i64 1)),.c (.d (.int .i64 9900))]])
 (.cond (.t 14)
  (.seq (.reg [.r 6 (.mv (.c (.d (.int .i64 0)))),
    .r 7 (.mv (.c (.d (.int .i64 1))))])
  .ret)
  .skip))
 (.seq (.reg [.r 16 (.mv (.t 0)),
   .r 17 (.mv (.t 1)),
   .r 18 (.mv (.t 2)),
   .c 19 (.f 145) [.t 16,.t 17,.t 18],
   .r 15 (.mv (.t 19)),
   .r 20 (.ext (.t 15) 0),
   .r 21 (.ext (.t 15) 1),
   .r 8 (.mv (.t 20)),
   .r 9 (.mv (.t 21))])
 (.seq (.seq (.reg [.r 22 (.mv (.t 9)),
   .r 23 (.not (.t 22))])
 (.cond (.t 23)
  (.seq (.reg [.r 6 (.mv (.c (.d (.int .i64 0)))),
    .r 7 (.mv (.c (.d (.int .i64 10))))])
  .ret)
  .skip))
 (.seq (.reg [.r 24 (.mv (.t 8)),
   .r 6 (.mv (.t 24)),
   .r 7 (.mv (.c (.d (.int .i64 0))))])
 .ret))))))
theorem tG:fits Tryz.prog 127 Tryz.f127 oB [.t 6,.t 7] 3=true:=oK
set_option maxRecDepth 100000 in
set_option maxHeartbeats 40000000 in
noncomputable def rj:(∀ (x0:List UInt8) (x1:Int) (x2:Int),{m:Option (Int×Int)//∀ r,m=some r->aa Tryz.prog 127 [.str x0,.int .i64 x1,.int .i64 x2] (.tup [.int .i64 r.1,.int .i64 r.2])}):=by
 (intro x0 x1 x2;apply Subtype.mk;intro r hm;apply af Tryz.func127 tG;unfold oB)
 repeat'(first|with_reducible refine bu ?_|with_reducible refine bt ?_|with_reducible refine be ?_|with_reducible refine bB ?_|with_reducible refine bw ?_|with_reducible refine bv ?_|with_reducible refine bD ?_|((with_reducible apply iN);(simp only[push_cast,seval];rfl);(first|exact trivial))|((with_reducible apply dJ hm);(simp only[push_cast,seval];rfl);(first|apply tB _|apply dr _ _ _|apply sK _ _ _);(any_goals((repeat'(first|rfl));done));intro x hm)|((with_reducible apply aQ hm);(simp only[push_cast,seval];rfl);intro hm;rotate_left;intro hm)|((with_reducible apply ge hm);(focus(simp only[a8,cj,RV.get,push_cast,seval];rfl));(focus(first|(dsimp only;done)));(focus((repeat'(first|rfl));done))))
noncomputable def lv (x0:List UInt8) (x1:Int) (x2:Int):Option (Int×Int):=(rj x0 x1 x2).1
theorem sL (x0:List UInt8) (x1:Int) (x2:Int):∀ r,lv x0 x1 x2=some r->aa Tryz.prog 127 [.str x0,.int .i64 x1,.int .i64 x2] (.tup [.int .i64 r.1,.int .i64 r.2]):=(rj x0 x1 x2).2
end Go.Proofs.YtgocgdgknpdknaaGreatDoor
