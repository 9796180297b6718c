/-
  Laws on the way to the theorem.
-/
import Derived.Test.YtgocgdgknpdknaaGreatDoorBX2
namespace Go.Proofs.YtgocgdgknpdknaaGreatDoor
open Go.RowKit
set_option linter.unusedSimpArgs false
set_option linter.unusedVariables false
structure an where
 fs:ah
 fmany:Int
def aA (x:an):List DV:=aC x.fs++[.int .i64 x.fmany]
attribute [push_cast] aA
theorem jD {d0 d1 d2 d3 d4:SV} {v0:ah} {v1:Int} (h0:aU [d0,d1,d2,d3] (dR (aC v0))) (h1:qy d4 (.d (.int .i64 v1))):aU [d0,d1,d2,d3,d4] (jf [.sh,.sh,.sh,.sh,.sh] (aA ⟨v0,v1⟩)):=by have h:=(aU.append h0 (aU.consS h1 aU.nil));simp only[push_cast,seval,dR] at h⊢;exact h
def nD (p0:ah) (p1:Int):List SV:=dR (aC p0)++([.d (.int .i64 p1)])
attribute [push_cast] nD
def gG:SC:=
 (.seq (.reg [.r 17 (.bin .lss (.t 16) (.t 15))])
 (.seq (.cond (.t 17)
  .skip
  (.exit 1))
 (.seq (.block 2 (.seq (.reg [.r 18 (.mv (.t 16)),
    .r 5 (.mv (.t 18))])
  (.seq (.reg [.r 19 (.mv (.t 0)),
    .r 20 (.mv (.t 5)),
    .r 21 (.sidx (.t 19) (.t 20)),
    .r 6 (.mv (.t 21))])
  (.seq (.reg (.r 22 (.mv (.t 6)):: .r 23 (.bin .lss (.t 22) (.c (.d (.int .u8 65)))):: .r 24 (.mv (.t 23))::aK [25,26] 24 false (.r 25 (.mv (.t 6)):: .r 26 (.bin .gtr (.t 25) (.c (.d (.int .u8 90))))::[]) (.r 27 (.pick (.t 24) (.c (.d (.bool true))) (.t 26)):: .r 28 (.mv (.t 27))::aK [29,30,31,32,33,34] 28 true (.r 29 (.mv (.t 6)):: .r 30 (.bin .lss (.t 29) (.c (.d (.int .u8 97)))):: .r 31 (.mv (.t 30))::aK [32,33] 31 false (.r 32 (.mv (.t 6)):: .r 33 (.bin .gtr (.t 32) (.c (.d (.int .u8 122))))::[]) (.r 34 (.pick (.t 31) (.c (.d (.bool true))) (.t 33))::[])) (.r 35 (.pick (.t 28) (.t 34) (.c (.d (.bool false)))):: .r 36 (.mv (.t 35))::aK [37,38] 36 true (.r 37 (.mv (.t 6)):: .r 38 (.bin .neq (.t 37) (.c (.d (.int .u8 32))))::[]) (.r 39 (.pick (.t 36) (.t 38) (.c (.d (.bool false))))::[])))))
  (.cond (.t 39)
   (.seq (.reg [.r 4 (.mv (.c (.d (.bool false))))])
   .ret)
   .skip)))))
 (.reg [.r 40 (.bin .add (.t 16) (.c (.d (.int .i64 1)))),
   .r 16 (.mv (.t 40))]))))
def lb:SC:= .block 1 (.loop gG)
def nE:SC:=
 (.seq (.reg [.r 4 (.mv (.c (.d (.bool false))))])
 (.seq (.seq (.reg [.r 11 (.mv (.t 1))])
 (.block 0 (.seq (.reg [.r 13 (.bin .eql (.t 11) (.c (.d (.int .i64 2)))),
    .r 12 (.mv (.t 13))])
  (.cond (.t 12)
   (.seq (.reg [.r 14 (.mv (.t 0)),
     .r 15 (.lenT (.t 14)),
     .r 16 (.mv (.c (.d (.int .i64 0))))])
   lb)
   (.seq (.reg [.r 42 (.bin .eql (.t 11) (.c (.d (.int .i64 3)))),
     .r 41 (.mv (.t 42))])
   (.cond (.t 41)
    (.seq (.reg [.r 43 (.mv (.t 0)),
      .c 44 (.f 97) [.t 43],
      .r 4 (.mv (.t 44))])
    .ret)
    (.seq (.reg [.r 46 (.bin .eql (.t 11) (.c (.d (.int .i64 4)))),
      .r 45 (.mv (.t 46))])
    (.cond (.t 45)
     (.seq (.reg [.r 48 (.mv (.t 0)),
       .c 49 (.f 126) [.t 48],
       .r 47 (.mv (.t 49)),
       .r 50 (.ext (.t 47) 0),
       .r 51 (.ext (.t 47) 1),
       .w 7 (.boxM (.c (.agg [.d (.int .i64 0),.d (.int .i64 0)]))),
       .w 0 (.st 2 (.t 7) (.t 50)),
       .r 8 (.mv (.t 51))])
     (.seq (.reg [.r 52 (.mv (.t 8)),
       .r 53 (.bin .eql (.t 52) (.c (.d (.int .i64 0)))),
       .r 4 (.mv (.t 53))])
     .ret))
     (.seq (.reg [.r 55 (.bin .eql (.t 11) (.c (.d (.int .i64 5)))),
       .r 54 (.mv (.t 55))])
     (.cond (.t 54)
      (.seq (.reg [.r 57 (.mv (.t 0)),
        .c 58 (.f 127) [.t 57,.c (.d (.int .i64 1)),.c (.d (.int .i64 1))],
        .r 56 (.mv (.t 58)),
        .r 59 (.ext (.t 56) 0),
        .r 60 (.ext (.t 56) 1),
        .r 9 (.mv (.t 59)),
        .r 10 (.mv (.t 60))])
      (.seq (.reg [.r 61 (.mv (.t 10)),
        .r 62 (.bin .eql (.t 61) (.c (.d (.int .i64 0)))),
        .r 4 (.mv (.t 62))])
      .ret))
      .skip))))))))))
 (.seq (.reg [.r 4 (.mv (.c (.d (.bool true))))])
 .ret)))
theorem sM:fits Tryz.prog 110 Tryz.f110 nE [.t 4] 2=true:=oK
def ar:SC:=
 (.seq (.seq (.reg [.r 15 (.mv (.t 9)),
   .r 16 (.mv (.t 10)),
   .r 17 (.bin .lss (.t 15) (.t 16))])
 (.cond (.t 17)
  .skip
  (.exit 0)))
 (.block 1 (.seq (.reg [.r 18 (.mv (.t 9)),
    .r 19 (.mv (.t 10)),
    .r 20 (.bin .add (.t 18) (.t 19)),
    .r 21 (.cvi .u64 (.t 20)),
    .r 22 (.bin .shr (.t 21) (.c (.d (.int .u64 1)))),
    .r 23 (.cvi .i64 (.t 22)),
    .r 11 (.mv (.t 23))])
  (.seq (.reg [.r 24 (.mv (.t 2)),
    .r 25 (.mv (.t 0)),
    .r 26 (.mv (.t 11)),
    .r 27 (.idx 2 (.t 25) (.t 26)),
    .o 28 (.ldA 2 (.t 27)),
    .r 29 (.mv (.t 1)),
    .c 30 (.t 24) [.t 28,.t 29],
    .r 31 (.bin .lss (.t 30) (.c (.d (.int .i64 0))))])
  (.cond (.t 31)
   (.reg [.r 32 (.mv (.t 11)),
     .r 33 (.bin .add (.t 32) (.c (.d (.int .i64 1)))),
     .r 9 (.mv (.t 33))])
   (.reg [.r 34 (.mv (.t 11)),
     .r 10 (.mv (.t 34))]))))))
def aM:SC:= .block 0 (.loop ar)
def aP:SC:=
 (.seq (.reg [.r 6 (.mv (.c (.d (.int .i64 0)))),
   .r 7 (.mv (.c (.d (.bool false))))])
 (.seq (.reg [.r 12 (.mv (.t 0)),
   .r 13 (.len (.t 12)),
   .r 8 (.mv (.t 13))])
 (.seq (.reg [.r 14 (.mv (.t 8)),
   .r 9 (.mv (.c (.d (.int .i64 0)))),
   .r 10 (.mv (.t 14))])
 (.seq aM
 (.seq (.reg (.r 35 (.mv (.t 9)):: .r 36 (.mv (.t 9)):: .r 37 (.mv (.t 8)):: .r 38 (.bin .lss (.t 36) (.t 37)):: .r 39 (.mv (.t 38))::aK [40,41,42,43,44,45,46,47] 39 true (.r 40 (.mv (.t 2)):: .r 41 (.mv (.t 0)):: .r 42 (.mv (.t 9)):: .r 43 (.idx 2 (.t 41) (.t 42)):: .r 44 (.ldA 2 (.t 43)):: .r 45 (.mv (.t 1)):: .c 46 (.t 40) [.t 44,.t 45]:: .r 47 (.bin .eql (.t 46) (.c (.d (.int .i64 0))))::[]) (.r 48 (.pick (.t 39) (.t 47) (.c (.d (.bool false)))):: .r 6 (.mv (.t 35)):: .r 7 (.mv (.t 48))::[])))
 .ret)))))
theorem bz:fits Tryz.prog 88 Tryz.f88 aP [.t 6,.t 7] 3=true:=oK
def oC:SC:=
 (.seq (.reg [.r 2 (.boxI (.t 0)),
   .r 4 (.mv (.c (.d (.int .i64 0))))])
 (.seq (.reg [.r 5 (.fld 0 (.t 2)),
   .o 6 (.ld1 (.t 5)),
   .r 7 (.mv (.t 1)),
   .c 8 (.f 90) [.t 6,.t 7],
   .r 4 (.mv (.t 8))])
 .ret))
theorem tH:fits Tryz.prog 89 Tryz.f89 oC [.t 4] 2=true:=oK
set_option maxRecDepth 100000 in
set_option maxHeartbeats 40000000 in
noncomputable def eP:(∀ (x0:List UInt8) (x1:Int),{m:Option (Bool)//∀ r,m=some r->aa Tryz.prog 110 [.str x0,.int .i64 x1] (.bool r)})×(∀ (x0:List aw) (x1:List UInt8) (f2:FuncId) (c2:List DV) (p2:aw->(List UInt8)->Option (Int)) (h2:∀ a0 a1 r,p2 a0 a1=some r->aa Tryz.prog f2 ([.agg (au a0),.str a1]++c2) (.int .i64 r)),{m:Option (Int×Bool)//∀ r,m=some r->aa Tryz.prog 88 [.slice (List.map au x0),.str x1,.fn f2 c2] (.tup [.int .i64 r.1,.bool r.2])})×(∀ (x0:aw) (x1:List UInt8),{m:Option (Int)//∀ r,m=some r->aa Tryz.prog 89 [.agg (au x0),.str x1] (.int .i64 r)}):=by
 refine⟨?g0, ?g1, ?g2⟩
 case' g0=>(intro x0 x1;apply Subtype.mk;intro r hm;apply af Tryz.func110 sM;unfold nE)
 case' g1=>(intro x0 x1 f2 c2 p2 h2;apply Subtype.mk;intro r hm;apply af Tryz.func88 bz;unfold aP)
 case' g2=>(intro x0 x1;apply Subtype.mk;intro r hm;apply af Tryz.func89 tH;unfold oC)
 all_goals(repeat'(first|with_reducible refine bu ?_|with_reducible refine bt ?_|with_reducible refine bf ?_|with_reducible refine be ?_|with_reducible refine bB ?_|with_reducible refine cg ?_|with_reducible refine bw ?_|with_reducible refine bv ?_|with_reducible refine ck ?_|with_reducible refine bD ?_|with_reducible refine bo ?_|with_reducible refine bE ?_|with_reducible refine du ?_|((with_reducible apply cD hm);(iterate 2 (simp only[push_cast,seval];rfl));(intro _;rfl);intro e hm)|((with_reducible apply jv hm);(iterate 2 (simp only[push_cast,seval];rfl));intro e hm)|((with_reducible apply iN);(simp only[push_cast,seval];rfl);(first|exact trivial))|((with_reducible apply Ff hm);(iterate 2 (simp only[push_cast,seval];rfl));intro hm)|((with_reducible apply eE hm);(simp only[push_cast,seval];rfl);rfl;intro v hm;rotate_left;intro v g hm)|((with_reducible apply mV hm);(simp only[push_cast,seval];rfl);rfl;intro v hm;rotate_left;intro v g hm)|((with_reducible apply dJ hm);(simp only[push_cast,seval];rfl);(first|apply gL _|apply re _|apply sL _ _ _|apply sb _ _);(any_goals((repeat'(first|rfl));done));intro x hm)|((with_reducible apply IV hm);(iterate 2 (simp only[push_cast,seval];rfl));(focus(first|exact h2 _ _));intro x hm)|((with_reducible apply tQ);(simp only[push_cast,seval];rfl);(first|exact trivial))|((with_reducible apply aQ hm);(simp only[push_cast,seval];rfl);intro hm;rotate_left;intro hm)|((with_reducible apply ge hm);(focus(simp only[a8,cj,RV.get,push_cast,seval];rfl));(focus(first|(dsimp only;done)));(focus((repeat'(first|rfl));done)))|((with_reducible apply bF hm);(focus(simp only[a8,cj,RV.get,push_cast,seval];rfl));(focus((repeat'(first|rfl));done)))|((with_reducible apply bO hm);(simp only[push_cast,seval];rfl))|((with_reducible apply bH hm);intro r hm)|((with_reducible apply cy hm);intro r hm)|((apply aF (b:=1) (X:=lb) (x:=gG) rfl (fun(c:SV×SV) (s:Int)=>st [(0,c.1),(15,c.2),(16,.d (.int .i64 s))] []) (c:=(_,_)) (s0:=_) hm);(focus(first|(dsimp only;done)));(with_reducible refine cz.mk ?_ ?_))|((apply aF (b:=0) (X:=aM) (x:=ar) rfl (fun(c:SV×SV×SV×SV) (s:Int×Int)=>st [(0,c.1),(1,c.2.1),(2,c.2.2.1),(8,c.2.2.2),(9,.d (.int .i64 s.1)),(10,.d (.int .i64 s.2))] []) (c:=(_,_,_,_)) (s0:=(_,_)) hm);(focus(first|(dsimp only;done)));(with_reducible refine cz.mk ?_ ?_))|((apply bN (s':=(_,_)) hm);(focus(first|(dsimp only;done))))|((apply cJ (s':=(_,_)) hm);(focus(first|(dsimp only;done))))|((apply bN (s':=_) hm);(focus(first|(dsimp only;done))))|((apply cJ (s':=_) hm);(focus(first|(dsimp only;done))))|(((with_reducible apply fD hm);intro r hm))|(((with_reducible apply dz.of);(focus(first|(dsimp only;done)));(focus((intro _;repeat'(first|with_reducible exact bp|with_reducible refine ba ?_|with_reducible refine dP ?_))));(intro s o hm;first|unfold gG|unfold ar);rotate_left;intro s hm))|(((apply bI;(repeat'(first|with_reducible exact aS|with_reducible exact aT|with_reducible apply aL|((with_reducible apply a_);(focus(first|(simp only[push_cast,seval];rfl)));(focus((repeat'(first|rfl));done)))));done)))))
noncomputable def kF (x0:List UInt8) (x1:Int):Option (Bool):=(eP.1 x0 x1).1
theorem ro (x0:List UInt8) (x1:Int):∀ r,kF x0 x1=some r->aa Tryz.prog 110 [.str x0,.int .i64 x1] (.bool r):=(eP.1 x0 x1).2
noncomputable def ax (x0:List aw) (x1:List UInt8) (f2:FuncId) (c2:List DV) (p2:aw->(List UInt8)->Option (Int)) (h2:∀ a0 a1 r,p2 a0 a1=some r->aa Tryz.prog f2 ([.agg (au a0),.str a1]++c2) (.int .i64 r)):Option (Int×Bool):=(eP.2.1 x0 x1 f2 c2 p2 h2).1
theorem bx (x0:List aw) (x1:List UInt8) (f2:FuncId) (c2:List DV) (p2:aw->(List UInt8)->Option (Int)) (h2:∀ a0 a1 r,p2 a0 a1=some r->aa Tryz.prog f2 ([.agg (au a0),.str a1]++c2) (.int .i64 r)):∀ r,ax x0 x1 f2 c2 p2 h2=some r->aa Tryz.prog 88 [.slice (List.map au x0),.str x1,.fn f2 c2] (.tup [.int .i64 r.1,.bool r.2]):=(eP.2.1 x0 x1 f2 c2 p2 h2).2
noncomputable def dj (x0:aw) (x1:List UInt8):Option (Int):=(eP.2.2 x0 x1).1
theorem i7 (x0:aw) (x1:List UInt8):∀ r,dj x0 x1=some r->aa Tryz.prog 89 [.agg (au x0),.str x1] (.int .i64 r):=(eP.2.2 x0 x1).2
def jE:SC:=
 (.seq (.reg [.r 10 (.bin .lss (.t 9) (.t 8))])
 (.seq (.cond (.t 10)
  .skip
  (.exit 0))
 (.seq (.block 1 (.seq (.reg [.r 11 (.idx 5 (.t 7) (.t 9)),
    .o 12 (.ldA 5 (.t 11)),
    .w 6 (.boxM (.c (.agg [.d (.str []),.d (.str []),.d (.int .i64 0),.d (.int .i64 0),.nils]))),
    .w 0 (.st 5 (.t 6) (.t 12))])
  (.seq (.seq (.reg [.r 13 (.fld 1 (.t 6)),
    .o 14 (.ld1 (.t 13)),
    .r 15 (.bin .eql (.t 14) (.c (.d (.str []))))])
  (.cond (.t 15)
   (.exit 1)
   .skip))
  (.seq (.seq (.reg [.r 16 (.mv (.t 1)),
    .r 17 (.fld 1 (.t 6)),
    .o 18 (.ld1 (.t 17)),
    .o 19 (.look .str (.d (.bool false)) false (.t 16) (.t 18))])
  (.cond (.t 19)
   (.seq (.reg [.r 4 (.mv (.c (.d (.bool true))))])
   .ret)
   .skip))
  (.seq (.reg [.r 20 (.mv (.t 1)),
    .r 21 (.fld 1 (.t 6)),
    .o 22 (.ld1 (.t 21)),
    .w 0 (.mset .str (.t 20) (.t 22) (.c (.d (.bool true))))])
  (.seq (.reg [.r 23 (.fld 4 (.t 6)),
    .o 24 (.ld1 (.t 23)),
    .r 25 (.mv (.t 1)),
    .p (some 26) (.f 23) [.t 24,.t 25]])
  (.cond (.t 26)
   (.seq (.reg [.r 4 (.mv (.c (.d (.bool true))))])
   .ret)
   .skip)))))))
 (.reg [.r 27 (.bin .add (.t 9) (.c (.d (.int .i64 1)))),
   .r 9 (.mv (.t 27))]))))
def nF:SC:= .block 0 (.loop jE)
def qm:SC:=
 (.seq (.reg [.r 4 (.mv (.c (.d (.bool false))))])
 (.seq (.seq (.reg [.r 7 (.mv (.t 0)),
   .r 8 (.len (.t 7)),
   .r 9 (.mv (.c (.d (.int .i64 0))))])
 nF)
 (.seq (.reg [.r 4 (.mv (.c (.d (.bool false))))])
 .ret)))
theorem vq:fits Tryz.prog 23 Tryz.f23 qm [.t 4] 2=true:=oK
set_option maxRecDepth 100000 in
set_option maxHeartbeats 40000000 in
noncomputable def rp:((∀ (x0:List ab) (x1:List ((List UInt8)×Bool)),{m:Option ((Bool)×(List ((List UInt8)×Bool)))//∀ r,m=some r->cr Tryz.prog 23 (.d (.slice (List.map ac x0)):: .own (.mp .str .sh) (sG .str (fun v=> .bool v) x1)::(List.map SV.d ([]:List DV))) (.d (.bool r.1)) (.d (.slice (List.map ac x0)):: .own (.mp .str .sh) (sG .str (fun v=> .bool v) r.2)::(List.map SV.d ([]:List DV)))}))->((∀ (x0:List ab) (x1:List ((List UInt8)×Bool)),{m:Option ((Bool)×(List ((List UInt8)×Bool)))//∀ r,m=some r->cr Tryz.prog 23 (.d (.slice (List.map ac x0)):: .own (.mp .str .sh) (sG .str (fun v=> .bool v) x1)::(List.map SV.d ([]:List DV))) (.d (.bool r.1)) (.d (.slice (List.map ac x0)):: .own (.mp .str .sh) (sG .str (fun v=> .bool v) r.2)::(List.map SV.d ([]:List DV)))})):=by
 intro ih
 have kG:∀ (x0:List ab) (x1:List ((List UInt8)×Bool)),∀ r,(ih x0 x1).1=some r->cr Tryz.prog 23 (.d (.slice (List.map ac x0)):: .own (.mp .str .sh) (sG .str (fun v=> .bool v) x1)::(List.map SV.d ([]:List DV))) (.d (.bool r.1)) (.d (.slice (List.map ac x0)):: .own (.mp .str .sh) (sG .str (fun v=> .bool v) r.2)::(List.map SV.d ([]:List DV))):=fun x0 x1=>(ih x0 x1).2
 (intro x0 x1;apply Subtype.mk;intro r hm;apply zZ (N:=28) (k:=2) Tryz.func23 vq oK rfl (wK (ke:= .str) (f:=(fun v=> .bool v)) x1) rfl oD;unfold qm)
 repeat'(first|with_reducible refine bu ?_|with_reducible refine bt ?_|with_reducible refine bf ?_|with_reducible refine be ?_|with_reducible refine bB ?_|with_reducible refine cg ?_|with_reducible refine bw ?_|with_reducible refine bv ?_|with_reducible refine ck ?_|with_reducible refine bD ?_|with_reducible refine bo ?_|with_reducible refine bE ?_|with_reducible refine nk ?_|with_reducible refine du ?_|((with_reducible apply cD hm);(iterate 2 (simp only[push_cast,seval, -List.reduceReplicate];rfl));(intro _;rfl);intro e hm)|((with_reducible apply iN);(simp only[push_cast,seval, -List.reduceReplicate];rfl);(first|exact trivial))|((with_reducible apply tQ);(simp only[push_cast,seval, -List.reduceReplicate];rfl);(first|exact trivial))|((with_reducible apply C4);(iterate 3 (simp only[push_cast,seval, -List.reduceReplicate];rfl));(iterate 2 rfl))|((with_reducible apply aQ hm);(simp only[push_cast,seval, -List.reduceReplicate];rfl);intro hm;rotate_left;intro hm)|((with_reducible apply bH hm);intro r hm)|((with_reducible apply cy hm);intro r hm)|((apply aF (b:=0) (X:=nF) (x:=jE) rfl (fun(c:SV×SV×SV) (s:(List ((List UInt8)×Bool))×Int)=>st [(1,.mp 1),(7,c.1),(8,c.2.1),(9,.d (.int .i64 s.2)),(28,c.2.2),(29,.mp 1)] [(1,.map .str (ft .str (fun v=> .d (.bool v)) s.1))]) (c:=(_,_,_)) (s0:=(_,_)) hm);(focus(first|(dsimp only;done)));(with_reducible refine cz.mk ?_ ?_))|((apply bN (s':=(_,_)) hm);(focus(first|(dsimp only;done))))|((apply cJ (s':=(_,_)) hm);(focus(first|(dsimp only;done))))|(((with_reducible apply fD hm);intro r hm))|(((with_reducible apply Fi hm);(focus(simp only[push_cast,seval, -List.reduceReplicate];(try rfl);done));(focus(simp only[push_cast,seval, -List.reduceReplicate];(try rfl);done));(focus(simp only[push_cast,seval, -List.reduceReplicate];(try rfl);done));(focus(first|(simp only[push_cast,seval, -List.reduceReplicate];exact Fo rfl)));(focus rfl);(focus(first|apply kG _ _));(any_goals(focus((repeat'(first|rfl));done)));(focus(intro _;exact⟨rfl,rfl⟩));intro y hm))|(((with_reducible apply Fj hm);(focus(exact hY.refl _));(focus(simp only[push_cast,seval, -List.reduceReplicate];(try rfl);done));(focus rfl);(focus(simp only[push_cast,seval, -List.reduceReplicate];(try rfl);done));(focus(simp only[push_cast,seval, -List.reduceReplicate];(try rfl);done));(focus(simp only[push_cast,seval, -List.reduceReplicate];(try rfl);done));(focus(simp only[push_cast,seval, -List.reduceReplicate];(try rfl);done));(focus(simp only[push_cast,seval, -List.reduceReplicate];(try rfl);done));(focus(first|(apply GL;(focus((repeat'(first|rfl));done)))))))|(((with_reducible apply dz.of);(focus(first|(dsimp only;done)));(focus((intro _;repeat'(first|with_reducible exact sw|with_reducible refine ba ?_))));(intro s o hm;first|unfold jE);rotate_left;intro s hm))|(((apply bI;(repeat'(first|with_reducible exact aS|with_reducible exact aT|with_reducible apply aL|with_reducible apply ca|((with_reducible apply a_);(focus(first|(simp only[push_cast,seval];rfl)));(focus((repeat'(first|rfl));done)))|((with_reducible apply fx);(focus(first|(simp only[push_cast,seval];rfl)));(first|with_reducible exact cK rfl))));done))))
noncomputable def oE (fu:Nat):(∀ (x0:List ab) (x1:List ((List UInt8)×Bool)),{m:Option ((Bool)×(List ((List UInt8)×Bool)))//∀ r,m=some r->cr Tryz.prog 23 (.d (.slice (List.map ac x0)):: .own (.mp .str .sh) (sG .str (fun v=> .bool v) x1)::(List.map SV.d ([]:List DV))) (.d (.bool r.1)) (.d (.slice (List.map ac x0)):: .own (.mp .str .sh) (sG .str (fun v=> .bool v) r.2)::(List.map SV.d ([]:List DV)))}):=Nat.rec (fun x0 x1=>⟨none,fun r h=>by cases h⟩) (fun _ ih=>rp ih) fu
noncomputable def il (fu:Nat) (x0:List ab) (x1:List ((List UInt8)×Bool)):Option ((Bool)×(List ((List UInt8)×Bool))):=((oE fu) x0 x1).1
theorem sN (fu:Nat) (x0:List ab) (x1:List ((List UInt8)×Bool)):((oE fu) x0 x1).1=il fu x0 x1:=rfl
theorem sO (fu:Nat) (x0:List ab) (x1:List ((List UInt8)×Bool)):il (fu+1) x0 x1=((rp (oE fu)) x0 x1).1:=rfl
theorem kG (fu:Nat) (x0:List ab) (x1:List ((List UInt8)×Bool)):∀ r,il fu x0 x1=some r->cr Tryz.prog 23 (.d (.slice (List.map ac x0)):: .own (.mp .str .sh) (sG .str (fun v=> .bool v) x1)::(List.map SV.d ([]:List DV))) (.d (.bool r.1)) (.d (.slice (List.map ac x0)):: .own (.mp .str .sh) (sG .str (fun v=> .bool v) r.2)::(List.map SV.d ([]:List DV))):=((oE fu) x0 x1).2
def jF:SC:=
 (.seq (.reg [.r 21 (.bin .lss (.t 20) (.t 19))])
 (.seq (.cond (.t 21)
  .skip
  (.exit 0))
 (.seq (.block 1 (.seq (.reg [.r 22 (.mv (.t 20)),
    .r 23 (.idx 5 (.t 18) (.t 20)),
    .o 24 (.ldA 5 (.t 23)),
    .w 9 (.boxM (.c (.agg [.d (.str []),.d (.str []),.d (.int .i64 0),.d (.int .i64 0),.nils]))),
    .r 8 (.mv (.t 22)),
    .w 0 (.st 5 (.t 9) (.t 24))])
  (.seq (.reg [.o 25 (.ldA 5 (.t 9)),
    .c 26 (.f 39) [.t 25],
    .r 10 (.mv (.t 26))])
  (.seq (.seq (.reg (.r 27 (.mv (.t 7)):: .r 28 (.mv (.t 10)):: .o 29 (.look .str (.d (.bool false)) false (.t 27) (.t 28)):: .r 30 (.mv (.t 29))::aK [31,32,33,34,35,36,37,38,39,40,41] 30 false (.r 31 (.mv (.t 1)):: .r 32 (.mv (.t 10)):: .r 33 (.look .str (.d (.bool false)) false (.t 31) (.t 32)):: .r 34 (.mv (.t 33))::aK [35,36,37,38,39,40] 34 true (.r 35 (.mv (.t 2)):: .r 36 (.mv (.t 35))::aK [37,38] 36 true (.r 37 (.mv (.t 8)):: .r 38 (.bin .eql (.t 37) (.c (.d (.int .i64 0))))::[]) (.r 39 (.pick (.t 36) (.t 38) (.c (.d (.bool false)))):: .r 40 (.not (.t 39))::[])) (.r 41 (.pick (.t 34) (.t 40) (.c (.d (.bool false))))::[])) (.r 42 (.pick (.t 30) (.c (.d (.bool true))) (.t 41))::[])))
  (.cond (.t 42)
   (.seq (.reg [.r 6 (.mv (.c (.d (.bool true))))])
   .ret)
   .skip))
  (.reg [.r 43 (.mv (.t 7)),
    .r 44 (.mv (.t 10)),
    .w 0 (.mset .str (.t 43) (.t 44) (.c (.d (.bool true))))])))))
 (.reg [.r 45 (.bin .add (.t 20) (.c (.d (.int .i64 1)))),
   .r 20 (.mv (.t 45))]))))
def nG:SC:= .block 0 (.loop jF)
def nH:SC:=
 (.reg [.r 63 (.mv (.t 13)),
    .r 64 (.mv (.t 14)),
    .w 0 (.mset .str (.t 63) (.t 64) (.c (.d (.bool true))))])
def nI:SC:= .rangeM 57 (.t 1) 58 59 60 61 4 5 [.r 62 (.ext (.t 61) 0),
  .r 14 (.mv (.t 62))] nH
def jG:SC:=
 (.seq (.reg [.r 70 (.bin .lss (.t 69) (.t 68))])
 (.seq (.cond (.t 70)
  .skip
  (.exit 6))
 (.seq (.block 7 (.seq (.reg [.r 71 (.idx 5 (.t 67) (.t 69)),
    .o 72 (.ldA 5 (.t 71)),
    .w 16 (.boxM (.c (.agg [.d (.str []),.d (.str []),.d (.int .i64 0),.d (.int .i64 0),.nils]))),
    .w 0 (.st 5 (.t 16) (.t 72))])
  (.reg [.r 73 (.mv (.t 13)),
    .o 74 (.ldA 5 (.t 16)),
    .c 75 (.f 39) [.t 74],
    .w 0 (.mset .str (.t 73) (.t 75) (.c (.d (.bool true))))])))
 (.reg [.r 76 (.bin .add (.t 69) (.c (.d (.int .i64 1)))),
   .r 69 (.mv (.t 76))]))))
def nJ:SC:= .block 6 (.loop jG)
def i8:SC:=(.reg [.r 77 (.fld 4 (.t 12)),
    .o 78 (.ld1 (.t 77)),
    .r 79 (.mv (.t 13)),
    .c 80 (.f 24) [.t 78,.t 79,.c (.d (.bool true))]])
def jH:SC:=
 (.seq (.reg [.r 49 (.bin .lss (.t 48) (.t 47))])
 (.seq (.cond (.t 49)
  .skip
  (.exit 2))
 (.seq (.block 3 (.seq (.reg [.r 50 (.mv (.t 48)),
    .r 51 (.idx 5 (.t 46) (.t 48)),
    .o 52 (.ldA 5 (.t 51)),
    .w 12 (.boxM (.c (.agg [.d (.str []),.d (.str []),.d (.int .i64 0),.d (.int .i64 0),.nils]))),
    .r 11 (.mv (.t 50)),
    .w 0 (.st 5 (.t 12) (.t 52))])
  (.seq (.seq (.reg [.r 53 (.fld 1 (.t 12)),
    .o 54 (.ld1 (.t 53)),
    .r 55 (.bin .eql (.t 54) (.c (.d (.str []))))])
  (.cond (.t 55)
   (.exit 3)
   .skip))
  (.seq (.reg [.w 56 (.mkmap .str),
    .r 13 (.mv (.t 56))])
  (.seq nI
  (.seq (.seq (.reg [.r 65 (.mv (.t 0)),
    .r 66 (.mv (.t 11)),
    .r 67 (.slc 5 (.t 65) (some (.t 66)) none),
    .r 68 (.len (.t 67)),
    .r 69 (.mv (.c (.d (.int .i64 0))))])
  nJ)
  (.seq i8
  (.cond (.t 80)
   (.seq (.reg [.r 6 (.mv (.c (.d (.bool true))))])
   .ret)
   .skip))))))))
 (.reg [.r 81 (.bin .add (.t 48) (.c (.d (.int .i64 1)))),
   .r 48 (.mv (.t 81))]))))
def nK:SC:= .block 2 (.loop jH)
def qn:SC:=
 (.seq (.reg [.r 6 (.mv (.c (.d (.bool false))))])
 (.seq (.reg [.w 17 (.mkmap .str),
   .r 7 (.mv (.t 17))])
 (.seq (.seq (.reg [.r 18 (.mv (.t 0)),
   .r 19 (.len (.t 18)),
   .r 20 (.mv (.c (.d (.int .i64 0))))])
 nG)
 (.seq (.seq (.reg [.r 46 (.mv (.t 0)),
   .r 47 (.len (.t 46)),
   .r 48 (.mv (.c (.d (.int .i64 0))))])
 nK)
 (.seq (.reg [.r 6 (.mv (.c (.d (.bool false))))])
 .ret)))))
theorem vr:fits Tryz.prog 24 Tryz.f24 qn [.t 6] 3=true:=oK
set_option maxRecDepth 100000 in
set_option maxHeartbeats 40000000 in
noncomputable def rq:((∀ (x0:List ab) (x1:List ((List UInt8)×Bool)) (x2:Bool),{m:Option (Bool)//∀ r,m=some r->aa Tryz.prog 24 [.slice (List.map ac x0),(sG .str (fun v=> .bool v) x1),.bool x2] (.bool r)}))->((∀ (x0:List ab) (x1:List ((List UInt8)×Bool)) (x2:Bool),{m:Option (Bool)//∀ r,m=some r->aa Tryz.prog 24 [.slice (List.map ac x0),(sG .str (fun v=> .bool v) x1),.bool x2] (.bool r)})):=by
 intro ih
 have gS:∀ (x0:List ab) (x1:List ((List UInt8)×Bool)) (x2:Bool),∀ r,(ih x0 x1 x2).1=some r->aa Tryz.prog 24 [.slice (List.map ac x0),(sG .str (fun v=> .bool v) x1),.bool x2] (.bool r):=fun x0 x1 x2=>(ih x0 x1 x2).2
 (intro x0 x1 x2;apply Subtype.mk;intro r hm;apply af Tryz.func24 vr;unfold qn)
 repeat'(first|((with_reducible apply Gx (x:=i8) 13);(focus(simp only[push_cast,seval, -List.reduceReplicate];(try rfl);done));(focus(first|(simp only[push_cast,seval, -List.reduceReplicate];(try rfl);done)));(focus rfl);(focus(intro _;rfl));unfold i8)|with_reducible refine bu ?_|with_reducible refine bt ?_|with_reducible refine bf ?_|with_reducible refine be ?_|with_reducible refine bB ?_|with_reducible refine cg ?_|with_reducible refine bw ?_|with_reducible refine bv ?_|with_reducible refine ck ?_|with_reducible refine bD ?_|with_reducible refine bo ?_|with_reducible refine bE ?_|with_reducible refine nk ?_|with_reducible refine du ?_|((with_reducible apply cD hm);(iterate 2 (simp only[push_cast,seval, -List.reduceReplicate];rfl));(intro _;rfl);intro e hm)|((with_reducible apply Aa hm);(iterate 3 (simp only[push_cast,seval, -List.reduceReplicate];rfl));(intro _;rfl);intro e hm)|((with_reducible apply iN);(simp only[push_cast,seval, -List.reduceReplicate];rfl);(first|exact trivial))|((with_reducible apply eE hm);(simp only[push_cast,seval, -List.reduceReplicate];rfl);rfl;intro v hm;rotate_left;intro v g hm)|((with_reducible apply mV hm);(simp only[push_cast,seval, -List.reduceReplicate];rfl);rfl;intro v hm;rotate_left;intro v g hm)|((with_reducible apply dJ hm);(simp only[push_cast,seval, -List.reduceReplicate];rfl);(first|apply r_ _|apply gS _ _ _);(any_goals((repeat'(first|rfl|(with_reducible first|apply iP|apply oq|apply dB)));done));intro x hm)|((with_reducible apply tQ);(simp only[push_cast,seval, -List.reduceReplicate];rfl);(first|exact trivial))|((with_reducible apply Fm);(iterate 2 (simp only[push_cast,seval, -List.reduceReplicate];rfl));rfl)|((with_reducible apply C4);(iterate 3 (simp only[push_cast,seval, -List.reduceReplicate];rfl));(iterate 2 rfl))|((with_reducible apply aQ hm);(simp only[push_cast,seval, -List.reduceReplicate];rfl);intro hm;rotate_left;intro hm)|((with_reducible apply bF hm);(focus(simp only[a8,cj,RV.get,push_cast,seval];rfl));(focus((repeat'(first|rfl));done)))|((with_reducible apply bO hm);(simp only[push_cast,seval, -List.reduceReplicate];rfl))|((with_reducible apply bH hm);intro r hm)|((with_reducible apply cy hm);intro r hm)|((apply aF (b:=0) (X:=nG) (x:=jF) rfl (fun(c:SV×SV×SV×SV×SV) (s:(List ((List UInt8)×Bool))×Int)=>st [(0,c.1),(1,c.2.1),(2,c.2.2.1),(7,.mp 17),(18,c.2.2.2.1),(19,c.2.2.2.2),(20,.d (.int .i64 s.2))] [(17,.map .str (ft .str (fun v=> .d (.bool v)) s.1))]) (c:=(_,_,_,_,_)) (s0:=(_,_)) hm);(focus(first|(dsimp only;done)));(with_reducible refine cz.mk ?_ ?_))|(((apply D4 (X:=nI) rfl (fun(c:SV×SV×SV×Ch×SV×SV×SV×SV) (s:(List ((List UInt8)×Bool)))=>st [(0,c.1),(1,c.2.1),(11,c.2.2.1),(12,.ref 12 0),(13,.mp 56),(46,c.2.2.2.2.1),(47,c.2.2.2.2.2.1),(48,c.2.2.2.2.2.2.1),(58,c.2.2.2.2.2.2.2)] [(12,c.2.2.2.1),(56,.map .str (ft .str (fun v=> .d (.bool v)) s))]) (s0:=_) (f:=fun v=> .bool v) hm);(focus(simp only[push_cast,seval, -List.reduceReplicate];rfl));(focus decide);intro p;apply H2 (c:=(_,_,_,_,_,_,_,_));(focus(first|(dsimp only;done)));(with_reducible refine cz.mk ?_ ?_)))|((apply aF (b:=6) (X:=nJ) (x:=jG) rfl (fun(c:SV×SV×Ch×SV×SV×SV×SV×SV) (s:(List ((List UInt8)×Bool))×Int)=>st [(0,c.1),(1,c.2.1),(12,.ref 12 0),(13,.mp 56),(46,c.2.2.2.1),(47,c.2.2.2.2.1),(48,c.2.2.2.2.2.1),(67,c.2.2.2.2.2.2.1),(68,c.2.2.2.2.2.2.2),(69,.d (.int .i64 s.2))] [(12,c.2.2.1),(56,.map .str (ft .str (fun v=> .d (.bool v)) s.1))]) (c:=(_,_,_,_,_,_,_,_)) (s0:=(_,_)) hm);(focus(first|(dsimp only;done)));(with_reducible refine cz.mk ?_ ?_))|((apply aF (b:=2) (X:=nK) (x:=jH) rfl (fun(c:SV×SV×SV×SV) (s:Int)=>st [(0,c.1),(1,c.2.1),(46,c.2.2.1),(47,c.2.2.2),(48,.d (.int .i64 s))] []) (c:=(_,_,_,_)) (s0:=_) hm);(focus(first|(dsimp only;done)));(with_reducible refine cz.mk ?_ ?_))|((apply bN (s':=(_,_)) hm);(focus(first|(dsimp only;done))))|((apply cJ (s':=(_,_)) hm);(focus(first|(dsimp only;done))))|((apply bN (s':=_) hm);(focus(first|(dsimp only;done))))|((apply cJ (s':=_) hm);(focus(first|(dsimp only;done))))|(((with_reducible apply fD hm);intro r hm))|(((with_reducible apply dz.of);(focus(first|(dsimp only;done)));(focus((intro _;repeat'(first|with_reducible exact bp|with_reducible refine ba ?_|with_reducible refine dP ?_|((with_reducible refine ii ?_);intro _)|((with_reducible refine ij ?_);intro _)))));(intro s o hm;first|unfold jF|unfold jG|unfold jH);rotate_left;intro s hm))|(((with_reducible apply xE.of);(focus(first|(dsimp only;done)));(focus(intro _;exact⟨rfl,rfl,rfl⟩));(focus((intro _;repeat'(first|with_reducible exact bp|with_reducible refine ba ?_|with_reducible refine dP ?_|((with_reducible refine ii ?_);intro _)|((with_reducible refine ij ?_);intro _)))));(intro e s o hm;first|unfold nH);rotate_left;intro s hm))|(((apply bI;(repeat'(first|with_reducible exact aS|with_reducible exact aT|with_reducible apply aL|with_reducible apply ca|((with_reducible apply a_);(focus(first|(simp only[push_cast,seval];rfl)));(focus((repeat'(first|rfl));done)))|((with_reducible apply fx);(focus(first|(simp only[push_cast,seval];rfl)));(first|with_reducible exact cK rfl|with_reducible exact Ea|(apply D1;rfl)))));done))))
noncomputable def oF (fu:Nat):(∀ (x0:List ab) (x1:List ((List UInt8)×Bool)) (x2:Bool),{m:Option (Bool)//∀ r,m=some r->aa Tryz.prog 24 [.slice (List.map ac x0),(sG .str (fun v=> .bool v) x1),.bool x2] (.bool r)}):=Nat.rec (fun x0 x1 x2=>⟨none,fun r h=>by cases h⟩) (fun _ ih=>rq ih) fu
noncomputable def eo (fu:Nat) (x0:List ab) (x1:List ((List UInt8)×Bool)) (x2:Bool):Option (Bool):=((oF fu) x0 x1 x2).1
theorem sP (fu:Nat) (x0:List ab) (x1:List ((List UInt8)×Bool)) (x2:Bool):((oF fu) x0 x1 x2).1=eo fu x0 x1 x2:=rfl
theorem sQ (fu:Nat) (x0:List ab) (x1:List ((List UInt8)×Bool)) (x2:Bool):eo (fu+1) x0 x1 x2=((rq (oF fu)) x0 x1 x2).1:=rfl
theorem gS (fu:Nat) (x0:List ab) (x1:List ((List UInt8)×Bool)) (x2:Bool):∀ r,eo fu x0 x1 x2=some r->aa Tryz.prog 24 [.slice (List.map ac x0),(sG .str (fun v=> .bool v) x1),.bool x2] (.bool r):=((oF fu) x0 x1 x2).2
theorem qz (fu:Nat) (x0:List ab) (x2:Bool):∀ r,eo fu x0 [] x2=some r->aa Tryz.prog 24 [.slice (List.map ac x0),.raw (.map none),.bool x2] (.bool r):=fun r h=>aa.nilm (pre:=[.slice (List.map ac x0)]) (gS fu x0 [] x2 r h)
def fJ:SC:=
 (.seq (.reg [.r 13 (.bin .lss (.t 12) (.t 11))])
 (.seq (.cond (.t 13)
  .skip
  (.exit 0))
 (.seq (.block 1 (.seq (.reg [.r 14 (.mv (.t 12)),
    .r 15 (.idx 1 (.t 10) (.t 12)),
    .o 16 (.ld1 (.t 15)),
    .r 3 (.mv (.t 14)),
    .r 4 (.mv (.t 16))])
  (.seq (.seq (.reg (.r 17 (.mv (.t 4)):: .r 18 (.lenT (.t 17)):: .r 19 (.bin .lss (.t 18) (.c (.d (.int .i64 1)))):: .r 20 (.mv (.t 19))::aK [21,22,23] 20 false (.r 21 (.mv (.t 4)):: .r 22 (.lenT (.t 21)):: .r 23 (.bin .gtr (.t 22) (.c (.d (.int .i64 20))))::[]) (.r 24 (.pick (.t 20) (.c (.d (.bool true))) (.t 23)):: .r 25 (.mv (.t 24))::aK [26,27,28] 25 false (.r 26 (.mv (.t 4)):: .c 27 (.f 109) [.t 26,.c (.d (.int .u8 33)),.c (.d (.int .u8 126))]:: .r 28 (.not (.t 27))::[]) (.r 29 (.pick (.t 25) (.c (.d (.bool true))) (.t 28)):: .r 30 (.mv (.t 29))::aK [31,32,33,34,35,36,37] 30 false (.r 31 (.mv (.t 4)):: .r 32 (.lenT (.t 31)):: .r 33 (.fld 2 (.t 1)):: .r 34 (.ld1 (.t 33)):: .r 35 (.fld 3 (.t 1)):: .r 36 (.ld1 (.t 35)):: .c 37 (.f 63) [.t 32,.t 34,.t 36]::[]) (.r 38 (.pick (.t 30) (.c (.d (.bool true))) (.t 37)):: .r 39 (.mv (.t 38))::aK [40,41,42,43,44] 39 false (.r 40 (.mv (.t 4)):: .r 41 (.fld 1 (.t 1)):: .r 42 (.ld1 (.t 41)):: .c 43 (.f 110) [.t 40,.t 42]:: .r 44 (.not (.t 43))::[]) (.r 45 (.pick (.t 39) (.c (.d (.bool true))) (.t 44))::[]))))))
  (.cond (.t 45)
   (.seq (.reg [.r 2 (.mv (.c (.d (.int .i64 3))))])
   .ret)
   .skip))
  (.seq (.reg (.r 46 (.mv (.t 3)):: .r 47 (.bin .gtr (.t 46) (.c (.d (.int .i64 0)))):: .r 48 (.mv (.t 47))::aK [49,50,51,52,53,54,55,56] 48 true (.r 49 (.mv (.t 4)):: .r 50 (.fld 4 (.t 1)):: .r 51 (.ld1 (.t 50)):: .r 52 (.mv (.t 3)):: .r 53 (.bin .sub (.t 52) (.c (.d (.int .i64 1)))):: .r 54 (.idx 1 (.t 51) (.t 53)):: .r 55 (.ld1 (.t 54)):: .r 56 (.bin .leq (.t 49) (.t 55))::[]) (.r 57 (.pick (.t 48) (.t 56) (.c (.d (.bool false))))::[])))
  (.cond (.t 57)
   (.seq (.reg [.r 2 (.mv (.c (.d (.int .i64 8))))])
   .ret)
   .skip)))))
 (.reg [.r 58 (.bin .add (.t 12) (.c (.d (.int .i64 1)))),
   .r 12 (.mv (.t 58))]))))
def jZ:SC:= .block 0 (.loop fJ)
def lV:SC:=
 (.seq (.reg [.r 1 (.boxI (.t 0)),
   .r 2 (.mv (.c (.d (.int .i64 0))))])
 (.seq (.seq (.reg [.r 5 (.fld 4 (.t 1)),
   .o 6 (.ld1 (.t 5)),
   .r 7 (.len (.t 6)),
   .r 8 (.bin .gtr (.t 7) (.c (.d (.int .i64 50))))])
 (.cond (.t 8)
  (.seq (.reg [.r 2 (.mv (.c (.d (.int .i64 2))))])
  .ret)
  .skip))
 (.seq (.seq (.reg [.r 9 (.fld 4 (.t 1)),
   .o 10 (.ld1 (.t 9)),
   .r 11 (.len (.t 10)),
   .r 12 (.mv (.c (.d (.int .i64 0))))])
 jZ)
 (.seq (.reg [.r 2 (.mv (.c (.d (.int .i64 0))))])
 .ret))))
theorem qA:fits Tryz.prog 87 Tryz.f87 lV [.t 2] 1=true:=oK
def qo:SC:=
 (.seq (.reg [.r 2 (.boxI (.t 0)),
   .w 4 (.boxM (.c (.agg [.d (.str []),.nils]))),
   .r 5 (.mv (.c (.d (.bool false))))])
 (.seq (.reg [.r 9 (.fld 2 (.t 2)),
   .o 10 (.ld1 (.t 9)),
   .r 11 (.mv (.t 1)),
   .c 12 (.f 88) [.t 10,.t 11,.f 89],
   .r 8 (.mv (.t 12)),
   .r 13 (.ext (.t 8) 0),
   .r 14 (.ext (.t 8) 1),
   .r 6 (.mv (.t 13)),
   .r 7 (.mv (.t 14))])
 (.seq (.seq (.reg [.r 15 (.mv (.t 7)),
   .r 16 (.not (.t 15))])
 (.cond (.t 16)
  (.seq (.reg [.r 17 (.build [.d (.str []),.nils] []),
    .w 0 (.st 2 (.t 4) (.t 17)),
    .r 5 (.mv (.c (.d (.bool false))))])
  .ret)
  .skip))
 (.seq (.reg [.r 18 (.fld 2 (.t 2)),
   .o 19 (.ld1 (.t 18)),
   .r 20 (.mv (.t 6)),
   .r 21 (.idx 2 (.t 19) (.t 20)),
   .o 22 (.ldA 2 (.t 21)),
   .w 0 (.st 2 (.t 4) (.t 22)),
   .r 5 (.mv (.c (.d (.bool true))))])
 .ret))))
theorem vt:fits Tryz.prog 67 Tryz.f67 qo [.cell 4 2,.t 5] 2=true:=oK
set_option maxRecDepth 100000 in
set_option maxHeartbeats 40000000 in
noncomputable def j0:(∀ (x0:aH),{m:Option (Int)//∀ r,m=some r->aa Tryz.prog 87 [.agg (bP x0)] (.int .i64 r)})×(∀ (x0:ah) (x1:List UInt8),{m:Option (aw×Bool)//∀ r,m=some r->aa Tryz.prog 67 [.agg (aC x0),.str x1] (.tup [.agg (au r.1),.bool r.2])}):=by
 refine⟨?g0, ?g1⟩
 case' g0=>(intro x0;apply Subtype.mk;intro r hm;apply af Tryz.func87 qA;unfold lV)
 case' g1=>(intro x0 x1;apply Subtype.mk;intro r hm;apply af Tryz.func67 vt;unfold qo)
 all_goals(repeat'(first|with_reducible refine bu ?_|with_reducible refine bt ?_|with_reducible refine bf ?_|with_reducible refine be ?_|with_reducible refine bB ?_|with_reducible refine cg ?_|with_reducible refine bw ?_|with_reducible refine bv ?_|with_reducible refine ck ?_|with_reducible refine bD ?_|with_reducible refine bo ?_|with_reducible refine bE ?_|with_reducible refine du ?_|((with_reducible apply cD hm);(iterate 2 (simp only[push_cast,seval];rfl));(intro _;rfl);intro e hm)|((with_reducible apply iN);(simp only[push_cast,seval];rfl);(first|exact trivial))|((with_reducible apply eE hm);(simp only[push_cast,seval];rfl);rfl;intro v hm;rotate_left;intro v g hm)|((with_reducible apply mV hm);(simp only[push_cast,seval];rfl);rfl;intro v hm;rotate_left;intro v g hm)|((with_reducible apply dJ hm);(simp only[push_cast,seval];rfl);(first|apply pA _ _ _|apply dr _ _ _|apply ro _ _|apply bx _ _ _ _ _ (fun a0 a1 r h=>i7 a0 a1 r h));(any_goals((repeat'(first|rfl|(with_reducible first|apply dB)|(with_reducible apply Ct;decide)));done));intro x hm)|((with_reducible apply tQ);(simp only[push_cast,seval];rfl);(first|exact trivial))|((with_reducible apply aQ hm);(simp only[push_cast,seval];rfl);intro hm;rotate_left;intro hm)|((with_reducible apply ge hm);(focus(simp only[a8,cj,RV.get,push_cast,seval];rfl));(focus(first|(dsimp only;done)));(focus((repeat'(first|rfl|(with_reducible first|apply tL|apply wk|apply oq|apply c9|apply dB|apply dA)));done)))|((with_reducible apply bF hm);(focus(simp only[a8,cj,RV.get,push_cast,seval];rfl));(focus((repeat'(first|rfl));done)))|((with_reducible apply bO hm);(simp only[push_cast,seval];rfl))|((with_reducible apply bH hm);intro r hm)|((with_reducible apply cy hm);intro r hm)|((apply aF (b:=0) (X:=jZ) (x:=fJ) rfl (fun(c:SV×SV×SV) (s:Int)=>st [(1,c.1),(10,c.2.1),(11,c.2.2),(12,.d (.int .i64 s))] []) (c:=(_,_,_)) (s0:=_) hm);(focus(first|(dsimp only;done)));(with_reducible refine cz.mk ?_ ?_))|((apply bN (s':=_) hm);(focus(first|(dsimp only;done))))|((apply cJ (s':=_) hm);(focus(first|(dsimp only;done))))|(((with_reducible apply fD hm);intro r hm))|(((with_reducible apply dz.of);(focus(first|(dsimp only;done)));(focus((intro _;repeat'(first|with_reducible exact bp|with_reducible refine ba ?_))));(intro s o hm;first|unfold fJ);rotate_left;intro s hm))|(((apply bI;(repeat'(first|with_reducible exact aS|with_reducible exact aT|with_reducible apply aL|((with_reducible apply a_);(focus(first|(simp only[push_cast,seval];rfl)));(focus((repeat'(first|rfl));done)))));done)))))
noncomputable def i_ (x0:aH):Option (Int):=(j0.1 x0).1
theorem p8 (x0:aH):∀ r,i_ x0=some r->aa Tryz.prog 87 [.agg (bP x0)] (.int .i64 r):=(j0.1 x0).2
noncomputable def nL (x0:ah) (x1:List UInt8):Option (aw×Bool):=(j0.2 x0 x1).1
theorem uw (x0:ah) (x1:List UInt8):∀ r,nL x0 x1=some r->aa Tryz.prog 67 [.agg (aC x0),.str x1] (.tup [.agg (au r.1),.bool r.2]):=(j0.2 x0 x1).2
def mH:SC:=
 (.seq (.reg [.r 1 (.boxI (.t 0)),
   .r 2 (.mv (.c (.d (.int .i64 0))))])
 (.seq (.block 0 (.seq (.reg [.r 4 (.fld 1 (.t 1)),
    .o 5 (.ld1 (.t 4)),
    .c 6 (.f 63) [.t 5,.c (.d (.int .i64 1)),.c (.d (.int .i64 5))],
    .r 3 (.mv (.t 6))])
  (.cond (.t 3)
   (.seq (.reg [.r 2 (.mv (.c (.d (.int .i64 4))))])
   .ret)
   (.seq (.reg (.r 8 (.fld 2 (.t 1)):: .o 9 (.ld1 (.t 8)):: .r 10 (.fld 3 (.t 1)):: .o 11 (.ld1 (.t 10)):: .c 12 (.f 63) [.t 9,.c (.d (.int .i64 1)),.t 11]:: .r 13 (.mv (.t 12))::aK [14,15,16] 13 false (.r 14 (.fld 3 (.t 1)):: .r 15 (.ld1 (.t 14)):: .r 16 (.bin .gtr (.t 15) (.c (.d (.int .i64 1000))))::[]) (.r 17 (.pick (.t 13) (.c (.d (.bool true))) (.t 16)):: .r 7 (.mv (.t 17))::[])))
   (.cond (.t 7)
    (.seq (.reg [.r 2 (.mv (.c (.d (.int .i64 1))))])
    .ret)
    (.seq (.reg (.r 19 (.fld 1 (.t 1)):: .o 20 (.ld1 (.t 19)):: .r 21 (.bin .eql (.t 20) (.c (.d (.int .i64 5)))):: .r 22 (.mv (.t 21))::aK [23,24,25,26,27] 22 true (.r 23 (.fld 2 (.t 1)):: .r 24 (.ld1 (.t 23)):: .r 25 (.fld 3 (.t 1)):: .r 26 (.ld1 (.t 25)):: .c 27 (.f 63) [.c (.d (.int .i64 8)),.t 24,.t 26]::[]) (.r 28 (.pick (.t 22) (.t 27) (.c (.d (.bool false)))):: .r 18 (.mv (.t 28))::[])))
    (.cond (.t 18)
     (.seq (.reg [.r 2 (.mv (.c (.d (.int .i64 3))))])
     .ret)
     .skip)))))))
 (.seq (.reg [.o 29 (.ldA 5 (.t 1)),
   .c 30 (.f 87) [.t 29],
   .r 2 (.mv (.t 30))])
 .ret)))
theorem rr:fits Tryz.prog 64 Tryz.f64 mH [.t 2] 1=true:=oK
set_option maxRecDepth 100000 in
set_option maxHeartbeats 40000000 in
noncomputable def rt:(∀ (x0:aH),{m:Option (Int)//∀ r,m=some r->aa Tryz.prog 64 [.agg (bP x0)] (.int .i64 r)}):=by
 (intro x0;apply Subtype.mk;intro r hm;apply af Tryz.func64 rr;unfold mH)
 repeat'(first|with_reducible refine bu ?_|with_reducible refine bt ?_|with_reducible refine bf ?_|with_reducible refine be ?_|with_reducible refine bB ?_|with_reducible refine bw ?_|with_reducible refine bv ?_|with_reducible refine bD ?_|with_reducible refine bo ?_|with_reducible refine bE ?_|with_reducible refine du ?_|((with_reducible apply iN);(simp only[push_cast,seval];rfl);(first|exact trivial))|((with_reducible apply eE hm);(simp only[push_cast,seval];rfl);rfl;intro v hm;rotate_left;intro v g hm)|((with_reducible apply mV hm);(simp only[push_cast,seval];rfl);rfl;intro v hm;rotate_left;intro v g hm)|((with_reducible apply dJ hm);(simp only[push_cast,seval];rfl);(first|apply dr _ _ _|apply p8 _);(any_goals((repeat'(first|rfl));done));intro x hm)|((with_reducible apply aQ hm);(simp only[push_cast,seval];rfl);intro hm;rotate_left;intro hm)|((with_reducible apply bF hm);(focus(simp only[a8,cj,RV.get,push_cast,seval];rfl));(focus((repeat'(first|rfl));done)))|((with_reducible apply bO hm);(simp only[push_cast,seval];rfl)))
noncomputable def jI (x0:aH):Option (Int):=(rt x0).1
theorem qB (x0:aH):∀ r,jI x0=some r->aa Tryz.prog 64 [.agg (bP x0)] (.int .i64 r):=(rt x0).2
def bZ:SC:=
 (.seq (.reg [.r 19 (.bin .lss (.t 18) (.t 17))])
 (.seq (.cond (.t 19)
  .skip
  (.exit 0))
 (.seq (.block 1 (.seq (.reg [.r 20 (.idx 5 (.t 16) (.t 18)),
    .o 21 (.ldA 5 (.t 20)),
    .w 8 (.boxM (.c (.agg [.d (.str []),.d (.str []),.d (.int .i64 0),.d (.int .i64 0),.nils]))),
    .w 0 (.st 5 (.t 8) (.t 21))])
  (.seq (.reg [.r 22 (.mv (.t 0)),
    .o 23 (.ldA 5 (.t 8)),
    .r 24 (.mv (.t 2)),
    .p (some 25) (.f 38) [.t 22,.t 23,.t 24],
    .r 9 (.mv (.t 25))])
  (.seq (.reg [.r 26 (.mv (.t 9)),
    .r 27 (.bin .neq (.t 26) (.c (.d (.int .i64 0))))])
  (.cond (.t 27)
   (.seq (.reg [.r 28 (.mv (.t 9)),
     .r 6 (.mv (.t 28))])
   .ret)
   .skip)))))
 (.reg [.r 29 (.bin .add (.t 18) (.c (.d (.int .i64 1)))),
   .r 18 (.mv (.t 29))]))))
def dM:SC:= .block 0 (.loop bZ)
def ep:SC:=
 (.seq (.reg [.r 6 (.mv (.c (.d (.int .i64 0))))])
 (.seq (.seq (.reg [.r 10 (.mv (.t 1)),
   .r 11 (.len (.t 10)),
   .r 12 (.bin .eql (.t 11) (.c (.d (.int .i64 0))))])
 (.cond (.t 12)
  (.seq (.reg [.r 6 (.mv (.c (.d (.int .i64 9))))])
  .ret)
  .skip))
 (.seq (.seq (.reg [.r 13 (.mv (.t 1)),
   .r 14 (.len (.t 13)),
   .r 15 (.bin .gtr (.t 14) (.c (.d (.int .i64 50))))])
 (.cond (.t 15)
  (.seq (.reg [.r 6 (.mv (.c (.d (.int .i64 2))))])
  .ret)
  .skip))
 (.seq (.seq (.reg [.r 16 (.mv (.t 1)),
   .r 17 (.len (.t 16)),
   .r 18 (.mv (.c (.d (.int .i64 0))))])
 dM)
 (.seq (.reg [.r 6 (.mv (.c (.d (.int .i64 0))))])
 .ret)))))
theorem jj:fits Tryz.prog 22 Tryz.f22 ep [.t 6] 3=true:=oK
def eq:SC:=
 (.seq (.reg [.r 4 (.boxI (.t 1)),
   .r 6 (.mv (.c (.d (.int .i64 0))))])
 (.seq (.reg [.r 9 (.mv (.t 0)),
   .r 10 (.nilc (.t 9)),
   .r 11 (.fld 4 (.t 10)),
   .o 12 (.ld1 (.t 11)),
   .r 13 (.bin .add (.t 12) (.c (.d (.int .i64 1)))),
   .r 14 (.nilc (.t 9)),
   .r 15 (.fld 4 (.t 14)),
   .w 0 (.st 1 (.t 15) (.t 13))])
 (.seq (.block 0 (.seq (.reg (.r 17 (.mv (.t 0)):: .r 18 (.nilc (.t 17)):: .r 19 (.fld 4 (.t 18)):: .o 20 (.ld1 (.t 19)):: .r 21 (.bin .gtr (.t 20) (.c (.d (.int .i64 300)))):: .r 22 (.mv (.t 21))::aK [23,24] 22 false (.r 23 (.mv (.t 2)):: .r 24 (.bin .gtr (.t 23) (.c (.d (.int .i64 6))))::[]) (.r 25 (.pick (.t 22) (.c (.d (.bool true))) (.t 24)):: .r 16 (.mv (.t 25))::[])))
  (.cond (.t 16)
   (.seq (.reg [.r 6 (.mv (.c (.d (.int .i64 2))))])
   .ret)
   (.seq (.reg (.o 27 (.ldA 5 (.t 4)):: .c 28 (.f 65) [.t 27]:: .r 29 (.not (.t 28)):: .r 30 (.mv (.t 29))::aK [31,32,33] 30 true (.r 31 (.ldA 5 (.t 4)):: .c 32 (.f 66) [.t 31]:: .r 33 (.not (.t 32))::[]) (.r 34 (.pick (.t 30) (.t 33) (.c (.d (.bool false)))):: .r 26 (.mv (.t 34))::[])))
   (.cond (.t 26)
    (.seq (.reg [.r 6 (.mv (.c (.d (.int .i64 3))))])
    .ret)
    (.seq (.reg (.r 36 (.fld 1 (.t 4)):: .o 37 (.ld1 (.t 36)):: .r 38 (.bin .neq (.t 37) (.c (.d (.str [])))):: .r 39 (.mv (.t 38))::aK [40,41,42,43] 39 true (.r 40 (.fld 1 (.t 4)):: .r 41 (.ld1 (.t 40)):: .c 42 (.f 20) [.t 41]:: .r 43 (.not (.t 42))::[]) (.r 44 (.pick (.t 39) (.t 43) (.c (.d (.bool false)))):: .r 35 (.mv (.t 44))::[])))
    (.cond (.t 35)
     (.seq (.reg [.r 6 (.mv (.c (.d (.int .i64 5))))])
     .ret)
     .skip)))))))
 (.seq (.seq (.regE [.r 46 (.mv (.t 0)),
   .r 47 (.nilc (.t 46)),
   .r 48 (.fld 0 (.t 47)),
   .r 49 (.ldA 4 (.t 48)),
   .r 50 (.fld 0 (.t 4)),
   .r 51 (.ld1 (.t 50)),
   .c 52 (.f 67) [.t 49,.t 51],
   .r 45 (.mv (.t 52)),
   .r 53 (.ext (.t 45) 0),
   .r 54 (.ext (.t 45) 1),
   .x 7 (.boxM (.c (.agg [.d (.str []),.nils]))) [(0,46,.mv (.t 0)),(1,47,.nilc (.t 46)),(2,48,.fld 0 (.t 47)),(3,49,.ldA 4 (.t 48)),(4,50,.fld 0 (.t 4)),(5,51,.ld1 (.t 50)),(6,52,.cl 52 [49,51]),(7,45,.mv (.t 52)),(8,53,.ext (.t 45) 0),(9,54,.ext (.t 45) 1)],
   .x 0 (.st 2 (.t 7) (.t 53)) [(9,54,.ext (.t 45) 1)],
   .r 8 (.mv (.t 54))])
 (.seq (.reg (.r 55 (.fld 1 (.t 4)):: .o 56 (.ld1 (.t 55)):: .r 57 (.bin .eql (.t 56) (.c (.d (.str [])))):: .r 58 (.mv (.t 57))::aK [59,60] 58 true (.r 59 (.mv (.t 8)):: .r 60 (.not (.t 59))::[]) (.r 61 (.pick (.t 58) (.t 60) (.c (.d (.bool false))))::[])))
 (.cond (.t 61)
  (.seq (.reg [.r 6 (.mv (.c (.d (.int .i64 9))))])
  .ret)
  .skip)))
 (.seq (.seq (.reg (.r 62 (.fld 2 (.t 4)):: .o 63 (.ld1 (.t 62)):: .r 64 (.fld 3 (.t 4)):: .o 65 (.ld1 (.t 64)):: .c 66 (.f 63) [.t 63,.c (.d (.int .i64 0)),.t 65]:: .r 67 (.mv (.t 66))::aK [68,69,70] 67 false (.r 68 (.fld 3 (.t 4)):: .r 69 (.ld1 (.t 68)):: .c 70 (.f 63) [.t 69,.c (.d (.int .i64 1)),.c (.d (.int .i64 1000))]::[]) (.r 71 (.pick (.t 67) (.c (.d (.bool true))) (.t 70))::[])))
 (.cond (.t 71)
  (.seq (.reg [.r 6 (.mv (.c (.d (.int .i64 1))))])
  .ret)
  .skip))
 (.seq (.seq (.reg [.r 72 (.fld 1 (.t 4)),
   .o 73 (.ld1 (.t 72)),
   .r 74 (.bin .eql (.t 73) (.c (.d (.str []))))])
 (.cond (.t 74)
  (.seq (.reg [.r 6 (.mv (.c (.d (.int .i64 0))))])
  .ret)
  .skip))
 (.seq (.reg [.r 75 (.mv (.t 0)),
   .r 76 (.fld 4 (.t 4)),
   .o 77 (.ld1 (.t 76)),
   .r 78 (.mv (.t 2)),
   .r 79 (.bin .add (.t 78) (.c (.d (.int .i64 1)))),
   .p (some 80) (.f 22) [.t 75,.t 77,.t 79],
   .r 6 (.mv (.t 80))])
 .ret)))))))
theorem jk:fits Tryz.prog 38 Tryz.f38 eq [.t 6] 3=true:=oK
set_option maxRecDepth 100000 in
set_option maxHeartbeats 40000000 in
noncomputable def lW:((∀ (x0:an) (x1:List ab) (x2:Int),{m:Option ((Int)×an)//∀ r,m=some r->cr Tryz.prog 22 (.own (.pt [.sh,.sh,.sh,.sh,.sh]) (.ptr (aA x0))::List.map SV.d ([.slice (List.map ac x1),.int .i64 x2]:List DV)) (.d (.int .i64 r.1)) (.own (.pt [.sh,.sh,.sh,.sh,.sh]) (.ptr (aA r.2))::List.map SV.d ([.slice (List.map ac x1),.int .i64 x2]:List DV))})×(∀ (x0:an) (x1:ab) (x2:Int),{m:Option ((Int)×an)//∀ r,m=some r->cr Tryz.prog 38 (.own (.pt [.sh,.sh,.sh,.sh,.sh]) (.ptr (aA x0))::List.map SV.d ([.agg (ac x1),.int .i64 x2]:List DV)) (.d (.int .i64 r.1)) (.own (.pt [.sh,.sh,.sh,.sh,.sh]) (.ptr (aA r.2))::List.map SV.d ([.agg (ac x1),.int .i64 x2]:List DV))}))->((∀ (x0:an) (x1:List ab) (x2:Int),{m:Option ((Int)×an)//∀ r,m=some r->cr Tryz.prog 22 (.own (.pt [.sh,.sh,.sh,.sh,.sh]) (.ptr (aA x0))::List.map SV.d ([.slice (List.map ac x1),.int .i64 x2]:List DV)) (.d (.int .i64 r.1)) (.own (.pt [.sh,.sh,.sh,.sh,.sh]) (.ptr (aA r.2))::List.map SV.d ([.slice (List.map ac x1),.int .i64 x2]:List DV))})×(∀ (x0:an) (x1:ab) (x2:Int),{m:Option ((Int)×an)//∀ r,m=some r->cr Tryz.prog 38 (.own (.pt [.sh,.sh,.sh,.sh,.sh]) (.ptr (aA x0))::List.map SV.d ([.agg (ac x1),.int .i64 x2]:List DV)) (.d (.int .i64 r.1)) (.own (.pt [.sh,.sh,.sh,.sh,.sh]) (.ptr (aA r.2))::List.map SV.d ([.agg (ac x1),.int .i64 x2]:List DV))})):=by
 intro ih
 have cb:∀ (x0:an) (x1:List ab) (x2:Int),∀ r,(ih.1 x0 x1 x2).1=some r->cr Tryz.prog 22 (.own (.pt [.sh,.sh,.sh,.sh,.sh]) (.ptr (aA x0))::List.map SV.d ([.slice (List.map ac x1),.int .i64 x2]:List DV)) (.d (.int .i64 r.1)) (.own (.pt [.sh,.sh,.sh,.sh,.sh]) (.ptr (aA r.2))::List.map SV.d ([.slice (List.map ac x1),.int .i64 x2]:List DV)):=fun x0 x1 x2=>(ih.1 x0 x1 x2).2
 have dU:∀ (x0:an) (x1:ab) (x2:Int),∀ r,(ih.2 x0 x1 x2).1=some r->cr Tryz.prog 38 (.own (.pt [.sh,.sh,.sh,.sh,.sh]) (.ptr (aA x0))::List.map SV.d ([.agg (ac x1),.int .i64 x2]:List DV)) (.d (.int .i64 r.1)) (.own (.pt [.sh,.sh,.sh,.sh,.sh]) (.ptr (aA r.2))::List.map SV.d ([.agg (ac x1),.int .i64 x2]:List DV)):=fun x0 x1 x2=>(ih.2 x0 x1 x2).2
 refine⟨?g0, ?g1⟩
 case' g0=>(intro x0 x1 x2;apply Subtype.mk;intro r hm;apply ot (N:=30) (k:=3) Tryz.func22 jj oK rfl rfl oD;unfold ep)
 case' g1=>(intro x0 x1 x2;apply Subtype.mk;intro r hm;apply ot (N:=81) (k:=3) Tryz.func38 jk oK rfl rfl oD;unfold eq)
 all_goals(repeat'(first|with_reducible refine bu ?_|with_reducible refine bt ?_|with_reducible refine zM ?_|with_reducible refine bf ?_|with_reducible refine be ?_|with_reducible refine bB ?_|with_reducible refine cg ?_|with_reducible refine bw ?_|with_reducible refine bv ?_|with_reducible refine ck ?_|with_reducible refine bD ?_|with_reducible refine bo ?_|with_reducible refine bE ?_|with_reducible refine du ?_|((with_reducible apply cD hm);(iterate 2 (simp only[push_cast,seval];rfl));(intro _;rfl);intro e hm)|((with_reducible apply iN);(simp only[push_cast,seval];rfl);(first|exact trivial))|((with_reducible apply eE hm);(simp only[push_cast,seval];rfl);rfl;intro v hm;rotate_left;intro v g hm)|((with_reducible apply mV hm);(simp only[push_cast,seval];rfl);rfl;intro v hm;rotate_left;intro v g hm)|((with_reducible apply dJ hm);(simp only[push_cast,seval];rfl);(first|apply lf _|apply sS _|apply mD _|apply uw _ _|apply dr _ _ _);(any_goals((repeat'(first|rfl|(with_reducible first|apply iP|apply oq|apply dB)));done));intro x hm)|((with_reducible apply tQ);(simp only[push_cast,seval];rfl);(first|exact trivial))|((with_reducible apply Jd);(simp only[push_cast,seval];rfl);(first|exact trivial);(focus((repeat'(first|exact ue|((with_reducible apply EX);(focus(simp only[push_cast,seval];rfl));(focus(first|exact trivial));(focus(simp only[push_cast,seval])))));done)))|((with_reducible apply aQ hm);(simp only[push_cast,seval];rfl);intro hm;rotate_left;intro hm)|((with_reducible apply bO hm);(simp only[push_cast,seval];rfl))|((with_reducible apply bH hm);intro r hm)|((with_reducible apply cy hm);intro r hm)|((apply aF (b:=0) (X:=dM) (x:=bZ) rfl (fun(c:SV×SV×SV×SV×SV) (s:ah×Int×Int)=>st [(0,.ref 0 0),(2,c.1),(16,c.2.1),(17,c.2.2.1),(18,.d (.int .i64 s.2.2)),(30,.ref 0 0),(31,c.2.2.2.1),(32,c.2.2.2.2)] [(0,.box (nD s.1 s.2.1))]) (c:=(_,_,_,_,_)) (s0:=(_,_,_)) hm);(focus(first|(dsimp only;done)));(with_reducible refine cz.mk ?_ ?_))|((apply bN (s':=(_,_,_)) hm);(focus(first|(dsimp only;done))))|((apply cJ (s':=(_,_,_)) hm);(focus(first|(dsimp only;done))))|(((with_reducible apply fD hm);intro r hm))|(((with_reducible apply GK hm (id:=0) (ms:=[.sh,.sh,.sh,.sh,.sh]));(focus(exact hY.refl _));(focus(simp only[push_cast,seval];(try rfl);done));(focus(simp only[push_cast,seval];(try rfl);done));(focus(simp only[push_cast,seval];(try rfl);done));(focus((repeat'(first|(with_reducible first|apply jD|apply nU)|((with_reducible apply a_);(focus(first|rfl));(focus((repeat'(first|rfl));done)))));done));(focus rfl);(first|apply dU _ _ _|apply cb _ _ _);(any_goals(focus((repeat'(first|rfl|(with_reducible first|apply iP|apply oq|apply dB)));done)));(focus(intro _;exact⟨rfl,rfl,rfl⟩));intro y hm))|(((with_reducible apply Cu hm (ms:=[.sh,.sh,.sh,.sh,.sh]));(focus(exact hY.refl _));(focus(simp only[push_cast,seval];(try rfl);done));(focus((repeat'(first|(with_reducible first|apply jD|apply nU)|((with_reducible apply a_);(focus(first|rfl));(focus((repeat'(first|rfl));done)))));done));(focus(intro _;rfl));(focus(simp only[push_cast,seval];(try rfl);done));(focus(simp only[push_cast,seval];(try rfl);done));(focus(simp only[push_cast,seval];(try rfl);done));(focus(simp only[push_cast,seval];(try rfl);done));(focus(first|(apply GL;(focus((repeat'(first|rfl));done)))))))|(((with_reducible apply dz.of);(focus(first|(dsimp only;done)));(focus((intro _;repeat'(first|with_reducible exact sw|with_reducible refine ba ?_))));(intro s o hm;first|unfold bZ);rotate_left;intro s hm))|(((apply bI;(repeat'(first|with_reducible exact aS|with_reducible exact aT|with_reducible apply aL|with_reducible apply ca|((with_reducible apply a_);(focus(first|(simp only[push_cast,seval];rfl)));(focus((repeat'(first|rfl));done)))|((with_reducible apply fx);(focus(first|(simp only[push_cast,seval];rfl)));(first|with_reducible exact cK rfl))));done)))))
noncomputable def fY (fu:Nat):(∀ (x0:an) (x1:List ab) (x2:Int),{m:Option ((Int)×an)//∀ r,m=some r->cr Tryz.prog 22 (.own (.pt [.sh,.sh,.sh,.sh,.sh]) (.ptr (aA x0))::List.map SV.d ([.slice (List.map ac x1),.int .i64 x2]:List DV)) (.d (.int .i64 r.1)) (.own (.pt [.sh,.sh,.sh,.sh,.sh]) (.ptr (aA r.2))::List.map SV.d ([.slice (List.map ac x1),.int .i64 x2]:List DV))})×(∀ (x0:an) (x1:ab) (x2:Int),{m:Option ((Int)×an)//∀ r,m=some r->cr Tryz.prog 38 (.own (.pt [.sh,.sh,.sh,.sh,.sh]) (.ptr (aA x0))::List.map SV.d ([.agg (ac x1),.int .i64 x2]:List DV)) (.d (.int .i64 r.1)) (.own (.pt [.sh,.sh,.sh,.sh,.sh]) (.ptr (aA r.2))::List.map SV.d ([.agg (ac x1),.int .i64 x2]:List DV))}):=Nat.rec ⟨(fun x0 x1 x2=>⟨none,fun r h=>by cases h⟩),(fun x0 x1 x2=>⟨none,fun r h=>by cases h⟩)⟩ (fun _ ih=>lW ih) fu
noncomputable def aX (fu:Nat) (x0:an) (x1:List ab) (x2:Int):Option ((Int)×an):=((fY fu).1 x0 x1 x2).1
theorem im (fu:Nat) (x0:an) (x1:List ab) (x2:Int):((fY fu).1 x0 x1 x2).1=aX fu x0 x1 x2:=rfl
theorem io (fu:Nat) (x0:an) (x1:List ab) (x2:Int):aX (fu+1) x0 x1 x2=((lW (fY fu)).1 x0 x1 x2).1:=rfl
theorem cb (fu:Nat) (x0:an) (x1:List ab) (x2:Int):∀ r,aX fu x0 x1 x2=some r->cr Tryz.prog 22 (.own (.pt [.sh,.sh,.sh,.sh,.sh]) (.ptr (aA x0))::List.map SV.d ([.slice (List.map ac x1),.int .i64 x2]:List DV)) (.d (.int .i64 r.1)) (.own (.pt [.sh,.sh,.sh,.sh,.sh]) (.ptr (aA r.2))::List.map SV.d ([.slice (List.map ac x1),.int .i64 x2]:List DV)):=((fY fu).1 x0 x1 x2).2
noncomputable def bj (fu:Nat) (x0:an) (x1:ab) (x2:Int):Option ((Int)×an):=((fY fu).2 x0 x1 x2).1
theorem ip (fu:Nat) (x0:an) (x1:ab) (x2:Int):((fY fu).2 x0 x1 x2).1=bj fu x0 x1 x2:=rfl
theorem iq (fu:Nat) (x0:an) (x1:ab) (x2:Int):bj (fu+1) x0 x1 x2=((lW (fY fu)).2 x0 x1 x2).1:=rfl
theorem dU (fu:Nat) (x0:an) (x1:ab) (x2:Int):∀ r,bj fu x0 x1 x2=some r->cr Tryz.prog 38 (.own (.pt [.sh,.sh,.sh,.sh,.sh]) (.ptr (aA x0))::List.map SV.d ([.agg (ac x1),.int .i64 x2]:List DV)) (.d (.int .i64 r.1)) (.own (.pt [.sh,.sh,.sh,.sh,.sh]) (.ptr (aA r.2))::List.map SV.d ([.agg (ac x1),.int .i64 x2]:List DV)):=((fY fu).2 x0 x1 x2).2
def eM:SC:=
 (.seq (.reg [.r 24 (.bin .lss (.t 23) (.t 22))])
 (.seq (.cond (.t 24)
  .skip
  (.exit 1))
 (.seq (.block 2 (.seq (.reg [.r 25 (.idx 5 (.t 21) (.t 23)),
    .o 26 (.ldA 5 (.t 25)),
    .w 4 (.boxM (.c (.agg [.d (.bool false),.d (.int .i64 0),.d (.int .i64 0),.d (.int .i64 0),.nils]))),
    .w 0 (.st 5 (.t 4) (.t 26))])
  (.seq (.reg [.o 27 (.ldA 5 (.t 4)),
    .c 28 (.f 64) [.t 27],
    .r 5 (.mv (.t 28))])
  (.seq (.reg [.r 29 (.mv (.t 5)),
    .r 30 (.bin .neq (.t 29) (.c (.d (.int .i64 0))))])
  (.cond (.t 30)
   (.seq (.reg [.r 31 (.mv (.t 5)),
     .r 2 (.mv (.t 31))])
   .ret)
   .skip)))))
 (.reg [.r 32 (.bin .add (.t 23) (.c (.d (.int .i64 1)))),
   .r 23 (.mv (.t 32))]))))
def iV:SC:= .block 1 (.loop eM)
def kH:SC:=
 (.seq (.reg [.r 1 (.boxI (.t 0)),
   .r 2 (.mv (.c (.d (.int .i64 0))))])
 (.seq (.block 0 (.seq (.reg [.r 7 (.fld 1 (.t 1)),
    .o 8 (.ld1 (.t 7)),
    .c 9 (.f 63) [.t 8,.c (.d (.int .i64 1)),.c (.d (.int .i64 20))],
    .r 6 (.mv (.t 9))])
  (.cond (.t 6)
   (.seq (.reg [.r 2 (.mv (.c (.d (.int .i64 1))))])
   .ret)
   (.seq (.reg [.r 11 (.fld 2 (.t 1)),
     .o 12 (.ld1 (.t 11)),
     .r 13 (.len (.t 12)),
     .r 14 (.bin .eql (.t 13) (.c (.d (.int .i64 0)))),
     .r 10 (.mv (.t 14))])
   (.cond (.t 10)
    (.seq (.reg [.r 2 (.mv (.c (.d (.int .i64 9))))])
    .ret)
    (.seq (.reg [.r 16 (.fld 2 (.t 1)),
      .o 17 (.ld1 (.t 16)),
      .r 18 (.len (.t 17)),
      .r 19 (.bin .gtr (.t 18) (.c (.d (.int .i64 20)))),
      .r 15 (.mv (.t 19))])
    (.cond (.t 15)
     (.seq (.reg [.r 2 (.mv (.c (.d (.int .i64 2))))])
     .ret)
     .skip)))))))
 (.seq (.seq (.reg [.r 20 (.fld 2 (.t 1)),
   .o 21 (.ld1 (.t 20)),
   .r 22 (.len (.t 21)),
   .r 23 (.mv (.c (.d (.int .i64 0))))])
 iV)
 (.seq (.reg [.r 2 (.mv (.c (.d (.int .i64 0))))])
 .ret))))
theorem pF:fits Tryz.prog 37 Tryz.f37 kH [.t 2] 1=true:=oK
set_option maxRecDepth 100000 in
set_option maxHeartbeats 40000000 in
noncomputable def ru:(∀ (x0:aY),{m:Option (Int)//∀ r,m=some r->aa Tryz.prog 37 [.agg (cA x0)] (.int .i64 r)}):=by
 (intro x0;apply Subtype.mk;intro r hm;apply af Tryz.func37 pF;unfold kH)
 repeat'(first|with_reducible refine bu ?_|with_reducible refine bt ?_|with_reducible refine bf ?_|with_reducible refine be ?_|with_reducible refine bB ?_|with_reducible refine cg ?_|with_reducible refine bw ?_|with_reducible refine bv ?_|with_reducible refine ck ?_|with_reducible refine bD ?_|with_reducible refine bo ?_|with_reducible refine bE ?_|with_reducible refine du ?_|((with_reducible apply cD hm);(iterate 2 (simp only[push_cast,seval];rfl));(intro _;rfl);intro e hm)|((with_reducible apply iN);(simp only[push_cast,seval];rfl);(first|exact trivial))|((with_reducible apply dJ hm);(simp only[push_cast,seval];rfl);(first|apply dr _ _ _|apply qB _);(any_goals((repeat'(first|rfl));done));intro x hm)|((with_reducible apply tQ);(simp only[push_cast,seval];rfl);(first|exact trivial))|((with_reducible apply aQ hm);(simp only[push_cast,seval];rfl);intro hm;rotate_left;intro hm)|((with_reducible apply bF hm);(focus(simp only[a8,cj,RV.get,push_cast,seval];rfl));(focus((repeat'(first|rfl));done)))|((with_reducible apply bH hm);intro r hm)|((with_reducible apply cy hm);intro r hm)|((apply aF (b:=1) (X:=iV) (x:=eM) rfl (fun(c:SV×SV) (s:Int)=>st [(21,c.1),(22,c.2),(23,.d (.int .i64 s))] []) (c:=(_,_)) (s0:=_) hm);(focus(first|(dsimp only;done)));(with_reducible refine cz.mk ?_ ?_))|((apply bN (s':=_) hm);(focus(first|(dsimp only;done))))|((apply cJ (s':=_) hm);(focus(first|(dsimp only;done))))|(((with_reducible apply fD hm);intro r hm))|(((with_reducible apply dz.of);(focus(first|(dsimp only;done)));(focus((intro _;repeat'(first|with_reducible exact bp|with_reducible refine ba ?_))));(intro s o hm;first|unfold eM);rotate_left;intro s hm))|(((apply bI;(repeat'(first|with_reducible exact aS|with_reducible exact aT|with_reducible apply aL|((with_reducible apply a_);(focus(first|(simp only[push_cast,seval];rfl)));(focus((repeat'(first|rfl));done)))));done))))
noncomputable def gH (x0:aY):Option (Int):=(ru x0).1
theorem pa (x0:aY):∀ r,gH x0=some r->aa Tryz.prog 37 [.agg (cA x0)] (.int .i64 r):=(ru x0).2
def gf:SC:=
 (.seq (.reg [.r 43 (.bin .lss (.t 42) (.t 41))])
 (.seq (.cond (.t 43)
  .skip
  (.exit 2))
 (.seq (.block 3 (.seq (.reg [.r 44 (.idx 3 (.t 40) (.t 42)),
    .o 45 (.ldA 3 (.t 44)),
    .w 6 (.boxM (.c (.agg [.d (.bool false),.d (.int .i64 0),.nils]))),
    .w 0 (.st 3 (.t 6) (.t 45))])
  (.seq (.reg [.o 46 (.ldA 3 (.t 6)),
    .c 47 (.f 37) [.t 46],
    .r 7 (.mv (.t 47))])
  (.seq (.reg [.r 48 (.mv (.t 7)),
    .r 49 (.bin .neq (.t 48) (.c (.d (.int .i64 0))))])
  (.cond (.t 49)
   (.seq (.reg [.r 50 (.mv (.t 7)),
     .r 2 (.mv (.t 50))])
   .ret)
   .skip)))))
 (.reg [.r 51 (.bin .add (.t 42) (.c (.d (.int .i64 1)))),
   .r 42 (.mv (.t 51))]))))
def kI:SC:= .block 2 (.loop gf)
def gg:SC:=
 (.seq (.reg [.r 14 (.bin .lss (.t 13) (.t 12))])
 (.seq (.cond (.t 14)
  .skip
  (.exit 0))
 (.seq (.block 1 (.seq (.reg [.r 15 (.mv (.t 13)),
    .r 16 (.idx 2 (.t 11) (.t 13)),
    .o 17 (.ldA 2 (.t 16)),
    .w 4 (.boxM (.c (.agg [.d (.str []),.nils]))),
    .r 3 (.mv (.t 15)),
    .w 0 (.st 2 (.t 4) (.t 17))])
  (.seq (.seq (.reg [.r 18 (.fld 0 (.t 4)),
    .o 19 (.ld1 (.t 18)),
    .c 20 (.f 36) [.t 19],
    .r 21 (.not (.t 20))])
  (.cond (.t 21)
   (.seq (.reg [.r 2 (.mv (.c (.d (.int .i64 5))))])
   .ret)
   .skip))
  (.seq (.seq (.regD (.r 22 (.mv (.t 3)):: .r 23 (.bin .gtr (.t 22) (.c (.d (.int .i64 0)))):: .r 24 (.mv (.t 23))::aK [25,26,27,28,29,30,31,32,33] 24 true (.r 25 (.fld 0 (.t 4)):: .r 26 (.ld1 (.t 25)):: .r 27 (.mv (.t 0)):: .r 28 (.mv (.t 3)):: .r 29 (.bin .sub (.t 28) (.c (.d (.int .i64 1)))):: .r 30 (.idx 2 (.t 27) (.t 29)):: .r 31 (.fld 0 (.t 30)):: .r 32 (.ld1 (.t 31)):: .r 33 (.bin .leq (.t 26) (.t 32))::[]) (.r 34 (.pick (.t 24) (.t 33) (.c (.d (.bool false))))::[])))
  (.cond (.t 34)
   (.seq (.reg [.r 2 (.mv (.c (.d (.int .i64 8))))])
   .ret)
   .skip))
  (.seq (.seq (.reg [.r 35 (.fld 1 (.t 4)),
    .o 36 (.ld1 (.t 35)),
    .r 37 (.len (.t 36)),
    .r 38 (.bin .gtr (.t 37) (.c (.d (.int .i64 50))))])
  (.cond (.t 38)
   (.seq (.reg [.r 2 (.mv (.c (.d (.int .i64 2))))])
   .ret)
   .skip))
  (.seq (.reg [.r 39 (.fld 1 (.t 4)),
    .o 40 (.ld1 (.t 39)),
    .r 41 (.len (.t 40)),
    .r 42 (.mv (.c (.d (.int .i64 0))))])
  kI))))))
 (.reg [.r 52 (.bin .add (.t 13) (.c (.d (.int .i64 1)))),
   .r 13 (.mv (.t 52))]))))
def kJ:SC:= .block 0 (.loop gg)
def mI:SC:=
 (.seq (.reg [.r 2 (.mv (.c (.d (.int .i64 0))))])
 (.seq (.seq (.reg [.r 8 (.mv (.t 0)),
   .r 9 (.len (.t 8)),
   .r 10 (.bin .gtr (.t 9) (.c (.d (.int .i64 100))))])
 (.cond (.t 10)
  (.seq (.reg [.r 2 (.mv (.c (.d (.int .i64 2))))])
  .ret)
  .skip))
 (.seq (.seq (.reg [.r 11 (.mv (.t 0)),
   .r 12 (.len (.t 11)),
   .r 13 (.mv (.c (.d (.int .i64 0))))])
 kJ)
 (.seq (.reg [.r 2 (.mv (.c (.d (.int .i64 0))))])
 .ret))))
theorem rv:fits Tryz.prog 21 Tryz.f21 mI [.t 2] 1=true:=oK
set_option maxRecDepth 100000 in
set_option maxHeartbeats 40000000 in
noncomputable def rx:(∀ (x0:List aw),{m:Option (Int)//∀ r,m=some r->aa Tryz.prog 21 [.slice (List.map au x0)] (.int .i64 r)}):=by
 (intro x0;apply Subtype.mk;intro r hm;apply af Tryz.func21 rv;unfold mI)
 repeat'(first|with_reducible refine bu ?_|with_reducible refine bt ?_|with_reducible refine pW ?_|with_reducible refine bf ?_|with_reducible refine be ?_|with_reducible refine bB ?_|with_reducible refine cg ?_|with_reducible refine bw ?_|with_reducible refine bv ?_|with_reducible refine ck ?_|with_reducible refine bD ?_|with_reducible refine bo ?_|with_reducible refine bE ?_|with_reducible refine du ?_|((with_reducible apply cD hm);(iterate 2 (simp only[push_cast,seval];rfl));(intro _;rfl);intro e hm)|((with_reducible apply iN);(simp only[push_cast,seval];rfl);(first|exact trivial))|((with_reducible apply eE hm);(simp only[push_cast,seval];rfl);rfl;intro v hm;rotate_left;intro v g hm)|((with_reducible apply dJ hm);(simp only[push_cast,seval];rfl);(first|apply kO _|apply pa _);(any_goals((repeat'(first|rfl));done));intro x hm)|((with_reducible apply tQ);(simp only[push_cast,seval];rfl);(first|exact trivial))|((with_reducible apply aQ hm);(simp only[push_cast,seval];rfl);intro hm;rotate_left;intro hm)|((with_reducible apply bF hm);(focus(simp only[a8,cj,RV.get,push_cast,seval];rfl));(focus((repeat'(first|rfl));done)))|((with_reducible apply bO hm);(simp only[push_cast,seval];rfl))|((with_reducible apply bH hm);intro r hm)|((with_reducible apply cy hm);intro r hm)|((apply aF (b:=2) (X:=kI) (x:=gf) rfl (fun(c:SV×SV×SV×SV×SV×SV) (s:Int)=>st [(0,c.1),(11,c.2.1),(12,c.2.2.1),(13,c.2.2.2.1),(40,c.2.2.2.2.1),(41,c.2.2.2.2.2),(42,.d (.int .i64 s))] []) (c:=(_,_,_,_,_,_)) (s0:=_) hm);(focus(first|(dsimp only;done)));(with_reducible refine cz.mk ?_ ?_))|((apply aF (b:=0) (X:=kJ) (x:=gg) rfl (fun(c:SV×SV×SV) (s:Int)=>st [(0,c.1),(11,c.2.1),(12,c.2.2),(13,.d (.int .i64 s))] []) (c:=(_,_,_)) (s0:=_) hm);(focus(first|(dsimp only;done)));(with_reducible refine cz.mk ?_ ?_))|((apply bN (s':=_) hm);(focus(first|(dsimp only;done))))|((apply cJ (s':=_) hm);(focus(first|(dsimp only;done))))|(((with_reducible apply fD hm);intro r hm))|(((with_reducible apply dz.of);(focus(first|(dsimp only;done)));(focus((intro _;repeat'(first|with_reducible exact bp|with_reducible refine ba ?_|with_reducible refine dP ?_|((with_reducible refine ii ?_);intro _)|((with_reducible refine ij ?_);intro _)))));(intro s o hm;first|unfold gf|unfold gg);rotate_left;intro s hm))|(((apply bI;(repeat'(first|with_reducible exact aS|with_reducible exact aT|with_reducible apply aL|((with_reducible apply a_);(focus(first|(simp only[push_cast,seval];rfl)));(focus((repeat'(first|rfl));done)))));done))))
noncomputable def jJ (x0:List aw):Option (Int):=(rx x0).1
theorem qC (x0:List aw):∀ r,jJ x0=some r->aa Tryz.prog 21 [.slice (List.map au x0)] (.int .i64 r):=(rx x0).2
def lc:SC:=
 (.seq (.reg [.r 1 (.boxI (.t 0)),
   .r 2 (.mv (.c (.d (.int .i64 0))))])
 (.seq (.seq (.reg (.r 6 (.fld 0 (.t 1)):: .o 7 (.ld1 (.t 6)):: .c 8 (.f 20) [.t 7]:: .r 9 (.not (.t 8)):: .r 10 (.mv (.t 9))::aK [11,12,13,14] 10 false (.r 11 (.fld 1 (.t 1)):: .r 12 (.ld1 (.t 11)):: .c 13 (.f 20) [.t 12]:: .r 14 (.not (.t 13))::[]) (.r 15 (.pick (.t 10) (.c (.d (.bool true))) (.t 14))::[])))
 (.cond (.t 15)
  (.seq (.reg [.r 2 (.mv (.c (.d (.int .i64 5))))])
  .ret)
  .skip))
 (.seq (.seq (.reg [.r 16 (.fld 2 (.t 1)),
   .o 17 (.ld1 (.t 16)),
   .c 18 (.f 21) [.t 17],
   .r 3 (.mv (.t 18))])
 (.seq (.reg [.r 19 (.mv (.t 3)),
   .r 20 (.bin .neq (.t 19) (.c (.d (.int .i64 0))))])
 (.cond (.t 20)
  (.seq (.reg [.r 21 (.mv (.t 3)),
    .r 2 (.mv (.t 21))])
  .ret)
  .skip)))
 (.seq (.reg [.o 22 (.ldA 4 (.t 1)),
   .r 23 (.build [.d (.str []),.d (.str []),.nils,.nils,.d (.int .i64 0)] [(0,4,.t 22)]),
   .w 24 (.boxM (.t 23)),
   .r 4 (.mv (.t 24))])
 (.seq (.seq (.reg [.r 25 (.mv (.t 4)),
   .r 26 (.fld 3 (.t 1)),
   .o 27 (.ld1 (.t 26)),
   .p (some 28) (.f 22) [.t 25,.t 27,.c (.d (.int .i64 0))],
   .r 5 (.mv (.t 28))])
 (.seq (.reg [.r 29 (.mv (.t 5)),
   .r 30 (.bin .neq (.t 29) (.c (.d (.int .i64 0))))])
 (.cond (.t 30)
  (.seq (.reg [.r 31 (.mv (.t 5)),
    .r 2 (.mv (.t 31))])
  .ret)
  .skip)))
 (.seq (.seq (.reg [.r 32 (.fld 3 (.t 1)),
   .o 33 (.ld1 (.t 32)),
   .w 34 (.mkmap .str),
   .p (some 35) (.f 23) [.t 33,.t 34]])
 (.cond (.t 35)
  (.seq (.reg [.r 2 (.mv (.c (.d (.int .i64 7))))])
  .ret)
  .skip))
 (.seq (.seq (.reg [.r 36 (.fld 3 (.t 1)),
   .o 37 (.ld1 (.t 36)),
   .c 38 (.f 24) [.t 37,.c (.d (.raw (.map none))),.c (.d (.bool false))]])
 (.cond (.t 38)
  (.seq (.reg [.r 2 (.mv (.c (.d (.int .i64 12))))])
  .ret)
  .skip))
 (.seq (.reg [.r 2 (.mv (.c (.d (.int .i64 0))))])
 .ret))))))))
theorem p9:fits Tryz.prog 6 Tryz.f6 lc [.t 2] 1=true:=oK
set_option maxRecDepth 100000 in
set_option maxHeartbeats 40000000 in
noncomputable def ry:(∀ (x0:ah),{m:Option (Int)//∀ r,m=some r->aa Tryz.prog 6 [.agg (aC x0)] (.int .i64 r)}):=by
 (intro x0;apply Subtype.mk;intro r hm;apply af Tryz.func6 p9;unfold lc)
 repeat'(first|with_reducible refine bu ?_|with_reducible refine bt ?_|with_reducible refine be ?_|with_reducible refine bB ?_|with_reducible refine bw ?_|with_reducible refine bv ?_|with_reducible refine bD ?_|with_reducible refine du ?_|((with_reducible apply iN);(simp only[push_cast,seval];rfl);(first|exact trivial))|((with_reducible apply mV hm);(simp only[push_cast,seval];rfl);rfl;intro v hm;rotate_left;intro v g hm)|((with_reducible apply dJ hm);(simp only[push_cast,seval];rfl);(first|apply mD _|apply qC _|apply gS FU _ _ _);(any_goals((repeat'(first|rfl|(with_reducible first|apply dB)));done));intro x hm)|((with_reducible apply tQ);(simp only[push_cast,seval];rfl);(first|exact trivial))|((with_reducible apply aQ hm);(simp only[push_cast,seval];rfl);intro hm;rotate_left;intro hm)|((with_reducible apply bF hm);(focus(simp only[a8,cj,RV.get,push_cast,seval];rfl));(focus((repeat'(first|rfl));done)))|((with_reducible apply bO hm);(simp only[push_cast,seval];rfl))|(((with_reducible apply GK hm (id:=24) (ms:=[.sh,.sh,.sh,.sh,.sh]));(focus(exact hY.refl _));(focus(simp only[push_cast,seval];(try rfl);done));(focus(simp only[push_cast,seval];(try rfl);done));(focus(simp only[push_cast,seval];(try rfl);done));(focus((repeat'(first|(with_reducible first|apply jD|apply nU)|((with_reducible apply a_);(focus(first|rfl));(focus((repeat'(first|rfl));done)))));done));(focus rfl);(first|apply cb FU _ _ _);(any_goals(focus((repeat'(first|rfl));done)));(focus(intro _;exact⟨rfl,rfl,rfl⟩));intro y hm))|(((with_reducible apply Fi hm);(focus(simp only[push_cast,seval];(try rfl);done));(focus(simp only[push_cast,seval];(try rfl);done));(focus(simp only[push_cast,seval];(try rfl);done));(focus(first|(simp only[push_cast,seval];apply D3)));(focus rfl);(focus(first|apply kG FU _ _));(any_goals(focus((repeat'(first|rfl));done)));(focus(intro _;exact⟨rfl,rfl⟩));intro y hm))|(((with_reducible apply dJ hm);(simp only[push_cast,seval];rfl);(apply qz FU);(any_goals((repeat'(first|rfl));done));intro x hm)))
noncomputable def ir (x0:ah):Option (Int):=(ry x0).1
theorem j1 (x0:ah):∀ r,ir x0=some r->aa Tryz.prog 6 [.agg (aC x0)] (.int .i64 r):=(ry x0).2
def wm:SC:=
 (.seq (.reg [.r 2 (.mv (.c (.d (.str []))))])
 (.seq (.reg [.r 3 (.mv (.t 0)),
   .c 4 (.f 33) [.t 3,.c (.d (.str [32]))],
   .r 5 (.bin .add (.t 4) (.c (.d (.str [10])))),
   .r 2 (.mv (.t 5))])
 .ret))
theorem Ad:fits Tryz.prog 10 Tryz.f10 wm [.t 2] 1=true:=oK
def l6:SC:=
 (.seq (.reg [.r 2 (.mv (.c (.d (.str []))))])
 (.seq (.seq (.reg [.r 3 (.mv (.t 0))])
 (.cond (.t 3)
  (.seq (.reg [.r 2 (.mv (.c (.d (.str [110,101,101,100,101,100]))))])
  .ret)
  .skip))
 (.seq (.reg [.r 2 (.mv (.c (.d (.str [102,114,101,101]))))])
 .ret)))
theorem qD:fits Tryz.prog 11 Tryz.f11 l6 [.t 2] 1=true:=oK
def mJ:SC:=
 (.seq (.reg [.r 0 (.mv (.c (.nils)))])
 (.seq (.reg [.r 1 (.bslice 1 [.c (.d (.str [])),.c (.d (.str [116,101,120,116])),.c (.d (.str [97,108,112,104,97])),.c (.d (.str [100,105,103,105,116,115])),.c (.d (.str [110,117,109,98,101,114])),.c (.d (.str [100,97,121]))]),
   .r 0 (.mv (.t 1))])
 .ret))
theorem rH:fits Tryz.prog 13 Tryz.f13 mJ [.t 0] 0=true:=oK
set_option maxRecDepth 100000 in
set_option maxHeartbeats 40000000 in
noncomputable def eT:(∀ (x0:List (List UInt8)),{m:Option ((List UInt8))//∀ r,m=some r->aa Tryz.prog 10 [.slice (List.map eK x0)] (.str r)})×(∀ (x0:Bool),{m:Option ((List UInt8))//∀ r,m=some r->aa Tryz.prog 11 [.bool x0] (.str r)})×({m:Option ((List (List UInt8)))//∀ r,m=some r->aa Tryz.prog 13 [] (.slice (List.map eK r))}):=by
 refine⟨?g0, ?g1, ?g2⟩
 case' g0=>(intro x0;apply Subtype.mk;intro r hm;apply af Tryz.func10 Ad;unfold wm)
 case' g1=>(intro x0;apply Subtype.mk;intro r hm;apply af Tryz.func11 qD;unfold l6)
 case' g2=>(apply Subtype.mk;intro r hm;apply af Tryz.func13 rH;unfold mJ)
 all_goals(repeat'(first|with_reducible refine bu ?_|with_reducible refine bt ?_|with_reducible refine be ?_|with_reducible refine bB ?_|with_reducible refine bw ?_|with_reducible refine bv ?_|with_reducible refine bD ?_|((with_reducible apply iN);(simp only[push_cast,seval];rfl);(first|exact trivial))|((with_reducible apply tx hm);(iterate 2 (simp only[push_cast,seval];rfl));intro hm)|((with_reducible apply dJ hm);(simp only[push_cast,seval];rfl);(first|apply uC _ _);(any_goals((repeat'(first|rfl));done));intro x hm)|((with_reducible apply aQ hm);(simp only[push_cast,seval];rfl);intro hm;rotate_left;intro hm)|((with_reducible apply bF hm);(focus(simp only[a8,cj,RV.get,push_cast,seval];rfl));(focus((repeat'(first|rfl|(with_reducible first|apply c9|apply dA|apply ek)));done)))))
noncomputable def tI (x0:List (List UInt8)):Option ((List UInt8)):=(eT.1 x0).1
theorem sZ (x0:List (List UInt8)):∀ r,tI x0=some r->aa Tryz.prog 10 [.slice (List.map eK x0)] (.str r):=(eT.1 x0).2
noncomputable def ja (x0:Bool):Option ((List UInt8)):=(eT.2.1 x0).1
theorem p_ (x0:Bool):∀ r,ja x0=some r->aa Tryz.prog 11 [.bool x0] (.str r):=(eT.2.1 x0).2
noncomputable def jK:Option ((List (List UInt8))):=(eT.2.2).1
theorem qE:∀ r,jK=some r->aa Tryz.prog 13 [] (.slice (List.map eK r)):=(eT.2.2).2
def fO:SC:=
 (.seq (.reg [.r 12 (.bin .lss (.t 11) (.t 10))])
 (.seq (.cond (.t 12)
  .skip
  (.exit 0))
 (.seq (.block 1 (.seq (.reg [.r 13 (.idx 5 (.t 9) (.t 11)),
    .o 14 (.ldA 5 (.t 13)),
    .w 7 (.boxM (.c (.agg [.d (.str []),.d (.str []),.d (.int .i64 0),.d (.int .i64 0),.nils]))),
    .w 0 (.st 5 (.t 7) (.t 14))])
  (.seq (.regD [.r 15 (.fld 2 (.t 7)),
    .r 16 (.ld1 (.t 15)),
    .c 17 (.f 12) [.t 16],
    .r 18 (.bin .add (.c (.d (.str [32]))) (.t 17)),
    .r 19 (.bin .add (.t 18) (.c (.d (.str [32])))),
    .r 20 (.fld 3 (.t 7)),
    .r 21 (.ld1 (.t 20)),
    .c 22 (.f 12) [.t 21],
    .r 23 (.bin .add (.t 19) (.t 22)),
    .r 24 (.bin .add (.t 23) (.c (.d (.str [10])))),
    .r 8 (.mv (.t 24))])
  (.seq (.seq (.reg [.r 25 (.fld 1 (.t 7)),
    .o 26 (.ld1 (.t 25)),
    .r 27 (.bin .eql (.t 26) (.c (.d (.str []))))])
  (.cond (.t 27)
   (.seq (.reg [.r 28 (.mv (.t 0)),
     .r 29 (.mv (.t 2)),
     .r 30 (.fld 0 (.t 7)),
     .o 31 (.ld1 (.t 30)),
     .r 32 (.bin .add (.t 29) (.t 31)),
     .r 33 (.mv (.t 8)),
     .r 34 (.bin .add (.t 32) (.t 33)),
     .p (some 35) (.f 9) [.t 28,.t 34]])
   (.exit 1))
   .skip))
  (.seq (.reg [.r 36 (.mv (.t 0)),
    .r 37 (.mv (.t 2)),
    .r 38 (.bin .add (.t 37) (.c (.d (.str [103,114,111,117,112,32])))),
    .r 39 (.fld 1 (.t 7)),
    .o 40 (.ld1 (.t 39)),
    .r 41 (.bin .add (.t 38) (.t 40)),
    .r 42 (.mv (.t 8)),
    .r 43 (.bin .add (.t 41) (.t 42)),
    .p (some 44) (.f 9) [.t 36,.t 43]])
  (.reg [.r 45 (.mv (.t 0)),
    .r 46 (.fld 4 (.t 7)),
    .o 47 (.ld1 (.t 46)),
    .r 48 (.mv (.t 2)),
    .r 49 (.bin .add (.t 48) (.c (.d (.str [32,32])))),
    .p (some 50) (.f 15) [.t 45,.t 47,.t 49]]))))))
 (.reg [.r 51 (.bin .add (.t 11) (.c (.d (.int .i64 1)))),
   .r 11 (.mv (.t 51))]))))
def j3:SC:= .block 0 (.loop fO)
def l7:SC:=
 (.seq (.reg [.r 9 (.mv (.t 1)),
   .r 10 (.len (.t 9)),
   .r 11 (.mv (.c (.d (.int .i64 0))))])
 j3)
theorem qF:fits Tryz.prog 15 Tryz.f15 l7 [] 3=true:=oK
set_option maxRecDepth 100000 in
set_option maxHeartbeats 40000000 in
noncomputable def rI:((∀ (x0:List UInt8) (x1:List ab) (x2:List UInt8),{m:Option ((Unit)×List UInt8)//∀ r,m=some r->cr Tryz.prog 15 (.own (.bld 35 5) (.str x0)::List.map SV.d ([.slice (List.map ac x1),.str x2]:List DV)) (.tup []) (.own (.bld 35 5) (.str r.2)::List.map SV.d ([.slice (List.map ac x1),.str x2]:List DV))}))->((∀ (x0:List UInt8) (x1:List ab) (x2:List UInt8),{m:Option ((Unit)×List UInt8)//∀ r,m=some r->cr Tryz.prog 15 (.own (.bld 35 5) (.str x0)::List.map SV.d ([.slice (List.map ac x1),.str x2]:List DV)) (.tup []) (.own (.bld 35 5) (.str r.2)::List.map SV.d ([.slice (List.map ac x1),.str x2]:List DV))})):=by
 intro ih
 have gi:∀ (x0:List UInt8) (x1:List ab) (x2:List UInt8),∀ r,(ih x0 x1 x2).1=some r->cr Tryz.prog 15 (.own (.bld 35 5) (.str x0)::List.map SV.d ([.slice (List.map ac x1),.str x2]:List DV)) (.tup []) (.own (.bld 35 5) (.str r.2)::List.map SV.d ([.slice (List.map ac x1),.str x2]:List DV)):=fun x0 x1 x2=>(ih x0 x1 x2).2
 (intro x0 x1 x2;apply Subtype.mk;intro r hm;apply Bu (N:=52) (k:=3) Tryz.func15 qF oK rfl rfl oD;unfold l7)
 repeat'(first|with_reducible refine bu ?_|with_reducible refine bt ?_|with_reducible refine pW ?_|with_reducible refine bf ?_|with_reducible refine be ?_|with_reducible refine cg ?_|with_reducible refine bw ?_|with_reducible refine bv ?_|with_reducible refine ck ?_|with_reducible refine bo ?_|with_reducible refine nk ?_|with_reducible refine du ?_|((with_reducible apply cD hm);(iterate 2 (simp only[push_cast,seval];rfl));(intro _;rfl);intro e hm)|((with_reducible apply iN);(simp only[push_cast,seval];rfl);(first|exact trivial))|((with_reducible apply tx hm);(iterate 2 (simp only[push_cast,seval];rfl));intro hm)|((with_reducible apply dJ hm);(simp only[push_cast,seval];rfl);(first|apply g_ _);(any_goals((repeat'(first|rfl));done));intro x hm)|((with_reducible apply tQ);(simp only[push_cast,seval];rfl);(first|exact trivial))|((with_reducible apply aQ hm);(simp only[push_cast,seval];rfl);intro hm;rotate_left;intro hm)|((with_reducible apply bH hm);intro r hm)|((apply aF (b:=0) (X:=j3) (x:=fO) rfl (fun(c:SV×SV×SV×SV×SV) (s:(List UInt8)×Int)=>st [(0,.ref 0 0),(2,c.1),(9,c.2.1),(10,c.2.2.1),(11,.d (.int .i64 s.2)),(52,.ref 0 0),(53,c.2.2.2.1),(54,c.2.2.2.2)] [(0,.bld 35 5 s.1)]) (c:=(_,_,_,_,_)) (s0:=(_,_)) hm);(focus(first|(dsimp only;done)));(with_reducible refine cz.mk ?_ ?_))|((apply bN (s':=(_,_)) hm);(focus(first|(dsimp only;done))))|((apply cJ (s':=(_,_)) hm);(focus(first|(dsimp only;done))))|(((with_reducible apply I0 hm);(focus(simp only[push_cast,seval];(try rfl);done));(focus(simp only[push_cast,seval];(try rfl);done));(focus(simp only[push_cast,seval];(try rfl);done));(first|apply cO _ _|apply gi _ _ _);(any_goals(focus((repeat'(first|rfl));done)));(focus(intro _;exact⟨rfl,rfl⟩));intro y hm))|(((with_reducible apply GP (a:=()) hm);(focus(simp only[push_cast,seval];(try rfl);done));(focus(simp only[push_cast,seval];(try rfl);done));(focus(simp only[push_cast,seval];(try rfl);done));(focus(simp only[push_cast,seval];(try rfl);done));(focus(simp only[push_cast,seval];(try rfl);done));(focus(first|exact Js))))|(((with_reducible apply dz.of);(focus(first|(dsimp only;done)));(focus((intro _;repeat'(first|with_reducible exact sw))));(intro s o hm;first|unfold fO);rotate_left;intro s hm))|(((apply bI;(repeat'(first|with_reducible exact aS|with_reducible exact aT|with_reducible apply aL|with_reducible apply ca|((with_reducible apply a_);(focus(first|(simp only[push_cast,seval];rfl)));(focus((repeat'(first|rfl));done)))|((with_reducible apply fx);(focus(first|(simp only[push_cast,seval];rfl)));(first|with_reducible exact cK rfl))));done))))
noncomputable def oJ (fu:Nat):(∀ (x0:List UInt8) (x1:List ab) (x2:List UInt8),{m:Option ((Unit)×List UInt8)//∀ r,m=some r->cr Tryz.prog 15 (.own (.bld 35 5) (.str x0)::List.map SV.d ([.slice (List.map ac x1),.str x2]:List DV)) (.tup []) (.own (.bld 35 5) (.str r.2)::List.map SV.d ([.slice (List.map ac x1),.str x2]:List DV))}):=Nat.rec (fun x0 x1 x2=>⟨none,fun r h=>by cases h⟩) (fun _ ih=>rI ih) fu
noncomputable def fy (fu:Nat) (x0:List UInt8) (x1:List ab) (x2:List UInt8):Option ((Unit)×List UInt8):=((oJ fu) x0 x1 x2).1
theorem pc (fu:Nat) (x0:List UInt8) (x1:List ab) (x2:List UInt8):((oJ fu) x0 x1 x2).1=fy fu x0 x1 x2:=rfl
theorem pd (fu:Nat) (x0:List UInt8) (x1:List ab) (x2:List UInt8):fy (fu+1) x0 x1 x2=((rI (oJ fu)) x0 x1 x2).1:=rfl
theorem gi (fu:Nat) (x0:List UInt8) (x1:List ab) (x2:List UInt8):∀ r,fy fu x0 x1 x2=some r->cr Tryz.prog 15 (.own (.bld 35 5) (.str x0)::List.map SV.d ([.slice (List.map ac x1),.str x2]:List DV)) (.tup []) (.own (.bld 35 5) (.str r.2)::List.map SV.d ([.slice (List.map ac x1),.str x2]:List DV)):=((oJ fu) x0 x1 x2).2
def kK:SC:=
 (.seq (.reg [.r 58 (.bin .lss (.t 57) (.t 56))])
 (.seq (.cond (.t 58)
  .skip
  (.exit 4))
 (.seq (.block 5 (.seq (.reg [.r 59 (.idx 5 (.t 55) (.t 57)),
    .o 60 (.ldA 5 (.t 59)),
    .w 11 (.boxM (.c (.agg [.d (.bool false),.d (.int .i64 0),.d (.int .i64 0),.d (.int .i64 0),.nils]))),
    .w 0 (.st 5 (.t 11) (.t 60))])
  (.seq (.regE [.r 61 (.fld 0 (.t 11)),
    .r 62 (.ld1 (.t 61)),
    .c 63 (.f 11) [.t 62],
    .c 64 (.f 13) [],
    .r 65 (.fld 1 (.t 11)),
    .r 66 (.ld1 (.t 65)),
    .r 67 (.idx 1 (.t 64) (.t 66)),
    .r 68 (.ld1 (.t 67)),
    .r 69 (.fld 2 (.t 11)),
    .r 70 (.ld1 (.t 69)),
    .c 71 (.f 12) [.t 70],
    .r 72 (.fld 3 (.t 11)),
    .r 73 (.ld1 (.t 72)),
    .c 74 (.f 12) [.t 73],
    .x 75 (.slM 9 1 [.t 63,.t 68,.t 71,.t 74]) [],
    .r 12 (.mv (.t 75))])
  (.reg [.r 76 (.mv (.t 12)),
    .r 77 (.fld 4 (.t 11)),
    .o 78 (.ld1 (.t 77)),
    .w 79 (.app 9 1 (.t 76) (.t 78)),
    .c 80 (.f 10) [.t 79],
    .r 81 (.bin .add (.c (.d (.str [32,32,32,32]))) (.t 80)),
    .p (some 82) (.f 9) [.t 5,.t 81]]))))
 (.reg [.r 83 (.bin .add (.t 57) (.c (.d (.int .i64 1)))),
   .r 57 (.mv (.t 83))]))))
def oN:SC:= .block 4 (.loop kK)
def kL:SC:=
 (.seq (.reg [.r 41 (.bin .lss (.t 40) (.t 39))])
 (.seq (.cond (.t 41)
  .skip
  (.exit 2))
 (.seq (.block 3 (.seq (.reg [.r 42 (.idx 3 (.t 38) (.t 40)),
    .o 43 (.ldA 3 (.t 42)),
    .w 9 (.boxM (.c (.agg [.d (.bool false),.d (.int .i64 0),.nils]))),
    .w 0 (.st 3 (.t 9) (.t 43))])
  (.seq (.regE [.r 44 (.fld 0 (.t 9)),
    .r 45 (.ld1 (.t 44)),
    .c 46 (.f 11) [.t 45],
    .r 47 (.fld 1 (.t 9)),
    .r 48 (.ld1 (.t 47)),
    .c 49 (.f 12) [.t 48],
    .r 50 (.bslice 1 [.t 46,.t 49]),
    .c 51 (.f 10) [.t 50],
    .r 52 (.bin .add (.c (.d (.str [32,32]))) (.t 51)),
    .q 53 (.f 9) [.t 5,.t 52] []])
  (.seq (.seq (.reg [.r 54 (.fld 2 (.t 9)),
    .o 55 (.ld1 (.t 54)),
    .r 56 (.len (.t 55)),
    .r 57 (.mv (.c (.d (.int .i64 0))))])
  oN)
  (.seq (.reg [.p (some 84) (.f 14) [.t 5],
    .r 85 (.bin .gtr (.t 84) (.c (.d (.int .i64 100000))))])
  (.cond (.t 85)
   (.seq (.reg [.r 2 (.mv (.c (.d (.str [])))),
     .r 3 (.mv (.c (.d (.int .i64 2))))])
   .ret)
   .skip))))))
 (.reg [.r 86 (.bin .add (.t 40) (.c (.d (.int .i64 1)))),
   .r 40 (.mv (.t 86))]))))
def oO:SC:= .block 2 (.loop kL)
def kM:SC:=
 (.seq (.reg [.r 29 (.bin .lss (.t 28) (.t 27))])
 (.seq (.cond (.t 29)
  .skip
  (.exit 0))
 (.seq (.block 1 (.seq (.reg [.r 30 (.idx 2 (.t 26) (.t 28)),
    .o 31 (.ldA 2 (.t 30)),
    .w 7 (.boxM (.c (.agg [.d (.str []),.nils]))),
    .w 0 (.st 2 (.t 7) (.t 31))])
  (.seq (.reg [.r 32 (.fld 0 (.t 7)),
    .o 33 (.ld1 (.t 32)),
    .r 34 (.bslice 1 [.c (.d (.str [115,101,103,109,101,110,116])),.t 33]),
    .c 35 (.f 10) [.t 34],
    .p (some 36) (.f 9) [.t 5,.t 35]])
  (.seq (.reg [.r 37 (.fld 1 (.t 7)),
    .o 38 (.ld1 (.t 37)),
    .r 39 (.len (.t 38)),
    .r 40 (.mv (.c (.d (.int .i64 0))))])
  oO))))
 (.reg [.r 87 (.bin .add (.t 28) (.c (.d (.int .i64 1)))),
   .r 28 (.mv (.t 87))]))))
def oP:SC:= .block 0 (.loop kM)
def rJ:SC:=
 (.seq (.reg [.r 1 (.boxI (.t 0)),
   .r 2 (.mv (.c (.d (.str [])))),
   .r 3 (.mv (.c (.d (.int .i64 0))))])
 (.seq (.seq (.reg [.o 13 (.ldA 4 (.t 1)),
   .c 14 (.f 6) [.t 13],
   .r 4 (.mv (.t 14))])
 (.seq (.reg [.r 15 (.mv (.t 4)),
   .r 16 (.bin .neq (.t 15) (.c (.d (.int .i64 0))))])
 (.cond (.t 16)
  (.seq (.reg [.r 17 (.mv (.t 4)),
    .r 2 (.mv (.c (.d (.str [])))),
    .r 3 (.mv (.t 17))])
  .ret)
  .skip)))
 (.seq (.reg [.w 5 (.bldM 35 5)])
 (.seq (.reg [.r 18 (.fld 0 (.t 1)),
   .o 19 (.ld1 (.t 18)),
   .r 20 (.fld 1 (.t 1)),
   .o 21 (.ld1 (.t 20)),
   .r 22 (.bslice 1 [.c (.d (.str [115,99,104,101,109,101])),.t 19,.t 21]),
   .c 23 (.f 10) [.t 22],
   .p (some 24) (.f 9) [.t 5,.t 23]])
 (.seq (.seq (.reg [.r 25 (.fld 2 (.t 1)),
   .o 26 (.ld1 (.t 25)),
   .r 27 (.len (.t 26)),
   .r 28 (.mv (.c (.d (.int .i64 0))))])
 oP)
 (.seq (.reg [.p (some 88) (.f 9) [.t 5,.c (.d (.str [105,116,101,109,115,10]))]])
 (.seq (.reg [.r 89 (.fld 3 (.t 1)),
   .o 90 (.ld1 (.t 89)),
   .p (some 91) (.f 15) [.t 5,.t 90,.c (.d (.str [32,32]))]])
 (.seq (.seq (.reg [.p (some 92) (.f 14) [.t 5],
   .r 93 (.bin .gtr (.t 92) (.c (.d (.int .i64 100000))))])
 (.cond (.t 93)
  (.seq (.reg [.r 2 (.mv (.c (.d (.str [])))),
    .r 3 (.mv (.c (.d (.int .i64 2))))])
  .ret)
  .skip))
 (.seq (.reg [.p (some 94) (.f 16) [.t 5],
   .r 2 (.mv (.t 94)),
   .r 3 (.mv (.c (.d (.int .i64 0))))])
 .ret)))))))))
theorem wB:fits Tryz.prog 4 Tryz.f4 rJ [.t 2,.t 3] 1=true:=oK
set_option maxRecDepth 100000 in
set_option maxHeartbeats 40000000 in
noncomputable def rK:(∀ (x0:ah),{m:Option ((List UInt8)×Int)//∀ r,m=some r->aa Tryz.prog 4 [.agg (aC x0)] (.tup [.str r.1,.int .i64 r.2])}):=by
 (intro x0;apply Subtype.mk;intro r hm;apply af Tryz.func4 wB;unfold rJ)
 repeat'(first|with_reducible refine bu ?_|with_reducible refine bt ?_|with_reducible refine zM ?_|with_reducible refine bf ?_|with_reducible refine be ?_|with_reducible refine bB ?_|with_reducible refine cg ?_|with_reducible refine bw ?_|with_reducible refine bv ?_|with_reducible refine ck ?_|with_reducible refine bD ?_|with_reducible refine bo ?_|with_reducible refine bE ?_|with_reducible refine du ?_|((with_reducible apply cD hm);(iterate 2 (simp only[push_cast,seval];rfl));(intro _;rfl);intro e hm)|((with_reducible apply iN);(simp only[push_cast,seval];rfl);(first|exact trivial))|((with_reducible apply tx hm);(iterate 2 (simp only[push_cast,seval];rfl));intro hm)|((with_reducible apply dJ hm);(simp only[push_cast,seval];rfl);(first|apply j1 _|apply sZ _|apply p_ _|apply g_ _|apply qE);(any_goals((repeat'(first|rfl|(with_reducible first|apply c9|apply dB|apply dA|apply ek)));done));intro x hm)|((with_reducible apply IP hm);(simp only[push_cast,seval];rfl);(first|apply sZ _);(any_goals((repeat'(first|rfl|(with_reducible first|apply c9|apply dB|apply ek)));done));(focus(intro _;rfl));intro x hm)|((with_reducible apply tQ);(simp only[push_cast,seval];rfl);(first|exact trivial))|((with_reducible apply Gy hm);(iterate 2 (simp only[push_cast,seval];rfl));(focus((repeat'(first|rfl|(with_reducible first|apply Ib|apply GJ|apply Jr)));done));(iterate 2 (simp only[push_cast,seval];rfl));(focus((repeat'(first|rfl));done));decide;(intro _;rfl);intro hm)|((with_reducible apply Jd);(simp only[push_cast,seval];rfl);(first|exact trivial);(focus((repeat'(first|exact ue));done)))|((with_reducible apply aQ hm);(simp only[push_cast,seval];rfl);intro hm;rotate_left;intro hm)|((with_reducible apply ge hm);(focus(simp only[a8,cj,RV.get,push_cast,seval];rfl));(focus(first|(dsimp only;done)));(focus((repeat'(first|rfl));done)))|((with_reducible apply bH hm);intro r hm)|((with_reducible apply cy hm);intro r hm)|((apply aF (b:=4) (X:=oN) (x:=kK) rfl (fun(c:SV×SV×SV×SV×SV×SV×SV×SV×SV) (s:(List UInt8)×Int)=>st [(1,c.1),(5,.ref 5 0),(26,c.2.1),(27,c.2.2.1),(28,c.2.2.2.1),(38,c.2.2.2.2.1),(39,c.2.2.2.2.2.1),(40,c.2.2.2.2.2.2.1),(55,c.2.2.2.2.2.2.2.1),(56,c.2.2.2.2.2.2.2.2),(57,.d (.int .i64 s.2))] [(5,.bld 35 5 s.1)]) (c:=(_,_,_,_,_,_,_,_,_)) (s0:=(_,_)) hm);(focus(first|(dsimp only;done)));(with_reducible refine cz.mk ?_ ?_))|((apply aF (b:=2) (X:=oO) (x:=kL) rfl (fun(c:SV×SV×SV×SV×SV×SV) (s:(List UInt8)×Int)=>st [(1,c.1),(5,.ref 5 0),(26,c.2.1),(27,c.2.2.1),(28,c.2.2.2.1),(38,c.2.2.2.2.1),(39,c.2.2.2.2.2),(40,.d (.int .i64 s.2))] [(5,.bld 35 5 s.1)]) (c:=(_,_,_,_,_,_)) (s0:=(_,_)) hm);(focus(first|(dsimp only;done)));(with_reducible refine cz.mk ?_ ?_))|((apply aF (b:=0) (X:=oP) (x:=kM) rfl (fun(c:SV×SV×SV) (s:(List UInt8)×Int)=>st [(1,c.1),(5,.ref 5 0),(26,c.2.1),(27,c.2.2),(28,.d (.int .i64 s.2))] [(5,.bld 35 5 s.1)]) (c:=(_,_,_)) (s0:=(_,_)) hm);(focus(first|(dsimp only;done)));(with_reducible refine cz.mk ?_ ?_))|((apply bN (s':=(_,_)) hm);(focus(first|(dsimp only;done))))|((apply cJ (s':=(_,_)) hm);(focus(first|(dsimp only;done))))|(((with_reducible apply fD hm);intro r hm))|(((with_reducible apply I0 hm);(focus(simp only[push_cast,seval];(try rfl);done));(focus(simp only[push_cast,seval];(try rfl);done));(focus(simp only[push_cast,seval];(try rfl);done));(first|apply cO _ _|apply pk _|apply gi FU _ _ _|apply m_ _);(any_goals(focus((repeat'(first|rfl));done)));(focus(intro _;exact⟨rfl,rfl⟩));intro y hm))|(((with_reducible apply Jt hm);(focus(simp only[push_cast,seval];(try rfl);done));(focus(simp only[push_cast,seval];(try rfl);done));(focus(simp only[push_cast,seval];(try rfl);done));(first|apply cO _ _);(any_goals(focus((repeat'(first|rfl));done)));(focus(intro _;exact⟨rfl,rfl⟩));(focus(intro _;(repeat'(first|exact ue))));intro y hm))|(((with_reducible apply dz.of);(focus(first|(dsimp only;done)));(focus((intro _;repeat'(first|with_reducible exact bp|with_reducible refine ba ?_|with_reducible refine dP ?_|((with_reducible refine ii ?_);intro _)|((with_reducible refine ij ?_);intro _)))));(intro s o hm;first|unfold kK|unfold kL|unfold kM);rotate_left;intro s hm))|(((apply bI;(repeat'(first|with_reducible exact aS|with_reducible exact aT|with_reducible apply aL|with_reducible apply ca|((with_reducible apply a_);(focus(first|(simp only[push_cast,seval];rfl)));(focus((repeat'(first|rfl));done)))|((with_reducible apply fx);(focus(first|(simp only[push_cast,seval];rfl)));(first|with_reducible exact cK rfl))));done))))
noncomputable def pe (x0:ah):Option ((List UInt8)×Int):=(rK x0).1
theorem vu (x0:ah):∀ r,pe x0=some r->aa Tryz.prog 4 [.agg (aC x0)] (.tup [.str r.1,.int .i64 r.2]):=(rK x0).2
def dh:SC:=
 (.seq (.reg [.r 9 (.bin .lss (.t 8) (.t 7))])
 (.seq (.cond (.t 9)
  .skip
  (.exit 0))
 (.seq (.block 1 (.seq (.reg [.r 10 (.mv (.t 8)),
    .r 3 (.mv (.t 10))])
  (.seq (.reg (.r 11 (.mv (.t 0)):: .r 12 (.mv (.t 3)):: .r 13 (.sidx (.t 11) (.t 12)):: .r 14 (.bin .lss (.t 13) (.c (.d (.int .u8 48)))):: .r 15 (.mv (.t 14))::aK [16,17,18,19] 15 false (.r 16 (.mv (.t 0)):: .r 17 (.mv (.t 3)):: .r 18 (.sidx (.t 16) (.t 17)):: .r 19 (.bin .gtr (.t 18) (.c (.d (.int .u8 57))))::[]) (.r 20 (.pick (.t 15) (.c (.d (.bool true))) (.t 19))::[])))
  (.cond (.t 20)
   (.seq (.reg [.r 2 (.mv (.c (.d (.bool false))))])
   .ret)
   .skip))))
 (.reg [.r 21 (.bin .add (.t 8) (.c (.d (.int .i64 1)))),
   .r 8 (.mv (.t 21))]))))
def fG:SC:= .block 0 (.loop dh)
def gM:SC:=
 (.seq (.reg [.r 2 (.mv (.c (.d (.bool false))))])
 (.seq (.seq (.reg [.r 4 (.mv (.t 0)),
   .r 5 (.bin .eql (.t 4) (.c (.d (.str []))))])
 (.cond (.t 5)
  (.seq (.reg [.r 2 (.mv (.c (.d (.bool false))))])
  .ret)
  .skip))
 (.seq (.seq (.reg [.r 6 (.mv (.t 0)),
   .r 7 (.lenT (.t 6)),
   .r 8 (.mv (.c (.d (.int .i64 0))))])
 fG)
 (.seq (.reg [.r 2 (.mv (.c (.d (.bool true))))])
 .ret))))
theorem ml:fits Tryz.prog 146 Tryz.f146 gM [.t 2] 1=true:=oK
def di:SC:=
 (.seq (.reg [.r 9 (.bin .lss (.t 8) (.t 7))])
 (.seq (.cond (.t 9)
  .skip
  (.exit 0))
 (.seq (.block 1 (.seq (.reg [.r 10 (.mv (.t 8)),
    .r 5 (.mv (.t 10))])
  (.seq (.reg [.r 11 (.mv (.t 4)),
    .r 12 (.bin .mul (.c (.d (.int .i64 10))) (.t 11)),
    .r 13 (.mv (.t 0)),
    .r 14 (.mv (.t 5)),
    .r 15 (.sidx (.t 13) (.t 14)),
    .r 16 (.bin .sub (.t 15) (.c (.d (.int .u8 48)))),
    .r 17 (.cvi .i64 (.t 16)),
    .r 18 (.bin .add (.t 12) (.t 17)),
    .r 4 (.mv (.t 18))])
  (.seq (.reg [.r 19 (.mv (.t 4)),
    .r 20 (.bin .gtr (.t 19) (.c (.d (.int .i64 1000000000000000))))])
  (.cond (.t 20)
   (.seq (.reg [.r 2 (.mv (.c (.d (.int .i64 0)))),
     .r 3 (.mv (.c (.d (.bool false))))])
   .ret)
   .skip)))))
 (.reg [.r 21 (.bin .add (.t 8) (.c (.d (.int .i64 1)))),
   .r 8 (.mv (.t 21))]))))
def fH:SC:= .block 0 (.loop di)
def gN:SC:=
 (.seq (.reg [.r 2 (.mv (.c (.d (.int .i64 0)))),
   .r 3 (.mv (.c (.d (.bool false))))])
 (.seq (.reg [.r 4 (.mv (.c (.d (.int .i64 0))))])
 (.seq (.seq (.reg [.r 6 (.mv (.t 0)),
   .r 7 (.lenT (.t 6)),
   .r 8 (.mv (.c (.d (.int .i64 0))))])
 fH)
 (.seq (.reg [.r 22 (.mv (.t 4)),
   .r 2 (.mv (.t 22)),
   .r 3 (.mv (.c (.d (.bool true))))])
 .ret))))
theorem mm:fits Tryz.prog 147 Tryz.f147 gN [.t 2,.t 3] 1=true:=oK
set_option maxRecDepth 100000 in
set_option maxHeartbeats 40000000 in
noncomputable def jY:(∀ (x0:List UInt8),{m:Option (Bool)//∀ r,m=some r->aa Tryz.prog 146 [.str x0] (.bool r)})×(∀ (x0:List UInt8),{m:Option (Int×Bool)//∀ r,m=some r->aa Tryz.prog 147 [.str x0] (.tup [.int .i64 r.1,.bool r.2])}):=by
 refine⟨?g0, ?g1⟩
 case' g0=>(intro x0;apply Subtype.mk;intro r hm;apply af Tryz.func146 ml;unfold gM)
 case' g1=>(intro x0;apply Subtype.mk;intro r hm;apply af Tryz.func147 mm;unfold gN)
 all_goals(repeat'(first|with_reducible refine bu ?_|with_reducible refine bt ?_|with_reducible refine bf ?_|with_reducible refine be ?_|with_reducible refine bB ?_|with_reducible refine cg ?_|with_reducible refine bw ?_|with_reducible refine bv ?_|with_reducible refine ck ?_|with_reducible refine bD ?_|with_reducible refine bo ?_|with_reducible refine bE ?_|((with_reducible apply jv hm);(iterate 2 (simp only[push_cast,seval];rfl));intro e hm)|((with_reducible apply iN);(simp only[push_cast,seval];rfl);(first|exact trivial))|((with_reducible apply mV hm);(simp only[push_cast,seval];rfl);rfl;intro v hm;rotate_left;intro v g hm)|((with_reducible apply aQ hm);(simp only[push_cast,seval];rfl);intro hm;rotate_left;intro hm)|((with_reducible apply ge hm);(focus(simp only[a8,cj,RV.get,push_cast,seval];rfl));(focus(first|(dsimp only;done)));(focus((repeat'(first|rfl));done)))|((with_reducible apply bF hm);(focus(simp only[a8,cj,RV.get,push_cast,seval];rfl));(focus((repeat'(first|rfl));done)))|((with_reducible apply bO hm);(simp only[push_cast,seval];rfl))|((with_reducible apply bH hm);intro r hm)|((with_reducible apply cy hm);intro r hm)|((apply aF (b:=0) (X:=fG) (x:=dh) rfl (fun(c:SV×SV) (s:Int)=>st [(0,c.1),(7,c.2),(8,.d (.int .i64 s))] []) (c:=(_,_)) (s0:=_) hm);(focus(first|(dsimp only;done)));(with_reducible refine cz.mk ?_ ?_))|((apply aF (b:=0) (X:=fH) (x:=di) rfl (fun(c:SV×SV) (s:Int×Int)=>st [(0,c.1),(4,.d (.int .i64 s.1)),(7,c.2),(8,.d (.int .i64 s.2))] []) (c:=(_,_)) (s0:=(_,_)) hm);(focus(first|(dsimp only;done)));(with_reducible refine cz.mk ?_ ?_))|((apply bN (s':=(_,_)) hm);(focus(first|(dsimp only;done))))|((apply cJ (s':=(_,_)) hm);(focus(first|(dsimp only;done))))|((apply bN (s':=_) hm);(focus(first|(dsimp only;done))))|((apply cJ (s':=_) hm);(focus(first|(dsimp only;done))))|(((with_reducible apply fD hm);intro r hm))|(((with_reducible apply dz.of);(focus(first|(dsimp only;done)));(focus((intro _;repeat'(first|with_reducible exact bp|with_reducible refine ba ?_))));(intro s o hm;first|unfold dh|unfold di);rotate_left;intro s hm))|(((apply bI;(repeat'(first|with_reducible exact aS|with_reducible exact aT|with_reducible apply aL|((with_reducible apply a_);(focus(first|(simp only[push_cast,seval];rfl)));(focus((repeat'(first|rfl));done)))));done)))))
noncomputable def em (x0:List UInt8):Option (Bool):=(jY.1 x0).1
theorem fV (x0:List UInt8):∀ r,em x0=some r->aa Tryz.prog 146 [.str x0] (.bool r):=(jY.1 x0).2
noncomputable def cL (x0:List UInt8):Option (Int×Bool):=(jY.2 x0).1
theorem fW (x0:List UInt8):∀ r,cL x0=some r->aa Tryz.prog 147 [.str x0] (.tup [.int .i64 r.1,.bool r.2]):=(jY.2 x0).2
def gO:SC:=
 (.seq (.reg [.w 2 (.boxM (.c (.agg [.d (.int .i64 0),.d (.int .i64 0)]))),
   .r 3 (.mv (.c (.d (.int .i64 0))))])
 (.seq (.seq (.reg [.r 11 (.mv (.t 0)),
   .r 12 (.lenT (.t 11)),
   .r 13 (.bin .gtr (.t 12) (.c (.d (.int .i64 40))))])
 (.cond (.t 13)
  (.seq (.reg [.r 14 (.build [.d (.int .i64 0),.d (.int .i64 0)] []),
    .w 0 (.st 2 (.t 2) (.t 14)),
    .r 3 (.mv (.c (.d (.int .i64 10))))])
  .ret)
  .skip))
 (.seq (.reg [.r 16 (.mv (.t 0)),
   .c 17 (.f 140) [.t 16,.c (.d (.str [45]))],
   .r 15 (.mv (.t 17)),
   .r 18 (.ext (.t 15) 0),
   .r 19 (.ext (.t 15) 1),
   .r 4 (.mv (.t 18)),
   .r 5 (.mv (.t 19))])
 (.seq (.reg [.r 21 (.mv (.t 4)),
   .c 22 (.f 141) [.t 21,.c (.d (.str [46]))],
   .r 20 (.mv (.t 22)),
   .r 23 (.ext (.t 20) 0),
   .r 24 (.ext (.t 20) 1),
   .r 25 (.ext (.t 20) 2),
   .r 6 (.mv (.t 23)),
   .r 7 (.mv (.t 24)),
   .r 8 (.mv (.t 25))])
 (.seq (.seq (.reg (.r 26 (.mv (.t 6)):: .c 27 (.f 146) [.t 26]:: .r 28 (.not (.t 27)):: .r 29 (.mv (.t 28))::aK [30,31,32,33,34,35,36,37] 29 false (.r 30 (.mv (.t 6)):: .r 31 (.lenT (.t 30)):: .r 32 (.bin .gtr (.t 31) (.c (.d (.int .i64 1)))):: .r 33 (.mv (.t 32))::aK [34,35,36] 33 true (.r 34 (.mv (.t 6)):: .r 35 (.sidx (.t 34) (.c (.d (.int .i64 0)))):: .r 36 (.bin .eql (.t 35) (.c (.d (.int .u8 48))))::[]) (.r 37 (.pick (.t 33) (.t 36) (.c (.d (.bool false))))::[])) (.r 38 (.pick (.t 29) (.c (.d (.bool true))) (.t 37)):: .r 39 (.mv (.t 38))::aK [40,41,42,43,44,45] 39 false (.r 40 (.mv (.t 8)):: .r 41 (.mv (.t 40))::aK [42,43,44] 41 true (.r 42 (.mv (.t 7)):: .c 43 (.f 146) [.t 42]:: .r 44 (.not (.t 43))::[]) (.r 45 (.pick (.t 41) (.t 44) (.c (.d (.bool false))))::[])) (.r 46 (.pick (.t 39) (.c (.d (.bool true))) (.t 45)):: .r 47 (.mv (.t 46))::aK [48,49,50] 47 false (.r 48 (.mv (.t 7)):: .r 49 (.lenT (.t 48)):: .r 50 (.bin .gtr (.t 49) (.c (.d (.int .i64 9))))::[]) (.r 51 (.pick (.t 47) (.c (.d (.bool true))) (.t 50))::[])))))
 (.cond (.t 51)
  (.seq (.reg [.r 52 (.build [.d (.int .i64 0),.d (.int .i64 0)] []),
    .w 0 (.st 2 (.t 2) (.t 52)),
    .r 3 (.mv (.c (.d (.int .i64 10))))])
  .ret)
  .skip))
 (.seq (.seq (.reg (.r 53 (.mv (.t 5)):: .r 54 (.mv (.t 53))::aK [55,56,57,58,59] 54 true (.r 55 (.mv (.t 6)):: .r 56 (.mv (.t 7)):: .r 57 (.bin .add (.t 55) (.t 56)):: .c 58 (.f 35) [.t 57,.c (.d (.str [48]))]:: .r 59 (.bin .eql (.t 58) (.c (.d (.str []))))::[]) (.r 60 (.pick (.t 54) (.t 59) (.c (.d (.bool false))))::[])))
 (.cond (.t 60)
  (.seq (.reg [.r 61 (.build [.d (.int .i64 0),.d (.int .i64 0)] []),
    .w 0 (.st 2 (.t 2) (.t 61)),
    .r 3 (.mv (.c (.d (.int .i64 10))))])
  .ret)
  .skip))
 (.seq (.reg [.r 63 (.mv (.t 6)),
   .r 64 (.mv (.t 7)),
   .r 65 (.bin .add (.t 63) (.t 64)),
   .c 66 (.f 147) [.t 65],
   .r 62 (.mv (.t 66)),
   .r 67 (.ext (.t 62) 0),
   .r 68 (.ext (.t 62) 1),
   .r 9 (.mv (.t 67)),
   .r 10 (.mv (.t 68))])
 (.seq (.seq (.reg [.r 69 (.mv (.t 10)),
   .r 70 (.not (.t 69))])
 (.cond (.t 70)
  (.seq (.reg [.r 71 (.build [.d (.int .i64 0),.d (.int .i64 0)] []),
    .w 0 (.st 2 (.t 2) (.t 71)),
    .r 3 (.mv (.c (.d (.int .i64 1))))])
  .ret)
  .skip))
 (.seq (.seq (.reg [.r 72 (.mv (.t 5))])
 (.cond (.t 72)
  (.reg [.r 73 (.mv (.t 9)),
    .r 74 (.neg (.t 73)),
    .r 9 (.mv (.t 74))])
  .skip))
 (.seq (.reg [.r 75 (.mv (.t 9)),
   .r 76 (.mv (.t 7)),
   .r 77 (.lenT (.t 76)),
   .r 78 (.build [.d (.int .i64 0),.d (.int .i64 0)] [(0,1,.t 75),(1,1,.t 77)]),
   .w 0 (.st 2 (.t 2) (.t 78)),
   .r 3 (.mv (.c (.d (.int .i64 0))))])
 .ret))))))))))
theorem mn:fits Tryz.prog 129 Tryz.f129 gO [.cell 2 2,.t 3] 1=true:=oK
set_option maxRecDepth 100000 in
set_option maxHeartbeats 40000000 in
noncomputable def rf:(∀ (x0:List UInt8),{m:Option (bC×Int)//∀ r,m=some r->aa Tryz.prog 129 [.str x0] (.tup [.agg (cn r.1),.int .i64 r.2])}):=by
 (intro x0;apply Subtype.mk;intro r hm;apply af Tryz.func129 mn;unfold gO)
 repeat'(first|with_reducible refine bu ?_|with_reducible refine bt ?_|with_reducible refine be ?_|with_reducible refine bB ?_|with_reducible refine bw ?_|with_reducible refine bv ?_|with_reducible refine bD ?_|((with_reducible apply jv hm);(iterate 2 (simp only[push_cast,seval];rfl));intro e hm)|((with_reducible apply iN);(simp only[push_cast,seval];rfl);(first|exact trivial))|((with_reducible apply tx hm);(iterate 2 (simp only[push_cast,seval];rfl));intro hm)|((with_reducible apply eE hm);(simp only[push_cast,seval];rfl);rfl;intro v hm;rotate_left;intro v g hm)|((with_reducible apply mV hm);(simp only[push_cast,seval];rfl);rfl;intro v hm;rotate_left;intro v g hm)|((with_reducible apply dJ hm);(simp only[push_cast,seval];rfl);(first|apply kQ _ _|apply pK _ _|apply fV _|apply o5 _ _|apply fW _);(any_goals((repeat'(first|rfl));done));intro x hm)|((with_reducible apply tQ);(simp only[push_cast,seval];rfl);(first|exact trivial))|((with_reducible apply aQ hm);(simp only[push_cast,seval];rfl);intro hm;rotate_left;intro hm)|((with_reducible apply ge hm);(focus(simp only[a8,cj,RV.get,push_cast,seval];rfl));(focus(first|(dsimp only;done)));(focus((repeat'(first|rfl|(with_reducible first|apply jw|apply wk|apply oq|apply dB)));done)))|((with_reducible apply bO hm);(simp only[push_cast,seval];rfl)))
noncomputable def en (x0:List UInt8):Option (bC×Int):=(rf x0).1
theorem lU (x0:List UInt8):∀ r,en x0=some r->aa Tryz.prog 129 [.str x0] (.tup [.agg (cn r.1),.int .i64 r.2]):=(rf x0).2
end Go.Proofs.YtgocgdgknpdknaaGreatDoor
