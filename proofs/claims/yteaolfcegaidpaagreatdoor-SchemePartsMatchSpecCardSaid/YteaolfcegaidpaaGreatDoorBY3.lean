/-
  Laws on the way to the theorem.
-/
import Derived.Test.YteaolfcegaidpaaGreatDoorBY2
namespace Go.Proofs.YteaolfcegaidpaaGreatDoor
open Go.RowKit
set_option linter.unusedSimpArgs false
set_option linter.unusedVariables false
structure aC where
 fs:br
 fmany:Int
def aM (x:aC):List DV:=cR x.fs++[.int .i64 x.fmany]
attribute [push_cast] aM
theorem mn {d0 d1 d2 d3 d4:SV} {v0:br} {v1:Int} (h0:ba [d0,d1,d2,d3] (dR (cR v0))) (h1:tw d4 (.d (.int .i64 v1))):ba [d0,d1,d2,d3,d4] (iP [.sh,.sh,.sh,.sh,.sh] (aM ⟨v0,v1⟩)):=by have h:=(ba.append h0 (ba.consS h1 ba.nil));simp only[push_cast,seval,dR] at h⊢;exact h
def qP (p0:br) (p1:Int):List SV:=dR (cR p0)++([.d (.int .i64 p1)])
attribute [push_cast] qP
def jP:SC:=
 (.seq (.reg [.r 17 (.bin .lss (.t 16) (.t 15))])
 (.seq (.cond (.t 17)
  .skip
  (.exit 1))
 (.seq (.block 2 (.seq (.reg [.r 18 (.mv (.t 16)),
    .r 5 (.mv (.t 18))])
  (.seq (.reg [.r 19 (.mv (.t 0)),
    .r 20 (.mv (.t 5)),
    .r 21 (.sidx (.t 19) (.t 20)),
    .r 6 (.mv (.t 21))])
  (.seq (.reg (.r 22 (.mv (.t 6)):: .r 23 (.bin .lss (.t 22) (.c (.d (.int .u8 65)))):: .r 24 (.mv (.t 23))::aV [25,26] 24 false (.r 25 (.mv (.t 6)):: .r 26 (.bin .gtr (.t 25) (.c (.d (.int .u8 90))))::[]) (.r 27 (.pick (.t 24) (.c (.d (.bool true))) (.t 26)):: .r 28 (.mv (.t 27))::aV [29,30,31,32,33,34] 28 true (.r 29 (.mv (.t 6)):: .r 30 (.bin .lss (.t 29) (.c (.d (.int .u8 97)))):: .r 31 (.mv (.t 30))::aV [32,33] 31 false (.r 32 (.mv (.t 6)):: .r 33 (.bin .gtr (.t 32) (.c (.d (.int .u8 122))))::[]) (.r 34 (.pick (.t 31) (.c (.d (.bool true))) (.t 33))::[])) (.r 35 (.pick (.t 28) (.t 34) (.c (.d (.bool false)))):: .r 36 (.mv (.t 35))::aV [37,38] 36 true (.r 37 (.mv (.t 6)):: .r 38 (.bin .neq (.t 37) (.c (.d (.int .u8 32))))::[]) (.r 39 (.pick (.t 36) (.t 38) (.c (.d (.bool false))))::[])))))
  (.cond (.t 39)
   (.seq (.reg [.r 4 (.mv (.c (.d (.bool false))))])
   .ret)
   .skip)))))
 (.reg [.r 40 (.bin .add (.t 16) (.c (.d (.int .i64 1)))),
   .r 16 (.mv (.t 40))]))))
def ob:SC:= .block 1 (.loop jP)
def qQ:SC:=
 (.seq (.reg [.r 4 (.mv (.c (.d (.bool false))))])
 (.seq (.seq (.reg [.r 11 (.mv (.t 1))])
 (.block 0 (.seq (.reg [.r 13 (.bin .eql (.t 11) (.c (.d (.int .i64 2)))),
    .r 12 (.mv (.t 13))])
  (.cond (.t 12)
   (.seq (.reg [.r 14 (.mv (.t 0)),
     .r 15 (.lenT (.t 14)),
     .r 16 (.mv (.c (.d (.int .i64 0))))])
   ob)
   (.seq (.reg [.r 42 (.bin .eql (.t 11) (.c (.d (.int .i64 3)))),
     .r 41 (.mv (.t 42))])
   (.cond (.t 41)
    (.seq (.reg [.r 43 (.mv (.t 0)),
      .c 44 (.f 151) [.t 43],
      .r 4 (.mv (.t 44))])
    .ret)
    (.seq (.reg [.r 46 (.bin .eql (.t 11) (.c (.d (.int .i64 4)))),
      .r 45 (.mv (.t 46))])
    (.cond (.t 45)
     (.seq (.reg [.r 48 (.mv (.t 0)),
       .c 49 (.f 179) [.t 48],
       .r 47 (.mv (.t 49)),
       .r 50 (.ext (.t 47) 0),
       .r 51 (.ext (.t 47) 1),
       .w 7 (.boxM (.c (.agg [.d (.int .i64 0),.d (.int .i64 0)]))),
       .w 0 (.st 2 (.t 7) (.t 50)),
       .r 8 (.mv (.t 51))])
     (.seq (.reg [.r 52 (.mv (.t 8)),
       .r 53 (.bin .eql (.t 52) (.c (.d (.int .i64 0)))),
       .r 4 (.mv (.t 53))])
     .ret))
     (.seq (.reg [.r 55 (.bin .eql (.t 11) (.c (.d (.int .i64 5)))),
       .r 54 (.mv (.t 55))])
     (.cond (.t 54)
      (.seq (.reg [.r 57 (.mv (.t 0)),
        .c 58 (.f 180) [.t 57,.c (.d (.int .i64 1)),.c (.d (.int .i64 1))],
        .r 56 (.mv (.t 58)),
        .r 59 (.ext (.t 56) 0),
        .r 60 (.ext (.t 56) 1),
        .r 9 (.mv (.t 59)),
        .r 10 (.mv (.t 60))])
      (.seq (.reg [.r 61 (.mv (.t 10)),
        .r 62 (.bin .eql (.t 61) (.c (.d (.int .i64 0)))),
        .r 4 (.mv (.t 62))])
      .ret))
      .skip))))))))))
 (.seq (.reg [.r 4 (.mv (.c (.d (.bool true))))])
 .ret)))
theorem wD:fits Tryz.prog 164 Tryz.f164 qQ [.t 4] 2=true:=oK
def aF:SC:=
 (.seq (.seq (.reg [.r 15 (.mv (.t 9)),
   .r 16 (.mv (.t 10)),
   .r 17 (.bin .lss (.t 15) (.t 16))])
 (.cond (.t 17)
  .skip
  (.exit 0)))
 (.block 1 (.seq (.reg [.r 18 (.mv (.t 9)),
    .r 19 (.mv (.t 10)),
    .r 20 (.bin .add (.t 18) (.t 19)),
    .r 21 (.cvi .u64 (.t 20)),
    .r 22 (.bin .shr (.t 21) (.c (.d (.int .u64 1)))),
    .r 23 (.cvi .i64 (.t 22)),
    .r 11 (.mv (.t 23))])
  (.seq (.reg [.r 24 (.mv (.t 2)),
    .r 25 (.mv (.t 0)),
    .r 26 (.mv (.t 11)),
    .r 27 (.idx 2 (.t 25) (.t 26)),
    .o 28 (.ldA 2 (.t 27)),
    .r 29 (.mv (.t 1)),
    .c 30 (.t 24) [.t 28,.t 29],
    .r 31 (.bin .lss (.t 30) (.c (.d (.int .i64 0))))])
  (.cond (.t 31)
   (.reg [.r 32 (.mv (.t 11)),
     .r 33 (.bin .add (.t 32) (.c (.d (.int .i64 1)))),
     .r 9 (.mv (.t 33))])
   (.reg [.r 34 (.mv (.t 11)),
     .r 10 (.mv (.t 34))]))))))
def aZ:SC:= .block 0 (.loop aF)
def bg:SC:=
 (.seq (.reg [.r 6 (.mv (.c (.d (.int .i64 0)))),
   .r 7 (.mv (.c (.d (.bool false))))])
 (.seq (.reg [.r 12 (.mv (.t 0)),
   .r 13 (.len (.t 12)),
   .r 8 (.mv (.t 13))])
 (.seq (.reg [.r 14 (.mv (.t 8)),
   .r 9 (.mv (.c (.d (.int .i64 0)))),
   .r 10 (.mv (.t 14))])
 (.seq aZ
 (.seq (.reg (.r 35 (.mv (.t 9)):: .r 36 (.mv (.t 9)):: .r 37 (.mv (.t 8)):: .r 38 (.bin .lss (.t 36) (.t 37)):: .r 39 (.mv (.t 38))::aV [40,41,42,43,44,45,46,47] 39 true (.r 40 (.mv (.t 2)):: .r 41 (.mv (.t 0)):: .r 42 (.mv (.t 9)):: .r 43 (.idx 2 (.t 41) (.t 42)):: .r 44 (.ldA 2 (.t 43)):: .r 45 (.mv (.t 1)):: .c 46 (.t 40) [.t 44,.t 45]:: .r 47 (.bin .eql (.t 46) (.c (.d (.int .i64 0))))::[]) (.r 48 (.pick (.t 39) (.t 47) (.c (.d (.bool false)))):: .r 6 (.mv (.t 35)):: .r 7 (.mv (.t 48))::[])))
 .ret)))))
theorem cy:fits Tryz.prog 125 Tryz.f125 bg [.t 6,.t 7] 3=true:=oK
def rW:SC:=
 (.seq (.reg [.r 2 (.boxI (.t 0)),
   .r 4 (.mv (.c (.d (.int .i64 0))))])
 (.seq (.reg [.r 5 (.fld 0 (.t 2)),
   .o 6 (.ld1 (.t 5)),
   .r 7 (.mv (.t 1)),
   .c 8 (.f 127) [.t 6,.t 7],
   .r 4 (.mv (.t 8))])
 .ret))
theorem xD:fits Tryz.prog 126 Tryz.f126 rW [.t 4] 2=true:=oK
set_option maxRecDepth 100000 in
set_option maxHeartbeats 40000000 in
noncomputable def g_:(∀ (x0:List UInt8) (x1:Int),{m:Option (Bool)//∀ r,m=some r->aa Tryz.prog 164 [.str x0,.int .i64 x1] (.bool r)})×(∀ (x0:List ah) (x1:List UInt8) (f2:FuncId) (c2:List DV) (p2:ah->(List UInt8)->Option (Int)) (h2:∀ a0 a1 r,p2 a0 a1=some r->aa Tryz.prog f2 ([.agg (ak a0),.str a1]++c2) (.int .i64 r)),{m:Option (Int×Bool)//∀ r,m=some r->aa Tryz.prog 125 [.slice (List.map ak x0),.str x1,.fn f2 c2] (.tup [.int .i64 r.1,.bool r.2])})×(∀ (x0:ah) (x1:List UInt8),{m:Option (Int)//∀ r,m=some r->aa Tryz.prog 126 [.agg (ak x0),.str x1] (.int .i64 r)}):=by
 refine⟨?g0, ?g1, ?g2⟩
 case' g0=>(intro x0 x1;apply Subtype.mk;intro r hm;apply af Tryz.func164 wD;unfold qQ)
 case' g1=>(intro x0 x1 f2 c2 p2 h2;apply Subtype.mk;intro r hm;apply af Tryz.func125 cy;unfold bg)
 case' g2=>(intro x0 x1;apply Subtype.mk;intro r hm;apply af Tryz.func126 xD;unfold rW)
 all_goals(repeat'(first|with_reducible refine bA ?_|with_reducible refine bt ?_|with_reducible refine bm ?_|with_reducible refine bl ?_|with_reducible refine bR ?_|with_reducible refine cw ?_|with_reducible refine bv ?_|with_reducible refine bB ?_|with_reducible refine cx ?_|with_reducible refine cb ?_|with_reducible refine bq ?_|with_reducible refine cg ?_|with_reducible refine dI ?_|((with_reducible apply dz hm);(iterate 2 (simp only[push_cast,seval];rfl));(intro _;rfl);intro e hm)|((with_reducible apply nA hm);(iterate 2 (simp only[push_cast,seval];rfl));intro e hm)|((with_reducible apply im);(simp only[push_cast,seval];rfl);(first|exact trivial))|((with_reducible apply G6 hm);(iterate 2 (simp only[push_cast,seval];rfl));intro hm)|((with_reducible apply fG hm);(simp only[push_cast,seval];rfl);rfl;intro v hm;rotate_left;intro v g hm)|((with_reducible apply qC hm);(simp only[push_cast,seval];rfl);rfl;intro v hm;rotate_left;intro v g hm)|((with_reducible apply fg hm);(simp only[push_cast,seval];rfl);(first|apply jW _|apply uT _|apply wC _ _ _|apply vX _ _);(any_goals((repeat'(first|rfl));done));intro x hm)|((with_reducible apply Hd hm);(iterate 2 (simp only[push_cast,seval];rfl));(focus(first|exact h2 _ _));intro x hm)|((with_reducible apply wM);(simp only[push_cast,seval];rfl);(first|exact trivial))|((with_reducible apply aO hm);(simp only[push_cast,seval];rfl);intro hm;rotate_left;intro hm)|((with_reducible apply jO hm);(focus(simp only[bu,dc,RV.get,push_cast,seval];rfl));(focus(first|(dsimp only;done)));(focus((repeat'(first|rfl));done)))|((with_reducible apply bQ hm);(focus(simp only[bu,dc,RV.get,push_cast,seval];rfl));(focus((repeat'(first|rfl));done)))|((with_reducible apply cJ hm);(simp only[push_cast,seval];rfl))|((with_reducible apply bE hm);intro r hm)|((with_reducible apply di hm);intro r hm)|((apply az (b:=1) (X:=ob) (x:=jP) rfl (fun(c:SV×SV) (s:Int)=>st [(0,c.1),(15,c.2),(16,.d (.int .i64 s))] []) (c:=(_,_)) (s0:=_) hm);(focus(first|(dsimp only;done)));(with_reducible refine cN.mk ?_ ?_))|((apply az (b:=0) (X:=aZ) (x:=aF) rfl (fun(c:SV×SV×SV×SV) (s:Int×Int)=>st [(0,c.1),(1,c.2.1),(2,c.2.2.1),(8,c.2.2.2),(9,.d (.int .i64 s.1)),(10,.d (.int .i64 s.2))] []) (c:=(_,_,_,_)) (s0:=(_,_)) hm);(focus(first|(dsimp only;done)));(with_reducible refine cN.mk ?_ ?_))|((apply bG (s':=(_,_)) hm);(focus(first|(dsimp only;done))))|((apply cZ (s':=(_,_)) hm);(focus(first|(dsimp only;done))))|((apply bG (s':=_) hm);(focus(first|(dsimp only;done))))|((apply cZ (s':=_) hm);(focus(first|(dsimp only;done))))|(((with_reducible apply gq hm);intro r hm))|(((with_reducible apply dC.of);(focus(first|(dsimp only;done)));(focus((intro _;repeat'(first|with_reducible exact bo|with_reducible refine aG ?_|with_reducible refine dj ?_))));(intro s o hm;first|unfold jP|unfold aF);rotate_left;intro s hm))|(((apply aW;(repeat'(first|with_reducible exact aw|with_reducible exact ax|with_reducible apply ap|((with_reducible apply aP);(focus(first|(simp only[push_cast,seval];rfl)));(focus((repeat'(first|rfl));done)))));done)))))
noncomputable def nG (x0:List UInt8) (x1:Int):Option (Bool):=(g_.1 x0 x1).1
theorem ph (x0:List UInt8) (x1:Int):∀ r,nG x0 x1=some r->aa Tryz.prog 164 [.str x0,.int .i64 x1] (.bool r):=(g_.1 x0 x1).2
noncomputable def aJ (x0:List ah) (x1:List UInt8) (f2:FuncId) (c2:List DV) (p2:ah->(List UInt8)->Option (Int)) (h2:∀ a0 a1 r,p2 a0 a1=some r->aa Tryz.prog f2 ([.agg (ak a0),.str a1]++c2) (.int .i64 r)):Option (Int×Bool):=(g_.2.1 x0 x1 f2 c2 p2 h2).1
theorem cu (x0:List ah) (x1:List UInt8) (f2:FuncId) (c2:List DV) (p2:ah->(List UInt8)->Option (Int)) (h2:∀ a0 a1 r,p2 a0 a1=some r->aa Tryz.prog f2 ([.agg (ak a0),.str a1]++c2) (.int .i64 r)):∀ r,aJ x0 x1 f2 c2 p2 h2=some r->aa Tryz.prog 125 [.slice (List.map ak x0),.str x1,.fn f2 c2] (.tup [.int .i64 r.1,.bool r.2]):=(g_.2.1 x0 x1 f2 c2 p2 h2).2
noncomputable def eT (x0:ah) (x1:List UInt8):Option (Int):=(g_.2.2 x0 x1).1
theorem lC (x0:ah) (x1:List UInt8):∀ r,eT x0 x1=some r->aa Tryz.prog 126 [.agg (ak x0),.str x1] (.int .i64 r):=(g_.2.2 x0 x1).2
def mo:SC:=
 (.seq (.reg [.r 10 (.bin .lss (.t 9) (.t 8))])
 (.seq (.cond (.t 10)
  .skip
  (.exit 0))
 (.seq (.block 1 (.seq (.reg [.r 11 (.idx 5 (.t 7) (.t 9)),
    .o 12 (.ldA 5 (.t 11)),
    .w 6 (.boxM (.c (.agg [.d (.str []),.d (.str []),.d (.int .i64 0),.d (.int .i64 0),.nils]))),
    .w 0 (.st 5 (.t 6) (.t 12))])
  (.seq (.seq (.reg [.r 13 (.fld 1 (.t 6)),
    .o 14 (.ld1 (.t 13)),
    .r 15 (.bin .eql (.t 14) (.c (.d (.str []))))])
  (.cond (.t 15)
   (.exit 1)
   .skip))
  (.seq (.seq (.reg [.r 16 (.mv (.t 1)),
    .r 17 (.fld 1 (.t 6)),
    .o 18 (.ld1 (.t 17)),
    .o 19 (.look .str (.d (.bool false)) false (.t 16) (.t 18))])
  (.cond (.t 19)
   (.seq (.reg [.r 4 (.mv (.c (.d (.bool true))))])
   .ret)
   .skip))
  (.seq (.reg [.r 20 (.mv (.t 1)),
    .r 21 (.fld 1 (.t 6)),
    .o 22 (.ld1 (.t 21)),
    .w 0 (.mset .str (.t 20) (.t 22) (.c (.d (.bool true))))])
  (.seq (.reg [.r 23 (.fld 4 (.t 6)),
    .o 24 (.ld1 (.t 23)),
    .r 25 (.mv (.t 1)),
    .p (some 26) (.f 50) [.t 24,.t 25]])
  (.cond (.t 26)
   (.seq (.reg [.r 4 (.mv (.c (.d (.bool true))))])
   .ret)
   .skip)))))))
 (.reg [.r 27 (.bin .add (.t 9) (.c (.d (.int .i64 1)))),
   .r 9 (.mv (.t 27))]))))
def qR:SC:= .block 0 (.loop mo)
def t_:SC:=
 (.seq (.reg [.r 4 (.mv (.c (.d (.bool false))))])
 (.seq (.seq (.reg [.r 7 (.mv (.t 0)),
   .r 8 (.len (.t 7)),
   .r 9 (.mv (.c (.d (.int .i64 0))))])
 qR)
 (.seq (.reg [.r 4 (.mv (.c (.d (.bool false))))])
 .ret)))
theorem zt:fits Tryz.prog 50 Tryz.f50 t_ [.t 4] 2=true:=oK
set_option maxRecDepth 100000 in
set_option maxHeartbeats 40000000 in
noncomputable def vb:((∀ (x0:List ao) (x1:List ((List UInt8)×Bool)),{m:Option ((Bool)×(List ((List UInt8)×Bool)))//∀ r,m=some r->cF Tryz.prog 50 (.d (.slice (List.map al x0)):: .own (.mp .str .sh) (wy .str (fun v=> .bool v) x1)::(List.map SV.d ([]:List DV))) (.d (.bool r.1)) (.d (.slice (List.map al x0)):: .own (.mp .str .sh) (wy .str (fun v=> .bool v) r.2)::(List.map SV.d ([]:List DV)))}))->((∀ (x0:List ao) (x1:List ((List UInt8)×Bool)),{m:Option ((Bool)×(List ((List UInt8)×Bool)))//∀ r,m=some r->cF Tryz.prog 50 (.d (.slice (List.map al x0)):: .own (.mp .str .sh) (wy .str (fun v=> .bool v) x1)::(List.map SV.d ([]:List DV))) (.d (.bool r.1)) (.d (.slice (List.map al x0)):: .own (.mp .str .sh) (wy .str (fun v=> .bool v) r.2)::(List.map SV.d ([]:List DV)))})):=by
 intro ih
 have nH:∀ (x0:List ao) (x1:List ((List UInt8)×Bool)),∀ r,(ih x0 x1).1=some r->cF Tryz.prog 50 (.d (.slice (List.map al x0)):: .own (.mp .str .sh) (wy .str (fun v=> .bool v) x1)::(List.map SV.d ([]:List DV))) (.d (.bool r.1)) (.d (.slice (List.map al x0)):: .own (.mp .str .sh) (wy .str (fun v=> .bool v) r.2)::(List.map SV.d ([]:List DV))):=fun x0 x1=>(ih x0 x1).2
 (intro x0 x1;apply Subtype.mk;intro r hm;apply D9 (N:=28) (k:=2) Tryz.func50 zt oK rfl (AJ (ke:= .str) (f:=(fun v=> .bool v)) x1) rfl oD;unfold t_)
 repeat'(first|with_reducible refine bA ?_|with_reducible refine bt ?_|with_reducible refine bm ?_|with_reducible refine bl ?_|with_reducible refine bR ?_|with_reducible refine cw ?_|with_reducible refine bv ?_|with_reducible refine bB ?_|with_reducible refine cx ?_|with_reducible refine cb ?_|with_reducible refine bq ?_|with_reducible refine cg ?_|with_reducible refine sI ?_|with_reducible refine dI ?_|((with_reducible apply dz hm);(iterate 2 (simp only[push_cast,seval, -List.reduceReplicate];rfl));(intro _;rfl);intro e hm)|((with_reducible apply im);(simp only[push_cast,seval, -List.reduceReplicate];rfl);(first|exact trivial))|((with_reducible apply wM);(simp only[push_cast,seval, -List.reduceReplicate];rfl);(first|exact trivial))|((with_reducible apply G9);(iterate 3 (simp only[push_cast,seval, -List.reduceReplicate];rfl));(iterate 2 rfl))|((with_reducible apply aO hm);(simp only[push_cast,seval, -List.reduceReplicate];rfl);intro hm;rotate_left;intro hm)|((with_reducible apply bE hm);intro r hm)|((with_reducible apply di hm);intro r hm)|((apply az (b:=0) (X:=qR) (x:=mo) rfl (fun(c:SV×SV×SV) (s:(List ((List UInt8)×Bool))×Int)=>st [(1,.mp 1),(7,c.1),(8,c.2.1),(9,.d (.int .i64 s.2)),(28,c.2.2),(29,.mp 1)] [(1,.map .str (iL .str (fun v=> .d (.bool v)) s.1))]) (c:=(_,_,_)) (s0:=(_,_)) hm);(focus(first|(dsimp only;done)));(with_reducible refine cN.mk ?_ ?_))|((apply bG (s':=(_,_)) hm);(focus(first|(dsimp only;done))))|((apply cZ (s':=(_,_)) hm);(focus(first|(dsimp only;done))))|(((with_reducible apply gq hm);intro r hm))|(((with_reducible apply JH hm);(focus(simp only[push_cast,seval, -List.reduceReplicate];(try rfl);done));(focus(simp only[push_cast,seval, -List.reduceReplicate];(try rfl);done));(focus(simp only[push_cast,seval, -List.reduceReplicate];(try rfl);done));(focus(first|(simp only[push_cast,seval, -List.reduceReplicate];exact JO rfl)));(focus rfl);(focus(first|apply nH _ _));(any_goals(focus((repeat'(first|rfl));done)));(focus(intro _;exact⟨rfl,rfl⟩));intro y hm))|(((with_reducible apply JJ hm);(focus(exact dB.refl _));(focus(simp only[push_cast,seval, -List.reduceReplicate];(try rfl);done));(focus rfl);(focus(simp only[push_cast,seval, -List.reduceReplicate];(try rfl);done));(focus(simp only[push_cast,seval, -List.reduceReplicate];(try rfl);done));(focus(simp only[push_cast,seval, -List.reduceReplicate];(try rfl);done));(focus(simp only[push_cast,seval, -List.reduceReplicate];(try rfl);done));(focus(simp only[push_cast,seval, -List.reduceReplicate];(try rfl);done));(focus(first|(apply Lu;(focus((repeat'(first|rfl));done)))))))|(((with_reducible apply dC.of);(focus(first|(dsimp only;done)));(focus((intro _;repeat'(first|with_reducible exact dy|with_reducible refine aG ?_))));(intro s o hm;first|unfold mo);rotate_left;intro s hm))|(((apply aW;(repeat'(first|with_reducible exact aw|with_reducible exact ax|with_reducible apply ap|with_reducible apply aU|((with_reducible apply aP);(focus(first|(simp only[push_cast,seval];rfl)));(focus((repeat'(first|rfl));done)))|((with_reducible apply cC);(focus(first|(simp only[push_cast,seval];rfl)));(first|with_reducible exact bj rfl))));done))))
noncomputable def rX (fu:Nat):(∀ (x0:List ao) (x1:List ((List UInt8)×Bool)),{m:Option ((Bool)×(List ((List UInt8)×Bool)))//∀ r,m=some r->cF Tryz.prog 50 (.d (.slice (List.map al x0)):: .own (.mp .str .sh) (wy .str (fun v=> .bool v) x1)::(List.map SV.d ([]:List DV))) (.d (.bool r.1)) (.d (.slice (List.map al x0)):: .own (.mp .str .sh) (wy .str (fun v=> .bool v) r.2)::(List.map SV.d ([]:List DV)))}):=Nat.rec (fun x0 x1=>⟨none,fun r h=>by cases h⟩) (fun _ ih=>vb ih) fu
noncomputable def kC (fu:Nat) (x0:List ao) (x1:List ((List UInt8)×Bool)):Option ((Bool)×(List ((List UInt8)×Bool))):=((rX fu) x0 x1).1
theorem wE (fu:Nat) (x0:List ao) (x1:List ((List UInt8)×Bool)):((rX fu) x0 x1).1=kC fu x0 x1:=rfl
theorem wF (fu:Nat) (x0:List ao) (x1:List ((List UInt8)×Bool)):kC (fu+1) x0 x1=((vb (rX fu)) x0 x1).1:=rfl
theorem nH (fu:Nat) (x0:List ao) (x1:List ((List UInt8)×Bool)):∀ r,kC fu x0 x1=some r->cF Tryz.prog 50 (.d (.slice (List.map al x0)):: .own (.mp .str .sh) (wy .str (fun v=> .bool v) x1)::(List.map SV.d ([]:List DV))) (.d (.bool r.1)) (.d (.slice (List.map al x0)):: .own (.mp .str .sh) (wy .str (fun v=> .bool v) r.2)::(List.map SV.d ([]:List DV))):=((rX fu) x0 x1).2
def mq:SC:=
 (.seq (.reg [.r 21 (.bin .lss (.t 20) (.t 19))])
 (.seq (.cond (.t 21)
  .skip
  (.exit 0))
 (.seq (.block 1 (.seq (.reg [.r 22 (.mv (.t 20)),
    .r 23 (.idx 5 (.t 18) (.t 20)),
    .o 24 (.ldA 5 (.t 23)),
    .w 9 (.boxM (.c (.agg [.d (.str []),.d (.str []),.d (.int .i64 0),.d (.int .i64 0),.nils]))),
    .r 8 (.mv (.t 22)),
    .w 0 (.st 5 (.t 9) (.t 24))])
  (.seq (.reg [.o 25 (.ldA 5 (.t 9)),
    .c 26 (.f 97) [.t 25],
    .r 10 (.mv (.t 26))])
  (.seq (.seq (.reg (.r 27 (.mv (.t 7)):: .r 28 (.mv (.t 10)):: .o 29 (.look .str (.d (.bool false)) false (.t 27) (.t 28)):: .r 30 (.mv (.t 29))::aV [31,32,33,34,35,36,37,38,39,40,41] 30 false (.r 31 (.mv (.t 1)):: .r 32 (.mv (.t 10)):: .r 33 (.look .str (.d (.bool false)) false (.t 31) (.t 32)):: .r 34 (.mv (.t 33))::aV [35,36,37,38,39,40] 34 true (.r 35 (.mv (.t 2)):: .r 36 (.mv (.t 35))::aV [37,38] 36 true (.r 37 (.mv (.t 8)):: .r 38 (.bin .eql (.t 37) (.c (.d (.int .i64 0))))::[]) (.r 39 (.pick (.t 36) (.t 38) (.c (.d (.bool false)))):: .r 40 (.not (.t 39))::[])) (.r 41 (.pick (.t 34) (.t 40) (.c (.d (.bool false))))::[])) (.r 42 (.pick (.t 30) (.c (.d (.bool true))) (.t 41))::[])))
  (.cond (.t 42)
   (.seq (.reg [.r 6 (.mv (.c (.d (.bool true))))])
   .ret)
   .skip))
  (.reg [.r 43 (.mv (.t 7)),
    .r 44 (.mv (.t 10)),
    .w 0 (.mset .str (.t 43) (.t 44) (.c (.d (.bool true))))])))))
 (.reg [.r 45 (.bin .add (.t 20) (.c (.d (.int .i64 1)))),
   .r 20 (.mv (.t 45))]))))
def qS:SC:= .block 0 (.loop mq)
def qT:SC:=
 (.reg [.r 63 (.mv (.t 13)),
    .r 64 (.mv (.t 14)),
    .w 0 (.mset .str (.t 63) (.t 64) (.c (.d (.bool true))))])
def qW:SC:= .rangeM 57 (.t 1) 58 59 60 61 4 5 [.r 62 (.ext (.t 61) 0),
  .r 14 (.mv (.t 62))] qT
def mt:SC:=
 (.seq (.reg [.r 70 (.bin .lss (.t 69) (.t 68))])
 (.seq (.cond (.t 70)
  .skip
  (.exit 6))
 (.seq (.block 7 (.seq (.reg [.r 71 (.idx 5 (.t 67) (.t 69)),
    .o 72 (.ldA 5 (.t 71)),
    .w 16 (.boxM (.c (.agg [.d (.str []),.d (.str []),.d (.int .i64 0),.d (.int .i64 0),.nils]))),
    .w 0 (.st 5 (.t 16) (.t 72))])
  (.reg [.r 73 (.mv (.t 13)),
    .o 74 (.ldA 5 (.t 16)),
    .c 75 (.f 97) [.t 74],
    .w 0 (.mset .str (.t 73) (.t 75) (.c (.d (.bool true))))])))
 (.reg [.r 76 (.bin .add (.t 69) (.c (.d (.int .i64 1)))),
   .r 69 (.mv (.t 76))]))))
def qX:SC:= .block 6 (.loop mt)
def lD:SC:=(.reg [.r 77 (.fld 4 (.t 12)),
    .o 78 (.ld1 (.t 77)),
    .r 79 (.mv (.t 13)),
    .c 80 (.f 51) [.t 78,.t 79,.c (.d (.bool true))]])
def mu:SC:=
 (.seq (.reg [.r 49 (.bin .lss (.t 48) (.t 47))])
 (.seq (.cond (.t 49)
  .skip
  (.exit 2))
 (.seq (.block 3 (.seq (.reg [.r 50 (.mv (.t 48)),
    .r 51 (.idx 5 (.t 46) (.t 48)),
    .o 52 (.ldA 5 (.t 51)),
    .w 12 (.boxM (.c (.agg [.d (.str []),.d (.str []),.d (.int .i64 0),.d (.int .i64 0),.nils]))),
    .r 11 (.mv (.t 50)),
    .w 0 (.st 5 (.t 12) (.t 52))])
  (.seq (.seq (.reg [.r 53 (.fld 1 (.t 12)),
    .o 54 (.ld1 (.t 53)),
    .r 55 (.bin .eql (.t 54) (.c (.d (.str []))))])
  (.cond (.t 55)
   (.exit 3)
   .skip))
  (.seq (.reg [.w 56 (.mkmap .str),
    .r 13 (.mv (.t 56))])
  (.seq qW
  (.seq (.seq (.reg [.r 65 (.mv (.t 0)),
    .r 66 (.mv (.t 11)),
    .r 67 (.slc 5 (.t 65) (some (.t 66)) none),
    .r 68 (.len (.t 67)),
    .r 69 (.mv (.c (.d (.int .i64 0))))])
  qX)
  (.seq lD
  (.cond (.t 80)
   (.seq (.reg [.r 6 (.mv (.c (.d (.bool true))))])
   .ret)
   .skip))))))))
 (.reg [.r 81 (.bin .add (.t 48) (.c (.d (.int .i64 1)))),
   .r 48 (.mv (.t 81))]))))
def qY:SC:= .block 2 (.loop mu)
def ua:SC:=
 (.seq (.reg [.r 6 (.mv (.c (.d (.bool false))))])
 (.seq (.reg [.w 17 (.mkmap .str),
   .r 7 (.mv (.t 17))])
 (.seq (.seq (.reg [.r 18 (.mv (.t 0)),
   .r 19 (.len (.t 18)),
   .r 20 (.mv (.c (.d (.int .i64 0))))])
 qS)
 (.seq (.seq (.reg [.r 46 (.mv (.t 0)),
   .r 47 (.len (.t 46)),
   .r 48 (.mv (.c (.d (.int .i64 0))))])
 qY)
 (.seq (.reg [.r 6 (.mv (.c (.d (.bool false))))])
 .ret)))))
theorem zu:fits Tryz.prog 51 Tryz.f51 ua [.t 6] 3=true:=oK
set_option maxRecDepth 100000 in
set_option maxHeartbeats 40000000 in
noncomputable def vc:((∀ (x0:List ao) (x1:List ((List UInt8)×Bool)) (x2:Bool),{m:Option (Bool)//∀ r,m=some r->aa Tryz.prog 51 [.slice (List.map al x0),(wy .str (fun v=> .bool v) x1),.bool x2] (.bool r)}))->((∀ (x0:List ao) (x1:List ((List UInt8)×Bool)) (x2:Bool),{m:Option (Bool)//∀ r,m=some r->aa Tryz.prog 51 [.slice (List.map al x0),(wy .str (fun v=> .bool v) x1),.bool x2] (.bool r)})):=by
 intro ih
 have j4:∀ (x0:List ao) (x1:List ((List UInt8)×Bool)) (x2:Bool),∀ r,(ih x0 x1 x2).1=some r->aa Tryz.prog 51 [.slice (List.map al x0),(wy .str (fun v=> .bool v) x1),.bool x2] (.bool r):=fun x0 x1 x2=>(ih x0 x1 x2).2
 (intro x0 x1 x2;apply Subtype.mk;intro r hm;apply af Tryz.func51 zu;unfold ua)
 repeat'(first|((with_reducible apply Lg (x:=lD) 13);(focus(simp only[push_cast,seval, -List.reduceReplicate];(try rfl);done));(focus(first|(simp only[push_cast,seval, -List.reduceReplicate];(try rfl);done)));(focus rfl);(focus(intro _;rfl));unfold lD)|with_reducible refine bA ?_|with_reducible refine bt ?_|with_reducible refine bm ?_|with_reducible refine bl ?_|with_reducible refine bR ?_|with_reducible refine cw ?_|with_reducible refine bv ?_|with_reducible refine bB ?_|with_reducible refine cx ?_|with_reducible refine cb ?_|with_reducible refine bq ?_|with_reducible refine cg ?_|with_reducible refine sI ?_|with_reducible refine dI ?_|((with_reducible apply dz hm);(iterate 2 (simp only[push_cast,seval, -List.reduceReplicate];rfl));(intro _;rfl);intro e hm)|((with_reducible apply Ee hm);(iterate 3 (simp only[push_cast,seval, -List.reduceReplicate];rfl));(intro _;rfl);intro e hm)|((with_reducible apply im);(simp only[push_cast,seval, -List.reduceReplicate];rfl);(first|exact trivial))|((with_reducible apply fG hm);(simp only[push_cast,seval, -List.reduceReplicate];rfl);rfl;intro v hm;rotate_left;intro v g hm)|((with_reducible apply qC hm);(simp only[push_cast,seval, -List.reduceReplicate];rfl);rfl;intro v hm;rotate_left;intro v g hm)|((with_reducible apply fg hm);(simp only[push_cast,seval, -List.reduceReplicate];rfl);(first|apply vT _|apply j4 _ _ _);(any_goals((repeat'(first|rfl|(with_reducible first|apply nP|apply p5|apply eo)));done));intro x hm)|((with_reducible apply wM);(simp only[push_cast,seval, -List.reduceReplicate];rfl);(first|exact trivial))|((with_reducible apply JM);(iterate 2 (simp only[push_cast,seval, -List.reduceReplicate];rfl));rfl)|((with_reducible apply G9);(iterate 3 (simp only[push_cast,seval, -List.reduceReplicate];rfl));(iterate 2 rfl))|((with_reducible apply aO hm);(simp only[push_cast,seval, -List.reduceReplicate];rfl);intro hm;rotate_left;intro hm)|((with_reducible apply bQ hm);(focus(simp only[bu,dc,RV.get,push_cast,seval];rfl));(focus((repeat'(first|rfl));done)))|((with_reducible apply cJ hm);(simp only[push_cast,seval, -List.reduceReplicate];rfl))|((with_reducible apply bE hm);intro r hm)|((with_reducible apply di hm);intro r hm)|((apply az (b:=0) (X:=qS) (x:=mq) rfl (fun(c:SV×SV×SV×SV×SV) (s:(List ((List UInt8)×Bool))×Int)=>st [(0,c.1),(1,c.2.1),(2,c.2.2.1),(7,.mp 17),(18,c.2.2.2.1),(19,c.2.2.2.2),(20,.d (.int .i64 s.2))] [(17,.map .str (iL .str (fun v=> .d (.bool v)) s.1))]) (c:=(_,_,_,_,_)) (s0:=(_,_)) hm);(focus(first|(dsimp only;done)));(with_reducible refine cN.mk ?_ ?_))|(((apply H7 (X:=qW) rfl (fun(c:SV×SV×SV×Ch×SV×SV×SV×SV) (s:(List ((List UInt8)×Bool)))=>st [(0,c.1),(1,c.2.1),(11,c.2.2.1),(12,.ref 12 0),(13,.mp 56),(46,c.2.2.2.2.1),(47,c.2.2.2.2.2.1),(48,c.2.2.2.2.2.2.1),(58,c.2.2.2.2.2.2.2)] [(12,c.2.2.2.1),(56,.map .str (iL .str (fun v=> .d (.bool v)) s))]) (s0:=_) (f:=fun v=> .bool v) hm);(focus(simp only[push_cast,seval, -List.reduceReplicate];rfl));(focus decide);intro p;apply ML (c:=(_,_,_,_,_,_,_,_));(focus(first|(dsimp only;done)));(with_reducible refine cN.mk ?_ ?_)))|((apply az (b:=6) (X:=qX) (x:=mt) rfl (fun(c:SV×SV×Ch×SV×SV×SV×SV×SV) (s:(List ((List UInt8)×Bool))×Int)=>st [(0,c.1),(1,c.2.1),(12,.ref 12 0),(13,.mp 56),(46,c.2.2.2.1),(47,c.2.2.2.2.1),(48,c.2.2.2.2.2.1),(67,c.2.2.2.2.2.2.1),(68,c.2.2.2.2.2.2.2),(69,.d (.int .i64 s.2))] [(12,c.2.2.1),(56,.map .str (iL .str (fun v=> .d (.bool v)) s.1))]) (c:=(_,_,_,_,_,_,_,_)) (s0:=(_,_)) hm);(focus(first|(dsimp only;done)));(with_reducible refine cN.mk ?_ ?_))|((apply az (b:=2) (X:=qY) (x:=mu) rfl (fun(c:SV×SV×SV×SV) (s:Int)=>st [(0,c.1),(1,c.2.1),(46,c.2.2.1),(47,c.2.2.2),(48,.d (.int .i64 s))] []) (c:=(_,_,_,_)) (s0:=_) hm);(focus(first|(dsimp only;done)));(with_reducible refine cN.mk ?_ ?_))|((apply bG (s':=(_,_)) hm);(focus(first|(dsimp only;done))))|((apply cZ (s':=(_,_)) hm);(focus(first|(dsimp only;done))))|((apply bG (s':=_) hm);(focus(first|(dsimp only;done))))|((apply cZ (s':=_) hm);(focus(first|(dsimp only;done))))|(((with_reducible apply gq hm);intro r hm))|(((with_reducible apply dC.of);(focus(first|(dsimp only;done)));(focus((intro _;repeat'(first|with_reducible exact bo|with_reducible refine aG ?_|with_reducible refine dj ?_|((with_reducible refine ec ?_);intro _)|((with_reducible refine fH ?_);intro _)))));(intro s o hm;first|unfold mq|unfold mt|unfold mu);rotate_left;intro s hm))|(((with_reducible apply BB.of);(focus(first|(dsimp only;done)));(focus(intro _;exact⟨rfl,rfl,rfl⟩));(focus((intro _;repeat'(first|with_reducible exact bo|with_reducible refine aG ?_|with_reducible refine dj ?_|((with_reducible refine ec ?_);intro _)|((with_reducible refine fH ?_);intro _)))));(intro e s o hm;first|unfold qT);rotate_left;intro s hm))|(((apply aW;(repeat'(first|with_reducible exact aw|with_reducible exact ax|with_reducible apply ap|with_reducible apply aU|((with_reducible apply aP);(focus(first|(simp only[push_cast,seval];rfl)));(focus((repeat'(first|rfl));done)))|((with_reducible apply cC);(focus(first|(simp only[push_cast,seval];rfl)));(first|with_reducible exact bj rfl|with_reducible exact Ig|(apply H4;rfl)))));done))))
noncomputable def rY (fu:Nat):(∀ (x0:List ao) (x1:List ((List UInt8)×Bool)) (x2:Bool),{m:Option (Bool)//∀ r,m=some r->aa Tryz.prog 51 [.slice (List.map al x0),(wy .str (fun v=> .bool v) x1),.bool x2] (.bool r)}):=Nat.rec (fun x0 x1 x2=>⟨none,fun r h=>by cases h⟩) (fun _ ih=>vc ih) fu
noncomputable def gv (fu:Nat) (x0:List ao) (x1:List ((List UInt8)×Bool)) (x2:Bool):Option (Bool):=((rY fu) x0 x1 x2).1
theorem wG (fu:Nat) (x0:List ao) (x1:List ((List UInt8)×Bool)) (x2:Bool):((rY fu) x0 x1 x2).1=gv fu x0 x1 x2:=rfl
theorem wH (fu:Nat) (x0:List ao) (x1:List ((List UInt8)×Bool)) (x2:Bool):gv (fu+1) x0 x1 x2=((vc (rY fu)) x0 x1 x2).1:=rfl
theorem j4 (fu:Nat) (x0:List ao) (x1:List ((List UInt8)×Bool)) (x2:Bool):∀ r,gv fu x0 x1 x2=some r->aa Tryz.prog 51 [.slice (List.map al x0),(wy .str (fun v=> .bool v) x1),.bool x2] (.bool r):=((rY fu) x0 x1 x2).2
theorem ul (fu:Nat) (x0:List ao) (x2:Bool):∀ r,gv fu x0 [] x2=some r->aa Tryz.prog 51 [.slice (List.map al x0),.raw (.map none),.bool x2] (.bool r):=fun r h=>aa.nilm (pre:=[.slice (List.map al x0)]) (j4 fu x0 [] x2 r h)
def iV:SC:=
 (.seq (.reg [.r 13 (.bin .lss (.t 12) (.t 11))])
 (.seq (.cond (.t 13)
  .skip
  (.exit 0))
 (.seq (.block 1 (.seq (.reg [.r 14 (.mv (.t 12)),
    .r 15 (.idx 1 (.t 10) (.t 12)),
    .o 16 (.ld1 (.t 15)),
    .r 3 (.mv (.t 14)),
    .r 4 (.mv (.t 16))])
  (.seq (.seq (.reg (.r 17 (.mv (.t 4)):: .r 18 (.lenT (.t 17)):: .r 19 (.bin .lss (.t 18) (.c (.d (.int .i64 1)))):: .r 20 (.mv (.t 19))::aV [21,22,23] 20 false (.r 21 (.mv (.t 4)):: .r 22 (.lenT (.t 21)):: .r 23 (.bin .gtr (.t 22) (.c (.d (.int .i64 20))))::[]) (.r 24 (.pick (.t 20) (.c (.d (.bool true))) (.t 23)):: .r 25 (.mv (.t 24))::aV [26,27,28] 25 false (.r 26 (.mv (.t 4)):: .c 27 (.f 162) [.t 26,.c (.d (.int .u8 33)),.c (.d (.int .u8 126))]:: .r 28 (.not (.t 27))::[]) (.r 29 (.pick (.t 25) (.c (.d (.bool true))) (.t 28)):: .r 30 (.mv (.t 29))::aV [31,32,33,34,35,36,37] 30 false (.r 31 (.mv (.t 4)):: .r 32 (.lenT (.t 31)):: .r 33 (.fld 2 (.t 1)):: .r 34 (.ld1 (.t 33)):: .r 35 (.fld 3 (.t 1)):: .r 36 (.ld1 (.t 35)):: .c 37 (.f 114) [.t 32,.t 34,.t 36]::[]) (.r 38 (.pick (.t 30) (.c (.d (.bool true))) (.t 37)):: .r 39 (.mv (.t 38))::aV [40,41,42,43,44] 39 false (.r 40 (.mv (.t 4)):: .r 41 (.fld 1 (.t 1)):: .r 42 (.ld1 (.t 41)):: .c 43 (.f 164) [.t 40,.t 42]:: .r 44 (.not (.t 43))::[]) (.r 45 (.pick (.t 39) (.c (.d (.bool true))) (.t 44))::[]))))))
  (.cond (.t 45)
   (.seq (.reg [.r 2 (.mv (.c (.d (.int .i64 3))))])
   .ret)
   .skip))
  (.seq (.reg (.r 46 (.mv (.t 3)):: .r 47 (.bin .gtr (.t 46) (.c (.d (.int .i64 0)))):: .r 48 (.mv (.t 47))::aV [49,50,51,52,53,54,55,56] 48 true (.r 49 (.mv (.t 4)):: .r 50 (.fld 4 (.t 1)):: .r 51 (.ld1 (.t 50)):: .r 52 (.mv (.t 3)):: .r 53 (.bin .sub (.t 52) (.c (.d (.int .i64 1)))):: .r 54 (.idx 1 (.t 51) (.t 53)):: .r 55 (.ld1 (.t 54)):: .r 56 (.bin .leq (.t 49) (.t 55))::[]) (.r 57 (.pick (.t 48) (.t 56) (.c (.d (.bool false))))::[])))
  (.cond (.t 57)
   (.seq (.reg [.r 2 (.mv (.c (.d (.int .i64 8))))])
   .ret)
   .skip)))))
 (.reg [.r 58 (.bin .add (.t 12) (.c (.d (.int .i64 1)))),
   .r 12 (.mv (.t 58))]))))
def mT:SC:= .block 0 (.loop iV)
def pi:SC:=
 (.seq (.reg [.r 1 (.boxI (.t 0)),
   .r 2 (.mv (.c (.d (.int .i64 0))))])
 (.seq (.seq (.reg [.r 5 (.fld 4 (.t 1)),
   .o 6 (.ld1 (.t 5)),
   .r 7 (.len (.t 6)),
   .r 8 (.bin .gtr (.t 7) (.c (.d (.int .i64 50))))])
 (.cond (.t 8)
  (.seq (.reg [.r 2 (.mv (.c (.d (.int .i64 2))))])
  .ret)
  .skip))
 (.seq (.seq (.reg [.r 9 (.fld 4 (.t 1)),
   .o 10 (.ld1 (.t 9)),
   .r 11 (.len (.t 10)),
   .r 12 (.mv (.c (.d (.int .i64 0))))])
 mT)
 (.seq (.reg [.r 2 (.mv (.c (.d (.int .i64 0))))])
 .ret))))
theorem um:fits Tryz.prog 160 Tryz.f160 pi [.t 2] 1=true:=oK
def ub:SC:=
 (.seq (.reg [.r 2 (.boxI (.t 0)),
   .w 4 (.boxM (.c (.agg [.d (.str []),.nils]))),
   .r 5 (.mv (.c (.d (.bool false))))])
 (.seq (.reg [.r 9 (.fld 2 (.t 2)),
   .o 10 (.ld1 (.t 9)),
   .r 11 (.mv (.t 1)),
   .c 12 (.f 125) [.t 10,.t 11,.f 126],
   .r 8 (.mv (.t 12)),
   .r 13 (.ext (.t 8) 0),
   .r 14 (.ext (.t 8) 1),
   .r 6 (.mv (.t 13)),
   .r 7 (.mv (.t 14))])
 (.seq (.seq (.reg [.r 15 (.mv (.t 7)),
   .r 16 (.not (.t 15))])
 (.cond (.t 16)
  (.seq (.reg [.r 17 (.build [.d (.str []),.nils] []),
    .w 0 (.st 2 (.t 4) (.t 17)),
    .r 5 (.mv (.c (.d (.bool false))))])
  .ret)
  .skip))
 (.seq (.reg [.r 18 (.fld 2 (.t 2)),
   .o 19 (.ld1 (.t 18)),
   .r 20 (.mv (.t 6)),
   .r 21 (.idx 2 (.t 19) (.t 20)),
   .o 22 (.ldA 2 (.t 21)),
   .w 0 (.st 2 (.t 4) (.t 22)),
   .r 5 (.mv (.c (.d (.bool true))))])
 .ret))))
theorem zw:fits Tryz.prog 84 Tryz.f84 ub [.cell 4 2,.t 5] 2=true:=oK
set_option maxRecDepth 100000 in
set_option maxHeartbeats 40000000 in
noncomputable def mU:(∀ (x0:aE),{m:Option (Int)//∀ r,m=some r->aa Tryz.prog 160 [.agg (bw x0)] (.int .i64 r)})×(∀ (x0:br) (x1:List UInt8),{m:Option (ah×Bool)//∀ r,m=some r->aa Tryz.prog 84 [.agg (cR x0),.str x1] (.tup [.agg (ak r.1),.bool r.2])}):=by
 refine⟨?g0, ?g1⟩
 case' g0=>(intro x0;apply Subtype.mk;intro r hm;apply af Tryz.func160 um;unfold pi)
 case' g1=>(intro x0 x1;apply Subtype.mk;intro r hm;apply af Tryz.func84 zw;unfold ub)
 all_goals(repeat'(first|with_reducible refine bA ?_|with_reducible refine bt ?_|with_reducible refine bm ?_|with_reducible refine bl ?_|with_reducible refine bR ?_|with_reducible refine cw ?_|with_reducible refine bv ?_|with_reducible refine bB ?_|with_reducible refine cx ?_|with_reducible refine cb ?_|with_reducible refine bq ?_|with_reducible refine cg ?_|with_reducible refine dI ?_|((with_reducible apply dz hm);(iterate 2 (simp only[push_cast,seval];rfl));(intro _;rfl);intro e hm)|((with_reducible apply im);(simp only[push_cast,seval];rfl);(first|exact trivial))|((with_reducible apply fG hm);(simp only[push_cast,seval];rfl);rfl;intro v hm;rotate_left;intro v g hm)|((with_reducible apply qC hm);(simp only[push_cast,seval];rfl);rfl;intro v hm;rotate_left;intro v g hm)|((with_reducible apply fg hm);(simp only[push_cast,seval];rfl);(first|apply oN _ _ _|apply eX _ _ _|apply ph _ _|apply cu _ _ _ _ _ (fun a0 a1 r h=>lC a0 a1 r h));(any_goals((repeat'(first|rfl|(with_reducible first|apply eo)|(with_reducible apply Ef;decide)));done));intro x hm)|((with_reducible apply wM);(simp only[push_cast,seval];rfl);(first|exact trivial))|((with_reducible apply aO hm);(simp only[push_cast,seval];rfl);intro hm;rotate_left;intro hm)|((with_reducible apply jO hm);(focus(simp only[bu,dc,RV.get,push_cast,seval];rfl));(focus(first|(dsimp only;done)));(focus((repeat'(first|rfl|(with_reducible first|apply xI|apply wP|apply p5|apply cT|apply eo|apply cU)));done)))|((with_reducible apply bQ hm);(focus(simp only[bu,dc,RV.get,push_cast,seval];rfl));(focus((repeat'(first|rfl));done)))|((with_reducible apply cJ hm);(simp only[push_cast,seval];rfl))|((with_reducible apply bE hm);intro r hm)|((with_reducible apply di hm);intro r hm)|((apply az (b:=0) (X:=mT) (x:=iV) rfl (fun(c:SV×SV×SV) (s:Int)=>st [(1,c.1),(10,c.2.1),(11,c.2.2),(12,.d (.int .i64 s))] []) (c:=(_,_,_)) (s0:=_) hm);(focus(first|(dsimp only;done)));(with_reducible refine cN.mk ?_ ?_))|((apply bG (s':=_) hm);(focus(first|(dsimp only;done))))|((apply cZ (s':=_) hm);(focus(first|(dsimp only;done))))|(((with_reducible apply gq hm);intro r hm))|(((with_reducible apply dC.of);(focus(first|(dsimp only;done)));(focus((intro _;repeat'(first|with_reducible exact bo|with_reducible refine aG ?_))));(intro s o hm;first|unfold iV);rotate_left;intro s hm))|(((apply aW;(repeat'(first|with_reducible exact aw|with_reducible exact ax|with_reducible apply ap|((with_reducible apply aP);(focus(first|(simp only[push_cast,seval];rfl)));(focus((repeat'(first|rfl));done)))));done)))))
noncomputable def lE (x0:aE):Option (Int):=(mU.1 x0).1
theorem tB (x0:aE):∀ r,lE x0=some r->aa Tryz.prog 160 [.agg (bw x0)] (.int .i64 r):=(mU.1 x0).2
noncomputable def nI (x0:br) (x1:List UInt8):Option (ah×Bool):=(mU.2 x0 x1).1
theorem yC (x0:br) (x1:List UInt8):∀ r,nI x0 x1=some r->aa Tryz.prog 84 [.agg (cR x0),.str x1] (.tup [.agg (ak r.1),.bool r.2]):=(mU.2 x0 x1).2
def p7:SC:=
 (.seq (.reg [.r 1 (.boxI (.t 0)),
   .r 2 (.mv (.c (.d (.int .i64 0))))])
 (.seq (.block 0 (.seq (.reg [.r 4 (.fld 1 (.t 1)),
    .o 5 (.ld1 (.t 4)),
    .c 6 (.f 114) [.t 5,.c (.d (.int .i64 1)),.c (.d (.int .i64 5))],
    .r 3 (.mv (.t 6))])
  (.cond (.t 3)
   (.seq (.reg [.r 2 (.mv (.c (.d (.int .i64 4))))])
   .ret)
   (.seq (.reg (.r 8 (.fld 2 (.t 1)):: .o 9 (.ld1 (.t 8)):: .r 10 (.fld 3 (.t 1)):: .o 11 (.ld1 (.t 10)):: .c 12 (.f 114) [.t 9,.c (.d (.int .i64 1)),.t 11]:: .r 13 (.mv (.t 12))::aV [14,15,16] 13 false (.r 14 (.fld 3 (.t 1)):: .r 15 (.ld1 (.t 14)):: .r 16 (.bin .gtr (.t 15) (.c (.d (.int .i64 1000))))::[]) (.r 17 (.pick (.t 13) (.c (.d (.bool true))) (.t 16)):: .r 7 (.mv (.t 17))::[])))
   (.cond (.t 7)
    (.seq (.reg [.r 2 (.mv (.c (.d (.int .i64 1))))])
    .ret)
    (.seq (.reg (.r 19 (.fld 1 (.t 1)):: .o 20 (.ld1 (.t 19)):: .r 21 (.bin .eql (.t 20) (.c (.d (.int .i64 5)))):: .r 22 (.mv (.t 21))::aV [23,24,25,26,27] 22 true (.r 23 (.fld 2 (.t 1)):: .r 24 (.ld1 (.t 23)):: .r 25 (.fld 3 (.t 1)):: .r 26 (.ld1 (.t 25)):: .c 27 (.f 114) [.c (.d (.int .i64 8)),.t 24,.t 26]::[]) (.r 28 (.pick (.t 22) (.t 27) (.c (.d (.bool false)))):: .r 18 (.mv (.t 28))::[])))
    (.cond (.t 18)
     (.seq (.reg [.r 2 (.mv (.c (.d (.int .i64 3))))])
     .ret)
     .skip)))))))
 (.seq (.reg [.o 29 (.ldA 5 (.t 1)),
   .c 30 (.f 160) [.t 29],
   .r 2 (.mv (.t 30))])
 .ret)))
theorem vd:fits Tryz.prog 137 Tryz.f137 p7 [.t 2] 1=true:=oK
set_option maxRecDepth 100000 in
set_option maxHeartbeats 40000000 in
noncomputable def vf:(∀ (x0:aE),{m:Option (Int)//∀ r,m=some r->aa Tryz.prog 137 [.agg (bw x0)] (.int .i64 r)}):=by
 (intro x0;apply Subtype.mk;intro r hm;apply af Tryz.func137 vd;unfold p7)
 repeat'(first|with_reducible refine bA ?_|with_reducible refine bt ?_|with_reducible refine bm ?_|with_reducible refine bl ?_|with_reducible refine bR ?_|with_reducible refine bv ?_|with_reducible refine bB ?_|with_reducible refine cb ?_|with_reducible refine bq ?_|with_reducible refine cg ?_|with_reducible refine dI ?_|((with_reducible apply im);(simp only[push_cast,seval];rfl);(first|exact trivial))|((with_reducible apply fG hm);(simp only[push_cast,seval];rfl);rfl;intro v hm;rotate_left;intro v g hm)|((with_reducible apply qC hm);(simp only[push_cast,seval];rfl);rfl;intro v hm;rotate_left;intro v g hm)|((with_reducible apply fg hm);(simp only[push_cast,seval];rfl);(first|apply eX _ _ _|apply tB _);(any_goals((repeat'(first|rfl));done));intro x hm)|((with_reducible apply aO hm);(simp only[push_cast,seval];rfl);intro hm;rotate_left;intro hm)|((with_reducible apply bQ hm);(focus(simp only[bu,dc,RV.get,push_cast,seval];rfl));(focus((repeat'(first|rfl));done)))|((with_reducible apply cJ hm);(simp only[push_cast,seval];rfl)))
noncomputable def mw (x0:aE):Option (Int):=(vf x0).1
theorem un (x0:aE):∀ r,mw x0=some r->aa Tryz.prog 137 [.agg (bw x0)] (.int .i64 r):=(vf x0).2
def dA:SC:=
 (.seq (.reg [.r 19 (.bin .lss (.t 18) (.t 17))])
 (.seq (.cond (.t 19)
  .skip
  (.exit 0))
 (.seq (.block 1 (.seq (.reg [.r 20 (.idx 5 (.t 16) (.t 18)),
    .o 21 (.ldA 5 (.t 20)),
    .w 8 (.boxM (.c (.agg [.d (.str []),.d (.str []),.d (.int .i64 0),.d (.int .i64 0),.nils]))),
    .w 0 (.st 5 (.t 8) (.t 21))])
  (.seq (.reg [.r 22 (.mv (.t 0)),
    .o 23 (.ldA 5 (.t 8)),
    .r 24 (.mv (.t 2)),
    .p (some 25) (.f 96) [.t 22,.t 23,.t 24],
    .r 9 (.mv (.t 25))])
  (.seq (.reg [.r 26 (.mv (.t 9)),
    .r 27 (.bin .neq (.t 26) (.c (.d (.int .i64 0))))])
  (.cond (.t 27)
   (.seq (.reg [.r 28 (.mv (.t 9)),
     .r 6 (.mv (.t 28))])
   .ret)
   .skip)))))
 (.reg [.r 29 (.bin .add (.t 18) (.c (.d (.int .i64 1)))),
   .r 18 (.mv (.t 29))]))))
def fp:SC:= .block 0 (.loop dA)
def gx:SC:=
 (.seq (.reg [.r 6 (.mv (.c (.d (.int .i64 0))))])
 (.seq (.seq (.reg [.r 10 (.mv (.t 1)),
   .r 11 (.len (.t 10)),
   .r 12 (.bin .eql (.t 11) (.c (.d (.int .i64 0))))])
 (.cond (.t 12)
  (.seq (.reg [.r 6 (.mv (.c (.d (.int .i64 9))))])
  .ret)
  .skip))
 (.seq (.seq (.reg [.r 13 (.mv (.t 1)),
   .r 14 (.len (.t 13)),
   .r 15 (.bin .gtr (.t 14) (.c (.d (.int .i64 50))))])
 (.cond (.t 15)
  (.seq (.reg [.r 6 (.mv (.c (.d (.int .i64 2))))])
  .ret)
  .skip))
 (.seq (.seq (.reg [.r 16 (.mv (.t 1)),
   .r 17 (.len (.t 16)),
   .r 18 (.mv (.c (.d (.int .i64 0))))])
 fp)
 (.seq (.reg [.r 6 (.mv (.c (.d (.int .i64 0))))])
 .ret)))))
theorem lQ:fits Tryz.prog 49 Tryz.f49 gx [.t 6] 3=true:=oK
def gy:SC:=
 (.seq (.reg [.r 4 (.boxI (.t 1)),
   .r 6 (.mv (.c (.d (.int .i64 0))))])
 (.seq (.reg [.r 9 (.mv (.t 0)),
   .r 10 (.nilc (.t 9)),
   .r 11 (.fld 4 (.t 10)),
   .o 12 (.ld1 (.t 11)),
   .r 13 (.bin .add (.t 12) (.c (.d (.int .i64 1)))),
   .r 14 (.nilc (.t 9)),
   .r 15 (.fld 4 (.t 14)),
   .w 0 (.st 1 (.t 15) (.t 13))])
 (.seq (.block 0 (.seq (.reg (.r 17 (.mv (.t 0)):: .r 18 (.nilc (.t 17)):: .r 19 (.fld 4 (.t 18)):: .o 20 (.ld1 (.t 19)):: .r 21 (.bin .gtr (.t 20) (.c (.d (.int .i64 300)))):: .r 22 (.mv (.t 21))::aV [23,24] 22 false (.r 23 (.mv (.t 2)):: .r 24 (.bin .gtr (.t 23) (.c (.d (.int .i64 6))))::[]) (.r 25 (.pick (.t 22) (.c (.d (.bool true))) (.t 24)):: .r 16 (.mv (.t 25))::[])))
  (.cond (.t 16)
   (.seq (.reg [.r 6 (.mv (.c (.d (.int .i64 2))))])
   .ret)
   (.seq (.reg (.o 27 (.ldA 5 (.t 4)):: .c 28 (.f 138) [.t 27]:: .r 29 (.not (.t 28)):: .r 30 (.mv (.t 29))::aV [31,32,33] 30 true (.r 31 (.ldA 5 (.t 4)):: .c 32 (.f 139) [.t 31]:: .r 33 (.not (.t 32))::[]) (.r 34 (.pick (.t 30) (.t 33) (.c (.d (.bool false)))):: .r 26 (.mv (.t 34))::[])))
   (.cond (.t 26)
    (.seq (.reg [.r 6 (.mv (.c (.d (.int .i64 3))))])
    .ret)
    (.seq (.reg (.r 36 (.fld 1 (.t 4)):: .o 37 (.ld1 (.t 36)):: .r 38 (.bin .neq (.t 37) (.c (.d (.str [])))):: .r 39 (.mv (.t 38))::aV [40,41,42,43] 39 true (.r 40 (.fld 1 (.t 4)):: .r 41 (.ld1 (.t 40)):: .c 42 (.f 47) [.t 41]:: .r 43 (.not (.t 42))::[]) (.r 44 (.pick (.t 39) (.t 43) (.c (.d (.bool false)))):: .r 35 (.mv (.t 44))::[])))
    (.cond (.t 35)
     (.seq (.reg [.r 6 (.mv (.c (.d (.int .i64 5))))])
     .ret)
     .skip)))))))
 (.seq (.seq (.regE [.r 46 (.mv (.t 0)),
   .r 47 (.nilc (.t 46)),
   .r 48 (.fld 0 (.t 47)),
   .r 49 (.ldA 4 (.t 48)),
   .r 50 (.fld 0 (.t 4)),
   .r 51 (.ld1 (.t 50)),
   .c 52 (.f 84) [.t 49,.t 51],
   .r 45 (.mv (.t 52)),
   .r 53 (.ext (.t 45) 0),
   .r 54 (.ext (.t 45) 1),
   .x 7 (.boxM (.c (.agg [.d (.str []),.nils]))) [(0,46,.mv (.t 0)),(1,47,.nilc (.t 46)),(2,48,.fld 0 (.t 47)),(3,49,.ldA 4 (.t 48)),(4,50,.fld 0 (.t 4)),(5,51,.ld1 (.t 50)),(6,52,.cl 52 [49,51]),(7,45,.mv (.t 52)),(8,53,.ext (.t 45) 0),(9,54,.ext (.t 45) 1)],
   .x 0 (.st 2 (.t 7) (.t 53)) [(9,54,.ext (.t 45) 1)],
   .r 8 (.mv (.t 54))])
 (.seq (.reg (.r 55 (.fld 1 (.t 4)):: .o 56 (.ld1 (.t 55)):: .r 57 (.bin .eql (.t 56) (.c (.d (.str [])))):: .r 58 (.mv (.t 57))::aV [59,60] 58 true (.r 59 (.mv (.t 8)):: .r 60 (.not (.t 59))::[]) (.r 61 (.pick (.t 58) (.t 60) (.c (.d (.bool false))))::[])))
 (.cond (.t 61)
  (.seq (.reg [.r 6 (.mv (.c (.d (.int .i64 9))))])
  .ret)
  .skip)))
 (.seq (.seq (.reg (.r 62 (.fld 2 (.t 4)):: .o 63 (.ld1 (.t 62)):: .r 64 (.fld 3 (.t 4)):: .o 65 (.ld1 (.t 64)):: .c 66 (.f 114) [.t 63,.c (.d (.int .i64 0)),.t 65]:: .r 67 (.mv (.t 66))::aV [68,69,70] 67 false (.r 68 (.fld 3 (.t 4)):: .r 69 (.ld1 (.t 68)):: .c 70 (.f 114) [.t 69,.c (.d (.int .i64 1)),.c (.d (.int .i64 1000))]::[]) (.r 71 (.pick (.t 67) (.c (.d (.bool true))) (.t 70))::[])))
 (.cond (.t 71)
  (.seq (.reg [.r 6 (.mv (.c (.d (.int .i64 1))))])
  .ret)
  .skip))
 (.seq (.seq (.reg [.r 72 (.fld 1 (.t 4)),
   .o 73 (.ld1 (.t 72)),
   .r 74 (.bin .eql (.t 73) (.c (.d (.str []))))])
 (.cond (.t 74)
  (.seq (.reg [.r 6 (.mv (.c (.d (.int .i64 0))))])
  .ret)
  .skip))
 (.seq (.reg [.r 75 (.mv (.t 0)),
   .r 76 (.fld 4 (.t 4)),
   .o 77 (.ld1 (.t 76)),
   .r 78 (.mv (.t 2)),
   .r 79 (.bin .add (.t 78) (.c (.d (.int .i64 1)))),
   .p (some 80) (.f 49) [.t 75,.t 77,.t 79],
   .r 6 (.mv (.t 80))])
 .ret)))))))
theorem lR:fits Tryz.prog 96 Tryz.f96 gy [.t 6] 3=true:=oK
set_option maxRecDepth 100000 in
set_option maxHeartbeats 40000000 in
noncomputable def pj:((∀ (x0:aC) (x1:List ao) (x2:Int),{m:Option ((Int)×aC)//∀ r,m=some r->cF Tryz.prog 49 (.own (.pt [.sh,.sh,.sh,.sh,.sh]) (.ptr (aM x0))::List.map SV.d ([.slice (List.map al x1),.int .i64 x2]:List DV)) (.d (.int .i64 r.1)) (.own (.pt [.sh,.sh,.sh,.sh,.sh]) (.ptr (aM r.2))::List.map SV.d ([.slice (List.map al x1),.int .i64 x2]:List DV))})×(∀ (x0:aC) (x1:ao) (x2:Int),{m:Option ((Int)×aC)//∀ r,m=some r->cF Tryz.prog 96 (.own (.pt [.sh,.sh,.sh,.sh,.sh]) (.ptr (aM x0))::List.map SV.d ([.agg (al x1),.int .i64 x2]:List DV)) (.d (.int .i64 r.1)) (.own (.pt [.sh,.sh,.sh,.sh,.sh]) (.ptr (aM r.2))::List.map SV.d ([.agg (al x1),.int .i64 x2]:List DV))}))->((∀ (x0:aC) (x1:List ao) (x2:Int),{m:Option ((Int)×aC)//∀ r,m=some r->cF Tryz.prog 49 (.own (.pt [.sh,.sh,.sh,.sh,.sh]) (.ptr (aM x0))::List.map SV.d ([.slice (List.map al x1),.int .i64 x2]:List DV)) (.d (.int .i64 r.1)) (.own (.pt [.sh,.sh,.sh,.sh,.sh]) (.ptr (aM r.2))::List.map SV.d ([.slice (List.map al x1),.int .i64 x2]:List DV))})×(∀ (x0:aC) (x1:ao) (x2:Int),{m:Option ((Int)×aC)//∀ r,m=some r->cF Tryz.prog 96 (.own (.pt [.sh,.sh,.sh,.sh,.sh]) (.ptr (aM x0))::List.map SV.d ([.agg (al x1),.int .i64 x2]:List DV)) (.d (.int .i64 r.1)) (.own (.pt [.sh,.sh,.sh,.sh,.sh]) (.ptr (aM r.2))::List.map SV.d ([.agg (al x1),.int .i64 x2]:List DV))})):=by
 intro ih
 have dE:∀ (x0:aC) (x1:List ao) (x2:Int),∀ r,(ih.1 x0 x1 x2).1=some r->cF Tryz.prog 49 (.own (.pt [.sh,.sh,.sh,.sh,.sh]) (.ptr (aM x0))::List.map SV.d ([.slice (List.map al x1),.int .i64 x2]:List DV)) (.d (.int .i64 r.1)) (.own (.pt [.sh,.sh,.sh,.sh,.sh]) (.ptr (aM r.2))::List.map SV.d ([.slice (List.map al x1),.int .i64 x2]:List DV)):=fun x0 x1 x2=>(ih.1 x0 x1 x2).2
 have fI:∀ (x0:aC) (x1:ao) (x2:Int),∀ r,(ih.2 x0 x1 x2).1=some r->cF Tryz.prog 96 (.own (.pt [.sh,.sh,.sh,.sh,.sh]) (.ptr (aM x0))::List.map SV.d ([.agg (al x1),.int .i64 x2]:List DV)) (.d (.int .i64 r.1)) (.own (.pt [.sh,.sh,.sh,.sh,.sh]) (.ptr (aM r.2))::List.map SV.d ([.agg (al x1),.int .i64 x2]:List DV)):=fun x0 x1 x2=>(ih.2 x0 x1 x2).2
 refine⟨?g0, ?g1⟩
 case' g0=>(intro x0 x1 x2;apply Subtype.mk;intro r hm;apply je (N:=30) (k:=3) Tryz.func49 lQ oK rfl rfl oD;unfold gx)
 case' g1=>(intro x0 x1 x2;apply Subtype.mk;intro r hm;apply je (N:=81) (k:=3) Tryz.func96 lR oK rfl rfl oD;unfold gy)
 all_goals(repeat'(first|with_reducible refine bA ?_|with_reducible refine bt ?_|with_reducible refine xf ?_|with_reducible refine bm ?_|with_reducible refine bl ?_|with_reducible refine bR ?_|with_reducible refine cw ?_|with_reducible refine bv ?_|with_reducible refine bB ?_|with_reducible refine cx ?_|with_reducible refine cb ?_|with_reducible refine bq ?_|with_reducible refine cg ?_|with_reducible refine dI ?_|((with_reducible apply dz hm);(iterate 2 (simp only[push_cast,seval];rfl));(intro _;rfl);intro e hm)|((with_reducible apply im);(simp only[push_cast,seval];rfl);(first|exact trivial))|((with_reducible apply fG hm);(simp only[push_cast,seval];rfl);rfl;intro v hm;rotate_left;intro v g hm)|((with_reducible apply qC hm);(simp only[push_cast,seval];rfl);rfl;intro v hm;rotate_left;intro v g hm)|((with_reducible apply fg hm);(simp only[push_cast,seval];rfl);(first|apply og _|apply wK _|apply pW _|apply yC _ _|apply eX _ _ _);(any_goals((repeat'(first|rfl|(with_reducible first|apply nP|apply p5|apply eo)));done));intro x hm)|((with_reducible apply wM);(simp only[push_cast,seval];rfl);(first|exact trivial))|((with_reducible apply Nw);(simp only[push_cast,seval];rfl);(first|exact trivial);(focus((repeat'(first|exact tl|((with_reducible apply yd);(focus(simp only[push_cast,seval];rfl));(focus(first|exact trivial));(focus(simp only[push_cast,seval])))));done)))|((with_reducible apply aO hm);(simp only[push_cast,seval];rfl);intro hm;rotate_left;intro hm)|((with_reducible apply cJ hm);(simp only[push_cast,seval];rfl))|((with_reducible apply bE hm);intro r hm)|((with_reducible apply di hm);intro r hm)|((apply az (b:=0) (X:=fp) (x:=dA) rfl (fun(c:SV×SV×SV×SV×SV) (s:br×Int×Int)=>st [(0,.ref 0 0),(2,c.1),(16,c.2.1),(17,c.2.2.1),(18,.d (.int .i64 s.2.2)),(30,.ref 0 0),(31,c.2.2.2.1),(32,c.2.2.2.2)] [(0,.box (qP s.1 s.2.1))]) (c:=(_,_,_,_,_)) (s0:=(_,_,_)) hm);(focus(first|(dsimp only;done)));(with_reducible refine cN.mk ?_ ?_))|((apply bG (s':=(_,_,_)) hm);(focus(first|(dsimp only;done))))|((apply cZ (s':=(_,_,_)) hm);(focus(first|(dsimp only;done))))|(((with_reducible apply gq hm);intro r hm))|(((with_reducible apply At hm (id:=0) (ms:=[.sh,.sh,.sh,.sh,.sh]));(focus(exact dB.refl _));(focus(simp only[push_cast,seval];(try rfl);done));(focus(simp only[push_cast,seval];(try rfl);done));(focus(simp only[push_cast,seval];(try rfl);done));(focus((repeat'(first|(with_reducible first|apply mn|apply rl)|((with_reducible apply aP);(focus(first|rfl));(focus((repeat'(first|rfl));done)))));done));(focus rfl);(first|apply fI _ _ _|apply dE _ _ _);(any_goals(focus((repeat'(first|rfl|(with_reducible first|apply nP|apply p5|apply eo)));done)));(focus(intro _;exact⟨rfl,rfl,rfl⟩));intro y hm))|(((with_reducible apply Ej hm (ms:=[.sh,.sh,.sh,.sh,.sh]));(focus(exact dB.refl _));(focus(simp only[push_cast,seval];(try rfl);done));(focus((repeat'(first|(with_reducible first|apply mn|apply rl)|((with_reducible apply aP);(focus(first|rfl));(focus((repeat'(first|rfl));done)))));done));(focus(intro _;rfl));(focus(simp only[push_cast,seval];(try rfl);done));(focus(simp only[push_cast,seval];(try rfl);done));(focus(simp only[push_cast,seval];(try rfl);done));(focus(simp only[push_cast,seval];(try rfl);done));(focus(first|(apply Lu;(focus((repeat'(first|rfl));done)))))))|(((with_reducible apply dC.of);(focus(first|(dsimp only;done)));(focus((intro _;repeat'(first|with_reducible exact dy|with_reducible refine aG ?_))));(intro s o hm;first|unfold dA);rotate_left;intro s hm))|(((apply aW;(repeat'(first|with_reducible exact aw|with_reducible exact ax|with_reducible apply ap|with_reducible apply aU|((with_reducible apply aP);(focus(first|(simp only[push_cast,seval];rfl)));(focus((repeat'(first|rfl));done)))|((with_reducible apply cC);(focus(first|(simp only[push_cast,seval];rfl)));(first|with_reducible exact bj rfl))));done)))))
noncomputable def jj (fu:Nat):(∀ (x0:aC) (x1:List ao) (x2:Int),{m:Option ((Int)×aC)//∀ r,m=some r->cF Tryz.prog 49 (.own (.pt [.sh,.sh,.sh,.sh,.sh]) (.ptr (aM x0))::List.map SV.d ([.slice (List.map al x1),.int .i64 x2]:List DV)) (.d (.int .i64 r.1)) (.own (.pt [.sh,.sh,.sh,.sh,.sh]) (.ptr (aM r.2))::List.map SV.d ([.slice (List.map al x1),.int .i64 x2]:List DV))})×(∀ (x0:aC) (x1:ao) (x2:Int),{m:Option ((Int)×aC)//∀ r,m=some r->cF Tryz.prog 96 (.own (.pt [.sh,.sh,.sh,.sh,.sh]) (.ptr (aM x0))::List.map SV.d ([.agg (al x1),.int .i64 x2]:List DV)) (.d (.int .i64 r.1)) (.own (.pt [.sh,.sh,.sh,.sh,.sh]) (.ptr (aM r.2))::List.map SV.d ([.agg (al x1),.int .i64 x2]:List DV))}):=Nat.rec ⟨(fun x0 x1 x2=>⟨none,fun r h=>by cases h⟩),(fun x0 x1 x2=>⟨none,fun r h=>by cases h⟩)⟩ (fun _ ih=>pj ih) fu
noncomputable def bz (fu:Nat) (x0:aC) (x1:List ao) (x2:Int):Option ((Int)×aC):=((jj fu).1 x0 x1 x2).1
theorem kD (fu:Nat) (x0:aC) (x1:List ao) (x2:Int):((jj fu).1 x0 x1 x2).1=bz fu x0 x1 x2:=rfl
theorem kE (fu:Nat) (x0:aC) (x1:List ao) (x2:Int):bz (fu+1) x0 x1 x2=((pj (jj fu)).1 x0 x1 x2).1:=rfl
theorem dE (fu:Nat) (x0:aC) (x1:List ao) (x2:Int):∀ r,bz fu x0 x1 x2=some r->cF Tryz.prog 49 (.own (.pt [.sh,.sh,.sh,.sh,.sh]) (.ptr (aM x0))::List.map SV.d ([.slice (List.map al x1),.int .i64 x2]:List DV)) (.d (.int .i64 r.1)) (.own (.pt [.sh,.sh,.sh,.sh,.sh]) (.ptr (aM r.2))::List.map SV.d ([.slice (List.map al x1),.int .i64 x2]:List DV)):=((jj fu).1 x0 x1 x2).2
noncomputable def ca (fu:Nat) (x0:aC) (x1:ao) (x2:Int):Option ((Int)×aC):=((jj fu).2 x0 x1 x2).1
theorem kF (fu:Nat) (x0:aC) (x1:ao) (x2:Int):((jj fu).2 x0 x1 x2).1=ca fu x0 x1 x2:=rfl
theorem kG (fu:Nat) (x0:aC) (x1:ao) (x2:Int):ca (fu+1) x0 x1 x2=((pj (jj fu)).2 x0 x1 x2).1:=rfl
theorem fI (fu:Nat) (x0:aC) (x1:ao) (x2:Int):∀ r,ca fu x0 x1 x2=some r->cF Tryz.prog 96 (.own (.pt [.sh,.sh,.sh,.sh,.sh]) (.ptr (aM x0))::List.map SV.d ([.agg (al x1),.int .i64 x2]:List DV)) (.d (.int .i64 r.1)) (.own (.pt [.sh,.sh,.sh,.sh,.sh]) (.ptr (aM r.2))::List.map SV.d ([.agg (al x1),.int .i64 x2]:List DV)):=((jj fu).2 x0 x1 x2).2
def gV:SC:=
 (.seq (.reg [.r 24 (.bin .lss (.t 23) (.t 22))])
 (.seq (.cond (.t 24)
  .skip
  (.exit 1))
 (.seq (.block 2 (.seq (.reg [.r 25 (.idx 5 (.t 21) (.t 23)),
    .o 26 (.ldA 5 (.t 25)),
    .w 4 (.boxM (.c (.agg [.d (.bool false),.d (.int .i64 0),.d (.int .i64 0),.d (.int .i64 0),.nils]))),
    .w 0 (.st 5 (.t 4) (.t 26))])
  (.seq (.reg [.o 27 (.ldA 5 (.t 4)),
    .c 28 (.f 137) [.t 27],
    .r 5 (.mv (.t 28))])
  (.seq (.reg [.r 29 (.mv (.t 5)),
    .r 30 (.bin .neq (.t 29) (.c (.d (.int .i64 0))))])
  (.cond (.t 30)
   (.seq (.reg [.r 31 (.mv (.t 5)),
     .r 2 (.mv (.t 31))])
   .ret)
   .skip)))))
 (.reg [.r 32 (.bin .add (.t 23) (.c (.d (.int .i64 1)))),
   .r 23 (.mv (.t 32))]))))
def lp:SC:= .block 1 (.loop gV)
def nJ:SC:=
 (.seq (.reg [.r 1 (.boxI (.t 0)),
   .r 2 (.mv (.c (.d (.int .i64 0))))])
 (.seq (.block 0 (.seq (.reg [.r 7 (.fld 1 (.t 1)),
    .o 8 (.ld1 (.t 7)),
    .c 9 (.f 114) [.t 8,.c (.d (.int .i64 1)),.c (.d (.int .i64 20))],
    .r 6 (.mv (.t 9))])
  (.cond (.t 6)
   (.seq (.reg [.r 2 (.mv (.c (.d (.int .i64 1))))])
   .ret)
   (.seq (.reg [.r 11 (.fld 2 (.t 1)),
     .o 12 (.ld1 (.t 11)),
     .r 13 (.len (.t 12)),
     .r 14 (.bin .eql (.t 13) (.c (.d (.int .i64 0)))),
     .r 10 (.mv (.t 14))])
   (.cond (.t 10)
    (.seq (.reg [.r 2 (.mv (.c (.d (.int .i64 9))))])
    .ret)
    (.seq (.reg [.r 16 (.fld 2 (.t 1)),
      .o 17 (.ld1 (.t 16)),
      .r 18 (.len (.t 17)),
      .r 19 (.bin .gtr (.t 18) (.c (.d (.int .i64 20)))),
      .r 15 (.mv (.t 19))])
    (.cond (.t 15)
     (.seq (.reg [.r 2 (.mv (.c (.d (.int .i64 2))))])
     .ret)
     .skip)))))))
 (.seq (.seq (.reg [.r 20 (.fld 2 (.t 1)),
   .o 21 (.ld1 (.t 20)),
   .r 22 (.len (.t 21)),
   .r 23 (.mv (.c (.d (.int .i64 0))))])
 lp)
 (.seq (.reg [.r 2 (.mv (.c (.d (.int .i64 0))))])
 .ret))))
theorem sQ:fits Tryz.prog 95 Tryz.f95 nJ [.t 2] 1=true:=oK
set_option maxRecDepth 100000 in
set_option maxHeartbeats 40000000 in
noncomputable def vg:(∀ (x0:aq),{m:Option (Int)//∀ r,m=some r->aa Tryz.prog 95 [.agg (aX x0)] (.int .i64 r)}):=by
 (intro x0;apply Subtype.mk;intro r hm;apply af Tryz.func95 sQ;unfold nJ)
 repeat'(first|with_reducible refine bA ?_|with_reducible refine bt ?_|with_reducible refine bm ?_|with_reducible refine bl ?_|with_reducible refine bR ?_|with_reducible refine cw ?_|with_reducible refine bv ?_|with_reducible refine bB ?_|with_reducible refine cx ?_|with_reducible refine cb ?_|with_reducible refine bq ?_|with_reducible refine cg ?_|with_reducible refine dI ?_|((with_reducible apply dz hm);(iterate 2 (simp only[push_cast,seval];rfl));(intro _;rfl);intro e hm)|((with_reducible apply im);(simp only[push_cast,seval];rfl);(first|exact trivial))|((with_reducible apply fg hm);(simp only[push_cast,seval];rfl);(first|apply eX _ _ _|apply un _);(any_goals((repeat'(first|rfl));done));intro x hm)|((with_reducible apply wM);(simp only[push_cast,seval];rfl);(first|exact trivial))|((with_reducible apply aO hm);(simp only[push_cast,seval];rfl);intro hm;rotate_left;intro hm)|((with_reducible apply bQ hm);(focus(simp only[bu,dc,RV.get,push_cast,seval];rfl));(focus((repeat'(first|rfl));done)))|((with_reducible apply bE hm);intro r hm)|((with_reducible apply di hm);intro r hm)|((apply az (b:=1) (X:=lp) (x:=gV) rfl (fun(c:SV×SV) (s:Int)=>st [(21,c.1),(22,c.2),(23,.d (.int .i64 s))] []) (c:=(_,_)) (s0:=_) hm);(focus(first|(dsimp only;done)));(with_reducible refine cN.mk ?_ ?_))|((apply bG (s':=_) hm);(focus(first|(dsimp only;done))))|((apply cZ (s':=_) hm);(focus(first|(dsimp only;done))))|(((with_reducible apply gq hm);intro r hm))|(((with_reducible apply dC.of);(focus(first|(dsimp only;done)));(focus((intro _;repeat'(first|with_reducible exact bo|with_reducible refine aG ?_))));(intro s o hm;first|unfold gV);rotate_left;intro s hm))|(((apply aW;(repeat'(first|with_reducible exact aw|with_reducible exact ax|with_reducible apply ap|((with_reducible apply aP);(focus(first|(simp only[push_cast,seval];rfl)));(focus((repeat'(first|rfl));done)))));done))))
noncomputable def jQ (x0:aq):Option (Int):=(vg x0).1
theorem sq (x0:aq):∀ r,jQ x0=some r->aa Tryz.prog 95 [.agg (aX x0)] (.int .i64 r):=(vg x0).2
def jq:SC:=
 (.seq (.reg [.r 43 (.bin .lss (.t 42) (.t 41))])
 (.seq (.cond (.t 43)
  .skip
  (.exit 2))
 (.seq (.block 3 (.seq (.reg [.r 44 (.idx 3 (.t 40) (.t 42)),
    .o 45 (.ldA 3 (.t 44)),
    .w 6 (.boxM (.c (.agg [.d (.bool false),.d (.int .i64 0),.nils]))),
    .w 0 (.st 3 (.t 6) (.t 45))])
  (.seq (.reg [.o 46 (.ldA 3 (.t 6)),
    .c 47 (.f 95) [.t 46],
    .r 7 (.mv (.t 47))])
  (.seq (.reg [.r 48 (.mv (.t 7)),
    .r 49 (.bin .neq (.t 48) (.c (.d (.int .i64 0))))])
  (.cond (.t 49)
   (.seq (.reg [.r 50 (.mv (.t 7)),
     .r 2 (.mv (.t 50))])
   .ret)
   .skip)))))
 (.reg [.r 51 (.bin .add (.t 42) (.c (.d (.int .i64 1)))),
   .r 42 (.mv (.t 51))]))))
def nK:SC:= .block 2 (.loop jq)
def jr:SC:=
 (.seq (.reg [.r 14 (.bin .lss (.t 13) (.t 12))])
 (.seq (.cond (.t 14)
  .skip
  (.exit 0))
 (.seq (.block 1 (.seq (.reg [.r 15 (.mv (.t 13)),
    .r 16 (.idx 2 (.t 11) (.t 13)),
    .o 17 (.ldA 2 (.t 16)),
    .w 4 (.boxM (.c (.agg [.d (.str []),.nils]))),
    .r 3 (.mv (.t 15)),
    .w 0 (.st 2 (.t 4) (.t 17))])
  (.seq (.seq (.reg [.r 18 (.fld 0 (.t 4)),
    .o 19 (.ld1 (.t 18)),
    .c 20 (.f 52) [.t 19],
    .r 21 (.not (.t 20))])
  (.cond (.t 21)
   (.seq (.reg [.r 2 (.mv (.c (.d (.int .i64 5))))])
   .ret)
   .skip))
  (.seq (.seq (.regD (.r 22 (.mv (.t 3)):: .r 23 (.bin .gtr (.t 22) (.c (.d (.int .i64 0)))):: .r 24 (.mv (.t 23))::aV [25,26,27,28,29,30,31,32,33] 24 true (.r 25 (.fld 0 (.t 4)):: .r 26 (.ld1 (.t 25)):: .r 27 (.mv (.t 0)):: .r 28 (.mv (.t 3)):: .r 29 (.bin .sub (.t 28) (.c (.d (.int .i64 1)))):: .r 30 (.idx 2 (.t 27) (.t 29)):: .r 31 (.fld 0 (.t 30)):: .r 32 (.ld1 (.t 31)):: .r 33 (.bin .leq (.t 26) (.t 32))::[]) (.r 34 (.pick (.t 24) (.t 33) (.c (.d (.bool false))))::[])))
  (.cond (.t 34)
   (.seq (.reg [.r 2 (.mv (.c (.d (.int .i64 8))))])
   .ret)
   .skip))
  (.seq (.seq (.reg [.r 35 (.fld 1 (.t 4)),
    .o 36 (.ld1 (.t 35)),
    .r 37 (.len (.t 36)),
    .r 38 (.bin .gtr (.t 37) (.c (.d (.int .i64 50))))])
  (.cond (.t 38)
   (.seq (.reg [.r 2 (.mv (.c (.d (.int .i64 2))))])
   .ret)
   .skip))
  (.seq (.reg [.r 39 (.fld 1 (.t 4)),
    .o 40 (.ld1 (.t 39)),
    .r 41 (.len (.t 40)),
    .r 42 (.mv (.c (.d (.int .i64 0))))])
  nK))))))
 (.reg [.r 52 (.bin .add (.t 13) (.c (.d (.int .i64 1)))),
   .r 13 (.mv (.t 52))]))))
def nL:SC:= .block 0 (.loop jr)
def p8:SC:=
 (.seq (.reg [.r 2 (.mv (.c (.d (.int .i64 0))))])
 (.seq (.seq (.reg [.r 8 (.mv (.t 0)),
   .r 9 (.len (.t 8)),
   .r 10 (.bin .gtr (.t 9) (.c (.d (.int .i64 100))))])
 (.cond (.t 10)
  (.seq (.reg [.r 2 (.mv (.c (.d (.int .i64 2))))])
  .ret)
  .skip))
 (.seq (.seq (.reg [.r 11 (.mv (.t 0)),
   .r 12 (.len (.t 11)),
   .r 13 (.mv (.c (.d (.int .i64 0))))])
 nL)
 (.seq (.reg [.r 2 (.mv (.c (.d (.int .i64 0))))])
 .ret))))
theorem vh:fits Tryz.prog 48 Tryz.f48 p8 [.t 2] 1=true:=oK
set_option maxRecDepth 100000 in
set_option maxHeartbeats 40000000 in
noncomputable def vi:(∀ (x0:List ah),{m:Option (Int)//∀ r,m=some r->aa Tryz.prog 48 [.slice (List.map ak x0)] (.int .i64 r)}):=by
 (intro x0;apply Subtype.mk;intro r hm;apply af Tryz.func48 vh;unfold p8)
 repeat'(first|with_reducible refine bA ?_|with_reducible refine bt ?_|with_reducible refine uE ?_|with_reducible refine bm ?_|with_reducible refine bl ?_|with_reducible refine bR ?_|with_reducible refine cw ?_|with_reducible refine bv ?_|with_reducible refine bB ?_|with_reducible refine cx ?_|with_reducible refine cb ?_|with_reducible refine bq ?_|with_reducible refine cg ?_|with_reducible refine dI ?_|((with_reducible apply dz hm);(iterate 2 (simp only[push_cast,seval];rfl));(intro _;rfl);intro e hm)|((with_reducible apply im);(simp only[push_cast,seval];rfl);(first|exact trivial))|((with_reducible apply fG hm);(simp only[push_cast,seval];rfl);rfl;intro v hm;rotate_left;intro v g hm)|((with_reducible apply fg hm);(simp only[push_cast,seval];rfl);(first|apply nR _|apply sq _);(any_goals((repeat'(first|rfl));done));intro x hm)|((with_reducible apply wM);(simp only[push_cast,seval];rfl);(first|exact trivial))|((with_reducible apply aO hm);(simp only[push_cast,seval];rfl);intro hm;rotate_left;intro hm)|((with_reducible apply bQ hm);(focus(simp only[bu,dc,RV.get,push_cast,seval];rfl));(focus((repeat'(first|rfl));done)))|((with_reducible apply cJ hm);(simp only[push_cast,seval];rfl))|((with_reducible apply bE hm);intro r hm)|((with_reducible apply di hm);intro r hm)|((apply az (b:=2) (X:=nK) (x:=jq) rfl (fun(c:SV×SV×SV×SV×SV×SV) (s:Int)=>st [(0,c.1),(11,c.2.1),(12,c.2.2.1),(13,c.2.2.2.1),(40,c.2.2.2.2.1),(41,c.2.2.2.2.2),(42,.d (.int .i64 s))] []) (c:=(_,_,_,_,_,_)) (s0:=_) hm);(focus(first|(dsimp only;done)));(with_reducible refine cN.mk ?_ ?_))|((apply az (b:=0) (X:=nL) (x:=jr) rfl (fun(c:SV×SV×SV) (s:Int)=>st [(0,c.1),(11,c.2.1),(12,c.2.2),(13,.d (.int .i64 s))] []) (c:=(_,_,_)) (s0:=_) hm);(focus(first|(dsimp only;done)));(with_reducible refine cN.mk ?_ ?_))|((apply bG (s':=_) hm);(focus(first|(dsimp only;done))))|((apply cZ (s':=_) hm);(focus(first|(dsimp only;done))))|(((with_reducible apply gq hm);intro r hm))|(((with_reducible apply dC.of);(focus(first|(dsimp only;done)));(focus((intro _;repeat'(first|with_reducible exact bo|with_reducible refine aG ?_|with_reducible refine dj ?_|((with_reducible refine ec ?_);intro _)|((with_reducible refine fH ?_);intro _)))));(intro s o hm;first|unfold jq|unfold jr);rotate_left;intro s hm))|(((apply aW;(repeat'(first|with_reducible exact aw|with_reducible exact ax|with_reducible apply ap|((with_reducible apply aP);(focus(first|(simp only[push_cast,seval];rfl)));(focus((repeat'(first|rfl));done)))));done))))
noncomputable def my (x0:List ah):Option (Int):=(vi x0).1
theorem uo (x0:List ah):∀ r,my x0=some r->aa Tryz.prog 48 [.slice (List.map ak x0)] (.int .i64 r):=(vi x0).2
def oc:SC:=
 (.seq (.reg [.r 1 (.boxI (.t 0)),
   .r 2 (.mv (.c (.d (.int .i64 0))))])
 (.seq (.seq (.reg (.r 6 (.fld 0 (.t 1)):: .o 7 (.ld1 (.t 6)):: .c 8 (.f 47) [.t 7]:: .r 9 (.not (.t 8)):: .r 10 (.mv (.t 9))::aV [11,12,13,14] 10 false (.r 11 (.fld 1 (.t 1)):: .r 12 (.ld1 (.t 11)):: .c 13 (.f 47) [.t 12]:: .r 14 (.not (.t 13))::[]) (.r 15 (.pick (.t 10) (.c (.d (.bool true))) (.t 14))::[])))
 (.cond (.t 15)
  (.seq (.reg [.r 2 (.mv (.c (.d (.int .i64 5))))])
  .ret)
  .skip))
 (.seq (.seq (.reg [.r 16 (.fld 2 (.t 1)),
   .o 17 (.ld1 (.t 16)),
   .c 18 (.f 48) [.t 17],
   .r 3 (.mv (.t 18))])
 (.seq (.reg [.r 19 (.mv (.t 3)),
   .r 20 (.bin .neq (.t 19) (.c (.d (.int .i64 0))))])
 (.cond (.t 20)
  (.seq (.reg [.r 21 (.mv (.t 3)),
    .r 2 (.mv (.t 21))])
  .ret)
  .skip)))
 (.seq (.reg [.o 22 (.ldA 4 (.t 1)),
   .r 23 (.build [.d (.str []),.d (.str []),.nils,.nils,.d (.int .i64 0)] [(0,4,.t 22)]),
   .w 24 (.boxM (.t 23)),
   .r 4 (.mv (.t 24))])
 (.seq (.seq (.reg [.r 25 (.mv (.t 4)),
   .r 26 (.fld 3 (.t 1)),
   .o 27 (.ld1 (.t 26)),
   .p (some 28) (.f 49) [.t 25,.t 27,.c (.d (.int .i64 0))],
   .r 5 (.mv (.t 28))])
 (.seq (.reg [.r 29 (.mv (.t 5)),
   .r 30 (.bin .neq (.t 29) (.c (.d (.int .i64 0))))])
 (.cond (.t 30)
  (.seq (.reg [.r 31 (.mv (.t 5)),
    .r 2 (.mv (.t 31))])
  .ret)
  .skip)))
 (.seq (.seq (.reg [.r 32 (.fld 3 (.t 1)),
   .o 33 (.ld1 (.t 32)),
   .w 34 (.mkmap .str),
   .p (some 35) (.f 50) [.t 33,.t 34]])
 (.cond (.t 35)
  (.seq (.reg [.r 2 (.mv (.c (.d (.int .i64 7))))])
  .ret)
  .skip))
 (.seq (.seq (.reg [.r 36 (.fld 3 (.t 1)),
   .o 37 (.ld1 (.t 36)),
   .c 38 (.f 51) [.t 37,.c (.d (.raw (.map none))),.c (.d (.bool false))]])
 (.cond (.t 38)
  (.seq (.reg [.r 2 (.mv (.c (.d (.int .i64 12))))])
  .ret)
  .skip))
 (.seq (.reg [.r 2 (.mv (.c (.d (.int .i64 0))))])
 .ret))))))))
theorem tC:fits Tryz.prog 24 Tryz.f24 oc [.t 2] 1=true:=oK
set_option maxRecDepth 100000 in
set_option maxHeartbeats 40000000 in
noncomputable def vj:(∀ (x0:br),{m:Option (Int)//∀ r,m=some r->aa Tryz.prog 24 [.agg (cR x0)] (.int .i64 r)}):=by
 (intro x0;apply Subtype.mk;intro r hm;apply af Tryz.func24 tC;unfold oc)
 repeat'(first|with_reducible refine bA ?_|with_reducible refine bt ?_|with_reducible refine bl ?_|with_reducible refine bR ?_|with_reducible refine bv ?_|with_reducible refine bB ?_|with_reducible refine cb ?_|with_reducible refine dI ?_|((with_reducible apply im);(simp only[push_cast,seval];rfl);(first|exact trivial))|((with_reducible apply qC hm);(simp only[push_cast,seval];rfl);rfl;intro v hm;rotate_left;intro v g hm)|((with_reducible apply fg hm);(simp only[push_cast,seval];rfl);(first|apply pW _|apply uo _|apply j4 FU _ _ _);(any_goals((repeat'(first|rfl|(with_reducible first|apply eo)));done));intro x hm)|((with_reducible apply wM);(simp only[push_cast,seval];rfl);(first|exact trivial))|((with_reducible apply aO hm);(simp only[push_cast,seval];rfl);intro hm;rotate_left;intro hm)|((with_reducible apply bQ hm);(focus(simp only[bu,dc,RV.get,push_cast,seval];rfl));(focus((repeat'(first|rfl));done)))|((with_reducible apply cJ hm);(simp only[push_cast,seval];rfl))|(((with_reducible apply At hm (id:=24) (ms:=[.sh,.sh,.sh,.sh,.sh]));(focus(exact dB.refl _));(focus(simp only[push_cast,seval];(try rfl);done));(focus(simp only[push_cast,seval];(try rfl);done));(focus(simp only[push_cast,seval];(try rfl);done));(focus((repeat'(first|(with_reducible first|apply mn|apply rl)|((with_reducible apply aP);(focus(first|rfl));(focus((repeat'(first|rfl));done)))));done));(focus rfl);(first|apply dE FU _ _ _);(any_goals(focus((repeat'(first|rfl));done)));(focus(intro _;exact⟨rfl,rfl,rfl⟩));intro y hm))|(((with_reducible apply JH hm);(focus(simp only[push_cast,seval];(try rfl);done));(focus(simp only[push_cast,seval];(try rfl);done));(focus(simp only[push_cast,seval];(try rfl);done));(focus(first|(simp only[push_cast,seval];apply H6)));(focus rfl);(focus(first|apply nH FU _ _));(any_goals(focus((repeat'(first|rfl));done)));(focus(intro _;exact⟨rfl,rfl⟩));intro y hm))|(((with_reducible apply fg hm);(simp only[push_cast,seval];rfl);(apply ul FU);(any_goals((repeat'(first|rfl));done));intro x hm)))
noncomputable def kH (x0:br):Option (Int):=(vj x0).1
theorem sR (x0:br):∀ r,kH x0=some r->aa Tryz.prog 24 [.agg (cR x0)] (.int .i64 r):=(vj x0).2
end Go.Proofs.YteaolfcegaidpaaGreatDoor
