/-
  Laws on the way to the theorem.
-/
import Derived.Test.YteaolfcegaidpaaGreatDoorBX1
namespace Go.Proofs.YteaolfcegaidpaaGreatDoor
open Go.RowKit
set_option linter.unusedSimpArgs false
set_option linter.unusedVariables false
def rl:SC:=
 (.seq (.reg [.r 2 (.mv (.c (.d (.bool false))))])
 (.seq (.reg [.r 3 (.mv (.t 0)),
   .c 4 (.f 114) [.t 3,.c (.d (.int .i64 1)),.c (.d (.int .i64 5))],
   .r 5 (.not (.t 4)),
   .r 2 (.mv (.t 5))])
 .ret))
theorem wO:fits Tryz.prog 205 Tryz.f205 rl [.t 2] 1=true:=oK
def lr:SC:=
 (.seq (.reg [.r 14 (.bin .lss (.t 13) (.t 12))])
 (.seq (.cond (.t 14)
  .skip
  (.exit 0))
 (.seq (.block 1 (.seq (.reg [.r 15 (.idx 1 (.t 11) (.t 13)),
    .o 16 (.ld1 (.t 15)),
    .r 8 (.mv (.t 16))])
  (.seq (.seq (.reg (.r 17 (.mv (.t 0)):: .r 18 (.lenT (.t 17)):: .r 19 (.mv (.t 8)):: .r 20 (.bin .lss (.t 18) (.t 19)):: .r 21 (.mv (.t 20))::aI [22,23,24,25,26] 21 false (.r 22 (.mv (.t 0)):: .r 23 (.mv (.t 8)):: .r 24 (.sslc (.t 22) none (some (.t 23))):: .c 25 (.f 151) [.t 24]:: .r 26 (.not (.t 25))::[]) (.r 27 (.pick (.t 21) (.c (.d (.bool true))) (.t 26))::[])))
  (.cond (.t 27)
   (.seq (.reg [.r 4 (.mv (.c (.nils))),
     .r 5 (.mv (.c (.d (.bool false))))])
   .ret)
   .skip))
  (.seq (.reg [.r 29 (.mv (.t 0)),
    .r 30 (.mv (.t 8)),
    .r 31 (.sslc (.t 29) none (some (.t 30))),
    .c 32 (.f 152) [.t 31],
    .r 28 (.mv (.t 32)),
    .r 33 (.ext (.t 28) 0),
    .r 34 (.ext (.t 28) 1),
    .r 9 (.mv (.t 33)),
    .r 10 (.mv (.t 34))])
  (.seq (.reg [.r 35 (.mv (.t 6)),
    .r 36 (.mv (.t 9)),
    .r 37 (.bslice 1 [.t 36]),
    .w 38 (.app 3 1 (.t 35) (.t 37)),
    .r 6 (.mv (.t 38))])
  (.reg [.r 39 (.mv (.t 0)),
    .r 40 (.mv (.t 8)),
    .r 41 (.sslc (.t 39) (some (.t 40)) none),
    .r 0 (.mv (.t 41))]))))))
 (.reg [.r 42 (.bin .add (.t 13) (.c (.d (.int .i64 1)))),
   .r 13 (.mv (.t 42))]))))
def pE:SC:= .block 0 (.loop lr)
def sA:SC:=
 (.seq (.reg [.r 4 (.mv (.c (.nils))),
   .r 5 (.mv (.c (.d (.bool false))))])
 (.seq (.reg [.r 6 (.mv (.c (.nils)))])
 (.seq (.seq (.reg [.r 11 (.mv (.t 1)),
   .r 12 (.len (.t 11)),
   .r 13 (.mv (.c (.d (.int .i64 0))))])
 pE)
 (.seq (.reg [.r 43 (.mv (.t 6)),
   .r 44 (.mv (.t 0)),
   .r 45 (.bin .eql (.t 44) (.c (.d (.str [])))),
   .r 4 (.mv (.t 43)),
   .r 5 (.mv (.t 45))])
 .ret))))
theorem xS:fits Tryz.prog 224 Tryz.f224 sA [.t 4,.t 5] 2=true:=oK
def rm:SC:=
 (.seq (.reg [.r 2 (.mv (.c (.d (.bool false))))])
 (.seq (.reg (.r 3 (.mv (.t 0)):: .r 4 (.bin .rem (.t 3) (.c (.d (.int .i64 4)))):: .r 5 (.bin .eql (.t 4) (.c (.d (.int .i64 0)))):: .r 6 (.mv (.t 5))::aI [7,8,9,10,11,12,13,14] 6 true (.r 7 (.mv (.t 0)):: .r 8 (.bin .rem (.t 7) (.c (.d (.int .i64 100)))):: .r 9 (.bin .neq (.t 8) (.c (.d (.int .i64 0)))):: .r 10 (.mv (.t 9))::aI [11,12,13] 10 false (.r 11 (.mv (.t 0)):: .r 12 (.bin .rem (.t 11) (.c (.d (.int .i64 400)))):: .r 13 (.bin .eql (.t 12) (.c (.d (.int .i64 0))))::[]) (.r 14 (.pick (.t 10) (.c (.d (.bool true))) (.t 13))::[])) (.r 15 (.pick (.t 6) (.t 14) (.c (.d (.bool false)))):: .r 2 (.mv (.t 15))::[])))
 .ret))
theorem wP:fits Tryz.prog 248 Tryz.f248 rm [.t 2] 1=true:=oK
def rn:SC:=
 (.seq (.reg [.r 2 (.mv (.c (.d (.int .i64 0))))])
 (.seq (.reg [.r 4 (.mv (.t 0)),
   .r 5 (.bin .sub (.t 4) (.c (.d (.int .i64 1)))),
   .r 3 (.mv (.t 5))])
 (.seq (.reg [.r 6 (.mv (.t 3)),
   .r 7 (.bin .mul (.c (.d (.int .i64 365))) (.t 6)),
   .r 8 (.mv (.t 3)),
   .r 9 (.bin .quo (.t 8) (.c (.d (.int .i64 4)))),
   .r 10 (.bin .add (.t 7) (.t 9)),
   .r 11 (.mv (.t 3)),
   .r 12 (.bin .quo (.t 11) (.c (.d (.int .i64 100)))),
   .r 13 (.bin .sub (.t 10) (.t 12)),
   .r 14 (.mv (.t 3)),
   .r 15 (.bin .quo (.t 14) (.c (.d (.int .i64 400)))),
   .r 16 (.bin .add (.t 13) (.t 15)),
   .r 2 (.mv (.t 16))])
 .ret)))
theorem wQ:fits Tryz.prog 241 Tryz.f241 rn [.t 2] 1=true:=oK
set_option maxRecDepth 100000 in
set_option maxHeartbeats 40000000 in
noncomputable def dT:(∀ (x0:Int),{m:Option (Bool)//∀ r,m=some r->aa Tryz.prog 205 [.int .i64 x0] (.bool r)})×(∀ (x0:List UInt8) (x1:List Int),{m:Option ((List Int)×Bool)//∀ r,m=some r->aa Tryz.prog 224 [.str x0,.slice (List.map xJ x1)] (.tup [.slice (List.map xJ r.1),.bool r.2])})×(∀ (x0:Int),{m:Option (Bool)//∀ r,m=some r->aa Tryz.prog 248 [.int .i64 x0] (.bool r)})×(∀ (x0:Int),{m:Option (Int)//∀ r,m=some r->aa Tryz.prog 241 [.int .i64 x0] (.int .i64 r)}):=by
 refine⟨?g0, ?g1, ?g2, ?g3⟩
 case' g0=>(intro x0;apply Subtype.mk;intro r hm;apply ag Tryz.func205 wO;unfold rl)
 case' g1=>(intro x0 x1;apply Subtype.mk;intro r hm;apply ag Tryz.func224 xS;unfold sA)
 case' g2=>(intro x0;apply Subtype.mk;intro r hm;apply ag Tryz.func248 wP;unfold rm)
 case' g3=>(intro x0;apply Subtype.mk;intro r hm;apply ag Tryz.func241 wQ;unfold rn)
 all_goals(repeat'(first|with_reducible refine bF ?_|with_reducible refine bu ?_|with_reducible refine bo ?_|with_reducible refine bl ?_|with_reducible refine bE ?_|with_reducible refine cg ?_|with_reducible refine bw ?_|with_reducible refine bG ?_|with_reducible refine cj ?_|with_reducible refine bA ?_|with_reducible refine br ?_|with_reducible refine bv ?_|with_reducible refine cF ?_|((with_reducible apply cu hm);(iterate 2 (simp only[push_cast,seval];rfl));(intro _;rfl);intro e hm)|((with_reducible apply Ft hm);(iterate 3 (simp only[push_cast,seval];rfl));intro e hm)|((with_reducible apply iE);(simp only[push_cast,seval];rfl);(first|exact trivial))|((with_reducible apply ed hm);(simp only[push_cast,seval];rfl);rfl;intro v hm;rotate_left;intro v g hm)|((with_reducible apply np hm);(simp only[push_cast,seval];rfl);rfl;intro v hm;rotate_left;intro v g hm)|((with_reducible apply ee hm);(simp only[push_cast,seval];rfl);(first|apply ep _ _ _|apply jf _|apply xb _);(any_goals((repeat'(first|rfl));done));intro x hm)|((with_reducible apply vO hm);(iterate 4 (simp only[push_cast,seval];rfl));(focus((repeat'(first|rfl|(with_reducible first|apply dh|apply di|apply gi)));done));decide;(intro _;rfl);intro hm)|((with_reducible apply aM hm);(simp only[push_cast,seval];rfl);intro hm;rotate_left;intro hm)|((with_reducible apply iF hm);(focus(simp only[bk,cn,RV.get,push_cast,seval];rfl));(focus(first|(dsimp only;done)));(focus((repeat'(first|rfl|(with_reducible first|apply vn|apply dh|apply dm|apply di)));done)))|((with_reducible apply bC hm);(focus(simp only[bk,cn,RV.get,push_cast,seval];rfl));(focus((repeat'(first|rfl));done)))|((with_reducible apply bR hm);(simp only[push_cast,seval];rfl))|((with_reducible apply bH hm);intro r hm)|((with_reducible apply cb hm);intro r hm)|((apply aH (b:=0) (X:=pE) (x:=lr) rfl (fun(c:SV×SV) (s:(List UInt8)×(List Int)×Int)=>st [(0,.d (.str s.1)),(6,.vec 6),(11,c.1),(12,c.2),(13,.d (.int .i64 s.2.2))] [(6,.vec 3 1 (cm xJ s.2.1))]) (c:=(_,_)) (s0:=(_,_,_)) hm);(focus(first|(dsimp only;done)));(with_reducible refine cA.mk ?_ ?_);apply f0.trans;(focus(apply nm (slot:=6) (id:=6) (e:=3) (sz:=1);(focus(simp only[push_cast,seval];done)))))|((apply bB (s':=(_,_,_)) hm);(focus(first|(dsimp only;done))))|((apply ct (s':=(_,_,_)) hm);(focus(first|(dsimp only;done))))|(((with_reducible apply ew hm);intro r hm))|(((with_reducible apply dw.of);(focus(first|(dsimp only;done)));(focus((intro _;repeat'(first|with_reducible exact bg|with_reducible refine aR ?_))));(intro s o hm;first|unfold lr);rotate_left;intro s hm))|(((apply bI;(repeat'(first|with_reducible exact aT|with_reducible exact aU|with_reducible apply aJ|with_reducible apply c7|((with_reducible apply aZ);(focus(first|(simp only[push_cast,seval];rfl)));(focus((repeat'(first|rfl));done)))|((with_reducible apply iG);(focus(first|(simp only[push_cast,seval];rfl)));(first|with_reducible exact cT rfl|with_reducible apply ri))|(with_reducible first|apply BH)));done)))))
noncomputable def oF (x0:Int):Option (Bool):=(dT.1 x0).1
theorem vS (x0:Int):∀ r,oF x0=some r->aa Tryz.prog 205 [.int .i64 x0] (.bool r):=(dT.1 x0).2
noncomputable def pF (x0:List UInt8) (x1:List Int):Option ((List Int)×Bool):=(dT.2.1 x0 x1).1
theorem wR (x0:List UInt8) (x1:List Int):∀ r,pF x0 x1=some r->aa Tryz.prog 224 [.str x0,.slice (List.map xJ x1)] (.tup [.slice (List.map xJ r.1),.bool r.2]):=(dT.2.1 x0 x1).2
noncomputable def oG (x0:Int):Option (Bool):=(dT.2.2.1 x0).1
theorem vT (x0:Int):∀ r,oG x0=some r->aa Tryz.prog 248 [.int .i64 x0] (.bool r):=(dT.2.2.1 x0).2
noncomputable def oH (x0:Int):Option (Int):=(dT.2.2.2 x0).1
theorem vU (x0:Int):∀ r,oH x0=some r->aa Tryz.prog 241 [.int .i64 x0] (.int .i64 r):=(dT.2.2.2 x0).2
def ro:SC:=
 (.seq (.reg [.r 4 (.mv (.c (.d (.int .i64 0))))])
 (.seq (.seq (.reg (.r 5 (.mv (.t 1)):: .r 6 (.bin .eql (.t 5) (.c (.d (.int .i64 2)))):: .r 7 (.mv (.t 6))::aI [8,9] 7 true (.r 8 (.mv (.t 0)):: .c 9 (.f 248) [.t 8]::[]) (.r 10 (.pick (.t 7) (.t 9) (.c (.d (.bool false))))::[])))
 (.cond (.t 10)
  (.seq (.reg [.r 4 (.mv (.c (.d (.int .i64 29))))])
  .ret)
  .skip))
 (.seq (.reg [.r 11 (.build [.d (.int .i64 0),.d (.int .i64 0),.d (.int .i64 0),.d (.int .i64 0),.d (.int .i64 0),.d (.int .i64 0),.d (.int .i64 0),.d (.int .i64 0),.d (.int .i64 0),.d (.int .i64 0),.d (.int .i64 0),.d (.int .i64 0)] [(0,1,.c (.d (.int .i64 31))),(1,1,.c (.d (.int .i64 28))),(2,1,.c (.d (.int .i64 31))),(3,1,.c (.d (.int .i64 30))),(4,1,.c (.d (.int .i64 31))),(5,1,.c (.d (.int .i64 30))),(6,1,.c (.d (.int .i64 31))),(7,1,.c (.d (.int .i64 31))),(8,1,.c (.d (.int .i64 30))),(9,1,.c (.d (.int .i64 31))),(10,1,.c (.d (.int .i64 30))),(11,1,.c (.d (.int .i64 31)))]),
   .r 12 (.mv (.t 1)),
   .r 13 (.bin .sub (.t 12) (.c (.d (.int .i64 1)))),
   .r 14 (.vidx 12 (.t 11) (.t 13)),
   .r 4 (.mv (.t 14))])
 .ret)))
theorem wS:fits Tryz.prog 240 Tryz.f240 ro [.t 4] 2=true:=oK
set_option maxRecDepth 100000 in
set_option maxHeartbeats 40000000 in
noncomputable def tC:(∀ (x0:Int) (x1:Int),{m:Option (Int)//∀ r,m=some r->aa Tryz.prog 240 [.int .i64 x0,.int .i64 x1] (.int .i64 r)}):=by
 (intro x0 x1;apply Subtype.mk;intro r hm;apply ag Tryz.func240 wS;unfold ro)
 repeat'(first|with_reducible refine bF ?_|with_reducible refine bu ?_|with_reducible refine bl ?_|with_reducible refine bE ?_|with_reducible refine bw ?_|with_reducible refine bG ?_|with_reducible refine bA ?_|((with_reducible apply Kq hm);(focus(simp only[Gp,push_cast,seval];rfl));(focus(show su IntKind.i64 _=_;simp only[su,Nr,MS];rfl));rfl;(simp only[push_cast,seval];rfl);intro e hm)|((with_reducible apply iE);(simp only[push_cast,seval];rfl);(first|exact trivial))|((with_reducible apply ed hm);(simp only[push_cast,seval];rfl);rfl;intro v hm;rotate_left;intro v g hm)|((with_reducible apply ee hm);(simp only[push_cast,seval];rfl);(first|apply vT _);(any_goals((repeat'(first|rfl));done));intro x hm)|((with_reducible apply aM hm);(simp only[push_cast,seval];rfl);intro hm;rotate_left;intro hm)|((with_reducible apply bC hm);(focus(simp only[bk,cn,RV.get,push_cast,seval];rfl));(focus((repeat'(first|rfl));done)))|((with_reducible apply bR hm);(simp only[push_cast,seval];rfl)))
noncomputable def oI (x0:Int) (x1:Int):Option (Int):=(tC x0 x1).1
theorem vV (x0:Int) (x1:Int):∀ r,oI x0 x1=some r->aa Tryz.prog 240 [.int .i64 x0,.int .i64 x1] (.int .i64 r):=(tC x0 x1).2
def ls:SC:=
 (.seq (.seq (.reg [.r 27 (.mv (.t 9)),
   .r 28 (.mv (.t 1)),
   .r 29 (.bin .lss (.t 27) (.t 28))])
 (.cond (.t 29)
  .skip
  (.exit 0)))
 (.seq (.block 1 (.reg [.r 32 (.mv (.t 8)),
    .r 33 (.mv (.t 0)),
    .r 34 (.mv (.t 9)),
    .c 35 (.f 240) [.t 33,.t 34],
    .r 36 (.bin .add (.t 32) (.t 35)),
    .r 8 (.mv (.t 36))]))
 (.reg [.r 30 (.mv (.t 9)),
   .r 31 (.bin .add (.t 30) (.c (.d (.int .i64 1)))),
   .r 9 (.mv (.t 31))])))
def pG:SC:= .block 0 (.loop ls)
def sB:SC:=
 (.seq (.reg [.r 6 (.mv (.c (.d (.int .i64 0)))),
   .r 7 (.mv (.c (.d (.bool false))))])
 (.seq (.seq (.reg (.r 10 (.mv (.t 0)):: .c 11 (.f 114) [.t 10,.c (.d (.int .i64 1)),.c (.d (.int .i64 9999))]:: .r 12 (.mv (.t 11))::aI [13,14] 12 false (.r 13 (.mv (.t 1)):: .c 14 (.f 114) [.t 13,.c (.d (.int .i64 1)),.c (.d (.int .i64 12))]::[]) (.r 15 (.pick (.t 12) (.c (.d (.bool true))) (.t 14)):: .r 16 (.mv (.t 15))::aI [17,18,19,20,21] 16 false (.r 17 (.mv (.t 2)):: .r 18 (.mv (.t 0)):: .r 19 (.mv (.t 1)):: .c 20 (.f 240) [.t 18,.t 19]:: .c 21 (.f 114) [.t 17,.c (.d (.int .i64 1)),.t 20]::[]) (.r 22 (.pick (.t 16) (.c (.d (.bool true))) (.t 21))::[]))))
 (.cond (.t 22)
  (.seq (.reg [.r 6 (.mv (.c (.d (.int .i64 0)))),
    .r 7 (.mv (.c (.d (.bool false))))])
  .ret)
  .skip))
 (.seq (.reg [.r 23 (.mv (.t 0)),
   .c 24 (.f 241) [.t 23],
   .r 25 (.mv (.t 2)),
   .r 26 (.bin .add (.t 24) (.t 25)),
   .r 8 (.mv (.t 26))])
 (.seq (.seq (.reg [.r 9 (.mv (.c (.d (.int .i64 1))))])
 pG)
 (.seq (.reg [.r 37 (.mv (.t 8)),
   .r 6 (.mv (.t 37)),
   .r 7 (.mv (.c (.d (.bool true))))])
 .ret)))))
theorem xT:fits Tryz.prog 225 Tryz.f225 sB [.t 6,.t 7] 3=true:=oK
set_option maxRecDepth 100000 in
set_option maxHeartbeats 40000000 in
noncomputable def tD:(∀ (x0:Int) (x1:Int) (x2:Int),{m:Option (Int×Bool)//∀ r,m=some r->aa Tryz.prog 225 [.int .i64 x0,.int .i64 x1,.int .i64 x2] (.tup [.int .i64 r.1,.bool r.2])}):=by
 (intro x0 x1 x2;apply Subtype.mk;intro r hm;apply ag Tryz.func225 xT;unfold sB)
 repeat'(first|with_reducible refine bF ?_|with_reducible refine bu ?_|with_reducible refine bo ?_|with_reducible refine bl ?_|with_reducible refine bE ?_|with_reducible refine cg ?_|with_reducible refine bw ?_|with_reducible refine bG ?_|with_reducible refine cj ?_|with_reducible refine bA ?_|with_reducible refine br ?_|((with_reducible apply iE);(simp only[push_cast,seval];rfl);(first|exact trivial))|((with_reducible apply np hm);(simp only[push_cast,seval];rfl);rfl;intro v hm;rotate_left;intro v g hm)|((with_reducible apply ee hm);(simp only[push_cast,seval];rfl);(first|apply ep _ _ _|apply vV _ _|apply vU _);(any_goals((repeat'(first|rfl));done));intro x hm)|((with_reducible apply aM hm);(simp only[push_cast,seval];rfl);intro hm;rotate_left;intro hm)|((with_reducible apply iF hm);(focus(simp only[bk,cn,RV.get,push_cast,seval];rfl));(focus(first|(dsimp only;done)));(focus((repeat'(first|rfl));done)))|((with_reducible apply bR hm);(simp only[push_cast,seval];rfl))|((with_reducible apply bH hm);intro r hm)|((apply aH (b:=0) (X:=pG) (x:=ls) rfl (fun(c:SV×SV) (s:Int×Int)=>st [(0,c.1),(1,c.2),(8,.d (.int .i64 s.1)),(9,.d (.int .i64 s.2))] []) (c:=(_,_)) (s0:=(_,_)) hm);(focus(first|(dsimp only;done)));(with_reducible refine cA.mk ?_ ?_))|((apply bB (s':=(_,_)) hm);(focus(first|(dsimp only;done))))|((apply ct (s':=(_,_)) hm);(focus(first|(dsimp only;done))))|(((with_reducible apply dw.of);(focus(first|(dsimp only;done)));(focus((intro _;repeat'(first|with_reducible exact bg|with_reducible refine aR ?_))));(intro s o hm;first|unfold ls);rotate_left;intro s hm))|(((apply bI;(repeat'(first|with_reducible exact aT|with_reducible exact aU|with_reducible apply aJ|((with_reducible apply aZ);(focus(first|(simp only[push_cast,seval];rfl)));(focus((repeat'(first|rfl));done)))));done))))
noncomputable def mC (x0:Int) (x1:Int) (x2:Int):Option (Int×Bool):=(tD x0 x1 x2).1
theorem wT (x0:Int) (x1:Int) (x2:Int):∀ r,mC x0 x1 x2=some r->aa Tryz.prog 225 [.int .i64 x0,.int .i64 x1,.int .i64 x2] (.tup [.int .i64 r.1,.bool r.2]):=(tD x0 x1 x2).2
def qz:SC:=
 (.seq (.reg [.r 6 (.mv (.c (.d (.int .i64 0)))),
   .r 7 (.mv (.c (.d (.bool false))))])
 (.seq (.seq (.reg [.r 20 (.mv (.t 1))])
 (.block 0 (.seq (.reg [.r 22 (.bin .eql (.t 20) (.c (.d (.int .i64 1)))),
    .r 21 (.mv (.t 22))])
  (.cond (.t 21)
   (.seq (.reg [.r 24 (.mv (.t 0)),
     .r 25 (.bslice 1 [.c (.d (.int .i64 4)),.c (.d (.int .i64 2)),.c (.d (.int .i64 2))]),
     .c 26 (.f 224) [.t 24,.t 25],
     .r 23 (.mv (.t 26)),
     .r 27 (.ext (.t 23) 0),
     .r 28 (.ext (.t 23) 1),
     .r 8 (.mv (.t 27)),
     .r 9 (.mv (.t 28))])
   (.seq (.seq (.reg [.r 29 (.mv (.t 9)),
     .r 30 (.not (.t 29))])
   (.cond (.t 30)
    (.seq (.reg [.r 6 (.mv (.c (.d (.int .i64 0)))),
      .r 7 (.mv (.c (.d (.bool false))))])
    .ret)
    .skip))
   (.seq (.regD [.r 31 (.mv (.t 8)),
     .r 32 (.idx 1 (.t 31) (.c (.d (.int .i64 0)))),
     .r 33 (.ld1 (.t 32)),
     .r 34 (.mv (.t 8)),
     .r 35 (.idx 1 (.t 34) (.c (.d (.int .i64 1)))),
     .r 36 (.ld1 (.t 35)),
     .r 37 (.mv (.t 8)),
     .r 38 (.idx 1 (.t 37) (.c (.d (.int .i64 2)))),
     .r 39 (.ld1 (.t 38)),
     .c 40 (.f 225) [.t 33,.t 36,.t 39],
     .r 41 (.ext (.t 40) 0),
     .r 42 (.ext (.t 40) 1),
     .r 6 (.mv (.t 41)),
     .r 7 (.mv (.t 42))])
   .ret)))
   .any))))
 .any))
theorem vW:fits Tryz.prog 206 Tryz.f206 qz [.t 6,.t 7] 3=true:=oK
set_option maxRecDepth 100000 in
set_option maxHeartbeats 40000000 in
noncomputable def tE:(∀ (x0:List UInt8) (x1:Int) (x2:Int),{m:Option (Int×Bool)//∀ r,m=some r->aa Tryz.prog 206 [.str x0,.int .i64 x1,.int .i64 x2] (.tup [.int .i64 r.1,.bool r.2])}):=by
 (intro x0 x1 x2;apply Subtype.mk;intro r hm;apply ag Tryz.func206 vW;unfold qz)
 repeat'(first|with_reducible refine bF ?_|with_reducible refine bu ?_|with_reducible refine ou ?_|with_reducible refine bo ?_|with_reducible refine bl ?_|with_reducible refine bE ?_|with_reducible refine bw ?_|with_reducible refine bG ?_|with_reducible refine bA ?_|with_reducible refine bv ?_|((with_reducible apply cu hm);(iterate 2 (simp only[push_cast,seval];rfl));(intro _;rfl);intro e hm)|((with_reducible apply iE);(simp only[push_cast,seval];rfl);(first|exact trivial))|(with_reducible apply wH hm)|((with_reducible apply ee hm);(simp only[push_cast,seval];rfl);(first|apply wR _ _|apply wT _ _ _);(any_goals((repeat'(first|rfl|(with_reducible first|apply dh|apply dm|apply di|apply gi)));done));intro x hm)|((with_reducible apply aM hm);(simp only[push_cast,seval];rfl);intro hm;rotate_left;intro hm)|((with_reducible apply iF hm);(focus(simp only[bk,cn,RV.get,push_cast,seval];rfl));(focus(first|(dsimp only;done)));(focus((repeat'(first|rfl));done))))
 all_goals(intros;exact())
noncomputable def nA (x0:List UInt8) (x1:Int) (x2:Int):Option (Int×Bool):=(tE x0 x1 x2).1
theorem uY (x0:List UInt8) (x1:Int) (x2:Int):∀ r,nA x0 x1 x2=some r->aa Tryz.prog 206 [.str x0,.int .i64 x1,.int .i64 x2] (.tup [.int .i64 r.1,.bool r.2]):=(tE x0 x1 x2).2
def qA:SC:=
 (.seq (.reg [.r 6 (.mv (.c (.d (.int .i64 0)))),
   .r 7 (.mv (.c (.d (.int .i64 0))))])
 (.seq (.seq (.reg [.r 10 (.mv (.t 1)),
   .c 11 (.f 205) [.t 10],
   .r 12 (.not (.t 11))])
 (.cond (.t 12)
  (.seq (.reg [.r 6 (.mv (.c (.d (.int .i64 0)))),
    .r 7 (.mv (.c (.d (.int .i64 4))))])
  .ret)
  .skip))
 (.seq (.seq (.reg [.r 13 (.mv (.t 2)),
   .c 14 (.f 114) [.t 13,.c (.d (.int .i64 1)),.c (.d (.int .i64 9900))]])
 (.cond (.t 14)
  (.seq (.reg [.r 6 (.mv (.c (.d (.int .i64 0)))),
    .r 7 (.mv (.c (.d (.int .i64 1))))])
  .ret)
  .skip))
 (.seq (.reg [.r 16 (.mv (.t 0)),
   .r 17 (.mv (.t 1)),
   .r 18 (.mv (.t 2)),
   .c 19 (.f 206) [.t 16,.t 17,.t 18],
   .r 15 (.mv (.t 19)),
   .r 20 (.ext (.t 15) 0),
   .r 21 (.ext (.t 15) 1),
   .r 8 (.mv (.t 20)),
   .r 9 (.mv (.t 21))])
 (.seq (.seq (.reg [.r 22 (.mv (.t 9)),
   .r 23 (.not (.t 22))])
 (.cond (.t 23)
  (.seq (.reg [.r 6 (.mv (.c (.d (.int .i64 0)))),
    .r 7 (.mv (.c (.d (.int .i64 10))))])
  .ret)
  .skip))
 (.seq (.reg [.r 24 (.mv (.t 8)),
   .r 6 (.mv (.t 24)),
   .r 7 (.mv (.c (.d (.int .i64 0))))])
 .ret))))))
theorem vX:fits Tryz.prog 180 Tryz.f180 qA [.t 6,.t 7] 3=true:=oK
set_option maxRecDepth 100000 in
set_option maxHeartbeats 40000000 in
noncomputable def tF:(∀ (x0:List UInt8) (x1:Int) (x2:Int),{m:Option (Int×Int)//∀ r,m=some r->aa Tryz.prog 180 [.str x0,.int .i64 x1,.int .i64 x2] (.tup [.int .i64 r.1,.int .i64 r.2])}):=by
 (intro x0 x1 x2;apply Subtype.mk;intro r hm;apply ag Tryz.func180 vX;unfold qA)
 repeat'(first|with_reducible refine bF ?_|with_reducible refine bu ?_|with_reducible refine bl ?_|with_reducible refine bE ?_|with_reducible refine bw ?_|with_reducible refine bG ?_|with_reducible refine bA ?_|((with_reducible apply iE);(simp only[push_cast,seval];rfl);(first|exact trivial))|((with_reducible apply ee hm);(simp only[push_cast,seval];rfl);(first|apply vS _|apply ep _ _ _|apply uY _ _ _);(any_goals((repeat'(first|rfl));done));intro x hm)|((with_reducible apply aM hm);(simp only[push_cast,seval];rfl);intro hm;rotate_left;intro hm)|((with_reducible apply iF hm);(focus(simp only[bk,cn,RV.get,push_cast,seval];rfl));(focus(first|(dsimp only;done)));(focus((repeat'(first|rfl));done))))
noncomputable def nB (x0:List UInt8) (x1:Int) (x2:Int):Option (Int×Int):=(tF x0 x1 x2).1
theorem uZ (x0:List UInt8) (x1:Int) (x2:Int):∀ r,nB x0 x1 x2=some r->aa Tryz.prog 180 [.str x0,.int .i64 x1,.int .i64 x2] (.tup [.int .i64 r.1,.int .i64 r.2]):=(tF x0 x1 x2).2
structure ax where
 fs:ae
 fmany:Int
def aG (x:ax):List DV:=ai x.fs++[.int .i64 x.fmany]
attribute [push_cast] aG
theorem lu {d0 d1 d2 d3 d4:SV} {v0:ae} {v1:Int} (h0:aN [d0,d1,d2,d3] (dR (ai v0))) (h1:sP d4 (.d (.int .i64 v1))):aN [d0,d1,d2,d3,d4] (fB [.sh,.sh,.sh,.sh,.sh] (aG ⟨v0,v1⟩)):=by have h:=(aN.append h0 (aN.consS h1 aN.nil));simp only[push_cast,seval,dR] at h⊢;exact h
def pO (p0:ae) (p1:Int):List SV:=dR (ai p0)++([.d (.int .i64 p1)])
attribute [push_cast] pO
def ja:SC:=
 (.seq (.reg [.r 17 (.bin .lss (.t 16) (.t 15))])
 (.seq (.cond (.t 17)
  .skip
  (.exit 1))
 (.seq (.block 2 (.seq (.reg [.r 18 (.mv (.t 16)),
    .r 5 (.mv (.t 18))])
  (.seq (.reg [.r 19 (.mv (.t 0)),
    .r 20 (.mv (.t 5)),
    .r 21 (.sidx (.t 19) (.t 20)),
    .r 6 (.mv (.t 21))])
  (.seq (.reg (.r 22 (.mv (.t 6)):: .r 23 (.bin .lss (.t 22) (.c (.d (.int .u8 65)))):: .r 24 (.mv (.t 23))::aI [25,26] 24 false (.r 25 (.mv (.t 6)):: .r 26 (.bin .gtr (.t 25) (.c (.d (.int .u8 90))))::[]) (.r 27 (.pick (.t 24) (.c (.d (.bool true))) (.t 26)):: .r 28 (.mv (.t 27))::aI [29,30,31,32,33,34] 28 true (.r 29 (.mv (.t 6)):: .r 30 (.bin .lss (.t 29) (.c (.d (.int .u8 97)))):: .r 31 (.mv (.t 30))::aI [32,33] 31 false (.r 32 (.mv (.t 6)):: .r 33 (.bin .gtr (.t 32) (.c (.d (.int .u8 122))))::[]) (.r 34 (.pick (.t 31) (.c (.d (.bool true))) (.t 33))::[])) (.r 35 (.pick (.t 28) (.t 34) (.c (.d (.bool false)))):: .r 36 (.mv (.t 35))::aI [37,38] 36 true (.r 37 (.mv (.t 6)):: .r 38 (.bin .neq (.t 37) (.c (.d (.int .u8 32))))::[]) (.r 39 (.pick (.t 36) (.t 38) (.c (.d (.bool false))))::[])))))
  (.cond (.t 39)
   (.seq (.reg [.r 4 (.mv (.c (.d (.bool false))))])
   .ret)
   .skip)))))
 (.reg [.r 40 (.bin .add (.t 16) (.c (.d (.int .i64 1)))),
   .r 16 (.mv (.t 40))]))))
def nb:SC:= .block 1 (.loop ja)
def pP:SC:=
 (.seq (.reg [.r 4 (.mv (.c (.d (.bool false))))])
 (.seq (.seq (.reg [.r 11 (.mv (.t 1))])
 (.block 0 (.seq (.reg [.r 13 (.bin .eql (.t 11) (.c (.d (.int .i64 2)))),
    .r 12 (.mv (.t 13))])
  (.cond (.t 12)
   (.seq (.reg [.r 14 (.mv (.t 0)),
     .r 15 (.lenT (.t 14)),
     .r 16 (.mv (.c (.d (.int .i64 0))))])
   nb)
   (.seq (.reg [.r 42 (.bin .eql (.t 11) (.c (.d (.int .i64 3)))),
     .r 41 (.mv (.t 42))])
   (.cond (.t 41)
    (.seq (.reg [.r 43 (.mv (.t 0)),
      .c 44 (.f 151) [.t 43],
      .r 4 (.mv (.t 44))])
    .ret)
    (.seq (.reg [.r 46 (.bin .eql (.t 11) (.c (.d (.int .i64 4)))),
      .r 45 (.mv (.t 46))])
    (.cond (.t 45)
     (.seq (.reg [.r 48 (.mv (.t 0)),
       .c 49 (.f 179) [.t 48],
       .r 47 (.mv (.t 49)),
       .r 50 (.ext (.t 47) 0),
       .r 51 (.ext (.t 47) 1),
       .w 7 (.boxM (.c (.agg [.d (.int .i64 0),.d (.int .i64 0)]))),
       .w 0 (.st 2 (.t 7) (.t 50)),
       .r 8 (.mv (.t 51))])
     (.seq (.reg [.r 52 (.mv (.t 8)),
       .r 53 (.bin .eql (.t 52) (.c (.d (.int .i64 0)))),
       .r 4 (.mv (.t 53))])
     .ret))
     (.seq (.reg [.r 55 (.bin .eql (.t 11) (.c (.d (.int .i64 5)))),
       .r 54 (.mv (.t 55))])
     (.cond (.t 54)
      (.seq (.reg [.r 57 (.mv (.t 0)),
        .c 58 (.f 180) [.t 57,.c (.d (.int .i64 1)),.c (.d (.int .i64 1))],
        .r 56 (.mv (.t 58)),
        .r 59 (.ext (.t 56) 0),
        .r 60 (.ext (.t 56) 1),
        .r 9 (.mv (.t 59)),
        .r 10 (.mv (.t 60))])
      (.seq (.reg [.r 61 (.mv (.t 10)),
        .r 62 (.bin .eql (.t 61) (.c (.d (.int .i64 0)))),
        .r 4 (.mv (.t 62))])
      .ret))
      .skip))))))))))
 (.seq (.reg [.r 4 (.mv (.c (.d (.bool true))))])
 .ret)))
theorem u_:fits Tryz.prog 164 Tryz.f164 pP [.t 4] 2=true:=oK
def az:SC:=
 (.seq (.seq (.reg [.r 15 (.mv (.t 9)),
   .r 16 (.mv (.t 10)),
   .r 17 (.bin .lss (.t 15) (.t 16))])
 (.cond (.t 17)
  .skip
  (.exit 0)))
 (.block 1 (.seq (.reg [.r 18 (.mv (.t 9)),
    .r 19 (.mv (.t 10)),
    .r 20 (.bin .add (.t 18) (.t 19)),
    .r 21 (.cvi .u64 (.t 20)),
    .r 22 (.bin .shr (.t 21) (.c (.d (.int .u64 1)))),
    .r 23 (.cvi .i64 (.t 22)),
    .r 11 (.mv (.t 23))])
  (.seq (.reg [.r 24 (.mv (.t 2)),
    .r 25 (.mv (.t 0)),
    .r 26 (.mv (.t 11)),
    .r 27 (.idx 2 (.t 25) (.t 26)),
    .o 28 (.ldA 2 (.t 27)),
    .r 29 (.mv (.t 1)),
    .c 30 (.t 24) [.t 28,.t 29],
    .r 31 (.bin .lss (.t 30) (.c (.d (.int .i64 0))))])
  (.cond (.t 31)
   (.reg [.r 32 (.mv (.t 11)),
     .r 33 (.bin .add (.t 32) (.c (.d (.int .i64 1)))),
     .r 9 (.mv (.t 33))])
   (.reg [.r 34 (.mv (.t 11)),
     .r 10 (.mv (.t 34))]))))))
def aV:SC:= .block 0 (.loop az)
def a8:SC:=
 (.seq (.reg [.r 6 (.mv (.c (.d (.int .i64 0)))),
   .r 7 (.mv (.c (.d (.bool false))))])
 (.seq (.reg [.r 12 (.mv (.t 0)),
   .r 13 (.len (.t 12)),
   .r 8 (.mv (.t 13))])
 (.seq (.reg [.r 14 (.mv (.t 8)),
   .r 9 (.mv (.c (.d (.int .i64 0)))),
   .r 10 (.mv (.t 14))])
 (.seq aV
 (.seq (.reg (.r 35 (.mv (.t 9)):: .r 36 (.mv (.t 9)):: .r 37 (.mv (.t 8)):: .r 38 (.bin .lss (.t 36) (.t 37)):: .r 39 (.mv (.t 38))::aI [40,41,42,43,44,45,46,47] 39 true (.r 40 (.mv (.t 2)):: .r 41 (.mv (.t 0)):: .r 42 (.mv (.t 9)):: .r 43 (.idx 2 (.t 41) (.t 42)):: .r 44 (.ldA 2 (.t 43)):: .r 45 (.mv (.t 1)):: .c 46 (.t 40) [.t 44,.t 45]:: .r 47 (.bin .eql (.t 46) (.c (.d (.int .i64 0))))::[]) (.r 48 (.pick (.t 39) (.t 47) (.c (.d (.bool false)))):: .r 6 (.mv (.t 35)):: .r 7 (.mv (.t 48))::[])))
 .ret)))))
theorem bY:fits Tryz.prog 125 Tryz.f125 a8 [.t 6,.t 7] 3=true:=oK
def qB:SC:=
 (.seq (.reg [.r 2 (.boxI (.t 0)),
   .r 4 (.mv (.c (.d (.int .i64 0))))])
 (.seq (.reg [.r 5 (.fld 0 (.t 2)),
   .o 6 (.ld1 (.t 5)),
   .r 7 (.mv (.t 1)),
   .c 8 (.f 127) [.t 6,.t 7],
   .r 4 (.mv (.t 8))])
 .ret))
theorem vY:fits Tryz.prog 126 Tryz.f126 qB [.t 4] 2=true:=oK
set_option maxRecDepth 100000 in
set_option maxHeartbeats 40000000 in
noncomputable def gl:(∀ (x0:List UInt8) (x1:Int),{m:Option (Bool)//∀ r,m=some r->aa Tryz.prog 164 [.str x0,.int .i64 x1] (.bool r)})×(∀ (x0:List ak) (x1:List UInt8) (f2:FuncId) (c2:List DV) (p2:ak->(List UInt8)->Option (Int)) (h2:∀ a0 a1 r,p2 a0 a1=some r->aa Tryz.prog f2 ([.agg (am a0),.str a1]++c2) (.int .i64 r)),{m:Option (Int×Bool)//∀ r,m=some r->aa Tryz.prog 125 [.slice (List.map am x0),.str x1,.fn f2 c2] (.tup [.int .i64 r.1,.bool r.2])})×(∀ (x0:ak) (x1:List UInt8),{m:Option (Int)//∀ r,m=some r->aa Tryz.prog 126 [.agg (am x0),.str x1] (.int .i64 r)}):=by
 refine⟨?g0, ?g1, ?g2⟩
 case' g0=>(intro x0 x1;apply Subtype.mk;intro r hm;apply ag Tryz.func164 u_;unfold pP)
 case' g1=>(intro x0 x1 f2 c2 p2 h2;apply Subtype.mk;intro r hm;apply ag Tryz.func125 bY;unfold a8)
 case' g2=>(intro x0 x1;apply Subtype.mk;intro r hm;apply ag Tryz.func126 vY;unfold qB)
 all_goals(repeat'(first|with_reducible refine bF ?_|with_reducible refine bu ?_|with_reducible refine bo ?_|with_reducible refine bl ?_|with_reducible refine bE ?_|with_reducible refine cg ?_|with_reducible refine bw ?_|with_reducible refine bG ?_|with_reducible refine cj ?_|with_reducible refine bA ?_|with_reducible refine br ?_|with_reducible refine bv ?_|with_reducible refine cF ?_|((with_reducible apply cu hm);(iterate 2 (simp only[push_cast,seval];rfl));(intro _;rfl);intro e hm)|((with_reducible apply nN hm);(iterate 2 (simp only[push_cast,seval];rfl));intro e hm)|((with_reducible apply iE);(simp only[push_cast,seval];rfl);(first|exact trivial))|((with_reducible apply HF hm);(iterate 2 (simp only[push_cast,seval];rfl));intro hm)|((with_reducible apply ed hm);(simp only[push_cast,seval];rfl);rfl;intro v hm;rotate_left;intro v g hm)|((with_reducible apply np hm);(simp only[push_cast,seval];rfl);rfl;intro v hm;rotate_left;intro v g hm)|((with_reducible apply ee hm);(simp only[push_cast,seval];rfl);(first|apply jf _|apply tB _|apply uZ _ _ _|apply uv _ _);(any_goals((repeat'(first|rfl));done));intro x hm)|((with_reducible apply HZ hm);(iterate 2 (simp only[push_cast,seval];rfl));(focus(first|exact h2 _ _));intro x hm)|((with_reducible apply uU);(simp only[push_cast,seval];rfl);(first|exact trivial))|((with_reducible apply aM hm);(simp only[push_cast,seval];rfl);intro hm;rotate_left;intro hm)|((with_reducible apply iF hm);(focus(simp only[bk,cn,RV.get,push_cast,seval];rfl));(focus(first|(dsimp only;done)));(focus((repeat'(first|rfl));done)))|((with_reducible apply bC hm);(focus(simp only[bk,cn,RV.get,push_cast,seval];rfl));(focus((repeat'(first|rfl));done)))|((with_reducible apply bR hm);(simp only[push_cast,seval];rfl))|((with_reducible apply bH hm);intro r hm)|((with_reducible apply cb hm);intro r hm)|((apply aH (b:=1) (X:=nb) (x:=ja) rfl (fun(c:SV×SV) (s:Int)=>st [(0,c.1),(15,c.2),(16,.d (.int .i64 s))] []) (c:=(_,_)) (s0:=_) hm);(focus(first|(dsimp only;done)));(with_reducible refine cA.mk ?_ ?_))|((apply aH (b:=0) (X:=aV) (x:=az) rfl (fun(c:SV×SV×SV×SV) (s:Int×Int)=>st [(0,c.1),(1,c.2.1),(2,c.2.2.1),(8,c.2.2.2),(9,.d (.int .i64 s.1)),(10,.d (.int .i64 s.2))] []) (c:=(_,_,_,_)) (s0:=(_,_)) hm);(focus(first|(dsimp only;done)));(with_reducible refine cA.mk ?_ ?_))|((apply bB (s':=(_,_)) hm);(focus(first|(dsimp only;done))))|((apply ct (s':=(_,_)) hm);(focus(first|(dsimp only;done))))|((apply bB (s':=_) hm);(focus(first|(dsimp only;done))))|((apply ct (s':=_) hm);(focus(first|(dsimp only;done))))|(((with_reducible apply ew hm);intro r hm))|(((with_reducible apply dw.of);(focus(first|(dsimp only;done)));(focus((intro _;repeat'(first|with_reducible exact bg|with_reducible refine aR ?_|with_reducible refine cr ?_))));(intro s o hm;first|unfold ja|unfold az);rotate_left;intro s hm))|(((apply bI;(repeat'(first|with_reducible exact aT|with_reducible exact aU|with_reducible apply aJ|((with_reducible apply aZ);(focus(first|(simp only[push_cast,seval];rfl)));(focus((repeat'(first|rfl));done)))));done)))))
noncomputable def mD (x0:List UInt8) (x1:Int):Option (Bool):=(gl.1 x0 x1).1
theorem tK (x0:List UInt8) (x1:Int):∀ r,mD x0 x1=some r->aa Tryz.prog 164 [.str x0,.int .i64 x1] (.bool r):=(gl.1 x0 x1).2
noncomputable def aC (x0:List ak) (x1:List UInt8) (f2:FuncId) (c2:List DV) (p2:ak->(List UInt8)->Option (Int)) (h2:∀ a0 a1 r,p2 a0 a1=some r->aa Tryz.prog f2 ([.agg (am a0),.str a1]++c2) (.int .i64 r)):Option (Int×Bool):=(gl.2.1 x0 x1 f2 c2 p2 h2).1
theorem bW (x0:List ak) (x1:List UInt8) (f2:FuncId) (c2:List DV) (p2:ak->(List UInt8)->Option (Int)) (h2:∀ a0 a1 r,p2 a0 a1=some r->aa Tryz.prog f2 ([.agg (am a0),.str a1]++c2) (.int .i64 r)):∀ r,aC x0 x1 f2 c2 p2 h2=some r->aa Tryz.prog 125 [.slice (List.map am x0),.str x1,.fn f2 c2] (.tup [.int .i64 r.1,.bool r.2]):=(gl.2.1 x0 x1 f2 c2 p2 h2).2
noncomputable def ek (x0:ak) (x1:List UInt8):Option (Int):=(gl.2.2 x0 x1).1
theorem kC (x0:ak) (x1:List UInt8):∀ r,ek x0 x1=some r->aa Tryz.prog 126 [.agg (am x0),.str x1] (.int .i64 r):=(gl.2.2 x0 x1).2
def lv:SC:=
 (.seq (.reg [.r 10 (.bin .lss (.t 9) (.t 8))])
 (.seq (.cond (.t 10)
  .skip
  (.exit 0))
 (.seq (.block 1 (.seq (.reg [.r 11 (.idx 5 (.t 7) (.t 9)),
    .o 12 (.ldA 5 (.t 11)),
    .w 6 (.boxM (.c (.agg [.d (.str []),.d (.str []),.d (.int .i64 0),.d (.int .i64 0),.nils]))),
    .w 0 (.st 5 (.t 6) (.t 12))])
  (.seq (.seq (.reg [.r 13 (.fld 1 (.t 6)),
    .o 14 (.ld1 (.t 13)),
    .r 15 (.bin .eql (.t 14) (.c (.d (.str []))))])
  (.cond (.t 15)
   (.exit 1)
   .skip))
  (.seq (.seq (.reg [.r 16 (.mv (.t 1)),
    .r 17 (.fld 1 (.t 6)),
    .o 18 (.ld1 (.t 17)),
    .o 19 (.look .str (.d (.bool false)) false (.t 16) (.t 18))])
  (.cond (.t 19)
   (.seq (.reg [.r 4 (.mv (.c (.d (.bool true))))])
   .ret)
   .skip))
  (.seq (.reg [.r 20 (.mv (.t 1)),
    .r 21 (.fld 1 (.t 6)),
    .o 22 (.ld1 (.t 21)),
    .w 0 (.mset .str (.t 20) (.t 22) (.c (.d (.bool true))))])
  (.seq (.reg [.r 23 (.fld 4 (.t 6)),
    .o 24 (.ld1 (.t 23)),
    .r 25 (.mv (.t 1)),
    .p (some 26) (.f 50) [.t 24,.t 25]])
  (.cond (.t 26)
   (.seq (.reg [.r 4 (.mv (.c (.d (.bool true))))])
   .ret)
   .skip)))))))
 (.reg [.r 27 (.bin .add (.t 9) (.c (.d (.int .i64 1)))),
   .r 9 (.mv (.t 27))]))))
def pQ:SC:= .block 0 (.loop lv)
def sC:SC:=
 (.seq (.reg [.r 4 (.mv (.c (.d (.bool false))))])
 (.seq (.seq (.reg [.r 7 (.mv (.t 0)),
   .r 8 (.len (.t 7)),
   .r 9 (.mv (.c (.d (.int .i64 0))))])
 pQ)
 (.seq (.reg [.r 4 (.mv (.c (.d (.bool false))))])
 .ret)))
theorem xU:fits Tryz.prog 50 Tryz.f50 sC [.t 4] 2=true:=oK
set_option maxRecDepth 100000 in
set_option maxHeartbeats 40000000 in
noncomputable def tL:((∀ (x0:List ac) (x1:List ((List UInt8)×Bool)),{m:Option ((Bool)×(List ((List UInt8)×Bool)))//∀ r,m=some r->cQ Tryz.prog 50 (.d (.slice (List.map ab x0)):: .own (.mp .str .sh) (uV .str (fun v=> .bool v) x1)::(List.map SV.d ([]:List DV))) (.d (.bool r.1)) (.d (.slice (List.map ab x0)):: .own (.mp .str .sh) (uV .str (fun v=> .bool v) r.2)::(List.map SV.d ([]:List DV)))}))->((∀ (x0:List ac) (x1:List ((List UInt8)×Bool)),{m:Option ((Bool)×(List ((List UInt8)×Bool)))//∀ r,m=some r->cQ Tryz.prog 50 (.d (.slice (List.map ab x0)):: .own (.mp .str .sh) (uV .str (fun v=> .bool v) x1)::(List.map SV.d ([]:List DV))) (.d (.bool r.1)) (.d (.slice (List.map ab x0)):: .own (.mp .str .sh) (uV .str (fun v=> .bool v) r.2)::(List.map SV.d ([]:List DV)))})):=by
 intro ih
 have mE:∀ (x0:List ac) (x1:List ((List UInt8)×Bool)),∀ r,(ih x0 x1).1=some r->cQ Tryz.prog 50 (.d (.slice (List.map ab x0)):: .own (.mp .str .sh) (uV .str (fun v=> .bool v) x1)::(List.map SV.d ([]:List DV))) (.d (.bool r.1)) (.d (.slice (List.map ab x0)):: .own (.mp .str .sh) (uV .str (fun v=> .bool v) r.2)::(List.map SV.d ([]:List DV))):=fun x0 x1=>(ih x0 x1).2
 (intro x0 x1;apply Subtype.mk;intro r hm;apply Cr (N:=28) (k:=2) Tryz.func50 xU oK rfl (yZ (ke:= .str) (f:=(fun v=> .bool v)) x1) rfl oD;unfold sC)
 repeat'(first|with_reducible refine bF ?_|with_reducible refine bu ?_|with_reducible refine bo ?_|with_reducible refine bl ?_|with_reducible refine bE ?_|with_reducible refine cg ?_|with_reducible refine bw ?_|with_reducible refine bG ?_|with_reducible refine cj ?_|with_reducible refine bA ?_|with_reducible refine br ?_|with_reducible refine bv ?_|with_reducible refine nW ?_|with_reducible refine cF ?_|((with_reducible apply cu hm);(iterate 2 (simp only[push_cast,seval, -List.reduceReplicate];rfl));(intro _;rfl);intro e hm)|((with_reducible apply iE);(simp only[push_cast,seval, -List.reduceReplicate];rfl);(first|exact trivial))|((with_reducible apply uU);(simp only[push_cast,seval, -List.reduceReplicate];rfl);(first|exact trivial))|((with_reducible apply Fn);(iterate 3 (simp only[push_cast,seval, -List.reduceReplicate];rfl));(iterate 2 rfl))|((with_reducible apply aM hm);(simp only[push_cast,seval, -List.reduceReplicate];rfl);intro hm;rotate_left;intro hm)|((with_reducible apply bH hm);intro r hm)|((with_reducible apply cb hm);intro r hm)|((apply aH (b:=0) (X:=pQ) (x:=lv) rfl (fun(c:SV×SV×SV) (s:(List ((List UInt8)×Bool))×Int)=>st [(1,.mp 1),(7,c.1),(8,c.2.1),(9,.d (.int .i64 s.2)),(28,c.2.2),(29,.mp 1)] [(1,.map .str (ex .str (fun v=> .d (.bool v)) s.1))]) (c:=(_,_,_)) (s0:=(_,_)) hm);(focus(first|(dsimp only;done)));(with_reducible refine cA.mk ?_ ?_))|((apply bB (s':=(_,_)) hm);(focus(first|(dsimp only;done))))|((apply ct (s':=(_,_)) hm);(focus(first|(dsimp only;done))))|(((with_reducible apply ew hm);intro r hm))|(((with_reducible apply HI hm);(focus(simp only[push_cast,seval, -List.reduceReplicate];(try rfl);done));(focus(simp only[push_cast,seval, -List.reduceReplicate];(try rfl);done));(focus(simp only[push_cast,seval, -List.reduceReplicate];(try rfl);done));(focus(first|(simp only[push_cast,seval, -List.reduceReplicate];exact HP rfl)));(focus rfl);(focus(first|apply mE _ _));(any_goals(focus((repeat'(first|rfl));done)));(focus(intro _;exact⟨rfl,rfl⟩));intro y hm))|(((with_reducible apply HJ hm);(focus(exact f0.refl _));(focus(simp only[push_cast,seval, -List.reduceReplicate];(try rfl);done));(focus rfl);(focus(simp only[push_cast,seval, -List.reduceReplicate];(try rfl);done));(focus(simp only[push_cast,seval, -List.reduceReplicate];(try rfl);done));(focus(simp only[push_cast,seval, -List.reduceReplicate];(try rfl);done));(focus(simp only[push_cast,seval, -List.reduceReplicate];(try rfl);done));(focus(simp only[push_cast,seval, -List.reduceReplicate];(try rfl);done));(focus(first|(apply Jc;(focus((repeat'(first|rfl));done)))))))|(((with_reducible apply dw.of);(focus(first|(dsimp only;done)));(focus((intro _;repeat'(first|with_reducible exact nq|with_reducible refine aR ?_))));(intro s o hm;first|unfold lv);rotate_left;intro s hm))|(((apply bI;(repeat'(first|with_reducible exact aT|with_reducible exact aU|with_reducible apply aJ|with_reducible apply c7|((with_reducible apply aZ);(focus(first|(simp only[push_cast,seval];rfl)));(focus((repeat'(first|rfl));done)))|((with_reducible apply iG);(focus(first|(simp only[push_cast,seval];rfl)));(first|with_reducible exact cT rfl))));done))))
noncomputable def qC (fu:Nat):(∀ (x0:List ac) (x1:List ((List UInt8)×Bool)),{m:Option ((Bool)×(List ((List UInt8)×Bool)))//∀ r,m=some r->cQ Tryz.prog 50 (.d (.slice (List.map ab x0)):: .own (.mp .str .sh) (uV .str (fun v=> .bool v) x1)::(List.map SV.d ([]:List DV))) (.d (.bool r.1)) (.d (.slice (List.map ab x0)):: .own (.mp .str .sh) (uV .str (fun v=> .bool v) r.2)::(List.map SV.d ([]:List DV)))}):=Nat.rec (fun x0 x1=>⟨none,fun r h=>by cases h⟩) (fun _ ih=>tL ih) fu
noncomputable def jL (fu:Nat) (x0:List ac) (x1:List ((List UInt8)×Bool)):Option ((Bool)×(List ((List UInt8)×Bool))):=((qC fu) x0 x1).1
theorem va (fu:Nat) (x0:List ac) (x1:List ((List UInt8)×Bool)):((qC fu) x0 x1).1=jL fu x0 x1:=rfl
theorem vb (fu:Nat) (x0:List ac) (x1:List ((List UInt8)×Bool)):jL (fu+1) x0 x1=((tL (qC fu)) x0 x1).1:=rfl
theorem mE (fu:Nat) (x0:List ac) (x1:List ((List UInt8)×Bool)):∀ r,jL fu x0 x1=some r->cQ Tryz.prog 50 (.d (.slice (List.map ab x0)):: .own (.mp .str .sh) (uV .str (fun v=> .bool v) x1)::(List.map SV.d ([]:List DV))) (.d (.bool r.1)) (.d (.slice (List.map ab x0)):: .own (.mp .str .sh) (uV .str (fun v=> .bool v) r.2)::(List.map SV.d ([]:List DV))):=((qC fu) x0 x1).2
def lw:SC:=
 (.seq (.reg [.r 21 (.bin .lss (.t 20) (.t 19))])
 (.seq (.cond (.t 21)
  .skip
  (.exit 0))
 (.seq (.block 1 (.seq (.reg [.r 22 (.mv (.t 20)),
    .r 23 (.idx 5 (.t 18) (.t 20)),
    .o 24 (.ldA 5 (.t 23)),
    .w 9 (.boxM (.c (.agg [.d (.str []),.d (.str []),.d (.int .i64 0),.d (.int .i64 0),.nils]))),
    .r 8 (.mv (.t 22)),
    .w 0 (.st 5 (.t 9) (.t 24))])
  (.seq (.reg [.o 25 (.ldA 5 (.t 9)),
    .c 26 (.f 97) [.t 25],
    .r 10 (.mv (.t 26))])
  (.seq (.seq (.reg (.r 27 (.mv (.t 7)):: .r 28 (.mv (.t 10)):: .o 29 (.look .str (.d (.bool false)) false (.t 27) (.t 28)):: .r 30 (.mv (.t 29))::aI [31,32,33,34,35,36,37,38,39,40,41] 30 false (.r 31 (.mv (.t 1)):: .r 32 (.mv (.t 10)):: .r 33 (.look .str (.d (.bool false)) false (.t 31) (.t 32)):: .r 34 (.mv (.t 33))::aI [35,36,37,38,39,40] 34 true (.r 35 (.mv (.t 2)):: .r 36 (.mv (.t 35))::aI [37,38] 36 true (.r 37 (.mv (.t 8)):: .r 38 (.bin .eql (.t 37) (.c (.d (.int .i64 0))))::[]) (.r 39 (.pick (.t 36) (.t 38) (.c (.d (.bool false)))):: .r 40 (.not (.t 39))::[])) (.r 41 (.pick (.t 34) (.t 40) (.c (.d (.bool false))))::[])) (.r 42 (.pick (.t 30) (.c (.d (.bool true))) (.t 41))::[])))
  (.cond (.t 42)
   (.seq (.reg [.r 6 (.mv (.c (.d (.bool true))))])
   .ret)
   .skip))
  (.reg [.r 43 (.mv (.t 7)),
    .r 44 (.mv (.t 10)),
    .w 0 (.mset .str (.t 43) (.t 44) (.c (.d (.bool true))))])))))
 (.reg [.r 45 (.bin .add (.t 20) (.c (.d (.int .i64 1)))),
   .r 20 (.mv (.t 45))]))))
def pR:SC:= .block 0 (.loop lw)
def pS:SC:=
 (.reg [.r 63 (.mv (.t 13)),
    .r 64 (.mv (.t 14)),
    .w 0 (.mset .str (.t 63) (.t 64) (.c (.d (.bool true))))])
def pT:SC:= .rangeM 57 (.t 1) 58 59 60 61 4 5 [.r 62 (.ext (.t 61) 0),
  .r 14 (.mv (.t 62))] pS
def lz:SC:=
 (.seq (.reg [.r 70 (.bin .lss (.t 69) (.t 68))])
 (.seq (.cond (.t 70)
  .skip
  (.exit 6))
 (.seq (.block 7 (.seq (.reg [.r 71 (.idx 5 (.t 67) (.t 69)),
    .o 72 (.ldA 5 (.t 71)),
    .w 16 (.boxM (.c (.agg [.d (.str []),.d (.str []),.d (.int .i64 0),.d (.int .i64 0),.nils]))),
    .w 0 (.st 5 (.t 16) (.t 72))])
  (.reg [.r 73 (.mv (.t 13)),
    .o 74 (.ldA 5 (.t 16)),
    .c 75 (.f 97) [.t 74],
    .w 0 (.mset .str (.t 73) (.t 75) (.c (.d (.bool true))))])))
 (.reg [.r 76 (.bin .add (.t 69) (.c (.d (.int .i64 1)))),
   .r 69 (.mv (.t 76))]))))
def pU:SC:= .block 6 (.loop lz)
def kD:SC:=(.reg [.r 77 (.fld 4 (.t 12)),
    .o 78 (.ld1 (.t 77)),
    .r 79 (.mv (.t 13)),
    .c 80 (.f 51) [.t 78,.t 79,.c (.d (.bool true))]])
def lA:SC:=
 (.seq (.reg [.r 49 (.bin .lss (.t 48) (.t 47))])
 (.seq (.cond (.t 49)
  .skip
  (.exit 2))
 (.seq (.block 3 (.seq (.reg [.r 50 (.mv (.t 48)),
    .r 51 (.idx 5 (.t 46) (.t 48)),
    .o 52 (.ldA 5 (.t 51)),
    .w 12 (.boxM (.c (.agg [.d (.str []),.d (.str []),.d (.int .i64 0),.d (.int .i64 0),.nils]))),
    .r 11 (.mv (.t 50)),
    .w 0 (.st 5 (.t 12) (.t 52))])
  (.seq (.seq (.reg [.r 53 (.fld 1 (.t 12)),
    .o 54 (.ld1 (.t 53)),
    .r 55 (.bin .eql (.t 54) (.c (.d (.str []))))])
  (.cond (.t 55)
   (.exit 3)
   .skip))
  (.seq (.reg [.w 56 (.mkmap .str),
    .r 13 (.mv (.t 56))])
  (.seq pT
  (.seq (.seq (.reg [.r 65 (.mv (.t 0)),
    .r 66 (.mv (.t 11)),
    .r 67 (.slc 5 (.t 65) (some (.t 66)) none),
    .r 68 (.len (.t 67)),
    .r 69 (.mv (.c (.d (.int .i64 0))))])
  pU)
  (.seq kD
  (.cond (.t 80)
   (.seq (.reg [.r 6 (.mv (.c (.d (.bool true))))])
   .ret)
   .skip))))))))
 (.reg [.r 81 (.bin .add (.t 48) (.c (.d (.int .i64 1)))),
   .r 48 (.mv (.t 81))]))))
def pV:SC:= .block 2 (.loop lA)
def sD:SC:=
 (.seq (.reg [.r 6 (.mv (.c (.d (.bool false))))])
 (.seq (.reg [.w 17 (.mkmap .str),
   .r 7 (.mv (.t 17))])
 (.seq (.seq (.reg [.r 18 (.mv (.t 0)),
   .r 19 (.len (.t 18)),
   .r 20 (.mv (.c (.d (.int .i64 0))))])
 pR)
 (.seq (.seq (.reg [.r 46 (.mv (.t 0)),
   .r 47 (.len (.t 46)),
   .r 48 (.mv (.c (.d (.int .i64 0))))])
 pV)
 (.seq (.reg [.r 6 (.mv (.c (.d (.bool false))))])
 .ret)))))
theorem xV:fits Tryz.prog 51 Tryz.f51 sD [.t 6] 3=true:=oK
set_option maxRecDepth 100000 in
set_option maxHeartbeats 40000000 in
noncomputable def tM:((∀ (x0:List ac) (x1:List ((List UInt8)×Bool)) (x2:Bool),{m:Option (Bool)//∀ r,m=some r->aa Tryz.prog 51 [.slice (List.map ab x0),(uV .str (fun v=> .bool v) x1),.bool x2] (.bool r)}))->((∀ (x0:List ac) (x1:List ((List UInt8)×Bool)) (x2:Bool),{m:Option (Bool)//∀ r,m=some r->aa Tryz.prog 51 [.slice (List.map ab x0),(uV .str (fun v=> .bool v) x1),.bool x2] (.bool r)})):=by
 intro ih
 have jn:∀ (x0:List ac) (x1:List ((List UInt8)×Bool)) (x2:Bool),∀ r,(ih x0 x1 x2).1=some r->aa Tryz.prog 51 [.slice (List.map ab x0),(uV .str (fun v=> .bool v) x1),.bool x2] (.bool r):=fun x0 x1 x2=>(ih x0 x1 x2).2
 (intro x0 x1 x2;apply Subtype.mk;intro r hm;apply ag Tryz.func51 xV;unfold sD)
 repeat'(first|((with_reducible apply I2 (x:=kD) 13);(focus(simp only[push_cast,seval, -List.reduceReplicate];(try rfl);done));(focus(first|(simp only[push_cast,seval, -List.reduceReplicate];(try rfl);done)));(focus rfl);(focus(intro _;rfl));unfold kD)|with_reducible refine bF ?_|with_reducible refine bu ?_|with_reducible refine bo ?_|with_reducible refine bl ?_|with_reducible refine bE ?_|with_reducible refine cg ?_|with_reducible refine bw ?_|with_reducible refine bG ?_|with_reducible refine cj ?_|with_reducible refine bA ?_|with_reducible refine br ?_|with_reducible refine bv ?_|with_reducible refine nW ?_|with_reducible refine cF ?_|((with_reducible apply cu hm);(iterate 2 (simp only[push_cast,seval, -List.reduceReplicate];rfl));(intro _;rfl);intro e hm)|((with_reducible apply Cy hm);(iterate 3 (simp only[push_cast,seval, -List.reduceReplicate];rfl));(intro _;rfl);intro e hm)|((with_reducible apply iE);(simp only[push_cast,seval, -List.reduceReplicate];rfl);(first|exact trivial))|((with_reducible apply ed hm);(simp only[push_cast,seval, -List.reduceReplicate];rfl);rfl;intro v hm;rotate_left;intro v g hm)|((with_reducible apply np hm);(simp only[push_cast,seval, -List.reduceReplicate];rfl);rfl;intro v hm;rotate_left;intro v g hm)|((with_reducible apply ee hm);(simp only[push_cast,seval, -List.reduceReplicate];rfl);(first|apply ur _|apply jn _ _ _);(any_goals((repeat'(first|rfl|(with_reducible first|apply et|apply na|apply dm)));done));intro x hm)|((with_reducible apply uU);(simp only[push_cast,seval, -List.reduceReplicate];rfl);(first|exact trivial))|((with_reducible apply HN);(iterate 2 (simp only[push_cast,seval, -List.reduceReplicate];rfl));rfl)|((with_reducible apply Fn);(iterate 3 (simp only[push_cast,seval, -List.reduceReplicate];rfl));(iterate 2 rfl))|((with_reducible apply aM hm);(simp only[push_cast,seval, -List.reduceReplicate];rfl);intro hm;rotate_left;intro hm)|((with_reducible apply bC hm);(focus(simp only[bk,cn,RV.get,push_cast,seval];rfl));(focus((repeat'(first|rfl));done)))|((with_reducible apply bR hm);(simp only[push_cast,seval, -List.reduceReplicate];rfl))|((with_reducible apply bH hm);intro r hm)|((with_reducible apply cb hm);intro r hm)|((apply aH (b:=0) (X:=pR) (x:=lw) rfl (fun(c:SV×SV×SV×SV×SV) (s:(List ((List UInt8)×Bool))×Int)=>st [(0,c.1),(1,c.2.1),(2,c.2.2.1),(7,.mp 17),(18,c.2.2.2.1),(19,c.2.2.2.2),(20,.d (.int .i64 s.2))] [(17,.map .str (ex .str (fun v=> .d (.bool v)) s.1))]) (c:=(_,_,_,_,_)) (s0:=(_,_)) hm);(focus(first|(dsimp only;done)));(with_reducible refine cA.mk ?_ ?_))|(((apply Gr (X:=pT) rfl (fun(c:SV×SV×SV×Ch×SV×SV×SV×SV) (s:(List ((List UInt8)×Bool)))=>st [(0,c.1),(1,c.2.1),(11,c.2.2.1),(12,.ref 12 0),(13,.mp 56),(46,c.2.2.2.2.1),(47,c.2.2.2.2.2.1),(48,c.2.2.2.2.2.2.1),(58,c.2.2.2.2.2.2.2)] [(12,c.2.2.2.1),(56,.map .str (ex .str (fun v=> .d (.bool v)) s))]) (s0:=_) (f:=fun v=> .bool v) hm);(focus(simp only[push_cast,seval, -List.reduceReplicate];rfl));(focus decide);intro p;apply Kp (c:=(_,_,_,_,_,_,_,_));(focus(first|(dsimp only;done)));(with_reducible refine cA.mk ?_ ?_)))|((apply aH (b:=6) (X:=pU) (x:=lz) rfl (fun(c:SV×SV×Ch×SV×SV×SV×SV×SV) (s:(List ((List UInt8)×Bool))×Int)=>st [(0,c.1),(1,c.2.1),(12,.ref 12 0),(13,.mp 56),(46,c.2.2.2.1),(47,c.2.2.2.2.1),(48,c.2.2.2.2.2.1),(67,c.2.2.2.2.2.2.1),(68,c.2.2.2.2.2.2.2),(69,.d (.int .i64 s.2))] [(12,c.2.2.1),(56,.map .str (ex .str (fun v=> .d (.bool v)) s.1))]) (c:=(_,_,_,_,_,_,_,_)) (s0:=(_,_)) hm);(focus(first|(dsimp only;done)));(with_reducible refine cA.mk ?_ ?_))|((apply aH (b:=2) (X:=pV) (x:=lA) rfl (fun(c:SV×SV×SV×SV) (s:Int)=>st [(0,c.1),(1,c.2.1),(46,c.2.2.1),(47,c.2.2.2),(48,.d (.int .i64 s))] []) (c:=(_,_,_,_)) (s0:=_) hm);(focus(first|(dsimp only;done)));(with_reducible refine cA.mk ?_ ?_))|((apply bB (s':=(_,_)) hm);(focus(first|(dsimp only;done))))|((apply ct (s':=(_,_)) hm);(focus(first|(dsimp only;done))))|((apply bB (s':=_) hm);(focus(first|(dsimp only;done))))|((apply ct (s':=_) hm);(focus(first|(dsimp only;done))))|(((with_reducible apply ew hm);intro r hm))|(((with_reducible apply dw.of);(focus(first|(dsimp only;done)));(focus((intro _;repeat'(first|with_reducible exact bg|with_reducible refine aR ?_|with_reducible refine cr ?_|((with_reducible refine eT ?_);intro _)|((with_reducible refine eU ?_);intro _)))));(intro s o hm;first|unfold lw|unfold lz|unfold lA);rotate_left;intro s hm))|(((with_reducible apply zQ.of);(focus(first|(dsimp only;done)));(focus(intro _;exact⟨rfl,rfl,rfl⟩));(focus((intro _;repeat'(first|with_reducible exact bg|with_reducible refine aR ?_|with_reducible refine cr ?_|((with_reducible refine eT ?_);intro _)|((with_reducible refine eU ?_);intro _)))));(intro e s o hm;first|unfold pS);rotate_left;intro s hm))|(((apply bI;(repeat'(first|with_reducible exact aT|with_reducible exact aU|with_reducible apply aJ|with_reducible apply c7|((with_reducible apply aZ);(focus(first|(simp only[push_cast,seval];rfl)));(focus((repeat'(first|rfl));done)))|((with_reducible apply iG);(focus(first|(simp only[push_cast,seval];rfl)));(first|with_reducible exact cT rfl|with_reducible exact BK|(apply Gn;rfl)))));done))))
noncomputable def qD (fu:Nat):(∀ (x0:List ac) (x1:List ((List UInt8)×Bool)) (x2:Bool),{m:Option (Bool)//∀ r,m=some r->aa Tryz.prog 51 [.slice (List.map ab x0),(uV .str (fun v=> .bool v) x1),.bool x2] (.bool r)}):=Nat.rec (fun x0 x1 x2=>⟨none,fun r h=>by cases h⟩) (fun _ ih=>tM ih) fu
noncomputable def fI (fu:Nat) (x0:List ac) (x1:List ((List UInt8)×Bool)) (x2:Bool):Option (Bool):=((qD fu) x0 x1 x2).1
theorem vc (fu:Nat) (x0:List ac) (x1:List ((List UInt8)×Bool)) (x2:Bool):((qD fu) x0 x1 x2).1=fI fu x0 x1 x2:=rfl
theorem vd (fu:Nat) (x0:List ac) (x1:List ((List UInt8)×Bool)) (x2:Bool):fI (fu+1) x0 x1 x2=((tM (qD fu)) x0 x1 x2).1:=rfl
theorem jn (fu:Nat) (x0:List ac) (x1:List ((List UInt8)×Bool)) (x2:Bool):∀ r,fI fu x0 x1 x2=some r->aa Tryz.prog 51 [.slice (List.map ab x0),(uV .str (fun v=> .bool v) x1),.bool x2] (.bool r):=((qD fu) x0 x1 x2).2
theorem sQ (fu:Nat) (x0:List ac) (x2:Bool):∀ r,fI fu x0 [] x2=some r->aa Tryz.prog 51 [.slice (List.map ab x0),.raw (.map none),.bool x2] (.bool r):=fun r h=>aa.nilm (pre:=[.slice (List.map ab x0)]) (jn fu x0 [] x2 r h)
def hE:SC:=
 (.seq (.reg [.r 13 (.bin .lss (.t 12) (.t 11))])
 (.seq (.cond (.t 13)
  .skip
  (.exit 0))
 (.seq (.block 1 (.seq (.reg [.r 14 (.mv (.t 12)),
    .r 15 (.idx 1 (.t 10) (.t 12)),
    .o 16 (.ld1 (.t 15)),
    .r 3 (.mv (.t 14)),
    .r 4 (.mv (.t 16))])
  (.seq (.seq (.reg (.r 17 (.mv (.t 4)):: .r 18 (.lenT (.t 17)):: .r 19 (.bin .lss (.t 18) (.c (.d (.int .i64 1)))):: .r 20 (.mv (.t 19))::aI [21,22,23] 20 false (.r 21 (.mv (.t 4)):: .r 22 (.lenT (.t 21)):: .r 23 (.bin .gtr (.t 22) (.c (.d (.int .i64 20))))::[]) (.r 24 (.pick (.t 20) (.c (.d (.bool true))) (.t 23)):: .r 25 (.mv (.t 24))::aI [26,27,28] 25 false (.r 26 (.mv (.t 4)):: .c 27 (.f 162) [.t 26,.c (.d (.int .u8 33)),.c (.d (.int .u8 126))]:: .r 28 (.not (.t 27))::[]) (.r 29 (.pick (.t 25) (.c (.d (.bool true))) (.t 28)):: .r 30 (.mv (.t 29))::aI [31,32,33,34,35,36,37] 30 false (.r 31 (.mv (.t 4)):: .r 32 (.lenT (.t 31)):: .r 33 (.fld 2 (.t 1)):: .r 34 (.ld1 (.t 33)):: .r 35 (.fld 3 (.t 1)):: .r 36 (.ld1 (.t 35)):: .c 37 (.f 114) [.t 32,.t 34,.t 36]::[]) (.r 38 (.pick (.t 30) (.c (.d (.bool true))) (.t 37)):: .r 39 (.mv (.t 38))::aI [40,41,42,43,44] 39 false (.r 40 (.mv (.t 4)):: .r 41 (.fld 1 (.t 1)):: .r 42 (.ld1 (.t 41)):: .c 43 (.f 164) [.t 40,.t 42]:: .r 44 (.not (.t 43))::[]) (.r 45 (.pick (.t 39) (.c (.d (.bool true))) (.t 44))::[]))))))
  (.cond (.t 45)
   (.seq (.reg [.r 2 (.mv (.c (.d (.int .i64 3))))])
   .ret)
   .skip))
  (.seq (.reg (.r 46 (.mv (.t 3)):: .r 47 (.bin .gtr (.t 46) (.c (.d (.int .i64 0)))):: .r 48 (.mv (.t 47))::aI [49,50,51,52,53,54,55,56] 48 true (.r 49 (.mv (.t 4)):: .r 50 (.fld 4 (.t 1)):: .r 51 (.ld1 (.t 50)):: .r 52 (.mv (.t 3)):: .r 53 (.bin .sub (.t 52) (.c (.d (.int .i64 1)))):: .r 54 (.idx 1 (.t 51) (.t 53)):: .r 55 (.ld1 (.t 54)):: .r 56 (.bin .leq (.t 49) (.t 55))::[]) (.r 57 (.pick (.t 48) (.t 56) (.c (.d (.bool false))))::[])))
  (.cond (.t 57)
   (.seq (.reg [.r 2 (.mv (.c (.d (.int .i64 8))))])
   .ret)
   .skip)))))
 (.reg [.r 58 (.bin .add (.t 12) (.c (.d (.int .i64 1)))),
   .r 12 (.mv (.t 58))]))))
def lX:SC:= .block 0 (.loop hE)
def n8:SC:=
 (.seq (.reg [.r 1 (.boxI (.t 0)),
   .r 2 (.mv (.c (.d (.int .i64 0))))])
 (.seq (.seq (.reg [.r 5 (.fld 4 (.t 1)),
   .o 6 (.ld1 (.t 5)),
   .r 7 (.len (.t 6)),
   .r 8 (.bin .gtr (.t 7) (.c (.d (.int .i64 50))))])
 (.cond (.t 8)
  (.seq (.reg [.r 2 (.mv (.c (.d (.int .i64 2))))])
  .ret)
  .skip))
 (.seq (.seq (.reg [.r 9 (.fld 4 (.t 1)),
   .o 10 (.ld1 (.t 9)),
   .r 11 (.len (.t 10)),
   .r 12 (.mv (.c (.d (.int .i64 0))))])
 lX)
 (.seq (.reg [.r 2 (.mv (.c (.d (.int .i64 0))))])
 .ret))))
theorem sR:fits Tryz.prog 160 Tryz.f160 n8 [.t 2] 1=true:=oK
def sE:SC:=
 (.seq (.reg [.r 2 (.boxI (.t 0)),
   .w 4 (.boxM (.c (.agg [.d (.str []),.nils]))),
   .r 5 (.mv (.c (.d (.bool false))))])
 (.seq (.reg [.r 9 (.fld 2 (.t 2)),
   .o 10 (.ld1 (.t 9)),
   .r 11 (.mv (.t 1)),
   .c 12 (.f 125) [.t 10,.t 11,.f 126],
   .r 8 (.mv (.t 12)),
   .r 13 (.ext (.t 8) 0),
   .r 14 (.ext (.t 8) 1),
   .r 6 (.mv (.t 13)),
   .r 7 (.mv (.t 14))])
 (.seq (.seq (.reg [.r 15 (.mv (.t 7)),
   .r 16 (.not (.t 15))])
 (.cond (.t 16)
  (.seq (.reg [.r 17 (.build [.d (.str []),.nils] []),
    .w 0 (.st 2 (.t 4) (.t 17)),
    .r 5 (.mv (.c (.d (.bool false))))])
  .ret)
  .skip))
 (.seq (.reg [.r 18 (.fld 2 (.t 2)),
   .o 19 (.ld1 (.t 18)),
   .r 20 (.mv (.t 6)),
   .r 21 (.idx 2 (.t 19) (.t 20)),
   .o 22 (.ldA 2 (.t 21)),
   .w 0 (.st 2 (.t 4) (.t 22)),
   .r 5 (.mv (.c (.d (.bool true))))])
 .ret))))
theorem xW:fits Tryz.prog 84 Tryz.f84 sE [.cell 4 2,.t 5] 2=true:=oK
set_option maxRecDepth 100000 in
set_option maxHeartbeats 40000000 in
noncomputable def lY:(∀ (x0:ap),{m:Option (Int)//∀ r,m=some r->aa Tryz.prog 160 [.agg (aW x0)] (.int .i64 r)})×(∀ (x0:ae) (x1:List UInt8),{m:Option (ak×Bool)//∀ r,m=some r->aa Tryz.prog 84 [.agg (ai x0),.str x1] (.tup [.agg (am r.1),.bool r.2])}):=by
 refine⟨?g0, ?g1⟩
 case' g0=>(intro x0;apply Subtype.mk;intro r hm;apply ag Tryz.func160 sR;unfold n8)
 case' g1=>(intro x0 x1;apply Subtype.mk;intro r hm;apply ag Tryz.func84 xW;unfold sE)
 all_goals(repeat'(first|with_reducible refine bF ?_|with_reducible refine bu ?_|with_reducible refine bo ?_|with_reducible refine bl ?_|with_reducible refine bE ?_|with_reducible refine cg ?_|with_reducible refine bw ?_|with_reducible refine bG ?_|with_reducible refine cj ?_|with_reducible refine bA ?_|with_reducible refine br ?_|with_reducible refine bv ?_|with_reducible refine cF ?_|((with_reducible apply cu hm);(iterate 2 (simp only[push_cast,seval];rfl));(intro _;rfl);intro e hm)|((with_reducible apply iE);(simp only[push_cast,seval];rfl);(first|exact trivial))|((with_reducible apply ed hm);(simp only[push_cast,seval];rfl);rfl;intro v hm;rotate_left;intro v g hm)|((with_reducible apply np hm);(simp only[push_cast,seval];rfl);rfl;intro v hm;rotate_left;intro v g hm)|((with_reducible apply ee hm);(simp only[push_cast,seval];rfl);(first|apply rz _ _ _|apply ep _ _ _|apply tK _ _|apply bW _ _ _ _ _ (fun a0 a1 r h=>kC a0 a1 r h));(any_goals((repeat'(first|rfl|(with_reducible first|apply dm)|(with_reducible apply EN;decide)));done));intro x hm)|((with_reducible apply uU);(simp only[push_cast,seval];rfl);(first|exact trivial))|((with_reducible apply aM hm);(simp only[push_cast,seval];rfl);intro hm;rotate_left;intro hm)|((with_reducible apply iF hm);(focus(simp only[bk,cn,RV.get,push_cast,seval];rfl));(focus(first|(dsimp only;done)));(focus((repeat'(first|rfl|(with_reducible first|apply wb|apply vn|apply na|apply dh|apply dm|apply di)));done)))|((with_reducible apply bC hm);(focus(simp only[bk,cn,RV.get,push_cast,seval];rfl));(focus((repeat'(first|rfl));done)))|((with_reducible apply bR hm);(simp only[push_cast,seval];rfl))|((with_reducible apply bH hm);intro r hm)|((with_reducible apply cb hm);intro r hm)|((apply aH (b:=0) (X:=lX) (x:=hE) rfl (fun(c:SV×SV×SV) (s:Int)=>st [(1,c.1),(10,c.2.1),(11,c.2.2),(12,.d (.int .i64 s))] []) (c:=(_,_,_)) (s0:=_) hm);(focus(first|(dsimp only;done)));(with_reducible refine cA.mk ?_ ?_))|((apply bB (s':=_) hm);(focus(first|(dsimp only;done))))|((apply ct (s':=_) hm);(focus(first|(dsimp only;done))))|(((with_reducible apply ew hm);intro r hm))|(((with_reducible apply dw.of);(focus(first|(dsimp only;done)));(focus((intro _;repeat'(first|with_reducible exact bg|with_reducible refine aR ?_))));(intro s o hm;first|unfold hE);rotate_left;intro s hm))|(((apply bI;(repeat'(first|with_reducible exact aT|with_reducible exact aU|with_reducible apply aJ|((with_reducible apply aZ);(focus(first|(simp only[push_cast,seval];rfl)));(focus((repeat'(first|rfl));done)))));done)))))
noncomputable def kE (x0:ap):Option (Int):=(lY.1 x0).1
theorem rU (x0:ap):∀ r,kE x0=some r->aa Tryz.prog 160 [.agg (aW x0)] (.int .i64 r):=(lY.1 x0).2
noncomputable def fJ (x0:ae) (x1:List UInt8):Option (ak×Bool):=(lY.2 x0 x1).1
theorem qE (x0:ae) (x1:List UInt8):∀ r,fJ x0 x1=some r->aa Tryz.prog 84 [.agg (ai x0),.str x1] (.tup [.agg (am r.1),.bool r.2]):=(lY.2 x0 x1).2
def oZ:SC:=
 (.seq (.reg [.r 1 (.boxI (.t 0)),
   .r 2 (.mv (.c (.d (.int .i64 0))))])
 (.seq (.block 0 (.seq (.reg [.r 4 (.fld 1 (.t 1)),
    .o 5 (.ld1 (.t 4)),
    .c 6 (.f 114) [.t 5,.c (.d (.int .i64 1)),.c (.d (.int .i64 5))],
    .r 3 (.mv (.t 6))])
  (.cond (.t 3)
   (.seq (.reg [.r 2 (.mv (.c (.d (.int .i64 4))))])
   .ret)
   (.seq (.reg (.r 8 (.fld 2 (.t 1)):: .o 9 (.ld1 (.t 8)):: .r 10 (.fld 3 (.t 1)):: .o 11 (.ld1 (.t 10)):: .c 12 (.f 114) [.t 9,.c (.d (.int .i64 1)),.t 11]:: .r 13 (.mv (.t 12))::aI [14,15,16] 13 false (.r 14 (.fld 3 (.t 1)):: .r 15 (.ld1 (.t 14)):: .r 16 (.bin .gtr (.t 15) (.c (.d (.int .i64 1000))))::[]) (.r 17 (.pick (.t 13) (.c (.d (.bool true))) (.t 16)):: .r 7 (.mv (.t 17))::[])))
   (.cond (.t 7)
    (.seq (.reg [.r 2 (.mv (.c (.d (.int .i64 1))))])
    .ret)
    (.seq (.reg (.r 19 (.fld 1 (.t 1)):: .o 20 (.ld1 (.t 19)):: .r 21 (.bin .eql (.t 20) (.c (.d (.int .i64 5)))):: .r 22 (.mv (.t 21))::aI [23,24,25,26,27] 22 true (.r 23 (.fld 2 (.t 1)):: .r 24 (.ld1 (.t 23)):: .r 25 (.fld 3 (.t 1)):: .r 26 (.ld1 (.t 25)):: .c 27 (.f 114) [.c (.d (.int .i64 8)),.t 24,.t 26]::[]) (.r 28 (.pick (.t 22) (.t 27) (.c (.d (.bool false)))):: .r 18 (.mv (.t 28))::[])))
    (.cond (.t 18)
     (.seq (.reg [.r 2 (.mv (.c (.d (.int .i64 3))))])
     .ret)
     .skip)))))))
 (.seq (.reg [.o 29 (.ldA 5 (.t 1)),
   .c 30 (.f 160) [.t 29],
   .r 2 (.mv (.t 30))])
 .ret)))
theorem tN:fits Tryz.prog 137 Tryz.f137 oZ [.t 2] 1=true:=oK
set_option maxRecDepth 100000 in
set_option maxHeartbeats 40000000 in
noncomputable def tO:(∀ (x0:ap),{m:Option (Int)//∀ r,m=some r->aa Tryz.prog 137 [.agg (aW x0)] (.int .i64 r)}):=by
 (intro x0;apply Subtype.mk;intro r hm;apply ag Tryz.func137 tN;unfold oZ)
 repeat'(first|with_reducible refine bF ?_|with_reducible refine bu ?_|with_reducible refine bo ?_|with_reducible refine bl ?_|with_reducible refine bE ?_|with_reducible refine bw ?_|with_reducible refine bG ?_|with_reducible refine bA ?_|with_reducible refine br ?_|with_reducible refine bv ?_|with_reducible refine cF ?_|((with_reducible apply iE);(simp only[push_cast,seval];rfl);(first|exact trivial))|((with_reducible apply ed hm);(simp only[push_cast,seval];rfl);rfl;intro v hm;rotate_left;intro v g hm)|((with_reducible apply np hm);(simp only[push_cast,seval];rfl);rfl;intro v hm;rotate_left;intro v g hm)|((with_reducible apply ee hm);(simp only[push_cast,seval];rfl);(first|apply ep _ _ _|apply rU _);(any_goals((repeat'(first|rfl));done));intro x hm)|((with_reducible apply aM hm);(simp only[push_cast,seval];rfl);intro hm;rotate_left;intro hm)|((with_reducible apply bC hm);(focus(simp only[bk,cn,RV.get,push_cast,seval];rfl));(focus((repeat'(first|rfl));done)))|((with_reducible apply bR hm);(simp only[push_cast,seval];rfl)))
noncomputable def lB (x0:ap):Option (Int):=(tO x0).1
theorem sS (x0:ap):∀ r,lB x0=some r->aa Tryz.prog 137 [.agg (aW x0)] (.int .i64 r):=(tO x0).2
def cB:SC:=
 (.seq (.reg [.r 19 (.bin .lss (.t 18) (.t 17))])
 (.seq (.cond (.t 19)
  .skip
  (.exit 0))
 (.seq (.block 1 (.seq (.reg [.r 20 (.idx 5 (.t 16) (.t 18)),
    .o 21 (.ldA 5 (.t 20)),
    .w 8 (.boxM (.c (.agg [.d (.str []),.d (.str []),.d (.int .i64 0),.d (.int .i64 0),.nils]))),
    .w 0 (.st 5 (.t 8) (.t 21))])
  (.seq (.reg [.r 22 (.mv (.t 0)),
    .o 23 (.ldA 5 (.t 8)),
    .r 24 (.mv (.t 2)),
    .p (some 25) (.f 96) [.t 22,.t 23,.t 24],
    .r 9 (.mv (.t 25))])
  (.seq (.reg [.r 26 (.mv (.t 9)),
    .r 27 (.bin .neq (.t 26) (.c (.d (.int .i64 0))))])
  (.cond (.t 27)
   (.seq (.reg [.r 28 (.mv (.t 9)),
     .r 6 (.mv (.t 28))])
   .ret)
   .skip)))))
 (.reg [.r 29 (.bin .add (.t 18) (.c (.d (.int .i64 1)))),
   .r 18 (.mv (.t 29))]))))
def eI:SC:= .block 0 (.loop cB)
def fK:SC:=
 (.seq (.reg [.r 6 (.mv (.c (.d (.int .i64 0))))])
 (.seq (.seq (.reg [.r 10 (.mv (.t 1)),
   .r 11 (.len (.t 10)),
   .r 12 (.bin .eql (.t 11) (.c (.d (.int .i64 0))))])
 (.cond (.t 12)
  (.seq (.reg [.r 6 (.mv (.c (.d (.int .i64 9))))])
  .ret)
  .skip))
 (.seq (.seq (.reg [.r 13 (.mv (.t 1)),
   .r 14 (.len (.t 13)),
   .r 15 (.bin .gtr (.t 14) (.c (.d (.int .i64 50))))])
 (.cond (.t 15)
  (.seq (.reg [.r 6 (.mv (.c (.d (.int .i64 2))))])
  .ret)
  .skip))
 (.seq (.seq (.reg [.r 16 (.mv (.t 1)),
   .r 17 (.len (.t 16)),
   .r 18 (.mv (.c (.d (.int .i64 0))))])
 eI)
 (.seq (.reg [.r 6 (.mv (.c (.d (.int .i64 0))))])
 .ret)))))
theorem kR:fits Tryz.prog 49 Tryz.f49 fK [.t 6] 3=true:=oK
def fL:SC:=
 (.seq (.reg [.r 4 (.boxI (.t 1)),
   .r 6 (.mv (.c (.d (.int .i64 0))))])
 (.seq (.reg [.r 9 (.mv (.t 0)),
   .r 10 (.nilc (.t 9)),
   .r 11 (.fld 4 (.t 10)),
   .o 12 (.ld1 (.t 11)),
   .r 13 (.bin .add (.t 12) (.c (.d (.int .i64 1)))),
   .r 14 (.nilc (.t 9)),
   .r 15 (.fld 4 (.t 14)),
   .w 0 (.st 1 (.t 15) (.t 13))])
 (.seq (.block 0 (.seq (.reg (.r 17 (.mv (.t 0)):: .r 18 (.nilc (.t 17)):: .r 19 (.fld 4 (.t 18)):: .o 20 (.ld1 (.t 19)):: .r 21 (.bin .gtr (.t 20) (.c (.d (.int .i64 300)))):: .r 22 (.mv (.t 21))::aI [23,24] 22 false (.r 23 (.mv (.t 2)):: .r 24 (.bin .gtr (.t 23) (.c (.d (.int .i64 6))))::[]) (.r 25 (.pick (.t 22) (.c (.d (.bool true))) (.t 24)):: .r 16 (.mv (.t 25))::[])))
  (.cond (.t 16)
   (.seq (.reg [.r 6 (.mv (.c (.d (.int .i64 2))))])
   .ret)
   (.seq (.reg (.o 27 (.ldA 5 (.t 4)):: .c 28 (.f 138) [.t 27]:: .r 29 (.not (.t 28)):: .r 30 (.mv (.t 29))::aI [31,32,33] 30 true (.r 31 (.ldA 5 (.t 4)):: .c 32 (.f 139) [.t 31]:: .r 33 (.not (.t 32))::[]) (.r 34 (.pick (.t 30) (.t 33) (.c (.d (.bool false)))):: .r 26 (.mv (.t 34))::[])))
   (.cond (.t 26)
    (.seq (.reg [.r 6 (.mv (.c (.d (.int .i64 3))))])
    .ret)
    (.seq (.reg (.r 36 (.fld 1 (.t 4)):: .o 37 (.ld1 (.t 36)):: .r 38 (.bin .neq (.t 37) (.c (.d (.str [])))):: .r 39 (.mv (.t 38))::aI [40,41,42,43] 39 true (.r 40 (.fld 1 (.t 4)):: .r 41 (.ld1 (.t 40)):: .c 42 (.f 47) [.t 41]:: .r 43 (.not (.t 42))::[]) (.r 44 (.pick (.t 39) (.t 43) (.c (.d (.bool false)))):: .r 35 (.mv (.t 44))::[])))
    (.cond (.t 35)
     (.seq (.reg [.r 6 (.mv (.c (.d (.int .i64 5))))])
     .ret)
     .skip)))))))
 (.seq (.seq (.regE [.r 46 (.mv (.t 0)),
   .r 47 (.nilc (.t 46)),
   .r 48 (.fld 0 (.t 47)),
   .r 49 (.ldA 4 (.t 48)),
   .r 50 (.fld 0 (.t 4)),
   .r 51 (.ld1 (.t 50)),
   .c 52 (.f 84) [.t 49,.t 51],
   .r 45 (.mv (.t 52)),
   .r 53 (.ext (.t 45) 0),
   .r 54 (.ext (.t 45) 1),
   .x 7 (.boxM (.c (.agg [.d (.str []),.nils]))) [(0,46,.mv (.t 0)),(1,47,.nilc (.t 46)),(2,48,.fld 0 (.t 47)),(3,49,.ldA 4 (.t 48)),(4,50,.fld 0 (.t 4)),(5,51,.ld1 (.t 50)),(6,52,.cl 52 [49,51]),(7,45,.mv (.t 52)),(8,53,.ext (.t 45) 0),(9,54,.ext (.t 45) 1)],
   .x 0 (.st 2 (.t 7) (.t 53)) [(9,54,.ext (.t 45) 1)],
   .r 8 (.mv (.t 54))])
 (.seq (.reg (.r 55 (.fld 1 (.t 4)):: .o 56 (.ld1 (.t 55)):: .r 57 (.bin .eql (.t 56) (.c (.d (.str [])))):: .r 58 (.mv (.t 57))::aI [59,60] 58 true (.r 59 (.mv (.t 8)):: .r 60 (.not (.t 59))::[]) (.r 61 (.pick (.t 58) (.t 60) (.c (.d (.bool false))))::[])))
 (.cond (.t 61)
  (.seq (.reg [.r 6 (.mv (.c (.d (.int .i64 9))))])
  .ret)
  .skip)))
 (.seq (.seq (.reg (.r 62 (.fld 2 (.t 4)):: .o 63 (.ld1 (.t 62)):: .r 64 (.fld 3 (.t 4)):: .o 65 (.ld1 (.t 64)):: .c 66 (.f 114) [.t 63,.c (.d (.int .i64 0)),.t 65]:: .r 67 (.mv (.t 66))::aI [68,69,70] 67 false (.r 68 (.fld 3 (.t 4)):: .r 69 (.ld1 (.t 68)):: .c 70 (.f 114) [.t 69,.c (.d (.int .i64 1)),.c (.d (.int .i64 1000))]::[]) (.r 71 (.pick (.t 67) (.c (.d (.bool true))) (.t 70))::[])))
 (.cond (.t 71)
  (.seq (.reg [.r 6 (.mv (.c (.d (.int .i64 1))))])
  .ret)
  .skip))
 (.seq (.seq (.reg [.r 72 (.fld 1 (.t 4)),
   .o 73 (.ld1 (.t 72)),
   .r 74 (.bin .eql (.t 73) (.c (.d (.str []))))])
 (.cond (.t 74)
  (.seq (.reg [.r 6 (.mv (.c (.d (.int .i64 0))))])
  .ret)
  .skip))
 (.seq (.reg [.r 75 (.mv (.t 0)),
   .r 76 (.fld 4 (.t 4)),
   .o 77 (.ld1 (.t 76)),
   .r 78 (.mv (.t 2)),
   .r 79 (.bin .add (.t 78) (.c (.d (.int .i64 1)))),
   .p (some 80) (.f 49) [.t 75,.t 77,.t 79],
   .r 6 (.mv (.t 80))])
 .ret)))))))
theorem kS:fits Tryz.prog 96 Tryz.f96 fL [.t 6] 3=true:=oK
set_option maxRecDepth 100000 in
set_option maxHeartbeats 40000000 in
noncomputable def n9:((∀ (x0:ax) (x1:List ac) (x2:Int),{m:Option ((Int)×ax)//∀ r,m=some r->cQ Tryz.prog 49 (.own (.pt [.sh,.sh,.sh,.sh,.sh]) (.ptr (aG x0))::List.map SV.d ([.slice (List.map ab x1),.int .i64 x2]:List DV)) (.d (.int .i64 r.1)) (.own (.pt [.sh,.sh,.sh,.sh,.sh]) (.ptr (aG r.2))::List.map SV.d ([.slice (List.map ab x1),.int .i64 x2]:List DV))})×(∀ (x0:ax) (x1:ac) (x2:Int),{m:Option ((Int)×ax)//∀ r,m=some r->cQ Tryz.prog 96 (.own (.pt [.sh,.sh,.sh,.sh,.sh]) (.ptr (aG x0))::List.map SV.d ([.agg (ab x1),.int .i64 x2]:List DV)) (.d (.int .i64 r.1)) (.own (.pt [.sh,.sh,.sh,.sh,.sh]) (.ptr (aG r.2))::List.map SV.d ([.agg (ab x1),.int .i64 x2]:List DV))}))->((∀ (x0:ax) (x1:List ac) (x2:Int),{m:Option ((Int)×ax)//∀ r,m=some r->cQ Tryz.prog 49 (.own (.pt [.sh,.sh,.sh,.sh,.sh]) (.ptr (aG x0))::List.map SV.d ([.slice (List.map ab x1),.int .i64 x2]:List DV)) (.d (.int .i64 r.1)) (.own (.pt [.sh,.sh,.sh,.sh,.sh]) (.ptr (aG r.2))::List.map SV.d ([.slice (List.map ab x1),.int .i64 x2]:List DV))})×(∀ (x0:ax) (x1:ac) (x2:Int),{m:Option ((Int)×ax)//∀ r,m=some r->cQ Tryz.prog 96 (.own (.pt [.sh,.sh,.sh,.sh,.sh]) (.ptr (aG x0))::List.map SV.d ([.agg (ab x1),.int .i64 x2]:List DV)) (.d (.int .i64 r.1)) (.own (.pt [.sh,.sh,.sh,.sh,.sh]) (.ptr (aG r.2))::List.map SV.d ([.agg (ab x1),.int .i64 x2]:List DV))})):=by
 intro ih
 have cI:∀ (x0:ax) (x1:List ac) (x2:Int),∀ r,(ih.1 x0 x1 x2).1=some r->cQ Tryz.prog 49 (.own (.pt [.sh,.sh,.sh,.sh,.sh]) (.ptr (aG x0))::List.map SV.d ([.slice (List.map ab x1),.int .i64 x2]:List DV)) (.d (.int .i64 r.1)) (.own (.pt [.sh,.sh,.sh,.sh,.sh]) (.ptr (aG r.2))::List.map SV.d ([.slice (List.map ab x1),.int .i64 x2]:List DV)):=fun x0 x1 x2=>(ih.1 x0 x1 x2).2
 have eV:∀ (x0:ax) (x1:ac) (x2:Int),∀ r,(ih.2 x0 x1 x2).1=some r->cQ Tryz.prog 96 (.own (.pt [.sh,.sh,.sh,.sh,.sh]) (.ptr (aG x0))::List.map SV.d ([.agg (ab x1),.int .i64 x2]:List DV)) (.d (.int .i64 r.1)) (.own (.pt [.sh,.sh,.sh,.sh,.sh]) (.ptr (aG r.2))::List.map SV.d ([.agg (ab x1),.int .i64 x2]:List DV)):=fun x0 x1 x2=>(ih.2 x0 x1 x2).2
 refine⟨?g0, ?g1⟩
 case' g0=>(intro x0 x1 x2;apply Subtype.mk;intro r hm;apply jJ (N:=30) (k:=3) Tryz.func49 kR oK rfl rfl oD;unfold fK)
 case' g1=>(intro x0 x1 x2;apply Subtype.mk;intro r hm;apply jJ (N:=81) (k:=3) Tryz.func96 kS oK rfl rfl oD;unfold fL)
 all_goals(repeat'(first|with_reducible refine bF ?_|with_reducible refine bu ?_|with_reducible refine xB ?_|with_reducible refine bo ?_|with_reducible refine bl ?_|with_reducible refine bE ?_|with_reducible refine cg ?_|with_reducible refine bw ?_|with_reducible refine bG ?_|with_reducible refine cj ?_|with_reducible refine bA ?_|with_reducible refine br ?_|with_reducible refine bv ?_|with_reducible refine cF ?_|((with_reducible apply cu hm);(iterate 2 (simp only[push_cast,seval];rfl));(intro _;rfl);intro e hm)|((with_reducible apply iE);(simp only[push_cast,seval];rfl);(first|exact trivial))|((with_reducible apply ed hm);(simp only[push_cast,seval];rfl);rfl;intro v hm;rotate_left;intro v g hm)|((with_reducible apply np hm);(simp only[push_cast,seval];rfl);rfl;intro v hm;rotate_left;intro v g hm)|((with_reducible apply ee hm);(simp only[push_cast,seval];rfl);(first|apply ni _|apply vh _|apply oV _|apply qE _ _|apply ep _ _ _);(any_goals((repeat'(first|rfl|(with_reducible first|apply et|apply na|apply dm)));done));intro x hm)|((with_reducible apply uU);(simp only[push_cast,seval];rfl);(first|exact trivial))|((with_reducible apply K_);(simp only[push_cast,seval];rfl);(first|exact trivial);(focus((repeat'(first|exact uI|((with_reducible apply Dg);(focus(simp only[push_cast,seval];rfl));(focus(first|exact trivial));(focus(simp only[push_cast,seval])))));done)))|((with_reducible apply aM hm);(simp only[push_cast,seval];rfl);intro hm;rotate_left;intro hm)|((with_reducible apply bR hm);(simp only[push_cast,seval];rfl))|((with_reducible apply bH hm);intro r hm)|((with_reducible apply cb hm);intro r hm)|((apply aH (b:=0) (X:=eI) (x:=cB) rfl (fun(c:SV×SV×SV×SV×SV) (s:ae×Int×Int)=>st [(0,.ref 0 0),(2,c.1),(16,c.2.1),(17,c.2.2.1),(18,.d (.int .i64 s.2.2)),(30,.ref 0 0),(31,c.2.2.2.1),(32,c.2.2.2.2)] [(0,.box (pO s.1 s.2.1))]) (c:=(_,_,_,_,_)) (s0:=(_,_,_)) hm);(focus(first|(dsimp only;done)));(with_reducible refine cA.mk ?_ ?_))|((apply bB (s':=(_,_,_)) hm);(focus(first|(dsimp only;done))))|((apply ct (s':=(_,_,_)) hm);(focus(first|(dsimp only;done))))|(((with_reducible apply ew hm);intro r hm))|(((with_reducible apply GB hm (id:=0) (ms:=[.sh,.sh,.sh,.sh,.sh]));(focus(exact f0.refl _));(focus(simp only[push_cast,seval];(try rfl);done));(focus(simp only[push_cast,seval];(try rfl);done));(focus(simp only[push_cast,seval];(try rfl);done));(focus((repeat'(first|(with_reducible first|apply lu|apply dL)|((with_reducible apply aZ);(focus(first|rfl));(focus((repeat'(first|rfl));done)))));done));(focus rfl);(first|apply eV _ _ _|apply cI _ _ _);(any_goals(focus((repeat'(first|rfl|(with_reducible first|apply et|apply na|apply dm)));done)));(focus(intro _;exact⟨rfl,rfl,rfl⟩));intro y hm))|(((with_reducible apply CB hm (ms:=[.sh,.sh,.sh,.sh,.sh]));(focus(exact f0.refl _));(focus(simp only[push_cast,seval];(try rfl);done));(focus((repeat'(first|(with_reducible first|apply lu|apply dL)|((with_reducible apply aZ);(focus(first|rfl));(focus((repeat'(first|rfl));done)))));done));(focus(intro _;rfl));(focus(simp only[push_cast,seval];(try rfl);done));(focus(simp only[push_cast,seval];(try rfl);done));(focus(simp only[push_cast,seval];(try rfl);done));(focus(simp only[push_cast,seval];(try rfl);done));(focus(first|(apply Jc;(focus((repeat'(first|rfl));done)))))))|(((with_reducible apply dw.of);(focus(first|(dsimp only;done)));(focus((intro _;repeat'(first|with_reducible exact nq|with_reducible refine aR ?_))));(intro s o hm;first|unfold cB);rotate_left;intro s hm))|(((apply bI;(repeat'(first|with_reducible exact aT|with_reducible exact aU|with_reducible apply aJ|with_reducible apply c7|((with_reducible apply aZ);(focus(first|(simp only[push_cast,seval];rfl)));(focus((repeat'(first|rfl));done)))|((with_reducible apply iG);(focus(first|(simp only[push_cast,seval];rfl)));(first|with_reducible exact cT rfl))));done)))))
noncomputable def iq (fu:Nat):(∀ (x0:ax) (x1:List ac) (x2:Int),{m:Option ((Int)×ax)//∀ r,m=some r->cQ Tryz.prog 49 (.own (.pt [.sh,.sh,.sh,.sh,.sh]) (.ptr (aG x0))::List.map SV.d ([.slice (List.map ab x1),.int .i64 x2]:List DV)) (.d (.int .i64 r.1)) (.own (.pt [.sh,.sh,.sh,.sh,.sh]) (.ptr (aG r.2))::List.map SV.d ([.slice (List.map ab x1),.int .i64 x2]:List DV))})×(∀ (x0:ax) (x1:ac) (x2:Int),{m:Option ((Int)×ax)//∀ r,m=some r->cQ Tryz.prog 96 (.own (.pt [.sh,.sh,.sh,.sh,.sh]) (.ptr (aG x0))::List.map SV.d ([.agg (ab x1),.int .i64 x2]:List DV)) (.d (.int .i64 r.1)) (.own (.pt [.sh,.sh,.sh,.sh,.sh]) (.ptr (aG r.2))::List.map SV.d ([.agg (ab x1),.int .i64 x2]:List DV))}):=Nat.rec ⟨(fun x0 x1 x2=>⟨none,fun r h=>by cases h⟩),(fun x0 x1 x2=>⟨none,fun r h=>by cases h⟩)⟩ (fun _ ih=>n9 ih) fu
noncomputable def bm (fu:Nat) (x0:ax) (x1:List ac) (x2:Int):Option ((Int)×ax):=((iq fu).1 x0 x1 x2).1
theorem jM (fu:Nat) (x0:ax) (x1:List ac) (x2:Int):((iq fu).1 x0 x1 x2).1=bm fu x0 x1 x2:=rfl
theorem jN (fu:Nat) (x0:ax) (x1:List ac) (x2:Int):bm (fu+1) x0 x1 x2=((n9 (iq fu)).1 x0 x1 x2).1:=rfl
theorem cI (fu:Nat) (x0:ax) (x1:List ac) (x2:Int):∀ r,bm fu x0 x1 x2=some r->cQ Tryz.prog 49 (.own (.pt [.sh,.sh,.sh,.sh,.sh]) (.ptr (aG x0))::List.map SV.d ([.slice (List.map ab x1),.int .i64 x2]:List DV)) (.d (.int .i64 r.1)) (.own (.pt [.sh,.sh,.sh,.sh,.sh]) (.ptr (aG r.2))::List.map SV.d ([.slice (List.map ab x1),.int .i64 x2]:List DV)):=((iq fu).1 x0 x1 x2).2
noncomputable def bL (fu:Nat) (x0:ax) (x1:ac) (x2:Int):Option ((Int)×ax):=((iq fu).2 x0 x1 x2).1
theorem jO (fu:Nat) (x0:ax) (x1:ac) (x2:Int):((iq fu).2 x0 x1 x2).1=bL fu x0 x1 x2:=rfl
theorem jP (fu:Nat) (x0:ax) (x1:ac) (x2:Int):bL (fu+1) x0 x1 x2=((n9 (iq fu)).2 x0 x1 x2).1:=rfl
theorem eV (fu:Nat) (x0:ax) (x1:ac) (x2:Int):∀ r,bL fu x0 x1 x2=some r->cQ Tryz.prog 96 (.own (.pt [.sh,.sh,.sh,.sh,.sh]) (.ptr (aG x0))::List.map SV.d ([.agg (ab x1),.int .i64 x2]:List DV)) (.d (.int .i64 r.1)) (.own (.pt [.sh,.sh,.sh,.sh,.sh]) (.ptr (aG r.2))::List.map SV.d ([.agg (ab x1),.int .i64 x2]:List DV)):=((iq fu).2 x0 x1 x2).2
def gg:SC:=
 (.seq (.reg [.r 24 (.bin .lss (.t 23) (.t 22))])
 (.seq (.cond (.t 24)
  .skip
  (.exit 1))
 (.seq (.block 2 (.seq (.reg [.r 25 (.idx 5 (.t 21) (.t 23)),
    .o 26 (.ldA 5 (.t 25)),
    .w 4 (.boxM (.c (.agg [.d (.bool false),.d (.int .i64 0),.d (.int .i64 0),.d (.int .i64 0),.nils]))),
    .w 0 (.st 5 (.t 4) (.t 26))])
  (.seq (.reg [.o 27 (.ldA 5 (.t 4)),
    .c 28 (.f 137) [.t 27],
    .r 5 (.mv (.t 28))])
  (.seq (.reg [.r 29 (.mv (.t 5)),
    .r 30 (.bin .neq (.t 29) (.c (.d (.int .i64 0))))])
  (.cond (.t 30)
   (.seq (.reg [.r 31 (.mv (.t 5)),
     .r 2 (.mv (.t 31))])
   .ret)
   .skip)))))
 (.reg [.r 32 (.bin .add (.t 23) (.c (.d (.int .i64 1)))),
   .r 23 (.mv (.t 32))]))))
def kn:SC:= .block 1 (.loop gg)
def mF:SC:=
 (.seq (.reg [.r 1 (.boxI (.t 0)),
   .r 2 (.mv (.c (.d (.int .i64 0))))])
 (.seq (.block 0 (.seq (.reg [.r 7 (.fld 1 (.t 1)),
    .o 8 (.ld1 (.t 7)),
    .c 9 (.f 114) [.t 8,.c (.d (.int .i64 1)),.c (.d (.int .i64 20))],
    .r 6 (.mv (.t 9))])
  (.cond (.t 6)
   (.seq (.reg [.r 2 (.mv (.c (.d (.int .i64 1))))])
   .ret)
   (.seq (.reg [.r 11 (.fld 2 (.t 1)),
     .o 12 (.ld1 (.t 11)),
     .r 13 (.len (.t 12)),
     .r 14 (.bin .eql (.t 13) (.c (.d (.int .i64 0)))),
     .r 10 (.mv (.t 14))])
   (.cond (.t 10)
    (.seq (.reg [.r 2 (.mv (.c (.d (.int .i64 9))))])
    .ret)
    (.seq (.reg [.r 16 (.fld 2 (.t 1)),
      .o 17 (.ld1 (.t 16)),
      .r 18 (.len (.t 17)),
      .r 19 (.bin .gtr (.t 18) (.c (.d (.int .i64 20)))),
      .r 15 (.mv (.t 19))])
    (.cond (.t 15)
     (.seq (.reg [.r 2 (.mv (.c (.d (.int .i64 2))))])
     .ret)
     .skip)))))))
 (.seq (.seq (.reg [.r 20 (.fld 2 (.t 1)),
   .o 21 (.ld1 (.t 20)),
   .r 22 (.len (.t 21)),
   .r 23 (.mv (.c (.d (.int .i64 0))))])
 kn)
 (.seq (.reg [.r 2 (.mv (.c (.d (.int .i64 0))))])
 .ret))))
theorem rp:fits Tryz.prog 95 Tryz.f95 mF [.t 2] 1=true:=oK
set_option maxRecDepth 100000 in
set_option maxHeartbeats 40000000 in
noncomputable def tP:(∀ (x0:aD),{m:Option (Int)//∀ r,m=some r->aa Tryz.prog 95 [.agg (bf x0)] (.int .i64 r)}):=by
 (intro x0;apply Subtype.mk;intro r hm;apply ag Tryz.func95 rp;unfold mF)
 repeat'(first|with_reducible refine bF ?_|with_reducible refine bu ?_|with_reducible refine bo ?_|with_reducible refine bl ?_|with_reducible refine bE ?_|with_reducible refine cg ?_|with_reducible refine bw ?_|with_reducible refine bG ?_|with_reducible refine cj ?_|with_reducible refine bA ?_|with_reducible refine br ?_|with_reducible refine bv ?_|with_reducible refine cF ?_|((with_reducible apply cu hm);(iterate 2 (simp only[push_cast,seval];rfl));(intro _;rfl);intro e hm)|((with_reducible apply iE);(simp only[push_cast,seval];rfl);(first|exact trivial))|((with_reducible apply ee hm);(simp only[push_cast,seval];rfl);(first|apply ep _ _ _|apply sS _);(any_goals((repeat'(first|rfl));done));intro x hm)|((with_reducible apply uU);(simp only[push_cast,seval];rfl);(first|exact trivial))|((with_reducible apply aM hm);(simp only[push_cast,seval];rfl);intro hm;rotate_left;intro hm)|((with_reducible apply bC hm);(focus(simp only[bk,cn,RV.get,push_cast,seval];rfl));(focus((repeat'(first|rfl));done)))|((with_reducible apply bH hm);intro r hm)|((with_reducible apply cb hm);intro r hm)|((apply aH (b:=1) (X:=kn) (x:=gg) rfl (fun(c:SV×SV) (s:Int)=>st [(21,c.1),(22,c.2),(23,.d (.int .i64 s))] []) (c:=(_,_)) (s0:=_) hm);(focus(first|(dsimp only;done)));(with_reducible refine cA.mk ?_ ?_))|((apply bB (s':=_) hm);(focus(first|(dsimp only;done))))|((apply ct (s':=_) hm);(focus(first|(dsimp only;done))))|(((with_reducible apply ew hm);intro r hm))|(((with_reducible apply dw.of);(focus(first|(dsimp only;done)));(focus((intro _;repeat'(first|with_reducible exact bg|with_reducible refine aR ?_))));(intro s o hm;first|unfold gg);rotate_left;intro s hm))|(((apply bI;(repeat'(first|with_reducible exact aT|with_reducible exact aU|with_reducible apply aJ|((with_reducible apply aZ);(focus(first|(simp only[push_cast,seval];rfl)));(focus((repeat'(first|rfl));done)))));done))))
noncomputable def jb (x0:aD):Option (Int):=(tP x0).1
theorem qV (x0:aD):∀ r,jb x0=some r->aa Tryz.prog 95 [.agg (bf x0)] (.int .i64 r):=(tP x0).2
def iH:SC:=
 (.seq (.reg [.r 43 (.bin .lss (.t 42) (.t 41))])
 (.seq (.cond (.t 43)
  .skip
  (.exit 2))
 (.seq (.block 3 (.seq (.reg [.r 44 (.idx 3 (.t 40) (.t 42)),
    .o 45 (.ldA 3 (.t 44)),
    .w 6 (.boxM (.c (.agg [.d (.bool false),.d (.int .i64 0),.nils]))),
    .w 0 (.st 3 (.t 6) (.t 45))])
  (.seq (.reg [.o 46 (.ldA 3 (.t 6)),
    .c 47 (.f 95) [.t 46],
    .r 7 (.mv (.t 47))])
  (.seq (.reg [.r 48 (.mv (.t 7)),
    .r 49 (.bin .neq (.t 48) (.c (.d (.int .i64 0))))])
  (.cond (.t 49)
   (.seq (.reg [.r 50 (.mv (.t 7)),
     .r 2 (.mv (.t 50))])
   .ret)
   .skip)))))
 (.reg [.r 51 (.bin .add (.t 42) (.c (.d (.int .i64 1)))),
   .r 42 (.mv (.t 51))]))))
def mG:SC:= .block 2 (.loop iH)
def iI:SC:=
 (.seq (.reg [.r 14 (.bin .lss (.t 13) (.t 12))])
 (.seq (.cond (.t 14)
  .skip
  (.exit 0))
 (.seq (.block 1 (.seq (.reg [.r 15 (.mv (.t 13)),
    .r 16 (.idx 2 (.t 11) (.t 13)),
    .o 17 (.ldA 2 (.t 16)),
    .w 4 (.boxM (.c (.agg [.d (.str []),.nils]))),
    .r 3 (.mv (.t 15)),
    .w 0 (.st 2 (.t 4) (.t 17))])
  (.seq (.seq (.reg [.r 18 (.fld 0 (.t 4)),
    .o 19 (.ld1 (.t 18)),
    .c 20 (.f 52) [.t 19],
    .r 21 (.not (.t 20))])
  (.cond (.t 21)
   (.seq (.reg [.r 2 (.mv (.c (.d (.int .i64 5))))])
   .ret)
   .skip))
  (.seq (.seq (.regD (.r 22 (.mv (.t 3)):: .r 23 (.bin .gtr (.t 22) (.c (.d (.int .i64 0)))):: .r 24 (.mv (.t 23))::aI [25,26,27,28,29,30,31,32,33] 24 true (.r 25 (.fld 0 (.t 4)):: .r 26 (.ld1 (.t 25)):: .r 27 (.mv (.t 0)):: .r 28 (.mv (.t 3)):: .r 29 (.bin .sub (.t 28) (.c (.d (.int .i64 1)))):: .r 30 (.idx 2 (.t 27) (.t 29)):: .r 31 (.fld 0 (.t 30)):: .r 32 (.ld1 (.t 31)):: .r 33 (.bin .leq (.t 26) (.t 32))::[]) (.r 34 (.pick (.t 24) (.t 33) (.c (.d (.bool false))))::[])))
  (.cond (.t 34)
   (.seq (.reg [.r 2 (.mv (.c (.d (.int .i64 8))))])
   .ret)
   .skip))
  (.seq (.seq (.reg [.r 35 (.fld 1 (.t 4)),
    .o 36 (.ld1 (.t 35)),
    .r 37 (.len (.t 36)),
    .r 38 (.bin .gtr (.t 37) (.c (.d (.int .i64 50))))])
  (.cond (.t 38)
   (.seq (.reg [.r 2 (.mv (.c (.d (.int .i64 2))))])
   .ret)
   .skip))
  (.seq (.reg [.r 39 (.fld 1 (.t 4)),
    .o 40 (.ld1 (.t 39)),
    .r 41 (.len (.t 40)),
    .r 42 (.mv (.c (.d (.int .i64 0))))])
  mG))))))
 (.reg [.r 52 (.bin .add (.t 13) (.c (.d (.int .i64 1)))),
   .r 13 (.mv (.t 52))]))))
def mH:SC:= .block 0 (.loop iI)
def o5:SC:=
 (.seq (.reg [.r 2 (.mv (.c (.d (.int .i64 0))))])
 (.seq (.seq (.reg [.r 8 (.mv (.t 0)),
   .r 9 (.len (.t 8)),
   .r 10 (.bin .gtr (.t 9) (.c (.d (.int .i64 100))))])
 (.cond (.t 10)
  (.seq (.reg [.r 2 (.mv (.c (.d (.int .i64 2))))])
  .ret)
  .skip))
 (.seq (.seq (.reg [.r 11 (.mv (.t 0)),
   .r 12 (.len (.t 11)),
   .r 13 (.mv (.c (.d (.int .i64 0))))])
 mH)
 (.seq (.reg [.r 2 (.mv (.c (.d (.int .i64 0))))])
 .ret))))
theorem tQ:fits Tryz.prog 48 Tryz.f48 o5 [.t 2] 1=true:=oK
set_option maxRecDepth 100000 in
set_option maxHeartbeats 40000000 in
noncomputable def tR:(∀ (x0:List ak),{m:Option (Int)//∀ r,m=some r->aa Tryz.prog 48 [.slice (List.map am x0)] (.int .i64 r)}):=by
 (intro x0;apply Subtype.mk;intro r hm;apply ag Tryz.func48 tQ;unfold o5)
 repeat'(first|with_reducible refine bF ?_|with_reducible refine bu ?_|with_reducible refine ou ?_|with_reducible refine bo ?_|with_reducible refine bl ?_|with_reducible refine bE ?_|with_reducible refine cg ?_|with_reducible refine bw ?_|with_reducible refine bG ?_|with_reducible refine cj ?_|with_reducible refine bA ?_|with_reducible refine br ?_|with_reducible refine bv ?_|with_reducible refine cF ?_|((with_reducible apply cu hm);(iterate 2 (simp only[push_cast,seval];rfl));(intro _;rfl);intro e hm)|((with_reducible apply iE);(simp only[push_cast,seval];rfl);(first|exact trivial))|((with_reducible apply ed hm);(simp only[push_cast,seval];rfl);rfl;intro v hm;rotate_left;intro v g hm)|((with_reducible apply ee hm);(simp only[push_cast,seval];rfl);(first|apply mR _|apply qV _);(any_goals((repeat'(first|rfl));done));intro x hm)|((with_reducible apply uU);(simp only[push_cast,seval];rfl);(first|exact trivial))|((with_reducible apply aM hm);(simp only[push_cast,seval];rfl);intro hm;rotate_left;intro hm)|((with_reducible apply bC hm);(focus(simp only[bk,cn,RV.get,push_cast,seval];rfl));(focus((repeat'(first|rfl));done)))|((with_reducible apply bR hm);(simp only[push_cast,seval];rfl))|((with_reducible apply bH hm);intro r hm)|((with_reducible apply cb hm);intro r hm)|((apply aH (b:=2) (X:=mG) (x:=iH) rfl (fun(c:SV×SV×SV×SV×SV×SV) (s:Int)=>st [(0,c.1),(11,c.2.1),(12,c.2.2.1),(13,c.2.2.2.1),(40,c.2.2.2.2.1),(41,c.2.2.2.2.2),(42,.d (.int .i64 s))] []) (c:=(_,_,_,_,_,_)) (s0:=_) hm);(focus(first|(dsimp only;done)));(with_reducible refine cA.mk ?_ ?_))|((apply aH (b:=0) (X:=mH) (x:=iI) rfl (fun(c:SV×SV×SV) (s:Int)=>st [(0,c.1),(11,c.2.1),(12,c.2.2),(13,.d (.int .i64 s))] []) (c:=(_,_,_)) (s0:=_) hm);(focus(first|(dsimp only;done)));(with_reducible refine cA.mk ?_ ?_))|((apply bB (s':=_) hm);(focus(first|(dsimp only;done))))|((apply ct (s':=_) hm);(focus(first|(dsimp only;done))))|(((with_reducible apply ew hm);intro r hm))|(((with_reducible apply dw.of);(focus(first|(dsimp only;done)));(focus((intro _;repeat'(first|with_reducible exact bg|with_reducible refine aR ?_|with_reducible refine cr ?_|((with_reducible refine eT ?_);intro _)|((with_reducible refine eU ?_);intro _)))));(intro s o hm;first|unfold iH|unfold iI);rotate_left;intro s hm))|(((apply bI;(repeat'(first|with_reducible exact aT|with_reducible exact aU|with_reducible apply aJ|((with_reducible apply aZ);(focus(first|(simp only[push_cast,seval];rfl)));(focus((repeat'(first|rfl));done)))));done))))
noncomputable def lC (x0:List ak):Option (Int):=(tR x0).1
theorem sT (x0:List ak):∀ r,lC x0=some r->aa Tryz.prog 48 [.slice (List.map am x0)] (.int .i64 r):=(tR x0).2
def ne:SC:=
 (.seq (.reg [.r 1 (.boxI (.t 0)),
   .r 2 (.mv (.c (.d (.int .i64 0))))])
 (.seq (.seq (.reg (.r 6 (.fld 0 (.t 1)):: .o 7 (.ld1 (.t 6)):: .c 8 (.f 47) [.t 7]:: .r 9 (.not (.t 8)):: .r 10 (.mv (.t 9))::aI [11,12,13,14] 10 false (.r 11 (.fld 1 (.t 1)):: .r 12 (.ld1 (.t 11)):: .c 13 (.f 47) [.t 12]:: .r 14 (.not (.t 13))::[]) (.r 15 (.pick (.t 10) (.c (.d (.bool true))) (.t 14))::[])))
 (.cond (.t 15)
  (.seq (.reg [.r 2 (.mv (.c (.d (.int .i64 5))))])
  .ret)
  .skip))
 (.seq (.seq (.reg [.r 16 (.fld 2 (.t 1)),
   .o 17 (.ld1 (.t 16)),
   .c 18 (.f 48) [.t 17],
   .r 3 (.mv (.t 18))])
 (.seq (.reg [.r 19 (.mv (.t 3)),
   .r 20 (.bin .neq (.t 19) (.c (.d (.int .i64 0))))])
 (.cond (.t 20)
  (.seq (.reg [.r 21 (.mv (.t 3)),
    .r 2 (.mv (.t 21))])
  .ret)
  .skip)))
 (.seq (.reg [.o 22 (.ldA 4 (.t 1)),
   .r 23 (.build [.d (.str []),.d (.str []),.nils,.nils,.d (.int .i64 0)] [(0,4,.t 22)]),
   .w 24 (.boxM (.t 23)),
   .r 4 (.mv (.t 24))])
 (.seq (.seq (.reg [.r 25 (.mv (.t 4)),
   .r 26 (.fld 3 (.t 1)),
   .o 27 (.ld1 (.t 26)),
   .p (some 28) (.f 49) [.t 25,.t 27,.c (.d (.int .i64 0))],
   .r 5 (.mv (.t 28))])
 (.seq (.reg [.r 29 (.mv (.t 5)),
   .r 30 (.bin .neq (.t 29) (.c (.d (.int .i64 0))))])
 (.cond (.t 30)
  (.seq (.reg [.r 31 (.mv (.t 5)),
    .r 2 (.mv (.t 31))])
  .ret)
  .skip)))
 (.seq (.seq (.reg [.r 32 (.fld 3 (.t 1)),
   .o 33 (.ld1 (.t 32)),
   .w 34 (.mkmap .str),
   .p (some 35) (.f 50) [.t 33,.t 34]])
 (.cond (.t 35)
  (.seq (.reg [.r 2 (.mv (.c (.d (.int .i64 7))))])
  .ret)
  .skip))
 (.seq (.seq (.reg [.r 36 (.fld 3 (.t 1)),
   .o 37 (.ld1 (.t 36)),
   .c 38 (.f 51) [.t 37,.c (.d (.raw (.map none))),.c (.d (.bool false))]])
 (.cond (.t 38)
  (.seq (.reg [.r 2 (.mv (.c (.d (.int .i64 12))))])
  .ret)
  .skip))
 (.seq (.reg [.r 2 (.mv (.c (.d (.int .i64 0))))])
 .ret))))))))
theorem rV:fits Tryz.prog 24 Tryz.f24 ne [.t 2] 1=true:=oK
set_option maxRecDepth 100000 in
set_option maxHeartbeats 40000000 in
noncomputable def tS:(∀ (x0:ae),{m:Option (Int)//∀ r,m=some r->aa Tryz.prog 24 [.agg (ai x0)] (.int .i64 r)}):=by
 (intro x0;apply Subtype.mk;intro r hm;apply ag Tryz.func24 rV;unfold ne)
 repeat'(first|with_reducible refine bF ?_|with_reducible refine bu ?_|with_reducible refine bl ?_|with_reducible refine bE ?_|with_reducible refine bw ?_|with_reducible refine bG ?_|with_reducible refine bA ?_|with_reducible refine cF ?_|((with_reducible apply iE);(simp only[push_cast,seval];rfl);(first|exact trivial))|((with_reducible apply np hm);(simp only[push_cast,seval];rfl);rfl;intro v hm;rotate_left;intro v g hm)|((with_reducible apply ee hm);(simp only[push_cast,seval];rfl);(first|apply oV _|apply sT _|apply jn FU _ _ _);(any_goals((repeat'(first|rfl|(with_reducible first|apply dm)));done));intro x hm)|((with_reducible apply uU);(simp only[push_cast,seval];rfl);(first|exact trivial))|((with_reducible apply aM hm);(simp only[push_cast,seval];rfl);intro hm;rotate_left;intro hm)|((with_reducible apply bC hm);(focus(simp only[bk,cn,RV.get,push_cast,seval];rfl));(focus((repeat'(first|rfl));done)))|((with_reducible apply bR hm);(simp only[push_cast,seval];rfl))|(((with_reducible apply GB hm (id:=24) (ms:=[.sh,.sh,.sh,.sh,.sh]));(focus(exact f0.refl _));(focus(simp only[push_cast,seval];(try rfl);done));(focus(simp only[push_cast,seval];(try rfl);done));(focus(simp only[push_cast,seval];(try rfl);done));(focus((repeat'(first|(with_reducible first|apply lu|apply dL)|((with_reducible apply aZ);(focus(first|rfl));(focus((repeat'(first|rfl));done)))));done));(focus rfl);(first|apply cI FU _ _ _);(any_goals(focus((repeat'(first|rfl));done)));(focus(intro _;exact⟨rfl,rfl,rfl⟩));intro y hm))|(((with_reducible apply HI hm);(focus(simp only[push_cast,seval];(try rfl);done));(focus(simp only[push_cast,seval];(try rfl);done));(focus(simp only[push_cast,seval];(try rfl);done));(focus(first|(simp only[push_cast,seval];apply Gq)));(focus rfl);(focus(first|apply mE FU _ _));(any_goals(focus((repeat'(first|rfl));done)));(focus(intro _;exact⟨rfl,rfl⟩));intro y hm))|(((with_reducible apply ee hm);(simp only[push_cast,seval];rfl);(apply sQ FU);(any_goals((repeat'(first|rfl));done));intro x hm)))
noncomputable def jQ (x0:ae):Option (Int):=(tS x0).1
theorem rq (x0:ae):∀ r,jQ x0=some r->aa Tryz.prog 24 [.agg (ai x0)] (.int .i64 r):=(tS x0).2
end Go.Proofs.YteaolfcegaidpaaGreatDoor
