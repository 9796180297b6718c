/-
  Laws on the way to the theorem.
-/
import Derived.Test.YteaolfcegaidpaaGreatDoorBX1
namespace Go.Proofs.YteaolfcegaidpaaGreatDoor
open Go.RowKit
set_option linter.unusedSimpArgs false
set_option linter.unusedVariables false
def eg:SC:=
 (.seq (.reg [.r 9 (.bin .lss (.t 8) (.t 7))])
 (.seq (.cond (.t 9)
  .skip
  (.exit 0))
 (.seq (.block 1 (.seq (.reg [.r 10 (.mv (.t 8)),
    .r 3 (.mv (.t 10))])
  (.seq (.reg (.r 11 (.mv (.t 0)):: .r 12 (.mv (.t 3)):: .r 13 (.sidx (.t 11) (.t 12)):: .r 14 (.bin .lss (.t 13) (.c (.d (.int .u8 48)))):: .r 15 (.mv (.t 14))::aI [16,17,18,19] 15 false (.r 16 (.mv (.t 0)):: .r 17 (.mv (.t 3)):: .r 18 (.sidx (.t 16) (.t 17)):: .r 19 (.bin .gtr (.t 18) (.c (.d (.int .u8 57))))::[]) (.r 20 (.pick (.t 15) (.c (.d (.bool true))) (.t 19))::[])))
  (.cond (.t 20)
   (.seq (.reg [.r 2 (.mv (.c (.d (.bool false))))])
   .ret)
   .skip))))
 (.reg [.r 21 (.bin .add (.t 8) (.c (.d (.int .i64 1)))),
   .r 8 (.mv (.t 21))]))))
def gZ:SC:= .block 0 (.loop eg)
def jh:SC:=
 (.seq (.reg [.r 2 (.mv (.c (.d (.bool false))))])
 (.seq (.seq (.reg [.r 4 (.mv (.t 0)),
   .r 5 (.bin .eql (.t 4) (.c (.d (.str []))))])
 (.cond (.t 5)
  (.seq (.reg [.r 2 (.mv (.c (.d (.bool false))))])
  .ret)
  .skip))
 (.seq (.seq (.reg [.r 6 (.mv (.t 0)),
   .r 7 (.lenT (.t 6)),
   .r 8 (.mv (.c (.d (.int .i64 0))))])
 gZ)
 (.seq (.reg [.r 2 (.mv (.c (.d (.bool true))))])
 .ret))))
theorem oB:fits Tryz.prog 185 Tryz.f185 jh [.t 2] 1=true:=oK
def eh:SC:=
 (.seq (.reg [.r 9 (.bin .lss (.t 8) (.t 7))])
 (.seq (.cond (.t 9)
  .skip
  (.exit 0))
 (.seq (.block 1 (.seq (.reg [.r 10 (.mv (.t 8)),
    .r 5 (.mv (.t 10))])
  (.seq (.reg [.r 11 (.mv (.t 4)),
    .r 12 (.bin .mul (.c (.d (.int .i64 10))) (.t 11)),
    .r 13 (.mv (.t 0)),
    .r 14 (.mv (.t 5)),
    .r 15 (.sidx (.t 13) (.t 14)),
    .r 16 (.bin .sub (.t 15) (.c (.d (.int .u8 48)))),
    .r 17 (.cvi .i64 (.t 16)),
    .r 18 (.bin .add (.t 12) (.t 17)),
    .r 4 (.mv (.t 18))])
  (.seq (.reg [.r 19 (.mv (.t 4)),
    .r 20 (.bin .gtr (.t 19) (.c (.d (.int .i64 1000000000000000))))])
  (.cond (.t 20)
   (.seq (.reg [.r 2 (.mv (.c (.d (.int .i64 0)))),
     .r 3 (.mv (.c (.d (.bool false))))])
   .ret)
   .skip)))))
 (.reg [.r 21 (.bin .add (.t 8) (.c (.d (.int .i64 1)))),
   .r 8 (.mv (.t 21))]))))
def g9:SC:= .block 0 (.loop eh)
def ji:SC:=
 (.seq (.reg [.r 2 (.mv (.c (.d (.int .i64 0)))),
   .r 3 (.mv (.c (.d (.bool false))))])
 (.seq (.reg [.r 4 (.mv (.c (.d (.int .i64 0))))])
 (.seq (.seq (.reg [.r 6 (.mv (.t 0)),
   .r 7 (.lenT (.t 6)),
   .r 8 (.mv (.c (.d (.int .i64 0))))])
 g9)
 (.seq (.reg [.r 22 (.mv (.t 4)),
   .r 2 (.mv (.t 22)),
   .r 3 (.mv (.c (.d (.bool true))))])
 .ret))))
theorem oC:fits Tryz.prog 186 Tryz.f186 ji [.t 2,.t 3] 1=true:=oK
set_option maxRecDepth 100000 in
set_option maxHeartbeats 40000000 in
noncomputable def lW:(∀ (x0:List UInt8),{m:Option (Bool)//∀ r,m=some r->aa Tryz.prog 185 [.str x0] (.bool r)})×(∀ (x0:List UInt8),{m:Option (Int×Bool)//∀ r,m=some r->aa Tryz.prog 186 [.str x0] (.tup [.int .i64 r.1,.bool r.2])}):=by
 refine⟨?g0, ?g1⟩
 case' g0=>(intro x0;apply Subtype.mk;intro r hm;apply ag Tryz.func185 oB;unfold jh)
 case' g1=>(intro x0;apply Subtype.mk;intro r hm;apply ag Tryz.func186 oC;unfold ji)
 all_goals(repeat'(first|with_reducible refine bF ?_|with_reducible refine bu ?_|with_reducible refine bo ?_|with_reducible refine bl ?_|with_reducible refine bE ?_|with_reducible refine cg ?_|with_reducible refine bw ?_|with_reducible refine bG ?_|with_reducible refine cj ?_|with_reducible refine bA ?_|with_reducible refine br ?_|with_reducible refine bv ?_|((with_reducible apply nN hm);(iterate 2 (simp only[push_cast,seval];rfl));intro e hm)|((with_reducible apply iE);(simp only[push_cast,seval];rfl);(first|exact trivial))|((with_reducible apply np hm);(simp only[push_cast,seval];rfl);rfl;intro v hm;rotate_left;intro v g hm)|((with_reducible apply aM hm);(simp only[push_cast,seval];rfl);intro hm;rotate_left;intro hm)|((with_reducible apply iF hm);(focus(simp only[bk,cn,RV.get,push_cast,seval];rfl));(focus(first|(dsimp only;done)));(focus((repeat'(first|rfl));done)))|((with_reducible apply bC hm);(focus(simp only[bk,cn,RV.get,push_cast,seval];rfl));(focus((repeat'(first|rfl));done)))|((with_reducible apply bR hm);(simp only[push_cast,seval];rfl))|((with_reducible apply bH hm);intro r hm)|((with_reducible apply cb hm);intro r hm)|((apply aH (b:=0) (X:=gZ) (x:=eg) rfl (fun(c:SV×SV) (s:Int)=>st [(0,c.1),(7,c.2),(8,.d (.int .i64 s))] []) (c:=(_,_)) (s0:=_) hm);(focus(first|(dsimp only;done)));(with_reducible refine cA.mk ?_ ?_))|((apply aH (b:=0) (X:=g9) (x:=eh) rfl (fun(c:SV×SV) (s:Int×Int)=>st [(0,c.1),(4,.d (.int .i64 s.1)),(7,c.2),(8,.d (.int .i64 s.2))] []) (c:=(_,_)) (s0:=(_,_)) hm);(focus(first|(dsimp only;done)));(with_reducible refine cA.mk ?_ ?_))|((apply bB (s':=(_,_)) hm);(focus(first|(dsimp only;done))))|((apply ct (s':=(_,_)) hm);(focus(first|(dsimp only;done))))|((apply bB (s':=_) hm);(focus(first|(dsimp only;done))))|((apply ct (s':=_) hm);(focus(first|(dsimp only;done))))|(((with_reducible apply ew hm);intro r hm))|(((with_reducible apply dw.of);(focus(first|(dsimp only;done)));(focus((intro _;repeat'(first|with_reducible exact bg|with_reducible refine aR ?_))));(intro s o hm;first|unfold eg|unfold eh);rotate_left;intro s hm))|(((apply bI;(repeat'(first|with_reducible exact aT|with_reducible exact aU|with_reducible apply aJ|((with_reducible apply aZ);(focus(first|(simp only[push_cast,seval];rfl)));(focus((repeat'(first|rfl));done)))));done)))))
noncomputable def fH (x0:List UInt8):Option (Bool):=(lW.1 x0).1
theorem io (x0:List UInt8):∀ r,fH x0=some r->aa Tryz.prog 185 [.str x0] (.bool r):=(lW.1 x0).2
noncomputable def dE (x0:List UInt8):Option (Int×Bool):=(lW.2 x0).1
theorem ip (x0:List UInt8):∀ r,dE x0=some r->aa Tryz.prog 186 [.str x0] (.tup [.int .i64 r.1,.bool r.2]):=(lW.2 x0).2
def jj:SC:=
 (.seq (.reg [.w 2 (.boxM (.c (.agg [.d (.int .i64 0),.d (.int .i64 0)]))),
   .r 3 (.mv (.c (.d (.int .i64 0))))])
 (.seq (.seq (.reg [.r 11 (.mv (.t 0)),
   .r 12 (.lenT (.t 11)),
   .r 13 (.bin .gtr (.t 12) (.c (.d (.int .i64 40))))])
 (.cond (.t 13)
  (.seq (.reg [.r 14 (.build [.d (.int .i64 0),.d (.int .i64 0)] []),
    .w 0 (.st 2 (.t 2) (.t 14)),
    .r 3 (.mv (.c (.d (.int .i64 10))))])
  .ret)
  .skip))
 (.seq (.reg [.r 16 (.mv (.t 0)),
   .c 17 (.f 183) [.t 16,.c (.d (.str [45]))],
   .r 15 (.mv (.t 17)),
   .r 18 (.ext (.t 15) 0),
   .r 19 (.ext (.t 15) 1),
   .r 4 (.mv (.t 18)),
   .r 5 (.mv (.t 19))])
 (.seq (.reg [.r 21 (.mv (.t 4)),
   .c 22 (.f 184) [.t 21,.c (.d (.str [46]))],
   .r 20 (.mv (.t 22)),
   .r 23 (.ext (.t 20) 0),
   .r 24 (.ext (.t 20) 1),
   .r 25 (.ext (.t 20) 2),
   .r 6 (.mv (.t 23)),
   .r 7 (.mv (.t 24)),
   .r 8 (.mv (.t 25))])
 (.seq (.seq (.reg (.r 26 (.mv (.t 6)):: .c 27 (.f 185) [.t 26]:: .r 28 (.not (.t 27)):: .r 29 (.mv (.t 28))::aI [30,31,32,33,34,35,36,37] 29 false (.r 30 (.mv (.t 6)):: .r 31 (.lenT (.t 30)):: .r 32 (.bin .gtr (.t 31) (.c (.d (.int .i64 1)))):: .r 33 (.mv (.t 32))::aI [34,35,36] 33 true (.r 34 (.mv (.t 6)):: .r 35 (.sidx (.t 34) (.c (.d (.int .i64 0)))):: .r 36 (.bin .eql (.t 35) (.c (.d (.int .u8 48))))::[]) (.r 37 (.pick (.t 33) (.t 36) (.c (.d (.bool false))))::[])) (.r 38 (.pick (.t 29) (.c (.d (.bool true))) (.t 37)):: .r 39 (.mv (.t 38))::aI [40,41,42,43,44,45] 39 false (.r 40 (.mv (.t 8)):: .r 41 (.mv (.t 40))::aI [42,43,44] 41 true (.r 42 (.mv (.t 7)):: .c 43 (.f 185) [.t 42]:: .r 44 (.not (.t 43))::[]) (.r 45 (.pick (.t 41) (.t 44) (.c (.d (.bool false))))::[])) (.r 46 (.pick (.t 39) (.c (.d (.bool true))) (.t 45)):: .r 47 (.mv (.t 46))::aI [48,49,50] 47 false (.r 48 (.mv (.t 7)):: .r 49 (.lenT (.t 48)):: .r 50 (.bin .gtr (.t 49) (.c (.d (.int .i64 9))))::[]) (.r 51 (.pick (.t 47) (.c (.d (.bool true))) (.t 50))::[])))))
 (.cond (.t 51)
  (.seq (.reg [.r 52 (.build [.d (.int .i64 0),.d (.int .i64 0)] []),
    .w 0 (.st 2 (.t 2) (.t 52)),
    .r 3 (.mv (.c (.d (.int .i64 10))))])
  .ret)
  .skip))
 (.seq (.seq (.reg (.r 53 (.mv (.t 5)):: .r 54 (.mv (.t 53))::aI [55,56,57,58,59] 54 true (.r 55 (.mv (.t 6)):: .r 56 (.mv (.t 7)):: .r 57 (.bin .add (.t 55) (.t 56)):: .c 58 (.f 94) [.t 57,.c (.d (.str [48]))]:: .r 59 (.bin .eql (.t 58) (.c (.d (.str []))))::[]) (.r 60 (.pick (.t 54) (.t 59) (.c (.d (.bool false))))::[])))
 (.cond (.t 60)
  (.seq (.reg [.r 61 (.build [.d (.int .i64 0),.d (.int .i64 0)] []),
    .w 0 (.st 2 (.t 2) (.t 61)),
    .r 3 (.mv (.c (.d (.int .i64 10))))])
  .ret)
  .skip))
 (.seq (.reg [.r 63 (.mv (.t 6)),
   .r 64 (.mv (.t 7)),
   .r 65 (.bin .add (.t 63) (.t 64)),
   .c 66 (.f 186) [.t 65],
   .r 62 (.mv (.t 66)),
   .r 67 (.ext (.t 62) 0),
   .r 68 (.ext (.t 62) 1),
   .r 9 (.mv (.t 67)),
   .r 10 (.mv (.t 68))])
 (.seq (.seq (.reg [.r 69 (.mv (.t 10)),
   .r 70 (.not (.t 69))])
 (.cond (.t 70)
  (.seq (.reg [.r 71 (.build [.d (.int .i64 0),.d (.int .i64 0)] []),
    .w 0 (.st 2 (.t 2) (.t 71)),
    .r 3 (.mv (.c (.d (.int .i64 1))))])
  .ret)
  .skip))
 (.seq (.seq (.reg [.r 72 (.mv (.t 5))])
 (.cond (.t 72)
  (.reg [.r 73 (.mv (.t 9)),
    .r 74 (.neg (.t 73)),
    .r 9 (.mv (.t 74))])
  .skip))
 (.seq (.reg [.r 75 (.mv (.t 9)),
   .r 76 (.mv (.t 7)),
   .r 77 (.lenT (.t 76)),
   .r 78 (.build [.d (.int .i64 0),.d (.int .i64 0)] [(0,1,.t 75),(1,1,.t 77)]),
   .w 0 (.st 2 (.t 2) (.t 78)),
   .r 3 (.mv (.c (.d (.int .i64 0))))])
 .ret))))))))))
theorem oE:fits Tryz.prog 167 Tryz.f167 jj [.cell 2 2,.t 3] 1=true:=oK
set_option maxRecDepth 100000 in
set_option maxHeartbeats 40000000 in
noncomputable def qy:(∀ (x0:List UInt8),{m:Option (b9×Int)//∀ r,m=some r->aa Tryz.prog 167 [.str x0] (.tup [.agg (cU r.1),.int .i64 r.2])}):=by
 (intro x0;apply Subtype.mk;intro r hm;apply ag Tryz.func167 oE;unfold jj)
 repeat'(first|with_reducible refine bF ?_|with_reducible refine bu ?_|with_reducible refine bl ?_|with_reducible refine bE ?_|with_reducible refine bw ?_|with_reducible refine bG ?_|with_reducible refine bA ?_|((with_reducible apply nN hm);(iterate 2 (simp only[push_cast,seval];rfl));intro e hm)|((with_reducible apply iE);(simp only[push_cast,seval];rfl);(first|exact trivial))|((with_reducible apply Cz hm);(iterate 2 (simp only[push_cast,seval];rfl));intro hm)|((with_reducible apply ed hm);(simp only[push_cast,seval];rfl);rfl;intro v hm;rotate_left;intro v g hm)|((with_reducible apply np hm);(simp only[push_cast,seval];rfl);rfl;intro v hm;rotate_left;intro v g hm)|((with_reducible apply ee hm);(simp only[push_cast,seval];rfl);(first|apply mS _ _|apply rA _ _|apply io _|apply qQ _ _|apply ip _);(any_goals((repeat'(first|rfl));done));intro x hm)|((with_reducible apply uU);(simp only[push_cast,seval];rfl);(first|exact trivial))|((with_reducible apply aM hm);(simp only[push_cast,seval];rfl);intro hm;rotate_left;intro hm)|((with_reducible apply iF hm);(focus(simp only[bk,cn,RV.get,push_cast,seval];rfl));(focus(first|(dsimp only;done)));(focus((repeat'(first|rfl|(with_reducible first|apply lg|apply vn|apply na|apply dm)));done)))|((with_reducible apply bR hm);(simp only[push_cast,seval];rfl)))
noncomputable def dF (x0:List UInt8):Option (b9×Int):=(qy x0).1
theorem n7 (x0:List UInt8):∀ r,dF x0=some r->aa Tryz.prog 167 [.str x0] (.tup [.agg (cU r.1),.int .i64 r.2]):=(qy x0).2
def kf:SC:=
 (.seq (.reg [.r 6 (.mv (.c (.d (.bool false))))])
 (.seq (.reg (.r 7 (.mv (.t 1)):: .r 8 (.mv (.t 0)):: .r 9 (.bin .leq (.t 7) (.t 8)):: .r 10 (.mv (.t 9))::aI [11,12,13] 10 true (.r 11 (.mv (.t 0)):: .r 12 (.mv (.t 2)):: .r 13 (.bin .leq (.t 11) (.t 12))::[]) (.r 14 (.pick (.t 10) (.t 13) (.c (.d (.bool false)))):: .r 6 (.mv (.t 14))::[])))
 .ret))
theorem pH:fits Tryz.prog 187 Tryz.f187 kf [.t 6] 3=true:=oK
def kg:SC:=
 (.seq (.reg [.r 2 (.mv (.c (.d (.int .i64 0))))])
 (.seq (.seq (.reg [.r 5 (.mv (.t 0)),
   .c 6 (.f 185) [.t 5],
   .r 7 (.not (.t 6))])
 (.cond (.t 7)
  (.seq (.reg [.r 2 (.mv (.c (.d (.int .i64 (-1)))))])
  .ret)
  .skip))
 (.seq (.reg [.r 9 (.mv (.t 0)),
   .c 10 (.f 186) [.t 9],
   .r 8 (.mv (.t 10)),
   .r 11 (.ext (.t 8) 0),
   .r 12 (.ext (.t 8) 1),
   .r 3 (.mv (.t 11)),
   .r 4 (.mv (.t 12))])
 (.seq (.reg [.r 13 (.mv (.t 3)),
   .r 2 (.mv (.t 13))])
 .ret))))
theorem pI:fits Tryz.prog 188 Tryz.f188 kg [.t 2] 1=true:=oK
def kh:SC:=
 (.seq (.reg [.r 2 (.mv (.c (.d (.bool false))))])
 (.seq (.reg (.r 3 (.mv (.t 0)):: .r 4 (.bin .rem (.t 3) (.c (.d (.int .i64 4)))):: .r 5 (.bin .eql (.t 4) (.c (.d (.int .i64 0)))):: .r 6 (.mv (.t 5))::aI [7,8,9] 6 true (.r 7 (.mv (.t 0)):: .r 8 (.bin .rem (.t 7) (.c (.d (.int .i64 100)))):: .r 9 (.bin .neq (.t 8) (.c (.d (.int .i64 0))))::[]) (.r 10 (.pick (.t 6) (.t 9) (.c (.d (.bool false)))):: .r 11 (.mv (.t 10))::aI [12,13,14] 11 false (.r 12 (.mv (.t 0)):: .r 13 (.bin .rem (.t 12) (.c (.d (.int .i64 400)))):: .r 14 (.bin .eql (.t 13) (.c (.d (.int .i64 0))))::[]) (.r 15 (.pick (.t 11) (.c (.d (.bool true))) (.t 14)):: .r 2 (.mv (.t 15))::[]))))
 .ret))
theorem pJ:fits Tryz.prog 230 Tryz.f230 kh [.t 2] 1=true:=oK
def kj:SC:=
 (.seq (.reg [.r 2 (.mv (.c (.d (.int .i64 0))))])
 (.seq (.reg [.r 4 (.mv (.t 0)),
   .r 5 (.bin .sub (.t 4) (.c (.d (.int .i64 1)))),
   .r 3 (.mv (.t 5))])
 (.seq (.reg [.r 6 (.mv (.t 3)),
   .r 7 (.bin .mul (.c (.d (.int .i64 365))) (.t 6)),
   .r 8 (.mv (.t 3)),
   .r 9 (.bin .quo (.t 8) (.c (.d (.int .i64 4)))),
   .r 10 (.bin .add (.t 7) (.t 9)),
   .r 11 (.mv (.t 3)),
   .r 12 (.bin .quo (.t 11) (.c (.d (.int .i64 100)))),
   .r 13 (.bin .sub (.t 10) (.t 12)),
   .r 14 (.mv (.t 3)),
   .r 15 (.bin .quo (.t 14) (.c (.d (.int .i64 400)))),
   .r 16 (.bin .add (.t 13) (.t 15)),
   .r 2 (.mv (.t 16))])
 .ret)))
theorem pK:fits Tryz.prog 209 Tryz.f209 kj [.t 2] 1=true:=oK
set_option maxRecDepth 100000 in
set_option maxHeartbeats 40000000 in
noncomputable def dU:(∀ (x0:Int) (x1:Int) (x2:Int),{m:Option (Bool)//∀ r,m=some r->aa Tryz.prog 187 [.int .i64 x0,.int .i64 x1,.int .i64 x2] (.bool r)})×(∀ (x0:List UInt8),{m:Option (Int)//∀ r,m=some r->aa Tryz.prog 188 [.str x0] (.int .i64 r)})×(∀ (x0:Int),{m:Option (Bool)//∀ r,m=some r->aa Tryz.prog 230 [.int .i64 x0] (.bool r)})×(∀ (x0:Int),{m:Option (Int)//∀ r,m=some r->aa Tryz.prog 209 [.int .i64 x0] (.int .i64 r)}):=by
 refine⟨?g0, ?g1, ?g2, ?g3⟩
 case' g0=>(intro x0 x1 x2;apply Subtype.mk;intro r hm;apply ag Tryz.func187 pH;unfold kf)
 case' g1=>(intro x0;apply Subtype.mk;intro r hm;apply ag Tryz.func188 pI;unfold kg)
 case' g2=>(intro x0;apply Subtype.mk;intro r hm;apply ag Tryz.func230 pJ;unfold kh)
 case' g3=>(intro x0;apply Subtype.mk;intro r hm;apply ag Tryz.func209 pK;unfold kj)
 all_goals(repeat'(first|with_reducible refine bF ?_|with_reducible refine bu ?_|with_reducible refine bl ?_|with_reducible refine bE ?_|with_reducible refine bw ?_|with_reducible refine bG ?_|with_reducible refine bA ?_|((with_reducible apply iE);(simp only[push_cast,seval];rfl);(first|exact trivial))|((with_reducible apply ed hm);(simp only[push_cast,seval];rfl);rfl;intro v hm;rotate_left;intro v g hm)|((with_reducible apply np hm);(simp only[push_cast,seval];rfl);rfl;intro v hm;rotate_left;intro v g hm)|((with_reducible apply ee hm);(simp only[push_cast,seval];rfl);(first|apply io _|apply ip _);(any_goals((repeat'(first|rfl));done));intro x hm)|((with_reducible apply aM hm);(simp only[push_cast,seval];rfl);intro hm;rotate_left;intro hm)|((with_reducible apply bC hm);(focus(simp only[bk,cn,RV.get,push_cast,seval];rfl));(focus((repeat'(first|rfl));done)))|((with_reducible apply bR hm);(simp only[push_cast,seval];rfl))))
noncomputable def gA (x0:Int) (x1:Int) (x2:Int):Option (Bool):=(dU.1 x0 x1 x2).1
theorem jk (x0:Int) (x1:Int) (x2:Int):∀ r,gA x0 x1 x2=some r->aa Tryz.prog 187 [.int .i64 x0,.int .i64 x1,.int .i64 x2] (.bool r):=(dU.1 x0 x1 x2).2
noncomputable def gB (x0:List UInt8):Option (Int):=(dU.2.1 x0).1
theorem pi (x0:List UInt8):∀ r,gB x0=some r->aa Tryz.prog 188 [.str x0] (.int .i64 r):=(dU.2.1 x0).2
noncomputable def gC (x0:Int):Option (Bool):=(dU.2.2.1 x0).1
theorem pj (x0:Int):∀ r,gC x0=some r->aa Tryz.prog 230 [.int .i64 x0] (.bool r):=(dU.2.2.1 x0).2
noncomputable def gD (x0:Int):Option (Int):=(dU.2.2.2 x0).1
theorem pk (x0:Int):∀ r,gD x0=some r->aa Tryz.prog 209 [.int .i64 x0] (.int .i64 r):=(dU.2.2.2 x0).2
def kl:SC:=
 (.seq (.reg [.r 4 (.mv (.c (.d (.int .i64 0))))])
 (.seq (.seq (.reg [.r 5 (.mv (.t 1))])
 (.block 0 (.seq (.reg [.r 7 (.bin .eql (.t 5) (.c (.d (.int .i64 2)))),
    .r 6 (.mv (.t 7))])
  (.cond (.t 6)
   (.seq (.seq (.reg [.r 8 (.mv (.t 0)),
     .c 9 (.f 230) [.t 8]])
   (.cond (.t 9)
    (.seq (.reg [.r 4 (.mv (.c (.d (.int .i64 29))))])
    .ret)
    .skip))
   (.seq (.reg [.r 4 (.mv (.c (.d (.int .i64 28))))])
   .ret))
   (.seq (.seq (.reg [.r 11 (.bin .eql (.t 5) (.c (.d (.int .i64 4)))),
     .r 10 (.mv (.t 11))])
   (.cond (.t 10)
    .skip
    (.seq (.reg [.r 12 (.bin .eql (.t 5) (.c (.d (.int .i64 6)))),
      .r 10 (.mv (.t 12))])
    (.cond (.t 10)
     .skip
     (.seq (.reg [.r 13 (.bin .eql (.t 5) (.c (.d (.int .i64 9)))),
       .r 10 (.mv (.t 13))])
     (.cond (.t 10)
      .skip
      (.reg [.r 14 (.bin .eql (.t 5) (.c (.d (.int .i64 11)))),
        .r 10 (.mv (.t 14))])))))))
   (.cond (.t 10)
    (.seq (.reg [.r 4 (.mv (.c (.d (.int .i64 30))))])
    .ret)
    .skip))))))
 (.seq (.reg [.r 4 (.mv (.c (.d (.int .i64 31))))])
 .ret)))
theorem pL:fits Tryz.prog 211 Tryz.f211 kl [.t 4] 2=true:=oK
set_option maxRecDepth 100000 in
set_option maxHeartbeats 40000000 in
noncomputable def tG:(∀ (x0:Int) (x1:Int),{m:Option (Int)//∀ r,m=some r->aa Tryz.prog 211 [.int .i64 x0,.int .i64 x1] (.int .i64 r)}):=by
 (intro x0 x1;apply Subtype.mk;intro r hm;apply ag Tryz.func211 pL;unfold kl)
 repeat'(first|with_reducible refine bF ?_|with_reducible refine bu ?_|with_reducible refine bo ?_|with_reducible refine bl ?_|with_reducible refine bE ?_|with_reducible refine bw ?_|with_reducible refine bG ?_|with_reducible refine bA ?_|with_reducible refine br ?_|with_reducible refine bv ?_|((with_reducible apply iE);(simp only[push_cast,seval];rfl);(first|exact trivial))|((with_reducible apply ee hm);(simp only[push_cast,seval];rfl);(first|apply pj _);(any_goals((repeat'(first|rfl));done));intro x hm)|((with_reducible apply aM hm);(simp only[push_cast,seval];rfl);intro hm;rotate_left;intro hm)|((with_reducible apply bC hm);(focus(simp only[bk,cn,RV.get,push_cast,seval];rfl));(focus((repeat'(first|rfl));done))))
noncomputable def gE (x0:Int) (x1:Int):Option (Int):=(tG x0 x1).1
theorem jl (x0:Int) (x1:Int):∀ r,gE x0 x1=some r->aa Tryz.prog 211 [.int .i64 x0,.int .i64 x1] (.int .i64 r):=(tG x0 x1).2
def fe:SC:=
 (.seq (.seq (.reg [.r 13 (.mv (.t 8)),
   .r 14 (.mv (.t 1)),
   .r 15 (.bin .lss (.t 13) (.t 14))])
 (.cond (.t 15)
  .skip
  (.exit 0)))
 (.seq (.block 1 (.reg [.r 18 (.mv (.t 7)),
    .r 19 (.mv (.t 0)),
    .r 20 (.mv (.t 8)),
    .c 21 (.f 211) [.t 19,.t 20],
    .r 22 (.bin .add (.t 18) (.t 21)),
    .r 7 (.mv (.t 22))]))
 (.reg [.r 16 (.mv (.t 8)),
   .r 17 (.bin .add (.t 16) (.c (.d (.int .i64 1)))),
   .r 8 (.mv (.t 17))])))
def jm:SC:= .block 0 (.loop fe)
def kP:SC:=
 (.seq (.reg [.r 6 (.mv (.c (.d (.int .i64 0))))])
 (.seq (.reg [.r 9 (.mv (.t 0)),
   .c 10 (.f 209) [.t 9],
   .r 11 (.mv (.t 2)),
   .r 12 (.bin .add (.t 10) (.t 11)),
   .r 7 (.mv (.t 12))])
 (.seq (.seq (.reg [.r 8 (.mv (.c (.d (.int .i64 1))))])
 jm)
 (.seq (.reg [.r 23 (.mv (.t 7)),
   .r 6 (.mv (.t 23))])
 .ret))))
theorem qg:fits Tryz.prog 212 Tryz.f212 kP [.t 6] 3=true:=oK
set_option maxRecDepth 100000 in
set_option maxHeartbeats 40000000 in
noncomputable def tH:(∀ (x0:Int) (x1:Int) (x2:Int),{m:Option (Int)//∀ r,m=some r->aa Tryz.prog 212 [.int .i64 x0,.int .i64 x1,.int .i64 x2] (.int .i64 r)}):=by
 (intro x0 x1 x2;apply Subtype.mk;intro r hm;apply ag Tryz.func212 qg;unfold kP)
 repeat'(first|with_reducible refine bF ?_|with_reducible refine bu ?_|with_reducible refine bo ?_|with_reducible refine bl ?_|with_reducible refine bE ?_|with_reducible refine cg ?_|with_reducible refine bw ?_|with_reducible refine bG ?_|with_reducible refine cj ?_|with_reducible refine br ?_|((with_reducible apply iE);(simp only[push_cast,seval];rfl);(first|exact trivial))|((with_reducible apply ee hm);(simp only[push_cast,seval];rfl);(first|apply pk _|apply jl _ _);(any_goals((repeat'(first|rfl));done));intro x hm)|((with_reducible apply aM hm);(simp only[push_cast,seval];rfl);intro hm;rotate_left;intro hm)|((with_reducible apply bC hm);(focus(simp only[bk,cn,RV.get,push_cast,seval];rfl));(focus((repeat'(first|rfl));done)))|((with_reducible apply bH hm);intro r hm)|((apply aH (b:=0) (X:=jm) (x:=fe) rfl (fun(c:SV×SV) (s:Int×Int)=>st [(0,c.1),(1,c.2),(7,.d (.int .i64 s.1)),(8,.d (.int .i64 s.2))] []) (c:=(_,_)) (s0:=(_,_)) hm);(focus(first|(dsimp only;done)));(with_reducible refine cA.mk ?_ ?_))|((apply bB (s':=(_,_)) hm);(focus(first|(dsimp only;done))))|((apply ct (s':=(_,_)) hm);(focus(first|(dsimp only;done))))|(((with_reducible apply dw.of);(focus(first|(dsimp only;done)));(focus((intro _;repeat'(first|with_reducible exact bg|with_reducible refine aR ?_))));(intro s o hm;first|unfold fe);rotate_left;intro s hm))|(((apply bI;(repeat'(first|with_reducible exact aT|with_reducible exact aU|with_reducible apply aJ|((with_reducible apply aZ);(focus(first|(simp only[push_cast,seval];rfl)));(focus((repeat'(first|rfl));done)))));done))))
noncomputable def g_ (x0:Int) (x1:Int) (x2:Int):Option (Int):=(tH x0 x1 x2).1
theorem pM (x0:Int) (x1:Int) (x2:Int):∀ r,g_ x0 x1 x2=some r->aa Tryz.prog 212 [.int .i64 x0,.int .i64 x1,.int .i64 x2] (.int .i64 r):=(tH x0 x1 x2).2
def kQ:SC:=
 (.seq (.reg [.r 6 (.mv (.c (.d (.int .i64 0)))),
   .r 7 (.mv (.c (.d (.int .i64 0))))])
 (.seq (.seq (.reg (.r 8 (.mv (.t 0)):: .c 9 (.f 187) [.t 8,.c (.d (.int .i64 1)),.c (.d (.int .i64 9999))]:: .r 10 (.not (.t 9)):: .r 11 (.mv (.t 10))::aI [12,13,14] 11 false (.r 12 (.mv (.t 1)):: .c 13 (.f 187) [.t 12,.c (.d (.int .i64 1)),.c (.d (.int .i64 12))]:: .r 14 (.not (.t 13))::[]) (.r 15 (.pick (.t 11) (.c (.d (.bool true))) (.t 14)):: .r 16 (.mv (.t 15))::aI [17,18,19,20,21,22] 16 false (.r 17 (.mv (.t 2)):: .r 18 (.mv (.t 0)):: .r 19 (.mv (.t 1)):: .c 20 (.f 211) [.t 18,.t 19]:: .c 21 (.f 187) [.t 17,.c (.d (.int .i64 1)),.t 20]:: .r 22 (.not (.t 21))::[]) (.r 23 (.pick (.t 16) (.c (.d (.bool true))) (.t 22))::[]))))
 (.cond (.t 23)
  (.seq (.reg [.r 6 (.mv (.c (.d (.int .i64 0)))),
    .r 7 (.mv (.c (.d (.int .i64 1))))])
  .ret)
  .skip))
 (.seq (.reg [.r 24 (.mv (.t 0)),
   .r 25 (.mv (.t 1)),
   .r 26 (.mv (.t 2)),
   .c 27 (.f 212) [.t 24,.t 25,.t 26],
   .r 6 (.mv (.t 27)),
   .r 7 (.mv (.c (.d (.int .i64 0))))])
 .ret)))
theorem qh:fits Tryz.prog 190 Tryz.f190 kQ [.t 6,.t 7] 3=true:=oK
set_option maxRecDepth 100000 in
set_option maxHeartbeats 40000000 in
noncomputable def tI:(∀ (x0:Int) (x1:Int) (x2:Int),{m:Option (Int×Int)//∀ r,m=some r->aa Tryz.prog 190 [.int .i64 x0,.int .i64 x1,.int .i64 x2] (.tup [.int .i64 r.1,.int .i64 r.2])}):=by
 (intro x0 x1 x2;apply Subtype.mk;intro r hm;apply ag Tryz.func190 qh;unfold kQ)
 repeat'(first|with_reducible refine bF ?_|with_reducible refine bu ?_|with_reducible refine bl ?_|with_reducible refine bE ?_|with_reducible refine bw ?_|with_reducible refine bG ?_|with_reducible refine bA ?_|((with_reducible apply iE);(simp only[push_cast,seval];rfl);(first|exact trivial))|((with_reducible apply np hm);(simp only[push_cast,seval];rfl);rfl;intro v hm;rotate_left;intro v g hm)|((with_reducible apply ee hm);(simp only[push_cast,seval];rfl);(first|apply jk _ _ _|apply jl _ _|apply pM _ _ _);(any_goals((repeat'(first|rfl));done));intro x hm)|((with_reducible apply aM hm);(simp only[push_cast,seval];rfl);intro hm;rotate_left;intro hm)|((with_reducible apply iF hm);(focus(simp only[bk,cn,RV.get,push_cast,seval];rfl));(focus(first|(dsimp only;done)));(focus((repeat'(first|rfl));done)))|((with_reducible apply bR hm);(simp only[push_cast,seval];rfl)))
noncomputable def eH (x0:Int) (x1:Int) (x2:Int):Option (Int×Int):=(tI x0 x1 x2).1
theorem pN (x0:Int) (x1:Int) (x2:Int):∀ r,eH x0 x1 x2=some r->aa Tryz.prog 190 [.int .i64 x0,.int .i64 x1,.int .i64 x2] (.tup [.int .i64 r.1,.int .i64 r.2]):=(tI x0 x1 x2).2
def jK:SC:=
 (.seq (.reg [.r 6 (.mv (.c (.d (.int .i64 0)))),
   .r 7 (.mv (.c (.d (.int .i64 0))))])
 (.seq (.seq (.reg [.r 13 (.mv (.t 1)),
   .c 14 (.f 187) [.t 13,.c (.d (.int .i64 1)),.c (.d (.int .i64 5))],
   .r 15 (.not (.t 14))])
 (.cond (.t 15)
  (.seq (.reg [.r 6 (.mv (.c (.d (.int .i64 0)))),
    .r 7 (.mv (.c (.d (.int .i64 4))))])
  .ret)
  .skip))
 (.seq (.seq (.reg [.r 16 (.mv (.t 2)),
   .c 17 (.f 187) [.t 16,.c (.d (.int .i64 1)),.c (.d (.int .i64 9900))],
   .r 18 (.not (.t 17))])
 (.cond (.t 18)
  (.seq (.reg [.r 6 (.mv (.c (.d (.int .i64 0)))),
    .r 7 (.mv (.c (.d (.int .i64 1))))])
  .ret)
  .skip))
 (.seq (.reg [.r 8 (.mv (.c (.d (.int .i64 (-1))))),
   .r 9 (.mv (.c (.d (.int .i64 (-1))))),
   .r 10 (.mv (.c (.d (.int .i64 (-1)))))])
 (.seq (.block 0 (.seq (.reg (.r 20 (.mv (.t 1)):: .r 21 (.bin .eql (.t 20) (.c (.d (.int .i64 1)))):: .r 22 (.mv (.t 21))::aI [23,24,25] 22 true (.r 23 (.mv (.t 0)):: .r 24 (.lenT (.t 23)):: .r 25 (.bin .eql (.t 24) (.c (.d (.int .i64 8))))::[]) (.r 26 (.pick (.t 22) (.t 25) (.c (.d (.bool false)))):: .r 19 (.mv (.t 26))::[])))
  (.cond (.t 19)
   (.regD [.r 27 (.mv (.t 0)),
     .r 28 (.sslc (.t 27) none (some (.c (.d (.int .i64 4))))),
     .c 29 (.f 188) [.t 28],
     .r 30 (.mv (.t 0)),
     .r 31 (.sslc (.t 30) (some (.c (.d (.int .i64 4)))) (some (.c (.d (.int .i64 6))))),
     .c 32 (.f 188) [.t 31],
     .r 33 (.mv (.t 0)),
     .r 34 (.sslc (.t 33) (some (.c (.d (.int .i64 6)))) none),
     .c 35 (.f 188) [.t 34],
     .r 8 (.mv (.t 29)),
     .r 9 (.mv (.t 32)),
     .r 10 (.mv (.t 35))])
   (.seq (.reg (.r 37 (.mv (.t 1)):: .r 38 (.bin .eql (.t 37) (.c (.d (.int .i64 2)))):: .r 39 (.mv (.t 38))::aI [40,41,42] 39 true (.r 40 (.mv (.t 0)):: .r 41 (.lenT (.t 40)):: .r 42 (.bin .eql (.t 41) (.c (.d (.int .i64 6))))::[]) (.r 43 (.pick (.t 39) (.t 42) (.c (.d (.bool false)))):: .r 36 (.mv (.t 43))::[])))
   (.cond (.t 36)
    .any
    (.seq (.reg (.r 64 (.mv (.t 1)):: .r 65 (.bin .eql (.t 64) (.c (.d (.int .i64 3)))):: .r 66 (.mv (.t 65))::aI [67,68,69] 66 true (.r 67 (.mv (.t 0)):: .r 68 (.lenT (.t 67)):: .r 69 (.bin .eql (.t 68) (.c (.d (.int .i64 8))))::[]) (.r 70 (.pick (.t 66) (.t 69) (.c (.d (.bool false)))):: .r 63 (.mv (.t 70))::[])))
    (.cond (.t 63)
     .any
     (.seq (.reg (.r 81 (.mv (.t 1)):: .r 82 (.bin .eql (.t 81) (.c (.d (.int .i64 4)))):: .r 83 (.mv (.t 82))::aI [84,85,86] 83 true (.r 84 (.mv (.t 0)):: .r 85 (.lenT (.t 84)):: .r 86 (.bin .eql (.t 85) (.c (.d (.int .i64 10))))::[]) (.r 87 (.pick (.t 83) (.t 86) (.c (.d (.bool false)))):: .r 88 (.mv (.t 87))::aI [89,90,91] 88 true (.r 89 (.mv (.t 0)):: .r 90 (.sidx (.t 89) (.c (.d (.int .i64 4)))):: .r 91 (.bin .eql (.t 90) (.c (.d (.int .u8 45))))::[]) (.r 92 (.pick (.t 88) (.t 91) (.c (.d (.bool false)))):: .r 93 (.mv (.t 92))::aI [94,95,96] 93 true (.r 94 (.mv (.t 0)):: .r 95 (.sidx (.t 94) (.c (.d (.int .i64 7)))):: .r 96 (.bin .eql (.t 95) (.c (.d (.int .u8 45))))::[]) (.r 97 (.pick (.t 93) (.t 96) (.c (.d (.bool false)))):: .r 80 (.mv (.t 97))::[])))))
     (.cond (.t 80)
      .any
      (.seq (.reg (.r 108 (.mv (.t 1)):: .r 109 (.bin .eql (.t 108) (.c (.d (.int .i64 5)))):: .r 110 (.mv (.t 109))::aI [111,112,113] 110 true (.r 111 (.mv (.t 0)):: .r 112 (.lenT (.t 111)):: .r 113 (.bin .eql (.t 112) (.c (.d (.int .i64 7))))::[]) (.r 114 (.pick (.t 110) (.t 113) (.c (.d (.bool false)))):: .r 107 (.mv (.t 114))::[])))
      (.cond (.t 107)
       .any
       .skip)))))))))))
 (.seq (.reg [.r 120 (.mv (.t 8)),
   .r 121 (.mv (.t 9)),
   .r 122 (.mv (.t 10)),
   .c 123 (.f 190) [.t 120,.t 121,.t 122],
   .r 119 (.mv (.t 123)),
   .r 124 (.ext (.t 119) 0),
   .r 125 (.ext (.t 119) 1),
   .r 11 (.mv (.t 124)),
   .r 12 (.mv (.t 125))])
 (.seq (.seq (.reg [.r 126 (.mv (.t 12)),
   .r 127 (.bin .neq (.t 126) (.c (.d (.int .i64 0))))])
 (.cond (.t 127)
  (.seq (.reg [.r 6 (.mv (.c (.d (.int .i64 0)))),
    .r 7 (.mv (.c (.d (.int .i64 10))))])
  .ret)
  .skip))
 (.seq (.reg [.r 128 (.mv (.t 11)),
   .r 6 (.mv (.t 128)),
   .r 7 (.mv (.c (.d (.int .i64 0))))])
 .ret))))))))
theorem pl:fits Tryz.prog 168 Tryz.f168 jK [.t 6,.t 7] 3=true:=oK
set_option maxRecDepth 100000 in
set_option maxHeartbeats 40000000 in
noncomputable def tJ:(∀ (x0:List UInt8) (x1:Int) (x2:Int),{m:Option (Int×Int)//∀ r,m=some r->aa Tryz.prog 168 [.str x0,.int .i64 x1,.int .i64 x2] (.tup [.int .i64 r.1,.int .i64 r.2])}):=by
 (intro x0 x1 x2;apply Subtype.mk;intro r hm;apply ag Tryz.func168 pl;unfold jK)
 repeat'(first|with_reducible refine bF ?_|with_reducible refine bu ?_|with_reducible refine ou ?_|with_reducible refine bo ?_|with_reducible refine bl ?_|with_reducible refine bE ?_|with_reducible refine bw ?_|with_reducible refine bG ?_|with_reducible refine bA ?_|with_reducible refine br ?_|((with_reducible apply nN hm);(iterate 2 (simp only[push_cast,seval];rfl));intro e hm)|((with_reducible apply Ft hm);(iterate 3 (simp only[push_cast,seval];rfl));intro e hm)|((with_reducible apply iE);(simp only[push_cast,seval];rfl);(first|exact trivial))|(with_reducible apply wH hm)|((with_reducible apply ed hm);(simp only[push_cast,seval];rfl);rfl;intro v hm;rotate_left;intro v g hm)|((with_reducible apply ee hm);(simp only[push_cast,seval];rfl);(first|apply jk _ _ _|apply pi _|apply pN _ _ _);(any_goals((repeat'(first|rfl));done));intro x hm)|((with_reducible apply aM hm);(simp only[push_cast,seval];rfl);intro hm;rotate_left;intro hm)|((with_reducible apply iF hm);(focus(simp only[bk,cn,RV.get,push_cast,seval];rfl));(focus(first|(dsimp only;done)));(focus((repeat'(first|rfl));done)))|((with_reducible apply bR hm);(simp only[push_cast,seval];rfl)))
 all_goals(intros;exact())
noncomputable def gf (x0:List UInt8) (x1:Int) (x2:Int):Option (Int×Int):=(tJ x0 x1 x2).1
theorem oJ (x0:List UInt8) (x1:Int) (x2:Int):∀ r,gf x0 x1 x2=some r->aa Tryz.prog 168 [.str x0,.int .i64 x1,.int .i64 x2] (.tup [.int .i64 r.1,.int .i64 r.2]):=(tJ x0 x1 x2).2
def ko:SC:=
 (.seq (.reg [.r 6 (.mv (.c (.d (.bool false))))])
 (.seq (.reg (.r 7 (.mv (.t 0)):: .r 8 (.mv (.t 1)):: .r 9 (.bin .geq (.t 7) (.t 8)):: .r 10 (.mv (.t 9))::aI [11,12,13] 10 true (.r 11 (.mv (.t 0)):: .r 12 (.mv (.t 2)):: .r 13 (.bin .leq (.t 11) (.t 12))::[]) (.r 14 (.pick (.t 10) (.t 13) (.c (.d (.bool false)))):: .r 6 (.mv (.t 14))::[])))
 .ret))
theorem pW:fits Tryz.prog 86 Tryz.f86 ko [.t 6] 3=true:=oK
def fM:SC:=
 (.seq (.seq (.reg [.r 30 (.mv (.t 9)),
   .r 31 (.mv (.t 0)),
   .r 32 (.lenT (.t 31)),
   .r 33 (.bin .lss (.t 30) (.t 32))])
 (.cond (.t 33)
  .skip
  (.exit 1)))
 (.seq (.block 2 (.seq (.reg [.r 36 (.mv (.t 0)),
    .r 37 (.mv (.t 9)),
    .r 38 (.sidx (.t 36) (.t 37)),
    .r 10 (.mv (.t 38))])
  (.seq (.seq (.reg (.r 39 (.mv (.t 1)):: .r 40 (.bin .eql (.t 39) (.c (.d (.int .i64 1)))):: .r 41 (.mv (.t 40))::aI [42,43,44,45,46,47] 41 true (.r 42 (.mv (.t 10)):: .r 43 (.bin .lss (.t 42) (.c (.d (.int .u8 32)))):: .r 44 (.mv (.t 43))::aI [45,46] 44 false (.r 45 (.mv (.t 10)):: .r 46 (.bin .gtr (.t 45) (.c (.d (.int .u8 126))))::[]) (.r 47 (.pick (.t 44) (.c (.d (.bool true))) (.t 46))::[])) (.r 48 (.pick (.t 41) (.t 47) (.c (.d (.bool false))))::[])))
  (.cond (.t 48)
   (.seq (.reg [.r 4 (.mv (.c (.d (.bool false))))])
   .ret)
   .skip))
  (.seq (.seq (.reg (.r 49 (.mv (.t 1)):: .r 50 (.bin .eql (.t 49) (.c (.d (.int .i64 2)))):: .r 51 (.mv (.t 50))::aI [52,53,54,55,56,57,58,59,60,61,62,63,64,65,66,67,68,69,70] 51 true (.r 52 (.mv (.t 10)):: .r 53 (.bin .geq (.t 52) (.c (.d (.int .u8 65)))):: .r 54 (.mv (.t 53))::aI [55,56] 54 true (.r 55 (.mv (.t 10)):: .r 56 (.bin .leq (.t 55) (.c (.d (.int .u8 90))))::[]) (.r 57 (.pick (.t 54) (.t 56) (.c (.d (.bool false)))):: .r 58 (.mv (.t 57))::aI [59,60,61,62,63,64] 58 false (.r 59 (.mv (.t 10)):: .r 60 (.bin .geq (.t 59) (.c (.d (.int .u8 97)))):: .r 61 (.mv (.t 60))::aI [62,63] 61 true (.r 62 (.mv (.t 10)):: .r 63 (.bin .leq (.t 62) (.c (.d (.int .u8 122))))::[]) (.r 64 (.pick (.t 61) (.t 63) (.c (.d (.bool false))))::[])) (.r 65 (.pick (.t 58) (.c (.d (.bool true))) (.t 64)):: .r 66 (.mv (.t 65))::aI [67,68] 66 false (.r 67 (.mv (.t 10)):: .r 68 (.bin .eql (.t 67) (.c (.d (.int .u8 32))))::[]) (.r 69 (.pick (.t 66) (.c (.d (.bool true))) (.t 68)):: .r 70 (.not (.t 69))::[])))) (.r 71 (.pick (.t 51) (.t 70) (.c (.d (.bool false))))::[])))
  (.cond (.t 71)
   (.seq (.reg [.r 4 (.mv (.c (.d (.bool false))))])
   .ret)
   .skip))
  (.seq (.reg (.r 72 (.mv (.t 1)):: .r 73 (.bin .eql (.t 72) (.c (.d (.int .i64 3)))):: .r 74 (.mv (.t 73))::aI [75,76,77,78,79,80] 74 true (.r 75 (.mv (.t 10)):: .r 76 (.bin .lss (.t 75) (.c (.d (.int .u8 48)))):: .r 77 (.mv (.t 76))::aI [78,79] 77 false (.r 78 (.mv (.t 10)):: .r 79 (.bin .gtr (.t 78) (.c (.d (.int .u8 57))))::[]) (.r 80 (.pick (.t 77) (.c (.d (.bool true))) (.t 79))::[])) (.r 81 (.pick (.t 74) (.t 80) (.c (.d (.bool false))))::[])))
  (.cond (.t 81)
   (.seq (.reg [.r 4 (.mv (.c (.d (.bool false))))])
   .ret)
   .skip))))))
 (.reg [.r 34 (.mv (.t 9)),
   .r 35 (.bin .add (.t 34) (.c (.d (.int .i64 1)))),
   .r 9 (.mv (.t 35))])))
def jR:SC:= .block 1 (.loop fM)
def lZ:SC:=
 (.seq (.reg [.r 4 (.mv (.c (.d (.bool false))))])
 (.seq (.seq (.reg [.r 11 (.mv (.t 1))])
 (.block 0 (.seq (.reg [.r 13 (.bin .eql (.t 11) (.c (.d (.int .i64 4)))),
    .r 12 (.mv (.t 13))])
  (.cond (.t 12)
   (.seq (.reg [.r 15 (.mv (.t 0)),
     .c 16 (.f 167) [.t 15],
     .r 14 (.mv (.t 16)),
     .r 17 (.ext (.t 14) 0),
     .r 18 (.ext (.t 14) 1),
     .w 5 (.boxM (.c (.agg [.d (.int .i64 0),.d (.int .i64 0)]))),
     .w 0 (.st 2 (.t 5) (.t 17)),
     .r 6 (.mv (.t 18))])
   (.seq (.reg [.r 19 (.mv (.t 6)),
     .r 20 (.bin .eql (.t 19) (.c (.d (.int .i64 0)))),
     .r 4 (.mv (.t 20))])
   .ret))
   (.seq (.reg [.r 22 (.bin .eql (.t 11) (.c (.d (.int .i64 5)))),
     .r 21 (.mv (.t 22))])
   (.cond (.t 21)
    (.seq (.reg [.r 24 (.mv (.t 0)),
      .c 25 (.f 168) [.t 24,.c (.d (.int .i64 1)),.c (.d (.int .i64 1))],
      .r 23 (.mv (.t 25)),
      .r 26 (.ext (.t 23) 0),
      .r 27 (.ext (.t 23) 1),
      .r 7 (.mv (.t 26)),
      .r 8 (.mv (.t 27))])
    (.seq (.reg [.r 28 (.mv (.t 8)),
      .r 29 (.bin .eql (.t 28) (.c (.d (.int .i64 0)))),
      .r 4 (.mv (.t 29))])
    .ret))
    .skip))))))
 (.seq (.seq (.reg [.r 9 (.mv (.c (.d (.int .i64 0))))])
 jR)
 (.seq (.reg [.r 4 (.mv (.c (.d (.bool true))))])
 .ret))))
theorem qW:fits Tryz.prog 147 Tryz.f147 lZ [.t 4] 2=true:=oK
def ff:SC:=
 (.seq (.seq (.reg [.r 11 (.mv (.t 4)),
   .r 12 (.mv (.t 3)),
   .r 13 (.bin .lss (.t 11) (.t 12))])
 (.cond (.t 13)
  .skip
  (.exit 2)))
 (.seq (.block 3 (.seq (.regD [.r 16 (.mv (.t 0)),
    .r 17 (.mv (.t 3)),
    .r 18 (.idx 1 (.t 16) (.t 17)),
    .r 19 (.ld1 (.t 18)),
    .r 20 (.mv (.t 0)),
    .r 21 (.mv (.t 4)),
    .r 22 (.idx 1 (.t 20) (.t 21)),
    .r 23 (.ld1 (.t 22)),
    .r 24 (.bin .eql (.t 19) (.t 23))])
  (.cond (.t 24)
   (.seq (.reg [.r 2 (.mv (.c (.d (.bool true))))])
   .ret)
   .skip)))
 (.reg [.r 14 (.mv (.t 4)),
   .r 15 (.bin .add (.t 14) (.c (.d (.int .i64 1)))),
   .r 4 (.mv (.t 15))])))
def jo:SC:= .block 2 (.loop ff)
def fg:SC:=
 (.seq (.seq (.reg [.r 5 (.mv (.t 3)),
   .r 6 (.mv (.t 0)),
   .r 7 (.len (.t 6)),
   .r 8 (.bin .lss (.t 5) (.t 7))])
 (.cond (.t 8)
  .skip
  (.exit 0)))
 (.seq (.block 1 (.seq (.reg [.r 4 (.mv (.c (.d (.int .i64 0))))])
  jo))
 (.reg [.r 9 (.mv (.t 3)),
   .r 10 (.bin .add (.t 9) (.c (.d (.int .i64 1)))),
   .r 3 (.mv (.t 10))])))
def jp:SC:= .block 0 (.loop fg)
def kT:SC:=
 (.seq (.reg [.r 2 (.mv (.c (.d (.bool false))))])
 (.seq (.seq (.reg [.r 3 (.mv (.c (.d (.int .i64 0))))])
 jp)
 (.seq (.reg [.r 2 (.mv (.c (.d (.bool false))))])
 .ret)))
theorem qi:fits Tryz.prog 77 Tryz.f77 kT [.t 2] 1=true:=oK
set_option maxRecDepth 100000 in
set_option maxHeartbeats 40000000 in
noncomputable def gm:(∀ (x0:Int) (x1:Int) (x2:Int),{m:Option (Bool)//∀ r,m=some r->aa Tryz.prog 86 [.int .i64 x0,.int .i64 x1,.int .i64 x2] (.bool r)})×(∀ (x0:List UInt8) (x1:Int),{m:Option (Bool)//∀ r,m=some r->aa Tryz.prog 147 [.str x0,.int .i64 x1] (.bool r)})×(∀ (x0:List (List UInt8)),{m:Option (Bool)//∀ r,m=some r->aa Tryz.prog 77 [.slice (List.map fG x0)] (.bool r)}):=by
 refine⟨?g0, ?g1, ?g2⟩
 case' g0=>(intro x0 x1 x2;apply Subtype.mk;intro r hm;apply ag Tryz.func86 pW;unfold ko)
 case' g1=>(intro x0 x1;apply Subtype.mk;intro r hm;apply ag Tryz.func147 qW;unfold lZ)
 case' g2=>(intro x0;apply Subtype.mk;intro r hm;apply ag Tryz.func77 qi;unfold kT)
 all_goals(repeat'(first|with_reducible refine bF ?_|with_reducible refine bu ?_|with_reducible refine ou ?_|with_reducible refine bo ?_|with_reducible refine bl ?_|with_reducible refine bE ?_|with_reducible refine cg ?_|with_reducible refine bw ?_|with_reducible refine bG ?_|with_reducible refine cj ?_|with_reducible refine bA ?_|with_reducible refine br ?_|with_reducible refine bv ?_|((with_reducible apply cu hm);(iterate 2 (simp only[push_cast,seval];rfl));(intro _;rfl);intro e hm)|((with_reducible apply nN hm);(iterate 2 (simp only[push_cast,seval];rfl));intro e hm)|((with_reducible apply iE);(simp only[push_cast,seval];rfl);(first|exact trivial))|((with_reducible apply ed hm);(simp only[push_cast,seval];rfl);rfl;intro v hm;rotate_left;intro v g hm)|((with_reducible apply np hm);(simp only[push_cast,seval];rfl);rfl;intro v hm;rotate_left;intro v g hm)|((with_reducible apply ee hm);(simp only[push_cast,seval];rfl);(first|apply n7 _|apply oJ _ _ _);(any_goals((repeat'(first|rfl));done));intro x hm)|((with_reducible apply uU);(simp only[push_cast,seval];rfl);(first|exact trivial))|((with_reducible apply aM hm);(simp only[push_cast,seval];rfl);intro hm;rotate_left;intro hm)|((with_reducible apply bC hm);(focus(simp only[bk,cn,RV.get,push_cast,seval];rfl));(focus((repeat'(first|rfl));done)))|((with_reducible apply bR hm);(simp only[push_cast,seval];rfl))|((with_reducible apply bH hm);intro r hm)|((with_reducible apply cb hm);intro r hm)|((apply aH (b:=1) (X:=jR) (x:=fM) rfl (fun(c:SV×SV) (s:Int)=>st [(0,c.1),(1,c.2),(9,.d (.int .i64 s))] []) (c:=(_,_)) (s0:=_) hm);(focus(first|(dsimp only;done)));(with_reducible refine cA.mk ?_ ?_))|((apply aH (b:=2) (X:=jo) (x:=ff) rfl (fun(c:SV×SV) (s:Int)=>st [(0,c.1),(3,c.2),(4,.d (.int .i64 s))] []) (c:=(_,_)) (s0:=_) hm);(focus(first|(dsimp only;done)));(with_reducible refine cA.mk ?_ ?_))|((apply aH (b:=0) (X:=jp) (x:=fg) rfl (fun(c:SV) (s:Int)=>st [(0,c),(3,.d (.int .i64 s))] []) (c:=_) (s0:=_) hm);(focus(first|(dsimp only;done)));(with_reducible refine cA.mk ?_ ?_))|((apply bB (s':=_) hm);(focus(first|(dsimp only;done))))|((apply ct (s':=_) hm);(focus(first|(dsimp only;done))))|(((with_reducible apply ew hm);intro r hm))|(((with_reducible apply dw.of);(focus(first|(dsimp only;done)));(focus((intro _;repeat'(first|with_reducible exact bg|with_reducible refine aR ?_|with_reducible refine cr ?_|((with_reducible refine eT ?_);intro _)|((with_reducible refine eU ?_);intro _)))));(intro s o hm;first|unfold fM|unfold ff|unfold fg);rotate_left;intro s hm))|(((apply bI;(repeat'(first|with_reducible exact aT|with_reducible exact aU|with_reducible apply aJ|((with_reducible apply aZ);(focus(first|(simp only[push_cast,seval];rfl)));(focus((repeat'(first|rfl));done)))));done)))))
noncomputable def gG (x0:Int) (x1:Int) (x2:Int):Option (Bool):=(gm.1 x0 x1 x2).1
theorem dk (x0:Int) (x1:Int) (x2:Int):∀ r,gG x0 x1 x2=some r->aa Tryz.prog 86 [.int .i64 x0,.int .i64 x1,.int .i64 x2] (.bool r):=(gm.1 x0 x1 x2).2
noncomputable def iJ (x0:List UInt8) (x1:Int):Option (Bool):=(gm.2.1 x0 x1).1
theorem qj (x0:List UInt8) (x1:Int):∀ r,iJ x0 x1=some r->aa Tryz.prog 147 [.str x0,.int .i64 x1] (.bool r):=(gm.2.1 x0 x1).2
noncomputable def hJ (x0:List (List UInt8)):Option (Bool):=(gm.2.2 x0).1
theorem jS (x0:List (List UInt8)):∀ r,hJ x0=some r->aa Tryz.prog 77 [.slice (List.map fG x0)] (.bool r):=(gm.2.2 x0).2
def fh:SC:=
 (.seq (.seq (.reg [.r 5 (.mv (.t 4)),
   .r 6 (.mv (.t 0)),
   .r 7 (.len (.t 6)),
   .r 8 (.bin .lss (.t 5) (.t 7))])
 (.cond (.t 8)
  .skip
  (.exit 0)))
 (.seq (.block 1 (.seq (.reg [.r 11 (.mv (.t 0)),
    .r 12 (.mv (.t 4)),
    .r 13 (.idx 5 (.t 11) (.t 12)),
    .r 14 (.fld 1 (.t 13)),
    .o 15 (.ld1 (.t 14)),
    .r 16 (.bin .neq (.t 15) (.c (.d (.str []))))])
  (.cond (.t 16)
   (.seq (.reg [.r 17 (.mv (.t 3)),
     .r 18 (.mv (.t 0)),
     .r 19 (.mv (.t 4)),
     .r 20 (.idx 5 (.t 18) (.t 19)),
     .r 21 (.fld 1 (.t 20)),
     .o 22 (.ld1 (.t 21)),
     .r 23 (.bslice 1 [.t 22]),
     .w 24 (.app 9 1 (.t 17) (.t 23)),
     .r 3 (.mv (.t 24))])
   (.reg [.r 25 (.mv (.t 3)),
     .r 26 (.mv (.t 0)),
     .r 27 (.mv (.t 4)),
     .r 28 (.idx 5 (.t 26) (.t 27)),
     .r 29 (.fld 4 (.t 28)),
     .o 30 (.ld1 (.t 29)),
     .c 31 (.f 78) [.t 30],
     .w 32 (.app 9 1 (.t 25) (.t 31)),
     .r 3 (.mv (.t 32))]))
   .skip)))
 (.reg [.r 9 (.mv (.t 4)),
   .r 10 (.bin .add (.t 9) (.c (.d (.int .i64 1)))),
   .r 4 (.mv (.t 10))])))
def jq:SC:= .block 0 (.loop fh)
def kU:SC:=
 (.seq (.reg [.r 2 (.mv (.c (.nils)))])
 (.seq (.reg [.r 3 (.mv (.c (.nils)))])
 (.seq (.seq (.reg [.r 4 (.mv (.c (.d (.int .i64 0))))])
 jq)
 (.seq (.reg [.r 33 (.mv (.t 3)),
   .r 2 (.mv (.t 33))])
 .ret))))
theorem qk:fits Tryz.prog 78 Tryz.f78 kU [.t 2] 1=true:=oK
set_option maxRecDepth 100000 in
set_option maxHeartbeats 40000000 in
noncomputable def tT:((∀ (x0:List ac),{m:Option ((List (List UInt8)))//∀ r,m=some r->aa Tryz.prog 78 [.slice (List.map ab x0)] (.slice (List.map fG r))}))->((∀ (x0:List ac),{m:Option ((List (List UInt8)))//∀ r,m=some r->aa Tryz.prog 78 [.slice (List.map ab x0)] (.slice (List.map fG r))})):=by
 intro ih
 have fN:∀ (x0:List ac),∀ r,(ih x0).1=some r->aa Tryz.prog 78 [.slice (List.map ab x0)] (.slice (List.map fG r)):=fun x0=>(ih x0).2
 (intro x0;apply Subtype.mk;intro r hm;apply ag Tryz.func78 qk;unfold kU)
 repeat'(first|with_reducible refine bF ?_|with_reducible refine bu ?_|with_reducible refine bo ?_|with_reducible refine bl ?_|with_reducible refine bE ?_|with_reducible refine cg ?_|with_reducible refine bw ?_|with_reducible refine bG ?_|with_reducible refine cj ?_|with_reducible refine br ?_|with_reducible refine cF ?_|((with_reducible apply cu hm);(iterate 2 (simp only[push_cast,seval];rfl));(intro _;rfl);intro e hm)|((with_reducible apply iE);(simp only[push_cast,seval];rfl);(first|exact trivial))|((with_reducible apply ee hm);(simp only[push_cast,seval];rfl);(first|apply fN _);(any_goals((repeat'(first|rfl));done));intro x hm)|((with_reducible apply vO hm);(iterate 4 (simp only[push_cast,seval];rfl));(focus((repeat'(first|rfl|(with_reducible first|apply dh|apply di|apply gi)));done));decide;(intro _;rfl);intro hm)|((with_reducible apply aM hm);(simp only[push_cast,seval];rfl);intro hm;rotate_left;intro hm)|((with_reducible apply bC hm);(focus(simp only[bk,cn,RV.get,push_cast,seval];rfl));(focus((repeat'(first|rfl));done)))|((with_reducible apply bH hm);intro r hm)|((apply aH (b:=0) (X:=jq) (x:=fh) rfl (fun(c:SV) (s:(List (List UInt8))×Int)=>st [(0,c),(3,.vec 3),(4,.d (.int .i64 s.2))] [(3,.vec 9 1 (cm fG s.1))]) (c:=_) (s0:=(_,_)) hm);(focus(first|(dsimp only;done)));(with_reducible refine cA.mk ?_ ?_);apply f0.trans;(focus(apply nm (slot:=3) (id:=3) (e:=9) (sz:=1);(focus(simp only[push_cast,seval];done)))))|((apply bB (s':=(_,_)) hm);(focus(first|(dsimp only;done))))|((apply ct (s':=(_,_)) hm);(focus(first|(dsimp only;done))))|(((with_reducible apply dw.of);(focus(first|(dsimp only;done)));(focus((intro _;repeat'(first|with_reducible exact bg|with_reducible refine aR ?_))));(intro s o hm;first|unfold fh);rotate_left;intro s hm))|(((apply bI;(repeat'(first|with_reducible exact aT|with_reducible exact aU|with_reducible apply aJ|with_reducible apply c7|((with_reducible apply aZ);(focus(first|(simp only[push_cast,seval];rfl)));(focus((repeat'(first|rfl));done)))|((with_reducible apply iG);(focus(first|(simp only[push_cast,seval];rfl)));(first|with_reducible exact cT rfl|with_reducible apply ri))|(with_reducible first|apply BH)));done))))
noncomputable def qF (fu:Nat):(∀ (x0:List ac),{m:Option ((List (List UInt8)))//∀ r,m=some r->aa Tryz.prog 78 [.slice (List.map ab x0)] (.slice (List.map fG r))}):=Nat.rec (fun x0=>⟨none,fun r h=>by cases h⟩) (fun _ ih=>tT ih) fu
noncomputable def eJ (fu:Nat) (x0:List ac):Option ((List (List UInt8))):=((qF fu) x0).1
theorem oN (fu:Nat) (x0:List ac):((qF fu) x0).1=eJ fu x0:=rfl
theorem oO (fu:Nat) (x0:List ac):eJ (fu+1) x0=((tT (qF fu)) x0).1:=rfl
theorem fN (fu:Nat) (x0:List ac):∀ r,eJ fu x0=some r->aa Tryz.prog 78 [.slice (List.map ab x0)] (.slice (List.map fG r)):=((qF fu) x0).2
def dW:SC:=
 (.seq (.seq (.reg [.r 33 (.mv (.t 6)),
   .r 34 (.mv (.t 5)),
   .r 35 (.lenT (.t 34)),
   .r 36 (.bin .lss (.t 33) (.t 35))])
 (.cond (.t 36)
  .skip
  (.exit 0)))
 (.seq (.block 1 (.seq (.reg (.r 39 (.mv (.t 5)):: .r 40 (.mv (.t 6)):: .r 41 (.sidx (.t 39) (.t 40)):: .r 42 (.bin .lss (.t 41) (.c (.d (.int .u8 33)))):: .r 43 (.mv (.t 42))::aI [44,45,46,47] 43 false (.r 44 (.mv (.t 5)):: .r 45 (.mv (.t 6)):: .r 46 (.sidx (.t 44) (.t 45)):: .r 47 (.bin .gtr (.t 46) (.c (.d (.int .u8 126))))::[]) (.r 48 (.pick (.t 43) (.c (.d (.bool true))) (.t 47))::[])))
  (.cond (.t 48)
   (.seq (.reg [.r 4 (.mv (.c (.d (.int .i64 3))))])
   .ret)
   .skip)))
 (.reg [.r 37 (.mv (.t 6)),
   .r 38 (.bin .add (.t 37) (.c (.d (.int .i64 1)))),
   .r 6 (.mv (.t 38))])))
def gO:SC:= .block 0 (.loop dW)
def iS:SC:=
 (.seq (.reg [.r 2 (.boxI (.t 0)),
   .r 4 (.mv (.c (.d (.int .i64 0))))])
 (.seq (.reg [.r 7 (.fld 4 (.t 2)),
   .o 8 (.ld1 (.t 7)),
   .r 9 (.mv (.t 1)),
   .r 10 (.idx 1 (.t 8) (.t 9)),
   .o 11 (.ld1 (.t 10)),
   .r 5 (.mv (.t 11))])
 (.seq (.seq (.reg (.r 12 (.mv (.t 5)):: .r 13 (.lenT (.t 12)):: .c 14 (.f 86) [.t 13,.c (.d (.int .i64 1)),.c (.d (.int .i64 20))]:: .r 15 (.not (.t 14)):: .r 16 (.mv (.t 15))::aI [17,18,19,20,21,22,23,24] 16 false (.r 17 (.mv (.t 5)):: .r 18 (.lenT (.t 17)):: .r 19 (.fld 2 (.t 2)):: .r 20 (.ld1 (.t 19)):: .r 21 (.fld 3 (.t 2)):: .r 22 (.ld1 (.t 21)):: .c 23 (.f 86) [.t 18,.t 20,.t 22]:: .r 24 (.not (.t 23))::[]) (.r 25 (.pick (.t 16) (.c (.d (.bool true))) (.t 24)):: .r 26 (.mv (.t 25))::aI [27,28,29,30,31] 26 false (.r 27 (.mv (.t 5)):: .r 28 (.fld 1 (.t 2)):: .r 29 (.ld1 (.t 28)):: .c 30 (.f 147) [.t 27,.t 29]:: .r 31 (.not (.t 30))::[]) (.r 32 (.pick (.t 26) (.c (.d (.bool true))) (.t 31))::[]))))
 (.cond (.t 32)
  (.seq (.reg [.r 4 (.mv (.c (.d (.int .i64 3))))])
  .ret)
  .skip))
 (.seq (.seq (.reg [.r 6 (.mv (.c (.d (.int .i64 0))))])
 gO)
 (.seq (.seq (.reg (.r 49 (.mv (.t 1)):: .r 50 (.bin .gtr (.t 49) (.c (.d (.int .i64 0)))):: .r 51 (.mv (.t 50))::aI [52,53,54,55,56,57,58,59] 51 true (.r 52 (.mv (.t 5)):: .r 53 (.fld 4 (.t 2)):: .r 54 (.ld1 (.t 53)):: .r 55 (.mv (.t 1)):: .r 56 (.bin .sub (.t 55) (.c (.d (.int .i64 1)))):: .r 57 (.idx 1 (.t 54) (.t 56)):: .r 58 (.ld1 (.t 57)):: .r 59 (.bin .leq (.t 52) (.t 58))::[]) (.r 60 (.pick (.t 51) (.t 59) (.c (.d (.bool false))))::[])))
 (.cond (.t 60)
  (.seq (.reg [.r 4 (.mv (.c (.d (.int .i64 8))))])
  .ret)
  .skip))
 (.seq (.reg [.r 4 (.mv (.c (.d (.int .i64 0))))])
 .ret))))))
theorem n_:fits Tryz.prog 146 Tryz.f146 iS [.t 4] 2=true:=oK
set_option maxRecDepth 100000 in
set_option maxHeartbeats 40000000 in
noncomputable def tU:(∀ (x0:ap) (x1:Int),{m:Option (Int)//∀ r,m=some r->aa Tryz.prog 146 [.agg (aW x0),.int .i64 x1] (.int .i64 r)}):=by
 (intro x0 x1;apply Subtype.mk;intro r hm;apply ag Tryz.func146 n_;unfold iS)
 repeat'(first|with_reducible refine bF ?_|with_reducible refine bu ?_|with_reducible refine bo ?_|with_reducible refine bl ?_|with_reducible refine bE ?_|with_reducible refine cg ?_|with_reducible refine bw ?_|with_reducible refine bG ?_|with_reducible refine cj ?_|with_reducible refine bA ?_|with_reducible refine br ?_|with_reducible refine bv ?_|with_reducible refine cF ?_|((with_reducible apply cu hm);(iterate 2 (simp only[push_cast,seval];rfl));(intro _;rfl);intro e hm)|((with_reducible apply nN hm);(iterate 2 (simp only[push_cast,seval];rfl));intro e hm)|((with_reducible apply iE);(simp only[push_cast,seval];rfl);(first|exact trivial))|((with_reducible apply ed hm);(simp only[push_cast,seval];rfl);rfl;intro v hm;rotate_left;intro v g hm)|((with_reducible apply np hm);(simp only[push_cast,seval];rfl);rfl;intro v hm;rotate_left;intro v g hm)|((with_reducible apply ee hm);(simp only[push_cast,seval];rfl);(first|apply dk _ _ _|apply qj _ _);(any_goals((repeat'(first|rfl));done));intro x hm)|((with_reducible apply aM hm);(simp only[push_cast,seval];rfl);intro hm;rotate_left;intro hm)|((with_reducible apply bC hm);(focus(simp only[bk,cn,RV.get,push_cast,seval];rfl));(focus((repeat'(first|rfl));done)))|((with_reducible apply bR hm);(simp only[push_cast,seval];rfl))|((with_reducible apply bH hm);intro r hm)|((with_reducible apply cb hm);intro r hm)|((apply aH (b:=0) (X:=gO) (x:=dW) rfl (fun(c:SV×SV×SV) (s:Int)=>st [(1,c.1),(2,c.2.1),(5,c.2.2),(6,.d (.int .i64 s))] []) (c:=(_,_,_)) (s0:=_) hm);(focus(first|(dsimp only;done)));(with_reducible refine cA.mk ?_ ?_))|((apply bB (s':=_) hm);(focus(first|(dsimp only;done))))|((apply ct (s':=_) hm);(focus(first|(dsimp only;done))))|(((with_reducible apply ew hm);intro r hm))|(((with_reducible apply dw.of);(focus(first|(dsimp only;done)));(focus((intro _;repeat'(first|with_reducible exact bg|with_reducible refine aR ?_))));(intro s o hm;first|unfold dW);rotate_left;intro s hm))|(((apply bI;(repeat'(first|with_reducible exact aT|with_reducible exact aU|with_reducible apply aJ|((with_reducible apply aZ);(focus(first|(simp only[push_cast,seval];rfl)));(focus((repeat'(first|rfl));done)))));done))))
noncomputable def fi (x0:ap) (x1:Int):Option (Int):=(tU x0 x1).1
theorem nC (x0:ap) (x1:Int):∀ r,fi x0 x1=some r->aa Tryz.prog 146 [.agg (aW x0),.int .i64 x1] (.int .i64 r):=(tU x0 x1).2
def dG:SC:=
 (.seq (.seq (.reg [.r 22 (.mv (.t 10)),
   .r 23 (.mv (.t 1)),
   .r 24 (.len (.t 23)),
   .r 25 (.bin .lss (.t 22) (.t 24))])
 (.cond (.t 25)
  .skip
  (.exit 0)))
 (.seq (.block 1 (.seq (.reg [.r 28 (.mv (.t 1)),
    .r 29 (.mv (.t 10)),
    .r 30 (.idx 5 (.t 28) (.t 29)),
    .o 31 (.ldA 5 (.t 30)),
    .w 11 (.boxM (.c (.agg [.d (.str []),.d (.str []),.d (.int .i64 0),.d (.int .i64 0),.nils]))),
    .w 0 (.st 5 (.t 11) (.t 31))])
  (.seq (.reg [.r 32 (.mv (.t 3)),
    .r 33 (.bin .add (.t 32) (.c (.d (.int .i64 1)))),
    .r 3 (.mv (.t 33))])
  (.seq (.seq (.reg (.r 34 (.mv (.t 3)):: .r 35 (.bin .gtr (.t 34) (.c (.d (.int .i64 300)))):: .r 36 (.mv (.t 35))::aI [37,38] 36 false (.r 37 (.mv (.t 2)):: .r 38 (.bin .gtr (.t 37) (.c (.d (.int .i64 6))))::[]) (.r 39 (.pick (.t 36) (.c (.d (.bool true))) (.t 38))::[])))
  (.cond (.t 39)
   (.seq (.reg [.r 40 (.mv (.t 3)),
     .r 8 (.mv (.t 40)),
     .r 9 (.mv (.c (.d (.int .i64 2))))])
   .ret)
   .skip))
  (.seq (.seq (.reg (.o 41 (.ldA 5 (.t 11)):: .c 42 (.f 118) [.t 41]:: .r 43 (.not (.t 42)):: .r 44 (.mv (.t 43))::aI [45,46,47] 44 true (.r 45 (.ldA 5 (.t 11)):: .c 46 (.f 119) [.t 45]:: .r 47 (.not (.t 46))::[]) (.r 48 (.pick (.t 44) (.t 47) (.c (.d (.bool false))))::[])))
  (.cond (.t 48)
   (.seq (.reg [.r 49 (.mv (.t 3)),
     .r 8 (.mv (.t 49)),
     .r 9 (.mv (.c (.d (.int .i64 3))))])
   .ret)
   .skip))
  (.seq (.seq (.reg (.r 50 (.fld 1 (.t 11)):: .o 51 (.ld1 (.t 50)):: .r 52 (.bin .neq (.t 51) (.c (.d (.str [])))):: .r 53 (.mv (.t 52))::aI [54,55,56,57] 53 true (.r 54 (.fld 1 (.t 11)):: .r 55 (.ld1 (.t 54)):: .c 56 (.f 75) [.t 55]:: .r 57 (.not (.t 56))::[]) (.r 58 (.pick (.t 53) (.t 57) (.c (.d (.bool false))))::[])))
  (.cond (.t 58)
   (.seq (.reg [.r 59 (.mv (.t 3)),
     .r 8 (.mv (.t 59)),
     .r 9 (.mv (.c (.d (.int .i64 5))))])
   .ret)
   .skip))
  (.seq (.seq (.reg (.r 60 (.fld 1 (.t 11)):: .o 61 (.ld1 (.t 60)):: .r 62 (.bin .eql (.t 61) (.c (.d (.str [])))):: .r 63 (.mv (.t 62))::aI [64,65,66,67,68] 63 true (.r 64 (.ldA 4 (.t 4)):: .r 65 (.fld 0 (.t 11)):: .r 66 (.ld1 (.t 65)):: .c 67 (.f 82) [.t 64,.t 66]:: .r 68 (.bin .lss (.t 67) (.c (.d (.int .i64 0))))::[]) (.r 69 (.pick (.t 63) (.t 68) (.c (.d (.bool false))))::[])))
  (.cond (.t 69)
   (.seq (.reg [.r 70 (.mv (.t 3)),
     .r 8 (.mv (.t 70)),
     .r 9 (.mv (.c (.d (.int .i64 9))))])
   .ret)
   .skip))
  (.seq (.seq (.reg (.r 71 (.fld 2 (.t 11)):: .o 72 (.ld1 (.t 71)):: .r 73 (.fld 3 (.t 11)):: .o 74 (.ld1 (.t 73)):: .c 75 (.f 86) [.t 72,.c (.d (.int .i64 0)),.t 74]:: .r 76 (.not (.t 75)):: .r 77 (.mv (.t 76))::aI [78,79,80,81] 77 false (.r 78 (.fld 3 (.t 11)):: .r 79 (.ld1 (.t 78)):: .c 80 (.f 86) [.t 79,.c (.d (.int .i64 1)),.c (.d (.int .i64 1000))]:: .r 81 (.not (.t 80))::[]) (.r 82 (.pick (.t 77) (.c (.d (.bool true))) (.t 81))::[])))
  (.cond (.t 82)
   (.seq (.reg [.r 83 (.mv (.t 3)),
     .r 8 (.mv (.t 83)),
     .r 9 (.mv (.c (.d (.int .i64 1))))])
   .ret)
   .skip))
  (.seq (.seq (.reg [.r 84 (.fld 1 (.t 11)),
    .o 85 (.ld1 (.t 84)),
    .r 86 (.bin .eql (.t 85) (.c (.d (.str []))))])
  (.cond (.t 86)
   (.exit 1)
   .skip))
  (.seq (.reg [.o 88 (.ldA 4 (.t 4)),
    .r 89 (.fld 4 (.t 11)),
    .o 90 (.ld1 (.t 89)),
    .r 91 (.mv (.t 2)),
    .r 92 (.bin .add (.t 91) (.c (.d (.int .i64 1)))),
    .r 93 (.mv (.t 3)),
    .c 94 (.f 76) [.t 88,.t 90,.t 92,.t 93],
    .r 87 (.mv (.t 94)),
    .r 95 (.ext (.t 87) 0),
    .r 96 (.ext (.t 87) 1),
    .r 12 (.mv (.t 95)),
    .r 13 (.mv (.t 96))])
  (.seq (.seq (.reg [.r 97 (.mv (.t 13)),
    .r 98 (.bin .neq (.t 97) (.c (.d (.int .i64 0))))])
  (.cond (.t 98)
   (.seq (.reg [.r 99 (.mv (.t 12)),
     .r 100 (.mv (.t 13)),
     .r 8 (.mv (.t 99)),
     .r 9 (.mv (.t 100))])
   .ret)
   .skip))
  (.reg [.r 101 (.mv (.t 12)),
    .r 3 (.mv (.t 101))]))))))))))))
 (.reg [.r 26 (.mv (.t 10)),
   .r 27 (.bin .add (.t 26) (.c (.d (.int .i64 1)))),
   .r 10 (.mv (.t 27))])))
def gn:SC:= .block 0 (.loop dG)
def ir:SC:=
 (.seq (.reg [.r 4 (.boxI (.t 0)),
   .r 8 (.mv (.c (.d (.int .i64 0)))),
   .r 9 (.mv (.c (.d (.int .i64 0))))])
 (.seq (.seq (.reg [.r 14 (.mv (.t 1)),
   .r 15 (.len (.t 14)),
   .r 16 (.bin .eql (.t 15) (.c (.d (.int .i64 0))))])
 (.cond (.t 16)
  (.seq (.reg [.r 17 (.mv (.t 3)),
    .r 8 (.mv (.t 17)),
    .r 9 (.mv (.c (.d (.int .i64 9))))])
  .ret)
  .skip))
 (.seq (.seq (.reg [.r 18 (.mv (.t 1)),
   .r 19 (.len (.t 18)),
   .r 20 (.bin .gtr (.t 19) (.c (.d (.int .i64 50))))])
 (.cond (.t 20)
  (.seq (.reg [.r 21 (.mv (.t 3)),
    .r 8 (.mv (.t 21)),
    .r 9 (.mv (.c (.d (.int .i64 2))))])
  .ret)
  .skip))
 (.seq (.seq (.reg [.r 10 (.mv (.c (.d (.int .i64 0))))])
 gn)
 (.seq (.reg [.r 102 (.mv (.t 3)),
   .r 8 (.mv (.t 102)),
   .r 9 (.mv (.c (.d (.int .i64 0))))])
 .ret)))))
theorem nD:fits Tryz.prog 76 Tryz.f76 ir [.t 8,.t 9] 4=true:=oK
set_option maxRecDepth 100000 in
set_option maxHeartbeats 40000000 in
noncomputable def tV:((∀ (x0:ae) (x1:List ac) (x2:Int) (x3:Int),{m:Option (Int×Int)//∀ r,m=some r->aa Tryz.prog 76 [.agg (ai x0),.slice (List.map ab x1),.int .i64 x2,.int .i64 x3] (.tup [.int .i64 r.1,.int .i64 r.2])}))->((∀ (x0:ae) (x1:List ac) (x2:Int) (x3:Int),{m:Option (Int×Int)//∀ r,m=some r->aa Tryz.prog 76 [.agg (ai x0),.slice (List.map ab x1),.int .i64 x2,.int .i64 x3] (.tup [.int .i64 r.1,.int .i64 r.2])})):=by
 intro ih
 have dX:∀ (x0:ae) (x1:List ac) (x2:Int) (x3:Int),∀ r,(ih x0 x1 x2 x3).1=some r->aa Tryz.prog 76 [.agg (ai x0),.slice (List.map ab x1),.int .i64 x2,.int .i64 x3] (.tup [.int .i64 r.1,.int .i64 r.2]):=fun x0 x1 x2 x3=>(ih x0 x1 x2 x3).2
 (intro x0 x1 x2 x3;apply Subtype.mk;intro r hm;apply ag Tryz.func76 nD;unfold ir)
 repeat'(first|with_reducible refine bF ?_|with_reducible refine bu ?_|with_reducible refine bo ?_|with_reducible refine bl ?_|with_reducible refine bE ?_|with_reducible refine cg ?_|with_reducible refine bw ?_|with_reducible refine bG ?_|with_reducible refine cj ?_|with_reducible refine bA ?_|with_reducible refine br ?_|with_reducible refine bv ?_|with_reducible refine nW ?_|with_reducible refine cF ?_|((with_reducible apply cu hm);(iterate 2 (simp only[push_cast,seval];rfl));(intro _;rfl);intro e hm)|((with_reducible apply iE);(simp only[push_cast,seval];rfl);(first|exact trivial))|((with_reducible apply ed hm);(simp only[push_cast,seval];rfl);rfl;intro v hm;rotate_left;intro v g hm)|((with_reducible apply np hm);(simp only[push_cast,seval];rfl);rfl;intro v hm;rotate_left;intro v g hm)|((with_reducible apply ee hm);(simp only[push_cast,seval];rfl);(first|apply ij _|apply oX _|apply jw _|apply jY _ _|apply dk _ _ _|apply dX _ _ _ _);(any_goals((repeat'(first|rfl|(with_reducible first|apply et|apply na|apply dm)));done));intro x hm)|((with_reducible apply uU);(simp only[push_cast,seval];rfl);(first|exact trivial))|((with_reducible apply aM hm);(simp only[push_cast,seval];rfl);intro hm;rotate_left;intro hm)|((with_reducible apply iF hm);(focus(simp only[bk,cn,RV.get,push_cast,seval];rfl));(focus(first|(dsimp only;done)));(focus((repeat'(first|rfl));done)))|((with_reducible apply bR hm);(simp only[push_cast,seval];rfl))|((with_reducible apply bH hm);intro r hm)|((with_reducible apply cb hm);intro r hm)|((apply aH (b:=0) (X:=gn) (x:=dG) rfl (fun(c:SV×SV×SV) (s:Int×Int)=>st [(1,c.1),(2,c.2.1),(3,.d (.int .i64 s.1)),(4,c.2.2),(10,.d (.int .i64 s.2))] []) (c:=(_,_,_)) (s0:=(_,_)) hm);(focus(first|(dsimp only;done)));(with_reducible refine cA.mk ?_ ?_))|((apply bB (s':=(_,_)) hm);(focus(first|(dsimp only;done))))|((apply ct (s':=(_,_)) hm);(focus(first|(dsimp only;done))))|(((with_reducible apply ew hm);intro r hm))|(((with_reducible apply dw.of);(focus(first|(dsimp only;done)));(focus((intro _;repeat'(first|with_reducible exact bg|with_reducible refine aR ?_))));(intro s o hm;first|unfold dG);rotate_left;intro s hm))|(((apply bI;(repeat'(first|with_reducible exact aT|with_reducible exact aU|with_reducible apply aJ|((with_reducible apply aZ);(focus(first|(simp only[push_cast,seval];rfl)));(focus((repeat'(first|rfl));done)))));done))))
noncomputable def qG (fu:Nat):(∀ (x0:ae) (x1:List ac) (x2:Int) (x3:Int),{m:Option (Int×Int)//∀ r,m=some r->aa Tryz.prog 76 [.agg (ai x0),.slice (List.map ab x1),.int .i64 x2,.int .i64 x3] (.tup [.int .i64 r.1,.int .i64 r.2])}):=Nat.rec (fun x0 x1 x2 x3=>⟨none,fun r h=>by cases h⟩) (fun _ ih=>tV ih) fu
noncomputable def cZ (fu:Nat) (x0:ae) (x1:List ac) (x2:Int) (x3:Int):Option (Int×Int):=((qG fu) x0 x1 x2 x3).1
theorem mc (fu:Nat) (x0:ae) (x1:List ac) (x2:Int) (x3:Int):((qG fu) x0 x1 x2 x3).1=cZ fu x0 x1 x2 x3:=rfl
theorem md (fu:Nat) (x0:ae) (x1:List ac) (x2:Int) (x3:Int):cZ (fu+1) x0 x1 x2 x3=((tV (qG fu)) x0 x1 x2 x3).1:=rfl
theorem dX (fu:Nat) (x0:ae) (x1:List ac) (x2:Int) (x3:Int):∀ r,cZ fu x0 x1 x2 x3=some r->aa Tryz.prog 76 [.agg (ai x0),.slice (List.map ab x1),.int .i64 x2,.int .i64 x3] (.tup [.int .i64 r.1,.int .i64 r.2]):=((qG fu) x0 x1 x2 x3).2
def ey:SC:=
 (.seq (.seq (.reg [.r 33 (.mv (.t 10)),
   .r 34 (.mv (.t 1)),
   .r 35 (.len (.t 34)),
   .r 36 (.bin .lss (.t 33) (.t 35))])
 (.cond (.t 36)
  .skip
  (.exit 2)))
 (.seq (.block 3 (.seq (.reg [.r 39 (.mv (.t 1)),
    .r 40 (.mv (.t 10)),
    .r 41 (.idx 1 (.t 39) (.t 40)),
    .o 42 (.ld1 (.t 41)),
    .r 43 (.mv (.t 9)),
    .r 44 (.bin .eql (.t 42) (.t 43))])
  (.cond (.t 44)
   (.seq (.reg [.r 6 (.mv (.c (.d (.bool true))))])
   .ret)
   .skip)))
 (.reg [.r 37 (.mv (.t 10)),
   .r 38 (.bin .add (.t 37) (.c (.d (.int .i64 1)))),
   .r 10 (.mv (.t 38))])))
def iu:SC:= .block 2 (.loop ey)
def ez:SC:=
 (.seq (.seq (.reg [.r 13 (.mv (.t 8)),
   .r 14 (.mv (.t 0)),
   .r 15 (.len (.t 14)),
   .r 16 (.bin .lss (.t 13) (.t 15))])
 (.cond (.t 16)
  .skip
  (.exit 0)))
 (.seq (.block 1 (.seq (.reg [.r 19 (.mv (.t 0)),
    .r 20 (.mv (.t 8)),
    .r 21 (.idx 5 (.t 19) (.t 20)),
    .o 22 (.ldA 5 (.t 21)),
    .c 23 (.f 120) [.t 22],
    .r 9 (.mv (.t 23))])
  (.seq (.reg [.r 24 (.mv (.t 7)),
    .r 25 (.mv (.t 9)),
    .r 26 (.bslice 1 [.t 25]),
    .w 27 (.app 9 1 (.t 24) (.t 26)),
    .r 7 (.mv (.t 27))])
  (.seq (.seq (.reg (.r 28 (.mv (.t 2)):: .r 29 (.mv (.t 28))::aI [30,31] 29 true (.r 30 (.mv (.t 8)):: .r 31 (.bin .eql (.t 30) (.c (.d (.int .i64 0))))::[]) (.r 32 (.pick (.t 29) (.t 31) (.c (.d (.bool false))))::[])))
  (.cond (.t 32)
   (.exit 1)
   .skip))
  (.seq (.reg [.r 10 (.mv (.c (.d (.int .i64 0))))])
  iu)))))
 (.reg [.r 17 (.mv (.t 8)),
   .r 18 (.bin .add (.t 17) (.c (.d (.int .i64 1)))),
   .r 8 (.mv (.t 18))])))
def iv:SC:= .block 0 (.loop ez)
def el:SC:=(.reg [.r 45 (.mv (.t 7)),
   .c 46 (.f 77) [.t 45]])
def eA:SC:=
 (.seq (.seq (.reg [.r 47 (.mv (.t 11)),
   .r 48 (.mv (.t 0)),
   .r 49 (.len (.t 48)),
   .r 50 (.bin .lss (.t 47) (.t 49))])
 (.cond (.t 50)
  .skip
  (.exit 4)))
 (.seq (.block 5 (.seq (.seq (.reg [.r 53 (.mv (.t 0)),
    .r 54 (.mv (.t 11)),
    .r 55 (.idx 5 (.t 53) (.t 54)),
    .r 56 (.fld 1 (.t 55)),
    .o 57 (.ld1 (.t 56)),
    .r 58 (.bin .eql (.t 57) (.c (.d (.str []))))])
  (.cond (.t 58)
   (.exit 5)
   .skip))
  (.seq (.reg [.r 12 (.mv (.c (.nils)))])
  (.seq (.reg [.r 59 (.mv (.t 12)),
    .r 60 (.mv (.t 1)),
    .w 61 (.app 9 1 (.t 59) (.t 60)),
    .r 12 (.mv (.t 61))])
  (.seq (.reg [.r 62 (.mv (.t 12)),
    .r 63 (.mv (.t 7)),
    .r 64 (.mv (.t 11)),
    .r 65 (.slc 1 (.t 63) (some (.t 64)) none),
    .w 66 (.app 9 1 (.t 62) (.t 65)),
    .r 12 (.mv (.t 66))])
  (.seq (.reg [.r 67 (.mv (.t 0)),
    .r 68 (.mv (.t 11)),
    .r 69 (.idx 5 (.t 67) (.t 68)),
    .r 70 (.fld 4 (.t 69)),
    .o 71 (.ld1 (.t 70)),
    .r 72 (.mv (.t 12)),
    .c 73 (.f 79) [.t 71,.t 72,.c (.d (.bool true))]])
  (.cond (.t 73)
   (.seq (.reg [.r 6 (.mv (.c (.d (.bool true))))])
   .ret)
   .skip)))))))
 (.reg [.r 51 (.mv (.t 11)),
   .r 52 (.bin .add (.t 51) (.c (.d (.int .i64 1)))),
   .r 11 (.mv (.t 52))])))
def iw:SC:= .block 4 (.loop eA)
def jT:SC:=
 (.seq (.reg [.r 6 (.mv (.c (.d (.bool false))))])
 (.seq (.reg [.r 7 (.mv (.c (.nils)))])
 (.seq (.seq (.reg [.r 8 (.mv (.c (.d (.int .i64 0))))])
 iv)
 (.seq (.seq el
 (.cond (.t 46)
  (.seq (.reg [.r 6 (.mv (.c (.d (.bool true))))])
  .ret)
  .skip))
 (.seq (.seq (.reg [.r 11 (.mv (.c (.d (.int .i64 0))))])
 iw)
 (.seq (.reg [.r 6 (.mv (.c (.d (.bool false))))])
 .ret))))))
theorem pm:fits Tryz.prog 79 Tryz.f79 jT [.t 6] 3=true:=oK
set_option maxRecDepth 100000 in
set_option maxHeartbeats 40000000 in
noncomputable def tW:((∀ (x0:List ac) (x1:List (List UInt8)) (x2:Bool),{m:Option (Bool)//∀ r,m=some r->aa Tryz.prog 79 [.slice (List.map ab x0),.slice (List.map fG x1),.bool x2] (.bool r)}))->((∀ (x0:List ac) (x1:List (List UInt8)) (x2:Bool),{m:Option (Bool)//∀ r,m=some r->aa Tryz.prog 79 [.slice (List.map ab x0),.slice (List.map fG x1),.bool x2] (.bool r)})):=by
 intro ih
 have eN:∀ (x0:List ac) (x1:List (List UInt8)) (x2:Bool),∀ r,(ih x0 x1 x2).1=some r->aa Tryz.prog 79 [.slice (List.map ab x0),.slice (List.map fG x1),.bool x2] (.bool r):=fun x0 x1 x2=>(ih x0 x1 x2).2
 (intro x0 x1 x2;apply Subtype.mk;intro r hm;apply ag Tryz.func79 pm;unfold jT)
 repeat'(first|((with_reducible apply H5 (x:=el) 7);(focus(simp only[push_cast,seval];(try rfl);done));(focus(simp only[push_cast,seval];(try rfl);done));(focus(simp only[push_cast,seval];(try rfl);done));unfold el)|with_reducible refine bF ?_|with_reducible refine bu ?_|with_reducible refine bo ?_|with_reducible refine bl ?_|with_reducible refine bE ?_|with_reducible refine cg ?_|with_reducible refine bw ?_|with_reducible refine bG ?_|with_reducible refine cj ?_|with_reducible refine bA ?_|with_reducible refine br ?_|with_reducible refine bv ?_|with_reducible refine nW ?_|with_reducible refine cF ?_|((with_reducible apply cu hm);(iterate 2 (simp only[push_cast,seval];rfl));(intro _;rfl);intro e hm)|((with_reducible apply Cy hm);(iterate 3 (simp only[push_cast,seval];rfl));(intro _;rfl);intro e hm)|((with_reducible apply iE);(simp only[push_cast,seval];rfl);(first|exact trivial))|((with_reducible apply ed hm);(simp only[push_cast,seval];rfl);rfl;intro v hm;rotate_left;intro v g hm)|((with_reducible apply ee hm);(simp only[push_cast,seval];rfl);(first|apply om _|apply jS _);(any_goals((repeat'(first|rfl|(with_reducible first|apply et|apply na|apply dm)));done));intro x hm)|((with_reducible apply Lj hm);(simp only[push_cast,seval];rfl);(focus(first|exact eN _ _ _));(intro _;rfl);intro x hm)|((with_reducible apply vO hm);(iterate 4 (simp only[push_cast,seval];rfl));(focus((repeat'(first|rfl|(with_reducible first|apply dh|apply di|apply gi)));done));decide;(intro _;rfl);intro hm)|((with_reducible apply Ky hm);(focus(simp only[push_cast,seval];done));(iterate 2 (simp only[push_cast,seval];rfl));(focus((repeat'(first|rfl));done));decide;(intro _;rfl);intro hm)|((with_reducible apply aM hm);(simp only[push_cast,seval];rfl);intro hm;rotate_left;intro hm)|((with_reducible apply bC hm);(focus(simp only[bk,cn,RV.get,push_cast,seval];rfl));(focus((repeat'(first|rfl));done)))|((with_reducible apply bR hm);(simp only[push_cast,seval];rfl))|((with_reducible apply bH hm);intro r hm)|((with_reducible apply cb hm);intro r hm)|((apply aH (b:=2) (X:=iu) (x:=ey) rfl (fun(c:SV×SV×SV×Ch×SV×SV) (s:Int)=>st [(0,c.1),(1,c.2.1),(2,c.2.2.1),(7,.vec 7),(8,c.2.2.2.2.1),(9,c.2.2.2.2.2),(10,.d (.int .i64 s))] [(7,c.2.2.2.1)]) (c:=(_,_,_,_,_,_)) (s0:=_) hm);(focus(first|(dsimp only;done)));(with_reducible refine cA.mk ?_ ?_))|((apply aH (b:=0) (X:=iv) (x:=ez) rfl (fun(c:SV×SV×SV) (s:(List (List UInt8))×Int)=>st [(0,c.1),(1,c.2.1),(2,c.2.2),(7,.vec 7),(8,.d (.int .i64 s.2))] [(7,.vec 9 1 (cm fG s.1))]) (c:=(_,_,_)) (s0:=(_,_)) hm);(focus(first|(dsimp only;done)));(with_reducible refine cA.mk ?_ ?_);apply f0.trans;(focus(apply nm (slot:=7) (id:=7) (e:=9) (sz:=1);(focus(simp only[push_cast,seval];done)))))|((apply aH (b:=4) (X:=iw) (x:=eA) rfl (fun(c:SV×SV×SV) (s:Int)=>st [(0,c.1),(1,c.2.1),(7,c.2.2),(11,.d (.int .i64 s))] []) (c:=(_,_,_)) (s0:=_) hm);(focus(first|(dsimp only;done)));(with_reducible refine cA.mk ?_ ?_))|((apply bB (s':=(_,_)) hm);(focus(first|(dsimp only;done))))|((apply ct (s':=(_,_)) hm);(focus(first|(dsimp only;done))))|((apply bB (s':=_) hm);(focus(first|(dsimp only;done))))|((apply ct (s':=_) hm);(focus(first|(dsimp only;done))))|(((with_reducible apply ew hm);intro r hm))|(((with_reducible apply dw.of);(focus(first|(dsimp only;done)));(focus((intro _;repeat'(first|with_reducible exact bg|with_reducible refine aR ?_|with_reducible refine cr ?_|((with_reducible refine eT ?_);intro _)|((with_reducible refine eU ?_);intro _)))));(intro s o hm;first|unfold ey|unfold ez|unfold eA);rotate_left;intro s hm))|(((apply bI;(repeat'(first|with_reducible exact aT|with_reducible exact aU|with_reducible apply aJ|with_reducible apply c7|((with_reducible apply aZ);(focus(first|(simp only[push_cast,seval];rfl)));(focus((repeat'(first|rfl));done)))|((with_reducible apply iG);(focus(first|(simp only[push_cast,seval];rfl)));(first|with_reducible exact cT rfl|with_reducible apply ri))|(with_reducible first|apply BH)));done))))
noncomputable def qH (fu:Nat):(∀ (x0:List ac) (x1:List (List UInt8)) (x2:Bool),{m:Option (Bool)//∀ r,m=some r->aa Tryz.prog 79 [.slice (List.map ab x0),.slice (List.map fG x1),.bool x2] (.bool r)}):=Nat.rec (fun x0 x1 x2=>⟨none,fun r h=>by cases h⟩) (fun _ ih=>tW ih) fu
noncomputable def cG (fu:Nat) (x0:List ac) (x1:List (List UInt8)) (x2:Bool):Option (Bool):=((qH fu) x0 x1 x2).1
theorem nE (fu:Nat) (x0:List ac) (x1:List (List UInt8)) (x2:Bool):((qH fu) x0 x1 x2).1=cG fu x0 x1 x2:=rfl
theorem nF (fu:Nat) (x0:List ac) (x1:List (List UInt8)) (x2:Bool):cG (fu+1) x0 x1 x2=((tW (qH fu)) x0 x1 x2).1:=rfl
theorem eN (fu:Nat) (x0:List ac) (x1:List (List UInt8)) (x2:Bool):∀ r,cG fu x0 x1 x2=some r->aa Tryz.prog 79 [.slice (List.map ab x0),.slice (List.map fG x1),.bool x2] (.bool r):=((qH fu) x0 x1 x2).2
def dY:SC:=
 (.seq (.seq (.reg [.r 37 (.mv (.t 3)),
   .r 38 (.fld 4 (.t 1)),
   .o 39 (.ld1 (.t 38)),
   .r 40 (.len (.t 39)),
   .r 41 (.bin .lss (.t 37) (.t 40))])
 (.cond (.t 41)
  .skip
  (.exit 0)))
 (.seq (.block 1 (.seq (.reg [.o 44 (.ldA 5 (.t 1)),
    .r 45 (.mv (.t 3)),
    .c 46 (.f 146) [.t 44,.t 45],
    .r 4 (.mv (.t 46))])
  (.seq (.reg [.r 47 (.mv (.t 4)),
    .r 48 (.bin .neq (.t 47) (.c (.d (.int .i64 0))))])
  (.cond (.t 48)
   (.seq (.reg [.r 49 (.mv (.t 4)),
     .r 2 (.mv (.t 49))])
   .ret)
   .skip))))
 (.reg [.r 42 (.mv (.t 3)),
   .r 43 (.bin .add (.t 42) (.c (.d (.int .i64 1)))),
   .r 3 (.mv (.t 43))])))
def gP:SC:= .block 0 (.loop dY)
def iT:SC:=
 (.seq (.reg [.r 1 (.boxI (.t 0)),
   .r 2 (.mv (.c (.d (.int .i64 0))))])
 (.seq (.seq (.reg [.r 5 (.fld 1 (.t 1)),
   .o 6 (.ld1 (.t 5)),
   .c 7 (.f 86) [.t 6,.c (.d (.int .i64 1)),.c (.d (.int .i64 5))],
   .r 8 (.not (.t 7))])
 (.cond (.t 8)
  (.seq (.reg [.r 2 (.mv (.c (.d (.int .i64 4))))])
  .ret)
  .skip))
 (.seq (.seq (.reg (.r 9 (.fld 2 (.t 1)):: .o 10 (.ld1 (.t 9)):: .r 11 (.fld 3 (.t 1)):: .o 12 (.ld1 (.t 11)):: .c 13 (.f 86) [.t 10,.c (.d (.int .i64 1)),.t 12]:: .r 14 (.not (.t 13)):: .r 15 (.mv (.t 14))::aI [16,17,18] 15 false (.r 16 (.fld 3 (.t 1)):: .r 17 (.ld1 (.t 16)):: .r 18 (.bin .gtr (.t 17) (.c (.d (.int .i64 1000))))::[]) (.r 19 (.pick (.t 15) (.c (.d (.bool true))) (.t 18))::[])))
 (.cond (.t 19)
  (.seq (.reg [.r 2 (.mv (.c (.d (.int .i64 1))))])
  .ret)
  .skip))
 (.seq (.seq (.reg (.r 20 (.fld 1 (.t 1)):: .o 21 (.ld1 (.t 20)):: .r 22 (.bin .eql (.t 21) (.c (.d (.int .i64 5)))):: .r 23 (.mv (.t 22))::aI [24,25,26,27,28,29,30,31] 23 true (.r 24 (.fld 2 (.t 1)):: .r 25 (.ld1 (.t 24)):: .r 26 (.bin .gtr (.t 25) (.c (.d (.int .i64 8)))):: .r 27 (.mv (.t 26))::aI [28,29,30] 27 false (.r 28 (.fld 3 (.t 1)):: .r 29 (.ld1 (.t 28)):: .r 30 (.bin .lss (.t 29) (.c (.d (.int .i64 8))))::[]) (.r 31 (.pick (.t 27) (.c (.d (.bool true))) (.t 30))::[])) (.r 32 (.pick (.t 23) (.t 31) (.c (.d (.bool false))))::[])))
 (.cond (.t 32)
  (.seq (.reg [.r 2 (.mv (.c (.d (.int .i64 3))))])
  .ret)
  .skip))
 (.seq (.seq (.reg [.r 33 (.fld 4 (.t 1)),
   .o 34 (.ld1 (.t 33)),
   .r 35 (.len (.t 34)),
   .r 36 (.bin .gtr (.t 35) (.c (.d (.int .i64 50))))])
 (.cond (.t 36)
  (.seq (.reg [.r 2 (.mv (.c (.d (.int .i64 2))))])
  .ret)
  .skip))
 (.seq (.seq (.reg [.r 3 (.mv (.c (.d (.int .i64 0))))])
 gP)
 (.seq (.reg [.r 2 (.mv (.c (.d (.int .i64 0))))])
 .ret)))))))
theorem oa:fits Tryz.prog 107 Tryz.f107 iT [.t 2] 1=true:=oK
set_option maxRecDepth 100000 in
set_option maxHeartbeats 40000000 in
noncomputable def tX:(∀ (x0:ap),{m:Option (Int)//∀ r,m=some r->aa Tryz.prog 107 [.agg (aW x0)] (.int .i64 r)}):=by
 (intro x0;apply Subtype.mk;intro r hm;apply ag Tryz.func107 oa;unfold iT)
 repeat'(first|with_reducible refine bF ?_|with_reducible refine bu ?_|with_reducible refine bo ?_|with_reducible refine bl ?_|with_reducible refine bE ?_|with_reducible refine cg ?_|with_reducible refine bw ?_|with_reducible refine bG ?_|with_reducible refine cj ?_|with_reducible refine bA ?_|with_reducible refine br ?_|with_reducible refine bv ?_|with_reducible refine cF ?_|((with_reducible apply iE);(simp only[push_cast,seval];rfl);(first|exact trivial))|((with_reducible apply ed hm);(simp only[push_cast,seval];rfl);rfl;intro v hm;rotate_left;intro v g hm)|((with_reducible apply np hm);(simp only[push_cast,seval];rfl);rfl;intro v hm;rotate_left;intro v g hm)|((with_reducible apply ee hm);(simp only[push_cast,seval];rfl);(first|apply dk _ _ _|apply nC _ _);(any_goals((repeat'(first|rfl));done));intro x hm)|((with_reducible apply aM hm);(simp only[push_cast,seval];rfl);intro hm;rotate_left;intro hm)|((with_reducible apply bC hm);(focus(simp only[bk,cn,RV.get,push_cast,seval];rfl));(focus((repeat'(first|rfl));done)))|((with_reducible apply bR hm);(simp only[push_cast,seval];rfl))|((with_reducible apply bH hm);intro r hm)|((with_reducible apply cb hm);intro r hm)|((apply aH (b:=0) (X:=gP) (x:=dY) rfl (fun(c:SV) (s:Int)=>st [(1,c),(3,.d (.int .i64 s))] []) (c:=_) (s0:=_) hm);(focus(first|(dsimp only;done)));(with_reducible refine cA.mk ?_ ?_))|((apply bB (s':=_) hm);(focus(first|(dsimp only;done))))|((apply ct (s':=_) hm);(focus(first|(dsimp only;done))))|(((with_reducible apply ew hm);intro r hm))|(((with_reducible apply dw.of);(focus(first|(dsimp only;done)));(focus((intro _;repeat'(first|with_reducible exact bg|with_reducible refine aR ?_))));(intro s o hm;first|unfold dY);rotate_left;intro s hm))|(((apply bI;(repeat'(first|with_reducible exact aT|with_reducible exact aU|with_reducible apply aJ|((with_reducible apply aZ);(focus(first|(simp only[push_cast,seval];rfl)));(focus((repeat'(first|rfl));done)))));done))))
noncomputable def fj (x0:ap):Option (Int):=(tX x0).1
theorem nG (x0:ap):∀ r,fj x0=some r->aa Tryz.prog 107 [.agg (aW x0)] (.int .i64 r):=(tX x0).2
def em:SC:=
 (.seq (.seq (.reg [.r 35 (.mv (.t 5)),
   .r 36 (.fld 2 (.t 4)),
   .o 37 (.ld1 (.t 36)),
   .r 38 (.len (.t 37)),
   .r 39 (.bin .lss (.t 35) (.t 38))])
 (.cond (.t 39)
  .skip
  (.exit 2)))
 (.seq (.block 3 (.seq (.reg [.r 42 (.fld 2 (.t 4)),
    .o 43 (.ld1 (.t 42)),
    .r 44 (.mv (.t 5)),
    .r 45 (.idx 5 (.t 43) (.t 44)),
    .o 46 (.ldA 5 (.t 45)),
    .c 47 (.f 107) [.t 46],
    .r 6 (.mv (.t 47))])
  (.seq (.reg [.r 48 (.mv (.t 6)),
    .r 49 (.bin .neq (.t 48) (.c (.d (.int .i64 0))))])
  (.cond (.t 49)
   (.seq (.reg [.r 50 (.mv (.t 6)),
     .r 2 (.mv (.t 50))])
   .ret)
   .skip))))
 (.reg [.r 40 (.mv (.t 5)),
   .r 41 (.bin .add (.t 40) (.c (.d (.int .i64 1)))),
   .r 5 (.mv (.t 41))])))
def hP:SC:= .block 2 (.loop em)
def en:SC:=
 (.seq (.seq (.reg [.r 11 (.mv (.t 3)),
   .r 12 (.fld 1 (.t 1)),
   .o 13 (.ld1 (.t 12)),
   .r 14 (.len (.t 13)),
   .r 15 (.bin .lss (.t 11) (.t 14))])
 (.cond (.t 15)
  .skip
  (.exit 0)))
 (.seq (.block 1 (.seq (.reg [.r 18 (.fld 1 (.t 1)),
    .o 19 (.ld1 (.t 18)),
    .r 20 (.mv (.t 3)),
    .r 21 (.idx 3 (.t 19) (.t 20)),
    .o 22 (.ldA 3 (.t 21)),
    .w 4 (.boxM (.c (.agg [.d (.bool false),.d (.int .i64 0),.nils]))),
    .w 0 (.st 3 (.t 4) (.t 22))])
  (.seq (.seq (.reg [.r 23 (.fld 1 (.t 4)),
    .o 24 (.ld1 (.t 23)),
    .c 25 (.f 86) [.t 24,.c (.d (.int .i64 1)),.c (.d (.int .i64 20))],
    .r 26 (.not (.t 25))])
  (.cond (.t 26)
   (.seq (.reg [.r 2 (.mv (.c (.d (.int .i64 1))))])
   .ret)
   .skip))
  (.seq (.seq (.reg [.r 27 (.fld 2 (.t 4)),
    .o 28 (.ld1 (.t 27)),
    .r 29 (.len (.t 28)),
    .r 30 (.bin .eql (.t 29) (.c (.d (.int .i64 0))))])
  (.cond (.t 30)
   (.seq (.reg [.r 2 (.mv (.c (.d (.int .i64 9))))])
   .ret)
   .skip))
  (.seq (.seq (.reg [.r 31 (.fld 2 (.t 4)),
    .o 32 (.ld1 (.t 31)),
    .r 33 (.len (.t 32)),
    .r 34 (.bin .gtr (.t 33) (.c (.d (.int .i64 20))))])
  (.cond (.t 34)
   (.seq (.reg [.r 2 (.mv (.c (.d (.int .i64 2))))])
   .ret)
   .skip))
  (.seq (.reg [.r 5 (.mv (.c (.d (.int .i64 0))))])
  hP))))))
 (.reg [.r 16 (.mv (.t 3)),
   .r 17 (.bin .add (.t 16) (.c (.d (.int .i64 1)))),
   .r 3 (.mv (.t 17))])))
def hY:SC:= .block 0 (.loop en)
def jr:SC:=
 (.seq (.reg [.r 1 (.boxI (.t 0)),
   .r 2 (.mv (.c (.d (.int .i64 0))))])
 (.seq (.seq (.reg [.r 7 (.fld 1 (.t 1)),
   .o 8 (.ld1 (.t 7)),
   .r 9 (.len (.t 8)),
   .r 10 (.bin .gtr (.t 9) (.c (.d (.int .i64 50))))])
 (.cond (.t 10)
  (.seq (.reg [.r 2 (.mv (.c (.d (.int .i64 2))))])
  .ret)
  .skip))
 (.seq (.seq (.reg [.r 3 (.mv (.c (.d (.int .i64 0))))])
 hY)
 (.seq (.reg [.r 2 (.mv (.c (.d (.int .i64 0))))])
 .ret))))
theorem oP:fits Tryz.prog 62 Tryz.f62 jr [.t 2] 1=true:=oK
set_option maxRecDepth 100000 in
set_option maxHeartbeats 40000000 in
noncomputable def tY:(∀ (x0:ak),{m:Option (Int)//∀ r,m=some r->aa Tryz.prog 62 [.agg (am x0)] (.int .i64 r)}):=by
 (intro x0;apply Subtype.mk;intro r hm;apply ag Tryz.func62 oP;unfold jr)
 repeat'(first|with_reducible refine bF ?_|with_reducible refine bu ?_|with_reducible refine bo ?_|with_reducible refine bl ?_|with_reducible refine bE ?_|with_reducible refine cg ?_|with_reducible refine bw ?_|with_reducible refine bG ?_|with_reducible refine cj ?_|with_reducible refine bA ?_|with_reducible refine br ?_|with_reducible refine bv ?_|with_reducible refine cF ?_|((with_reducible apply cu hm);(iterate 2 (simp only[push_cast,seval];rfl));(intro _;rfl);intro e hm)|((with_reducible apply iE);(simp only[push_cast,seval];rfl);(first|exact trivial))|((with_reducible apply ee hm);(simp only[push_cast,seval];rfl);(first|apply dk _ _ _|apply nG _);(any_goals((repeat'(first|rfl));done));intro x hm)|((with_reducible apply uU);(simp only[push_cast,seval];rfl);(first|exact trivial))|((with_reducible apply aM hm);(simp only[push_cast,seval];rfl);intro hm;rotate_left;intro hm)|((with_reducible apply bC hm);(focus(simp only[bk,cn,RV.get,push_cast,seval];rfl));(focus((repeat'(first|rfl));done)))|((with_reducible apply bH hm);intro r hm)|((with_reducible apply cb hm);intro r hm)|((apply aH (b:=2) (X:=hP) (x:=em) rfl (fun(c:SV×SV×Ch) (s:Int)=>st [(1,c.1),(3,c.2.1),(4,.ref 4 0),(5,.d (.int .i64 s))] [(4,c.2.2)]) (c:=(_,_,_)) (s0:=_) hm);(focus(first|(dsimp only;done)));(with_reducible refine cA.mk ?_ ?_))|((apply aH (b:=0) (X:=hY) (x:=en) rfl (fun(c:SV) (s:Int)=>st [(1,c),(3,.d (.int .i64 s))] []) (c:=_) (s0:=_) hm);(focus(first|(dsimp only;done)));(with_reducible refine cA.mk ?_ ?_))|((apply bB (s':=_) hm);(focus(first|(dsimp only;done))))|((apply ct (s':=_) hm);(focus(first|(dsimp only;done))))|(((with_reducible apply ew hm);intro r hm))|(((with_reducible apply dw.of);(focus(first|(dsimp only;done)));(focus((intro _;repeat'(first|with_reducible exact bg|with_reducible refine aR ?_|with_reducible refine cr ?_|((with_reducible refine eT ?_);intro _)|((with_reducible refine eU ?_);intro _)))));(intro s o hm;first|unfold em|unfold en);rotate_left;intro s hm))|(((apply bI;(repeat'(first|with_reducible exact aT|with_reducible exact aU|with_reducible apply aJ|with_reducible apply c7|((with_reducible apply aZ);(focus(first|(simp only[push_cast,seval];rfl)));(focus((repeat'(first|rfl));done)))|((with_reducible apply iG);(focus(first|(simp only[push_cast,seval];rfl)));(first|with_reducible exact cT rfl))));done))))
noncomputable def fO (x0:ak):Option (Int):=(tY x0).1
theorem ob (x0:ak):∀ r,fO x0=some r->aa Tryz.prog 62 [.agg (am x0)] (.int .i64 r):=(tY x0).2
def dZ:SC:=
 (.seq (.seq (.reg [.r 8 (.mv (.t 3)),
   .r 9 (.mv (.t 0)),
   .r 10 (.len (.t 9)),
   .r 11 (.bin .lss (.t 8) (.t 10))])
 (.cond (.t 11)
  .skip
  (.exit 0)))
 (.seq (.block 1 (.seq (.seq (.reg [.r 14 (.mv (.t 0)),
    .r 15 (.mv (.t 3)),
    .r 16 (.idx 2 (.t 14) (.t 15)),
    .r 17 (.fld 0 (.t 16)),
    .o 18 (.ld1 (.t 17)),
    .c 19 (.f 61) [.t 18],
    .r 20 (.not (.t 19))])
  (.cond (.t 20)
   (.seq (.reg [.r 2 (.mv (.c (.d (.int .i64 5))))])
   .ret)
   .skip))
  (.seq (.seq (.regD (.r 21 (.mv (.t 3)):: .r 22 (.bin .gtr (.t 21) (.c (.d (.int .i64 0)))):: .r 23 (.mv (.t 22))::aI [24,25,26,27,28,29,30,31,32,33,34,35] 23 true (.r 24 (.mv (.t 0)):: .r 25 (.mv (.t 3)):: .r 26 (.idx 2 (.t 24) (.t 25)):: .r 27 (.fld 0 (.t 26)):: .r 28 (.ld1 (.t 27)):: .r 29 (.mv (.t 0)):: .r 30 (.mv (.t 3)):: .r 31 (.bin .sub (.t 30) (.c (.d (.int .i64 1)))):: .r 32 (.idx 2 (.t 29) (.t 31)):: .r 33 (.fld 0 (.t 32)):: .r 34 (.ld1 (.t 33)):: .r 35 (.bin .leq (.t 28) (.t 34))::[]) (.r 36 (.pick (.t 23) (.t 35) (.c (.d (.bool false))))::[])))
  (.cond (.t 36)
   (.seq (.reg [.r 2 (.mv (.c (.d (.int .i64 8))))])
   .ret)
   .skip))
  (.seq (.reg [.r 37 (.mv (.t 0)),
    .r 38 (.mv (.t 3)),
    .r 39 (.idx 2 (.t 37) (.t 38)),
    .o 40 (.ldA 2 (.t 39)),
    .c 41 (.f 62) [.t 40],
    .r 4 (.mv (.t 41))])
  (.seq (.reg [.r 42 (.mv (.t 4)),
    .r 43 (.bin .neq (.t 42) (.c (.d (.int .i64 0))))])
  (.cond (.t 43)
   (.seq (.reg [.r 44 (.mv (.t 4)),
     .r 2 (.mv (.t 44))])
   .ret)
   .skip))))))
 (.reg [.r 12 (.mv (.t 3)),
   .r 13 (.bin .add (.t 12) (.c (.d (.int .i64 1)))),
   .r 3 (.mv (.t 13))])))
def gQ:SC:= .block 0 (.loop dZ)
def iU:SC:=
 (.seq (.reg [.r 2 (.mv (.c (.d (.int .i64 0))))])
 (.seq (.seq (.reg [.r 5 (.mv (.t 0)),
   .r 6 (.len (.t 5)),
   .r 7 (.bin .gtr (.t 6) (.c (.d (.int .i64 100))))])
 (.cond (.t 7)
  (.seq (.reg [.r 2 (.mv (.c (.d (.int .i64 2))))])
  .ret)
  .skip))
 (.seq (.seq (.reg [.r 3 (.mv (.c (.d (.int .i64 0))))])
 gQ)
 (.seq (.reg [.r 2 (.mv (.c (.d (.int .i64 0))))])
 .ret))))
theorem oc:fits Tryz.prog 28 Tryz.f28 iU [.t 2] 1=true:=oK
set_option maxRecDepth 100000 in
set_option maxHeartbeats 40000000 in
noncomputable def tZ:(∀ (x0:List ak),{m:Option (Int)//∀ r,m=some r->aa Tryz.prog 28 [.slice (List.map am x0)] (.int .i64 r)}):=by
 (intro x0;apply Subtype.mk;intro r hm;apply ag Tryz.func28 oc;unfold iU)
 repeat'(first|with_reducible refine bF ?_|with_reducible refine bu ?_|with_reducible refine ou ?_|with_reducible refine bo ?_|with_reducible refine bl ?_|with_reducible refine bE ?_|with_reducible refine cg ?_|with_reducible refine bw ?_|with_reducible refine bG ?_|with_reducible refine cj ?_|with_reducible refine bA ?_|with_reducible refine br ?_|with_reducible refine bv ?_|with_reducible refine cF ?_|((with_reducible apply cu hm);(iterate 2 (simp only[push_cast,seval];rfl));(intro _;rfl);intro e hm)|((with_reducible apply iE);(simp only[push_cast,seval];rfl);(first|exact trivial))|((with_reducible apply ed hm);(simp only[push_cast,seval];rfl);rfl;intro v hm;rotate_left;intro v g hm)|((with_reducible apply ee hm);(simp only[push_cast,seval];rfl);(first|apply jZ _|apply ob _);(any_goals((repeat'(first|rfl));done));intro x hm)|((with_reducible apply aM hm);(simp only[push_cast,seval];rfl);intro hm;rotate_left;intro hm)|((with_reducible apply bC hm);(focus(simp only[bk,cn,RV.get,push_cast,seval];rfl));(focus((repeat'(first|rfl));done)))|((with_reducible apply bR hm);(simp only[push_cast,seval];rfl))|((with_reducible apply bH hm);intro r hm)|((with_reducible apply cb hm);intro r hm)|((apply aH (b:=0) (X:=gQ) (x:=dZ) rfl (fun(c:SV) (s:Int)=>st [(0,c),(3,.d (.int .i64 s))] []) (c:=_) (s0:=_) hm);(focus(first|(dsimp only;done)));(with_reducible refine cA.mk ?_ ?_))|((apply bB (s':=_) hm);(focus(first|(dsimp only;done))))|((apply ct (s':=_) hm);(focus(first|(dsimp only;done))))|(((with_reducible apply ew hm);intro r hm))|(((with_reducible apply dw.of);(focus(first|(dsimp only;done)));(focus((intro _;repeat'(first|with_reducible exact bg|with_reducible refine aR ?_))));(intro s o hm;first|unfold dZ);rotate_left;intro s hm))|(((apply bI;(repeat'(first|with_reducible exact aT|with_reducible exact aU|with_reducible apply aJ|((with_reducible apply aZ);(focus(first|(simp only[push_cast,seval];rfl)));(focus((repeat'(first|rfl));done)))));done))))
noncomputable def fk (x0:List ak):Option (Int):=(tZ x0).1
theorem nH (x0:List ak):∀ r,fk x0=some r->aa Tryz.prog 28 [.slice (List.map am x0)] (.int .i64 r):=(tZ x0).2
def hZ:SC:=
 (.seq (.reg [.r 1 (.boxI (.t 0)),
   .r 2 (.mv (.c (.d (.int .i64 0))))])
 (.seq (.seq (.reg (.r 6 (.fld 0 (.t 1)):: .o 7 (.ld1 (.t 6)):: .c 8 (.f 75) [.t 7]:: .r 9 (.not (.t 8)):: .r 10 (.mv (.t 9))::aI [11,12,13,14] 10 false (.r 11 (.fld 1 (.t 1)):: .r 12 (.ld1 (.t 11)):: .c 13 (.f 75) [.t 12]:: .r 14 (.not (.t 13))::[]) (.r 15 (.pick (.t 10) (.c (.d (.bool true))) (.t 14))::[])))
 (.cond (.t 15)
  (.seq (.reg [.r 2 (.mv (.c (.d (.int .i64 5))))])
  .ret)
  .skip))
 (.seq (.seq (.reg [.r 16 (.fld 2 (.t 1)),
   .o 17 (.ld1 (.t 16)),
   .c 18 (.f 28) [.t 17],
   .r 3 (.mv (.t 18))])
 (.seq (.reg [.r 19 (.mv (.t 3)),
   .r 20 (.bin .neq (.t 19) (.c (.d (.int .i64 0))))])
 (.cond (.t 20)
  (.seq (.reg [.r 21 (.mv (.t 3)),
    .r 2 (.mv (.t 21))])
  .ret)
  .skip)))
 (.seq (.seq (.reg [.o 23 (.ldA 4 (.t 1)),
   .r 24 (.fld 3 (.t 1)),
   .o 25 (.ld1 (.t 24)),
   .c 26 (.f 76) [.t 23,.t 25,.c (.d (.int .i64 0)),.c (.d (.int .i64 0))],
   .r 22 (.mv (.t 26)),
   .r 27 (.ext (.t 22) 0),
   .r 28 (.ext (.t 22) 1),
   .r 4 (.mv (.t 27)),
   .r 5 (.mv (.t 28))])
 (.seq (.reg [.r 29 (.mv (.t 5)),
   .r 30 (.bin .neq (.t 29) (.c (.d (.int .i64 0))))])
 (.cond (.t 30)
  (.seq (.reg [.r 31 (.mv (.t 5)),
    .r 2 (.mv (.t 31))])
  .ret)
  .skip)))
 (.seq (.seq (.reg [.r 32 (.fld 3 (.t 1)),
   .o 33 (.ld1 (.t 32)),
   .c 34 (.f 78) [.t 33],
   .c 35 (.f 77) [.t 34]])
 (.cond (.t 35)
  (.seq (.reg [.r 2 (.mv (.c (.d (.int .i64 7))))])
  .ret)
  .skip))
 (.seq (.seq (.reg [.r 36 (.fld 3 (.t 1)),
   .o 37 (.ld1 (.t 36)),
   .c 38 (.f 79) [.t 37,.c (.nils),.c (.d (.bool false))]])
 (.cond (.t 38)
  (.seq (.reg [.r 2 (.mv (.c (.d (.int .i64 12))))])
  .ret)
  .skip))
 (.seq (.reg [.r 2 (.mv (.c (.d (.int .i64 0))))])
 .ret)))))))
theorem m8:fits Tryz.prog 33 Tryz.f33 hZ [.t 2] 1=true:=oK
set_option maxRecDepth 100000 in
set_option maxHeartbeats 40000000 in
noncomputable def t6:(∀ (x0:ae),{m:Option (Int)//∀ r,m=some r->aa Tryz.prog 33 [.agg (ai x0)] (.int .i64 r)}):=by
 (intro x0;apply Subtype.mk;intro r hm;apply ag Tryz.func33 m8;unfold hZ)
 repeat'(first|with_reducible refine bF ?_|with_reducible refine bu ?_|with_reducible refine bl ?_|with_reducible refine bE ?_|with_reducible refine bw ?_|with_reducible refine bG ?_|with_reducible refine bA ?_|with_reducible refine cF ?_|((with_reducible apply iE);(simp only[push_cast,seval];rfl);(first|exact trivial))|((with_reducible apply np hm);(simp only[push_cast,seval];rfl);rfl;intro v hm;rotate_left;intro v g hm)|((with_reducible apply ee hm);(simp only[push_cast,seval];rfl);(first|apply jw _|apply nH _|apply dX FU _ _ _ _|apply fN FU _|apply jS _|apply eN FU _ _ _);(any_goals((repeat'(first|rfl|(with_reducible first|apply dh|apply dm|apply di)));done));intro x hm)|((with_reducible apply aM hm);(simp only[push_cast,seval];rfl);intro hm;rotate_left;intro hm)|((with_reducible apply bC hm);(focus(simp only[bk,cn,RV.get,push_cast,seval];rfl));(focus((repeat'(first|rfl));done)))|((with_reducible apply bR hm);(simp only[push_cast,seval];rfl)))
noncomputable def eB (x0:ae):Option (Int):=(t6 x0).1
theorem mI (x0:ae):∀ r,eB x0=some r->aa Tryz.prog 33 [.agg (ai x0)] (.int .i64 r):=(t6 x0).2
end Go.Proofs.YteaolfcegaidpaaGreatDoor
