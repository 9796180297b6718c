/-
  Laws on the way to the theorem.
-/
import Derived.Test.YteaolfcegaidpaaGreatDoorBY5
import Derived.Test.YteaolfcegaidpaaGreatDoorCards
import Derived.Test.YteaolfcegaidpaaGreatDoorTie
import Derived.Test.YteaolfcegaidpaaGreatDoorSYEngRn
namespace Go.Proofs.YteaolfcegaidpaaGreatDoor
open Go.RowKit
set_option linter.unusedSimpArgs false
set_option linter.unusedVariables false
def lg:SC:=
 (.seq (.reg [.r 6 (.mv (.c (.d (.bool false))))])
 (.seq (.reg (.r 7 (.mv (.t 1)):: .r 8 (.mv (.t 0)):: .r 9 (.bin .leq (.t 7) (.t 8)):: .r 10 (.mv (.t 9))::aV [11,12,13] 10 true (.r 11 (.mv (.t 0)):: .r 12 (.mv (.t 2)):: .r 13 (.bin .leq (.t 11) (.t 12))::[]) (.r 14 (.pick (.t 10) (.t 13) (.c (.d (.bool false)))):: .r 6 (.mv (.t 14))::[])))
 .ret))
theorem qI:fits Tryz.prog 187 Tryz.f187 lg [.t 6] 3=true:=oK
def li:SC:=
 (.seq (.reg [.r 2 (.mv (.c (.d (.int .i64 0))))])
 (.seq (.seq (.reg [.r 5 (.mv (.t 0)),
   .c 6 (.f 185) [.t 5],
   .r 7 (.not (.t 6))])
 (.cond (.t 7)
  (.seq (.reg [.r 2 (.mv (.c (.d (.int .i64 (-1)))))])
  .ret)
  .skip))
 (.seq (.reg [.r 9 (.mv (.t 0)),
   .c 10 (.f 186) [.t 9],
   .r 8 (.mv (.t 10)),
   .r 11 (.ext (.t 8) 0),
   .r 12 (.ext (.t 8) 1),
   .r 3 (.mv (.t 11)),
   .r 4 (.mv (.t 12))])
 (.seq (.reg [.r 13 (.mv (.t 3)),
   .r 2 (.mv (.t 13))])
 .ret))))
theorem qJ:fits Tryz.prog 188 Tryz.f188 li [.t 2] 1=true:=oK
def lj:SC:=
 (.seq (.reg [.r 2 (.mv (.c (.d (.bool false))))])
 (.seq (.reg (.r 3 (.mv (.t 0)):: .r 4 (.bin .rem (.t 3) (.c (.d (.int .i64 4)))):: .r 5 (.bin .eql (.t 4) (.c (.d (.int .i64 0)))):: .r 6 (.mv (.t 5))::aV [7,8,9] 6 true (.r 7 (.mv (.t 0)):: .r 8 (.bin .rem (.t 7) (.c (.d (.int .i64 100)))):: .r 9 (.bin .neq (.t 8) (.c (.d (.int .i64 0))))::[]) (.r 10 (.pick (.t 6) (.t 9) (.c (.d (.bool false)))):: .r 11 (.mv (.t 10))::aV [12,13,14] 11 false (.r 12 (.mv (.t 0)):: .r 13 (.bin .rem (.t 12) (.c (.d (.int .i64 400)))):: .r 14 (.bin .eql (.t 13) (.c (.d (.int .i64 0))))::[]) (.r 15 (.pick (.t 11) (.c (.d (.bool true))) (.t 14)):: .r 2 (.mv (.t 15))::[]))))
 .ret))
theorem qK:fits Tryz.prog 230 Tryz.f230 lj [.t 2] 1=true:=oK
def lm:SC:=
 (.seq (.reg [.r 2 (.mv (.c (.d (.int .i64 0))))])
 (.seq (.reg [.r 4 (.mv (.t 0)),
   .r 5 (.bin .sub (.t 4) (.c (.d (.int .i64 1)))),
   .r 3 (.mv (.t 5))])
 (.seq (.reg [.r 6 (.mv (.t 3)),
   .r 7 (.bin .mul (.c (.d (.int .i64 365))) (.t 6)),
   .r 8 (.mv (.t 3)),
   .r 9 (.bin .quo (.t 8) (.c (.d (.int .i64 4)))),
   .r 10 (.bin .add (.t 7) (.t 9)),
   .r 11 (.mv (.t 3)),
   .r 12 (.bin .quo (.t 11) (.c (.d (.int .i64 100)))),
   .r 13 (.bin .sub (.t 10) (.t 12)),
   .r 14 (.mv (.t 3)),
   .r 15 (.bin .quo (.t 14) (.c (.d (.int .i64 400)))),
   .r 16 (.bin .add (.t 13) (.t 15)),
   .r 2 (.mv (.t 16))])
 .ret)))
theorem qL:fits Tryz.prog 209 Tryz.f209 lm [.t 2] 1=true:=oK
set_option maxRecDepth 100000 in
set_option maxHeartbeats 40000000 in
noncomputable def eF:(∀ (x0:Int) (x1:Int) (x2:Int),{m:Option (Bool)//∀ r,m=some r->aa Tryz.prog 187 [.int .i64 x0,.int .i64 x1,.int .i64 x2] (.bool r)})×(∀ (x0:List UInt8),{m:Option (Int)//∀ r,m=some r->aa Tryz.prog 188 [.str x0] (.int .i64 r)})×(∀ (x0:Int),{m:Option (Bool)//∀ r,m=some r->aa Tryz.prog 230 [.int .i64 x0] (.bool r)})×(∀ (x0:Int),{m:Option (Int)//∀ r,m=some r->aa Tryz.prog 209 [.int .i64 x0] (.int .i64 r)}):=by
 refine⟨?g0, ?g1, ?g2, ?g3⟩
 case' g0=>(intro x0 x1 x2;apply Subtype.mk;intro r hm;apply af Tryz.func187 qI;unfold lg)
 case' g1=>(intro x0;apply Subtype.mk;intro r hm;apply af Tryz.func188 qJ;unfold li)
 case' g2=>(intro x0;apply Subtype.mk;intro r hm;apply af Tryz.func230 qK;unfold lj)
 case' g3=>(intro x0;apply Subtype.mk;intro r hm;apply af Tryz.func209 qL;unfold lm)
 all_goals(repeat'(first|with_reducible refine bA ?_|with_reducible refine bt ?_|with_reducible refine bl ?_|with_reducible refine bR ?_|with_reducible refine bv ?_|with_reducible refine bB ?_|with_reducible refine cb ?_|((with_reducible apply im);(simp only[push_cast,seval];rfl);(first|exact trivial))|((with_reducible apply fG hm);(simp only[push_cast,seval];rfl);rfl;intro v hm;rotate_left;intro v g hm)|((with_reducible apply qC hm);(simp only[push_cast,seval];rfl);rfl;intro v hm;rotate_left;intro v g hm)|((with_reducible apply fg hm);(simp only[push_cast,seval];rfl);(first|apply jh _|apply ji _);(any_goals((repeat'(first|rfl));done));intro x hm)|((with_reducible apply aO hm);(simp only[push_cast,seval];rfl);intro hm;rotate_left;intro hm)|((with_reducible apply bQ hm);(focus(simp only[bu,dc,RV.get,push_cast,seval];rfl));(focus((repeat'(first|rfl));done)))|((with_reducible apply cJ hm);(simp only[push_cast,seval];rfl))))
noncomputable def ip (x0:Int) (x1:Int) (x2:Int):Option (Bool):=(eF.1 x0 x1 x2).1
theorem j1 (x0:Int) (x1:Int) (x2:Int):∀ r,ip x0 x1 x2=some r->aa Tryz.prog 187 [.int .i64 x0,.int .i64 x1,.int .i64 x2] (.bool r):=(eF.1 x0 x1 x2).2
noncomputable def iq (x0:List UInt8):Option (Int):=(eF.2.1 x0).1
theorem qk (x0:List UInt8):∀ r,iq x0=some r->aa Tryz.prog 188 [.str x0] (.int .i64 r):=(eF.2.1 x0).2
noncomputable def ir (x0:Int):Option (Bool):=(eF.2.2.1 x0).1
theorem ql (x0:Int):∀ r,ir x0=some r->aa Tryz.prog 230 [.int .i64 x0] (.bool r):=(eF.2.2.1 x0).2
noncomputable def iu (x0:Int):Option (Int):=(eF.2.2.2 x0).1
theorem qm (x0:Int):∀ r,iu x0=some r->aa Tryz.prog 209 [.int .i64 x0] (.int .i64 r):=(eF.2.2.2 x0).2
def ln:SC:=
 (.seq (.reg [.r 4 (.mv (.c (.d (.int .i64 0))))])
 (.seq (.seq (.reg [.r 5 (.mv (.t 1))])
 (.block 0 (.seq (.reg [.r 7 (.bin .eql (.t 5) (.c (.d (.int .i64 2)))),
    .r 6 (.mv (.t 7))])
  (.cond (.t 6)
   (.seq (.seq (.reg [.r 8 (.mv (.t 0)),
     .c 9 (.f 230) [.t 8]])
   (.cond (.t 9)
    (.seq (.reg [.r 4 (.mv (.c (.d (.int .i64 29))))])
    .ret)
    .skip))
   (.seq (.reg [.r 4 (.mv (.c (.d (.int .i64 28))))])
   .ret))
   (.seq (.seq (.reg [.r 11 (.bin .eql (.t 5) (.c (.d (.int .i64 4)))),
     .r 10 (.mv (.t 11))])
   (.cond (.t 10)
    .skip
    (.seq (.reg [.r 12 (.bin .eql (.t 5) (.c (.d (.int .i64 6)))),
      .r 10 (.mv (.t 12))])
    (.cond (.t 10)
     .skip
     (.seq (.reg [.r 13 (.bin .eql (.t 5) (.c (.d (.int .i64 9)))),
       .r 10 (.mv (.t 13))])
     (.cond (.t 10)
      .skip
      (.reg [.r 14 (.bin .eql (.t 5) (.c (.d (.int .i64 11)))),
        .r 10 (.mv (.t 14))])))))))
   (.cond (.t 10)
    (.seq (.reg [.r 4 (.mv (.c (.d (.int .i64 30))))])
    .ret)
    .skip))))))
 (.seq (.reg [.r 4 (.mv (.c (.d (.int .i64 31))))])
 .ret)))
theorem qM:fits Tryz.prog 211 Tryz.f211 ln [.t 4] 2=true:=oK
set_option maxRecDepth 100000 in
set_option maxHeartbeats 40000000 in
noncomputable def uY:(∀ (x0:Int) (x1:Int),{m:Option (Int)//∀ r,m=some r->aa Tryz.prog 211 [.int .i64 x0,.int .i64 x1] (.int .i64 r)}):=by
 (intro x0 x1;apply Subtype.mk;intro r hm;apply af Tryz.func211 qM;unfold ln)
 repeat'(first|with_reducible refine bA ?_|with_reducible refine bt ?_|with_reducible refine bm ?_|with_reducible refine bl ?_|with_reducible refine bR ?_|with_reducible refine bv ?_|with_reducible refine bB ?_|with_reducible refine cb ?_|with_reducible refine bq ?_|with_reducible refine cg ?_|((with_reducible apply im);(simp only[push_cast,seval];rfl);(first|exact trivial))|((with_reducible apply fg hm);(simp only[push_cast,seval];rfl);(first|apply ql _);(any_goals((repeat'(first|rfl));done));intro x hm)|((with_reducible apply aO hm);(simp only[push_cast,seval];rfl);intro hm;rotate_left;intro hm)|((with_reducible apply bQ hm);(focus(simp only[bu,dc,RV.get,push_cast,seval];rfl));(focus((repeat'(first|rfl));done))))
noncomputable def iv (x0:Int) (x1:Int):Option (Int):=(uY x0 x1).1
theorem j2 (x0:Int) (x1:Int):∀ r,iv x0 x1=some r->aa Tryz.prog 211 [.int .i64 x0,.int .i64 x1] (.int .i64 r):=(uY x0 x1).2
def fS:SC:=
 (.seq (.seq (.reg [.r 13 (.mv (.t 8)),
   .r 14 (.mv (.t 1)),
   .r 15 (.bin .lss (.t 13) (.t 14))])
 (.cond (.t 15)
  .skip
  (.exit 0)))
 (.seq (.block 1 (.reg [.r 18 (.mv (.t 7)),
    .r 19 (.mv (.t 0)),
    .r 20 (.mv (.t 8)),
    .c 21 (.f 211) [.t 19,.t 20],
    .r 22 (.bin .add (.t 18) (.t 21)),
    .r 7 (.mv (.t 22))]))
 (.reg [.r 16 (.mv (.t 8)),
   .r 17 (.bin .add (.t 16) (.c (.d (.int .i64 1)))),
   .r 8 (.mv (.t 17))])))
def j3:SC:= .block 0 (.loop fS)
def lO:SC:=
 (.seq (.reg [.r 6 (.mv (.c (.d (.int .i64 0))))])
 (.seq (.reg [.r 9 (.mv (.t 0)),
   .c 10 (.f 209) [.t 9],
   .r 11 (.mv (.t 2)),
   .r 12 (.bin .add (.t 10) (.t 11)),
   .r 7 (.mv (.t 12))])
 (.seq (.seq (.reg [.r 8 (.mv (.c (.d (.int .i64 1))))])
 j3)
 (.seq (.reg [.r 23 (.mv (.t 7)),
   .r 6 (.mv (.t 23))])
 .ret))))
theorem rB:fits Tryz.prog 212 Tryz.f212 lO [.t 6] 3=true:=oK
set_option maxRecDepth 100000 in
set_option maxHeartbeats 40000000 in
noncomputable def uZ:(∀ (x0:Int) (x1:Int) (x2:Int),{m:Option (Int)//∀ r,m=some r->aa Tryz.prog 212 [.int .i64 x0,.int .i64 x1,.int .i64 x2] (.int .i64 r)}):=by
 (intro x0 x1 x2;apply Subtype.mk;intro r hm;apply af Tryz.func212 rB;unfold lO)
 repeat'(first|with_reducible refine bA ?_|with_reducible refine bt ?_|with_reducible refine bm ?_|with_reducible refine bl ?_|with_reducible refine bR ?_|with_reducible refine cw ?_|with_reducible refine bv ?_|with_reducible refine bB ?_|with_reducible refine cx ?_|with_reducible refine bq ?_|((with_reducible apply im);(simp only[push_cast,seval];rfl);(first|exact trivial))|((with_reducible apply fg hm);(simp only[push_cast,seval];rfl);(first|apply qm _|apply j2 _ _);(any_goals((repeat'(first|rfl));done));intro x hm)|((with_reducible apply aO hm);(simp only[push_cast,seval];rfl);intro hm;rotate_left;intro hm)|((with_reducible apply bQ hm);(focus(simp only[bu,dc,RV.get,push_cast,seval];rfl));(focus((repeat'(first|rfl));done)))|((with_reducible apply bE hm);intro r hm)|((apply az (b:=0) (X:=j3) (x:=fS) rfl (fun(c:SV×SV) (s:Int×Int)=>st [(0,c.1),(1,c.2),(7,.d (.int .i64 s.1)),(8,.d (.int .i64 s.2))] []) (c:=(_,_)) (s0:=(_,_)) hm);(focus(first|(dsimp only;done)));(with_reducible refine cN.mk ?_ ?_))|((apply bG (s':=(_,_)) hm);(focus(first|(dsimp only;done))))|((apply cZ (s':=(_,_)) hm);(focus(first|(dsimp only;done))))|(((with_reducible apply dC.of);(focus(first|(dsimp only;done)));(focus((intro _;repeat'(first|with_reducible exact bo|with_reducible refine aG ?_))));(intro s o hm;first|unfold fS);rotate_left;intro s hm))|(((apply aW;(repeat'(first|with_reducible exact aw|with_reducible exact ax|with_reducible apply ap|((with_reducible apply aP);(focus(first|(simp only[push_cast,seval];rfl)));(focus((repeat'(first|rfl));done)))));done))))
noncomputable def iU (x0:Int) (x1:Int) (x2:Int):Option (Int):=(uZ x0 x1 x2).1
theorem qN (x0:Int) (x1:Int) (x2:Int):∀ r,iU x0 x1 x2=some r->aa Tryz.prog 212 [.int .i64 x0,.int .i64 x1,.int .i64 x2] (.int .i64 r):=(uZ x0 x1 x2).2
def lP:SC:=
 (.seq (.reg [.r 6 (.mv (.c (.d (.int .i64 0)))),
   .r 7 (.mv (.c (.d (.int .i64 0))))])
 (.seq (.seq (.reg (.r 8 (.mv (.t 0)):: .c 9 (.f 187) [.t 8,.c (.d (.int .i64 1)),.c (.d (.int .i64 9999))]:: .r 10 (.not (.t 9)):: .r 11 (.mv (.t 10))::aV [12,13,14] 11 false (.r 12 (.mv (.t 1)):: .c 13 (.f 187) [.t 12,.c (.d (.int .i64 1)),.c (.d (.int .i64 12))]:: .r 14 (.not (.t 13))::[]) (.r 15 (.pick (.t 11) (.c (.d (.bool true))) (.t 14)):: .r 16 (.mv (.t 15))::aV [17,18,19,20,21,22] 16 false (.r 17 (.mv (.t 2)):: .r 18 (.mv (.t 0)):: .r 19 (.mv (.t 1)):: .c 20 (.f 211) [.t 18,.t 19]:: .c 21 (.f 187) [.t 17,.c (.d (.int .i64 1)),.t 20]:: .r 22 (.not (.t 21))::[]) (.r 23 (.pick (.t 16) (.c (.d (.bool true))) (.t 22))::[]))))
 (.cond (.t 23)
  (.seq (.reg [.r 6 (.mv (.c (.d (.int .i64 0)))),
    .r 7 (.mv (.c (.d (.int .i64 1))))])
  .ret)
  .skip))
 (.seq (.reg [.r 24 (.mv (.t 0)),
   .r 25 (.mv (.t 1)),
   .r 26 (.mv (.t 2)),
   .c 27 (.f 212) [.t 24,.t 25,.t 26],
   .r 6 (.mv (.t 27)),
   .r 7 (.mv (.c (.d (.int .i64 0))))])
 .ret)))
theorem rC:fits Tryz.prog 190 Tryz.f190 lP [.t 6,.t 7] 3=true:=oK
set_option maxRecDepth 100000 in
set_option maxHeartbeats 40000000 in
noncomputable def u_:(∀ (x0:Int) (x1:Int) (x2:Int),{m:Option (Int×Int)//∀ r,m=some r->aa Tryz.prog 190 [.int .i64 x0,.int .i64 x1,.int .i64 x2] (.tup [.int .i64 r.1,.int .i64 r.2])}):=by
 (intro x0 x1 x2;apply Subtype.mk;intro r hm;apply af Tryz.func190 rC;unfold lP)
 repeat'(first|with_reducible refine bA ?_|with_reducible refine bt ?_|with_reducible refine bl ?_|with_reducible refine bR ?_|with_reducible refine bv ?_|with_reducible refine bB ?_|with_reducible refine cb ?_|((with_reducible apply im);(simp only[push_cast,seval];rfl);(first|exact trivial))|((with_reducible apply qC hm);(simp only[push_cast,seval];rfl);rfl;intro v hm;rotate_left;intro v g hm)|((with_reducible apply fg hm);(simp only[push_cast,seval];rfl);(first|apply j1 _ _ _|apply j2 _ _|apply qN _ _ _);(any_goals((repeat'(first|rfl));done));intro x hm)|((with_reducible apply aO hm);(simp only[push_cast,seval];rfl);intro hm;rotate_left;intro hm)|((with_reducible apply jO hm);(focus(simp only[bu,dc,RV.get,push_cast,seval];rfl));(focus(first|(dsimp only;done)));(focus((repeat'(first|rfl));done)))|((with_reducible apply cJ hm);(simp only[push_cast,seval];rfl)))
noncomputable def fm (x0:Int) (x1:Int) (x2:Int):Option (Int×Int):=(u_ x0 x1 x2).1
theorem qO (x0:Int) (x1:Int) (x2:Int):∀ r,fm x0 x1 x2=some r->aa Tryz.prog 190 [.int .i64 x0,.int .i64 x1,.int .i64 x2] (.tup [.int .i64 r.1,.int .i64 r.2]):=(u_ x0 x1 x2).2
def kB:SC:=
 (.seq (.reg [.r 6 (.mv (.c (.d (.int .i64 0)))),
   .r 7 (.mv (.c (.d (.int .i64 0))))])
 (.seq (.seq (.reg [.r 13 (.mv (.t 1)),
   .c 14 (.f 187) [.t 13,.c (.d (.int .i64 1)),.c (.d (.int .i64 5))],
   .r 15 (.not (.t 14))])
 (.cond (.t 15)
  (.seq (.reg [.r 6 (.mv (.c (.d (.int .i64 0)))),
    .r 7 (.mv (.c (.d (.int .i64 4))))])
  .ret)
  .skip))
 (.seq (.seq (.reg [.r 16 (.mv (.t 2)),
   .c 17 (.f 187) [.t 16,.c (.d (.int .i64 1)),.c (.d (.int .i64 9900))],
   .r 18 (.not (.t 17))])
 (.cond (.t 18)
  (.seq (.reg [.r 6 (.mv (.c (.d (.int .i64 0)))),
    .r 7 (.mv (.c (.d (.int .i64 1))))])
  .ret)
  .skip))
 (.seq (.reg [.r 8 (.mv (.c (.d (.int .i64 (-1))))),
   .r 9 (.mv (.c (.d (.int .i64 (-1))))),
   .r 10 (.mv (.c (.d (.int .i64 (-1)))))])
 (.seq (.block 0 (.seq (.reg (.r 20 (.mv (.t 1)):: .r 21 (.bin .eql (.t 20) (.c (.d (.int .i64 1)))):: .r 22 (.mv (.t 21))::aV [23,24,25] 22 true (.r 23 (.mv (.t 0)):: .r 24 (.lenT (.t 23)):: .r 25 (.bin .eql (.t 24) (.c (.d (.int .i64 8))))::[]) (.r 26 (.pick (.t 22) (.t 25) (.c (.d (.bool false)))):: .r 19 (.mv (.t 26))::[])))
  (.cond (.t 19)
   (.regD [.r 27 (.mv (.t 0)),
     .r 28 (.sslc (.t 27) none (some (.c (.d (.int .i64 4))))),
     .c 29 (.f 188) [.t 28],
     .r 30 (.mv (.t 0)),
     .r 31 (.sslc (.t 30) (some (.c (.d (.int .i64 4)))) (some (.c (.d (.int .i64 6))))),
     .c 32 (.f 188) [.t 31],
     .r 33 (.mv (.t 0)),
     .r 34 (.sslc (.t 33) (some (.c (.d (.int .i64 6)))) none),
     .c 35 (.f 188) [.t 34],
     .r 8 (.mv (.t 29)),
     .r 9 (.mv (.t 32)),
     .r 10 (.mv (.t 35))])
   (.seq (.reg (.r 37 (.mv (.t 1)):: .r 38 (.bin .eql (.t 37) (.c (.d (.int .i64 2)))):: .r 39 (.mv (.t 38))::aV [40,41,42] 39 true (.r 40 (.mv (.t 0)):: .r 41 (.lenT (.t 40)):: .r 42 (.bin .eql (.t 41) (.c (.d (.int .i64 6))))::[]) (.r 43 (.pick (.t 39) (.t 42) (.c (.d (.bool false)))):: .r 36 (.mv (.t 43))::[])))
   (.cond (.t 36)
    .any
    (.seq (.reg (.r 64 (.mv (.t 1)):: .r 65 (.bin .eql (.t 64) (.c (.d (.int .i64 3)))):: .r 66 (.mv (.t 65))::aV [67,68,69] 66 true (.r 67 (.mv (.t 0)):: .r 68 (.lenT (.t 67)):: .r 69 (.bin .eql (.t 68) (.c (.d (.int .i64 8))))::[]) (.r 70 (.pick (.t 66) (.t 69) (.c (.d (.bool false)))):: .r 63 (.mv (.t 70))::[])))
    (.cond (.t 63)
     .any
     (.seq (.reg (.r 81 (.mv (.t 1)):: .r 82 (.bin .eql (.t 81) (.c (.d (.int .i64 4)))):: .r 83 (.mv (.t 82))::aV [84,85,86] 83 true (.r 84 (.mv (.t 0)):: .r 85 (.lenT (.t 84)):: .r 86 (.bin .eql (.t 85) (.c (.d (.int .i64 10))))::[]) (.r 87 (.pick (.t 83) (.t 86) (.c (.d (.bool false)))):: .r 88 (.mv (.t 87))::aV [89,90,91] 88 true (.r 89 (.mv (.t 0)):: .r 90 (.sidx (.t 89) (.c (.d (.int .i64 4)))):: .r 91 (.bin .eql (.t 90) (.c (.d (.int .u8 45))))::[]) (.r 92 (.pick (.t 88) (.t 91) (.c (.d (.bool false)))):: .r 93 (.mv (.t 92))::aV [94,95,96] 93 true (.r 94 (.mv (.t 0)):: .r 95 (.sidx (.t 94) (.c (.d (.int .i64 7)))):: .r 96 (.bin .eql (.t 95) (.c (.d (.int .u8 45))))::[]) (.r 97 (.pick (.t 93) (.t 96) (.c (.d (.bool false)))):: .r 80 (.mv (.t 97))::[])))))
     (.cond (.t 80)
      .any
      (.seq (.reg (.r 108 (.mv (.t 1)):: .r 109 (.bin .eql (.t 108) (.c (.d (.int .i64 5)))):: .r 110 (.mv (.t 109))::aV [111,112,113] 110 true (.r 111 (.mv (.t 0)):: .r 112 (.lenT (.t 111)):: .r 113 (.bin .eql (.t 112) (.c (.d (.int .i64 7))))::[]) (.r 114 (.pick (.t 110) (.t 113) (.c (.d (.bool false)))):: .r 107 (.mv (.t 114))::[])))
      (.cond (.t 107)
       .any
       .skip)))))))))))
 (.seq (.reg [.r 120 (.mv (.t 8)),
   .r 121 (.mv (.t 9)),
   .r 122 (.mv (.t 10)),
   .c 123 (.f 190) [.t 120,.t 121,.t 122],
   .r 119 (.mv (.t 123)),
   .r 124 (.ext (.t 119) 0),
   .r 125 (.ext (.t 119) 1),
   .r 11 (.mv (.t 124)),
   .r 12 (.mv (.t 125))])
 (.seq (.seq (.reg [.r 126 (.mv (.t 12)),
   .r 127 (.bin .neq (.t 126) (.c (.d (.int .i64 0))))])
 (.cond (.t 127)
  (.seq (.reg [.r 6 (.mv (.c (.d (.int .i64 0)))),
    .r 7 (.mv (.c (.d (.int .i64 10))))])
  .ret)
  .skip))
 (.seq (.reg [.r 128 (.mv (.t 11)),
   .r 6 (.mv (.t 128)),
   .r 7 (.mv (.c (.d (.int .i64 0))))])
 .ret))))))))
theorem qn:fits Tryz.prog 168 Tryz.f168 kB [.t 6,.t 7] 3=true:=oK
set_option maxRecDepth 100000 in
set_option maxHeartbeats 40000000 in
noncomputable def va:(∀ (x0:List UInt8) (x1:Int) (x2:Int),{m:Option (Int×Int)//∀ r,m=some r->aa Tryz.prog 168 [.str x0,.int .i64 x1,.int .i64 x2] (.tup [.int .i64 r.1,.int .i64 r.2])}):=by
 (intro x0 x1 x2;apply Subtype.mk;intro r hm;apply af Tryz.func168 qn;unfold kB)
 repeat'(first|with_reducible refine bA ?_|with_reducible refine bt ?_|with_reducible refine uE ?_|with_reducible refine bm ?_|with_reducible refine bl ?_|with_reducible refine bR ?_|with_reducible refine bv ?_|with_reducible refine bB ?_|with_reducible refine cb ?_|with_reducible refine bq ?_|((with_reducible apply nA hm);(iterate 2 (simp only[push_cast,seval];rfl));intro e hm)|((with_reducible apply He hm);(iterate 3 (simp only[push_cast,seval];rfl));intro e hm)|((with_reducible apply im);(simp only[push_cast,seval];rfl);(first|exact trivial))|(with_reducible apply yl hm)|((with_reducible apply fG hm);(simp only[push_cast,seval];rfl);rfl;intro v hm;rotate_left;intro v g hm)|((with_reducible apply fg hm);(simp only[push_cast,seval];rfl);(first|apply j1 _ _ _|apply qk _|apply qO _ _ _);(any_goals((repeat'(first|rfl));done));intro x hm)|((with_reducible apply aO hm);(simp only[push_cast,seval];rfl);intro hm;rotate_left;intro hm)|((with_reducible apply jO hm);(focus(simp only[bu,dc,RV.get,push_cast,seval];rfl));(focus(first|(dsimp only;done)));(focus((repeat'(first|rfl));done)))|((with_reducible apply cJ hm);(simp only[push_cast,seval];rfl)))
 all_goals(intros;exact())
noncomputable def gU (x0:List UInt8) (x1:Int) (x2:Int):Option (Int×Int):=(va x0 x1 x2).1
theorem pR (x0:List UInt8) (x1:Int) (x2:Int):∀ r,gU x0 x1 x2=some r->aa Tryz.prog 168 [.str x0,.int .i64 x1,.int .i64 x2] (.tup [.int .i64 r.1,.int .i64 r.2]):=(va x0 x1 x2).2
def lq:SC:=
 (.seq (.reg [.r 6 (.mv (.c (.d (.bool false))))])
 (.seq (.reg (.r 7 (.mv (.t 0)):: .r 8 (.mv (.t 1)):: .r 9 (.bin .geq (.t 7) (.t 8)):: .r 10 (.mv (.t 9))::aV [11,12,13] 10 true (.r 11 (.mv (.t 0)):: .r 12 (.mv (.t 2)):: .r 13 (.bin .leq (.t 11) (.t 12))::[]) (.r 14 (.pick (.t 10) (.t 13) (.c (.d (.bool false)))):: .r 6 (.mv (.t 14))::[])))
 .ret))
theorem qZ:fits Tryz.prog 86 Tryz.f86 lq [.t 6] 3=true:=oK
def gz:SC:=
 (.seq (.seq (.reg [.r 30 (.mv (.t 9)),
   .r 31 (.mv (.t 0)),
   .r 32 (.lenT (.t 31)),
   .r 33 (.bin .lss (.t 30) (.t 32))])
 (.cond (.t 33)
  .skip
  (.exit 1)))
 (.seq (.block 2 (.seq (.reg [.r 36 (.mv (.t 0)),
    .r 37 (.mv (.t 9)),
    .r 38 (.sidx (.t 36) (.t 37)),
    .r 10 (.mv (.t 38))])
  (.seq (.seq (.reg (.r 39 (.mv (.t 1)):: .r 40 (.bin .eql (.t 39) (.c (.d (.int .i64 1)))):: .r 41 (.mv (.t 40))::aV [42,43,44,45,46,47] 41 true (.r 42 (.mv (.t 10)):: .r 43 (.bin .lss (.t 42) (.c (.d (.int .u8 32)))):: .r 44 (.mv (.t 43))::aV [45,46] 44 false (.r 45 (.mv (.t 10)):: .r 46 (.bin .gtr (.t 45) (.c (.d (.int .u8 126))))::[]) (.r 47 (.pick (.t 44) (.c (.d (.bool true))) (.t 46))::[])) (.r 48 (.pick (.t 41) (.t 47) (.c (.d (.bool false))))::[])))
  (.cond (.t 48)
   (.seq (.reg [.r 4 (.mv (.c (.d (.bool false))))])
   .ret)
   .skip))
  (.seq (.seq (.reg (.r 49 (.mv (.t 1)):: .r 50 (.bin .eql (.t 49) (.c (.d (.int .i64 2)))):: .r 51 (.mv (.t 50))::aV [52,53,54,55,56,57,58,59,60,61,62,63,64,65,66,67,68,69,70] 51 true (.r 52 (.mv (.t 10)):: .r 53 (.bin .geq (.t 52) (.c (.d (.int .u8 65)))):: .r 54 (.mv (.t 53))::aV [55,56] 54 true (.r 55 (.mv (.t 10)):: .r 56 (.bin .leq (.t 55) (.c (.d (.int .u8 90))))::[]) (.r 57 (.pick (.t 54) (.t 56) (.c (.d (.bool false)))):: .r 58 (.mv (.t 57))::aV [59,60,61,62,63,64] 58 false (.r 59 (.mv (.t 10)):: .r 60 (.bin .geq (.t 59) (.c (.d (.int .u8 97)))):: .r 61 (.mv (.t 60))::aV [62,63] 61 true (.r 62 (.mv (.t 10)):: .r 63 (.bin .leq (.t 62) (.c (.d (.int .u8 122))))::[]) (.r 64 (.pick (.t 61) (.t 63) (.c (.d (.bool false))))::[])) (.r 65 (.pick (.t 58) (.c (.d (.bool true))) (.t 64)):: .r 66 (.mv (.t 65))::aV [67,68] 66 false (.r 67 (.mv (.t 10)):: .r 68 (.bin .eql (.t 67) (.c (.d (.int .u8 32))))::[]) (.r 69 (.pick (.t 66) (.c (.d (.bool true))) (.t 68)):: .r 70 (.not (.t 69))::[])))) (.r 71 (.pick (.t 51) (.t 70) (.c (.d (.bool false))))::[])))
  (.cond (.t 71)
   (.seq (.reg [.r 4 (.mv (.c (.d (.bool false))))])
   .ret)
   .skip))
  (.seq (.reg (.r 72 (.mv (.t 1)):: .r 73 (.bin .eql (.t 72) (.c (.d (.int .i64 3)))):: .r 74 (.mv (.t 73))::aV [75,76,77,78,79,80] 74 true (.r 75 (.mv (.t 10)):: .r 76 (.bin .lss (.t 75) (.c (.d (.int .u8 48)))):: .r 77 (.mv (.t 76))::aV [78,79] 77 false (.r 78 (.mv (.t 10)):: .r 79 (.bin .gtr (.t 78) (.c (.d (.int .u8 57))))::[]) (.r 80 (.pick (.t 77) (.c (.d (.bool true))) (.t 79))::[])) (.r 81 (.pick (.t 74) (.t 80) (.c (.d (.bool false))))::[])))
  (.cond (.t 81)
   (.seq (.reg [.r 4 (.mv (.c (.d (.bool false))))])
   .ret)
   .skip))))))
 (.reg [.r 34 (.mv (.t 9)),
   .r 35 (.bin .add (.t 34) (.c (.d (.int .i64 1)))),
   .r 9 (.mv (.t 35))])))
def kI:SC:= .block 1 (.loop gz)
def mV:SC:=
 (.seq (.reg [.r 4 (.mv (.c (.d (.bool false))))])
 (.seq (.seq (.reg [.r 11 (.mv (.t 1))])
 (.block 0 (.seq (.reg [.r 13 (.bin .eql (.t 11) (.c (.d (.int .i64 4)))),
    .r 12 (.mv (.t 13))])
  (.cond (.t 12)
   (.seq (.reg [.r 15 (.mv (.t 0)),
     .c 16 (.f 167) [.t 15],
     .r 14 (.mv (.t 16)),
     .r 17 (.ext (.t 14) 0),
     .r 18 (.ext (.t 14) 1),
     .w 5 (.boxM (.c (.agg [.d (.int .i64 0),.d (.int .i64 0)]))),
     .w 0 (.st 2 (.t 5) (.t 17)),
     .r 6 (.mv (.t 18))])
   (.seq (.reg [.r 19 (.mv (.t 6)),
     .r 20 (.bin .eql (.t 19) (.c (.d (.int .i64 0)))),
     .r 4 (.mv (.t 20))])
   .ret))
   (.seq (.reg [.r 22 (.bin .eql (.t 11) (.c (.d (.int .i64 5)))),
     .r 21 (.mv (.t 22))])
   (.cond (.t 21)
    (.seq (.reg [.r 24 (.mv (.t 0)),
      .c 25 (.f 168) [.t 24,.c (.d (.int .i64 1)),.c (.d (.int .i64 1))],
      .r 23 (.mv (.t 25)),
      .r 26 (.ext (.t 23) 0),
      .r 27 (.ext (.t 23) 1),
      .r 7 (.mv (.t 26)),
      .r 8 (.mv (.t 27))])
    (.seq (.reg [.r 28 (.mv (.t 8)),
      .r 29 (.bin .eql (.t 28) (.c (.d (.int .i64 0)))),
      .r 4 (.mv (.t 29))])
    .ret))
    .skip))))))
 (.seq (.seq (.reg [.r 9 (.mv (.c (.d (.int .i64 0))))])
 kI)
 (.seq (.reg [.r 4 (.mv (.c (.d (.bool true))))])
 .ret))))
theorem sr:fits Tryz.prog 147 Tryz.f147 mV [.t 4] 2=true:=oK
def fT:SC:=
 (.seq (.seq (.reg [.r 11 (.mv (.t 4)),
   .r 12 (.mv (.t 3)),
   .r 13 (.bin .lss (.t 11) (.t 12))])
 (.cond (.t 13)
  .skip
  (.exit 2)))
 (.seq (.block 3 (.seq (.regD [.r 16 (.mv (.t 0)),
    .r 17 (.mv (.t 3)),
    .r 18 (.idx 1 (.t 16) (.t 17)),
    .r 19 (.ld1 (.t 18)),
    .r 20 (.mv (.t 0)),
    .r 21 (.mv (.t 4)),
    .r 22 (.idx 1 (.t 20) (.t 21)),
    .r 23 (.ld1 (.t 22)),
    .r 24 (.bin .eql (.t 19) (.t 23))])
  (.cond (.t 24)
   (.seq (.reg [.r 2 (.mv (.c (.d (.bool true))))])
   .ret)
   .skip)))
 (.reg [.r 14 (.mv (.t 4)),
   .r 15 (.bin .add (.t 14) (.c (.d (.int .i64 1)))),
   .r 4 (.mv (.t 15))])))
def j5:SC:= .block 2 (.loop fT)
def fU:SC:=
 (.seq (.seq (.reg [.r 5 (.mv (.t 3)),
   .r 6 (.mv (.t 0)),
   .r 7 (.len (.t 6)),
   .r 8 (.bin .lss (.t 5) (.t 7))])
 (.cond (.t 8)
  .skip
  (.exit 0)))
 (.seq (.block 1 (.seq (.reg [.r 4 (.mv (.c (.d (.int .i64 0))))])
  j5))
 (.reg [.r 9 (.mv (.t 3)),
   .r 10 (.bin .add (.t 9) (.c (.d (.int .i64 1)))),
   .r 3 (.mv (.t 10))])))
def j6:SC:= .block 0 (.loop fU)
def lS:SC:=
 (.seq (.reg [.r 2 (.mv (.c (.d (.bool false))))])
 (.seq (.seq (.reg [.r 3 (.mv (.c (.d (.int .i64 0))))])
 j6)
 (.seq (.reg [.r 2 (.mv (.c (.d (.bool false))))])
 .ret)))
theorem rD:fits Tryz.prog 77 Tryz.f77 lS [.t 2] 1=true:=oK
set_option maxRecDepth 100000 in
set_option maxHeartbeats 40000000 in
noncomputable def mW:(∀ (x0:Int) (x1:Int) (x2:Int),{m:Option (Bool)//∀ r,m=some r->aa Tryz.prog 86 [.int .i64 x0,.int .i64 x1,.int .i64 x2] (.bool r)})×(∀ (x0:List UInt8) (x1:Int),{m:Option (Bool)//∀ r,m=some r->aa Tryz.prog 147 [.str x0,.int .i64 x1] (.bool r)})×(∀ (x0:List (List UInt8)),{m:Option (Bool)//∀ r,m=some r->aa Tryz.prog 77 [.slice (List.map en x0)] (.bool r)}):=by
 refine⟨?g0, ?g1, ?g2⟩
 case' g0=>(intro x0 x1 x2;apply Subtype.mk;intro r hm;apply af Tryz.func86 qZ;unfold lq)
 case' g1=>(intro x0 x1;apply Subtype.mk;intro r hm;apply af Tryz.func147 sr;unfold mV)
 case' g2=>(intro x0;apply Subtype.mk;intro r hm;apply af Tryz.func77 rD;unfold lS)
 all_goals(repeat'(first|with_reducible refine bA ?_|with_reducible refine bt ?_|with_reducible refine uE ?_|with_reducible refine bm ?_|with_reducible refine bl ?_|with_reducible refine bR ?_|with_reducible refine cw ?_|with_reducible refine bv ?_|with_reducible refine bB ?_|with_reducible refine cx ?_|with_reducible refine cb ?_|with_reducible refine bq ?_|with_reducible refine cg ?_|((with_reducible apply dz hm);(iterate 2 (simp only[push_cast,seval];rfl));(intro _;rfl);intro e hm)|((with_reducible apply nA hm);(iterate 2 (simp only[push_cast,seval];rfl));intro e hm)|((with_reducible apply im);(simp only[push_cast,seval];rfl);(first|exact trivial))|((with_reducible apply fG hm);(simp only[push_cast,seval];rfl);rfl;intro v hm;rotate_left;intro v g hm)|((with_reducible apply qC hm);(simp only[push_cast,seval];rfl);rfl;intro v hm;rotate_left;intro v g hm)|((with_reducible apply fg hm);(simp only[push_cast,seval];rfl);(first|apply pg _|apply pR _ _ _);(any_goals((repeat'(first|rfl));done));intro x hm)|((with_reducible apply wM);(simp only[push_cast,seval];rfl);(first|exact trivial))|((with_reducible apply aO hm);(simp only[push_cast,seval];rfl);intro hm;rotate_left;intro hm)|((with_reducible apply bQ hm);(focus(simp only[bu,dc,RV.get,push_cast,seval];rfl));(focus((repeat'(first|rfl));done)))|((with_reducible apply cJ hm);(simp only[push_cast,seval];rfl))|((with_reducible apply bE hm);intro r hm)|((with_reducible apply di hm);intro r hm)|((apply az (b:=1) (X:=kI) (x:=gz) rfl (fun(c:SV×SV) (s:Int)=>st [(0,c.1),(1,c.2),(9,.d (.int .i64 s))] []) (c:=(_,_)) (s0:=_) hm);(focus(first|(dsimp only;done)));(with_reducible refine cN.mk ?_ ?_))|((apply az (b:=2) (X:=j5) (x:=fT) rfl (fun(c:SV×SV) (s:Int)=>st [(0,c.1),(3,c.2),(4,.d (.int .i64 s))] []) (c:=(_,_)) (s0:=_) hm);(focus(first|(dsimp only;done)));(with_reducible refine cN.mk ?_ ?_))|((apply az (b:=0) (X:=j6) (x:=fU) rfl (fun(c:SV) (s:Int)=>st [(0,c),(3,.d (.int .i64 s))] []) (c:=_) (s0:=_) hm);(focus(first|(dsimp only;done)));(with_reducible refine cN.mk ?_ ?_))|((apply bG (s':=_) hm);(focus(first|(dsimp only;done))))|((apply cZ (s':=_) hm);(focus(first|(dsimp only;done))))|(((with_reducible apply gq hm);intro r hm))|(((with_reducible apply dC.of);(focus(first|(dsimp only;done)));(focus((intro _;repeat'(first|with_reducible exact bo|with_reducible refine aG ?_|with_reducible refine dj ?_|((with_reducible refine ec ?_);intro _)|((with_reducible refine fH ?_);intro _)))));(intro s o hm;first|unfold gz|unfold fT|unfold fU);rotate_left;intro s hm))|(((apply aW;(repeat'(first|with_reducible exact aw|with_reducible exact ax|with_reducible apply ap|((with_reducible apply aP);(focus(first|(simp only[push_cast,seval];rfl)));(focus((repeat'(first|rfl));done)))));done)))))
noncomputable def iw (x0:Int) (x1:Int) (x2:Int):Option (Bool):=(mW.1 x0 x1 x2).1
theorem fV (x0:Int) (x1:Int) (x2:Int):∀ r,iw x0 x1 x2=some r->aa Tryz.prog 86 [.int .i64 x0,.int .i64 x1,.int .i64 x2] (.bool r):=(mW.1 x0 x1 x2).2
noncomputable def js (x0:List UInt8) (x1:Int):Option (Bool):=(mW.2.1 x0 x1).1
theorem lr (x0:List UInt8) (x1:Int):∀ r,js x0 x1=some r->aa Tryz.prog 147 [.str x0,.int .i64 x1] (.bool r):=(mW.2.1 x0 x1).2
def eI:SC:=
 (.seq (.seq (.reg [.r 33 (.mv (.t 6)),
   .r 34 (.mv (.t 5)),
   .r 35 (.lenT (.t 34)),
   .r 36 (.bin .lss (.t 33) (.t 35))])
 (.cond (.t 36)
  .skip
  (.exit 0)))
 (.seq (.block 1 (.seq (.reg (.r 39 (.mv (.t 5)):: .r 40 (.mv (.t 6)):: .r 41 (.sidx (.t 39) (.t 40)):: .r 42 (.bin .lss (.t 41) (.c (.d (.int .u8 33)))):: .r 43 (.mv (.t 42))::aV [44,45,46,47] 43 false (.r 44 (.mv (.t 5)):: .r 45 (.mv (.t 6)):: .r 46 (.sidx (.t 44) (.t 45)):: .r 47 (.bin .gtr (.t 46) (.c (.d (.int .u8 126))))::[]) (.r 48 (.pick (.t 43) (.c (.d (.bool true))) (.t 47))::[])))
  (.cond (.t 48)
   (.seq (.reg [.r 4 (.mv (.c (.d (.int .i64 3))))])
   .ret)
   .skip)))
 (.reg [.r 37 (.mv (.t 6)),
   .r 38 (.bin .add (.t 37) (.c (.d (.int .i64 1)))),
   .r 6 (.mv (.t 38))])))
def iE:SC:= .block 0 (.loop eI)
def jA:SC:=
 (.seq (.reg [.r 2 (.boxI (.t 0)),
   .r 4 (.mv (.c (.d (.int .i64 0))))])
 (.seq (.reg [.r 7 (.fld 4 (.t 2)),
   .o 8 (.ld1 (.t 7)),
   .r 9 (.mv (.t 1)),
   .r 10 (.idx 1 (.t 8) (.t 9)),
   .o 11 (.ld1 (.t 10)),
   .r 5 (.mv (.t 11))])
 (.seq (.seq (.reg (.r 12 (.mv (.t 5)):: .r 13 (.lenT (.t 12)):: .c 14 (.f 86) [.t 13,.c (.d (.int .i64 1)),.c (.d (.int .i64 20))]:: .r 15 (.not (.t 14)):: .r 16 (.mv (.t 15))::aV [17,18,19,20,21,22,23,24] 16 false (.r 17 (.mv (.t 5)):: .r 18 (.lenT (.t 17)):: .r 19 (.fld 2 (.t 2)):: .r 20 (.ld1 (.t 19)):: .r 21 (.fld 3 (.t 2)):: .r 22 (.ld1 (.t 21)):: .c 23 (.f 86) [.t 18,.t 20,.t 22]:: .r 24 (.not (.t 23))::[]) (.r 25 (.pick (.t 16) (.c (.d (.bool true))) (.t 24)):: .r 26 (.mv (.t 25))::aV [27,28,29,30,31] 26 false (.r 27 (.mv (.t 5)):: .r 28 (.fld 1 (.t 2)):: .r 29 (.ld1 (.t 28)):: .c 30 (.f 147) [.t 27,.t 29]:: .r 31 (.not (.t 30))::[]) (.r 32 (.pick (.t 26) (.c (.d (.bool true))) (.t 31))::[]))))
 (.cond (.t 32)
  (.seq (.reg [.r 4 (.mv (.c (.d (.int .i64 3))))])
  .ret)
  .skip))
 (.seq (.seq (.reg [.r 6 (.mv (.c (.d (.int .i64 0))))])
 iE)
 (.seq (.seq (.reg (.r 49 (.mv (.t 1)):: .r 50 (.bin .gtr (.t 49) (.c (.d (.int .i64 0)))):: .r 51 (.mv (.t 50))::aV [52,53,54,55,56,57,58,59] 51 true (.r 52 (.mv (.t 5)):: .r 53 (.fld 4 (.t 2)):: .r 54 (.ld1 (.t 53)):: .r 55 (.mv (.t 1)):: .r 56 (.bin .sub (.t 55) (.c (.d (.int .i64 1)))):: .r 57 (.idx 1 (.t 54) (.t 56)):: .r 58 (.ld1 (.t 57)):: .r 59 (.bin .leq (.t 52) (.t 58))::[]) (.r 60 (.pick (.t 51) (.t 59) (.c (.d (.bool false))))::[])))
 (.cond (.t 60)
  (.seq (.reg [.r 4 (.mv (.c (.d (.int .i64 8))))])
  .ret)
  .skip))
 (.seq (.reg [.r 4 (.mv (.c (.d (.int .i64 0))))])
 .ret))))))
theorem pk:fits Tryz.prog 146 Tryz.f146 jA [.t 4] 2=true:=oK
set_option maxRecDepth 100000 in
set_option maxHeartbeats 40000000 in
noncomputable def vl:(∀ (x0:aE) (x1:Int),{m:Option (Int)//∀ r,m=some r->aa Tryz.prog 146 [.agg (bw x0),.int .i64 x1] (.int .i64 r)}):=by
 (intro x0 x1;apply Subtype.mk;intro r hm;apply af Tryz.func146 pk;unfold jA)
 repeat'(first|with_reducible refine bA ?_|with_reducible refine bt ?_|with_reducible refine bm ?_|with_reducible refine bl ?_|with_reducible refine bR ?_|with_reducible refine cw ?_|with_reducible refine bv ?_|with_reducible refine bB ?_|with_reducible refine cx ?_|with_reducible refine cb ?_|with_reducible refine bq ?_|with_reducible refine cg ?_|with_reducible refine dI ?_|((with_reducible apply dz hm);(iterate 2 (simp only[push_cast,seval];rfl));(intro _;rfl);intro e hm)|((with_reducible apply nA hm);(iterate 2 (simp only[push_cast,seval];rfl));intro e hm)|((with_reducible apply im);(simp only[push_cast,seval];rfl);(first|exact trivial))|((with_reducible apply fG hm);(simp only[push_cast,seval];rfl);rfl;intro v hm;rotate_left;intro v g hm)|((with_reducible apply qC hm);(simp only[push_cast,seval];rfl);rfl;intro v hm;rotate_left;intro v g hm)|((with_reducible apply fg hm);(simp only[push_cast,seval];rfl);(first|apply fV _ _ _|apply lr _ _);(any_goals((repeat'(first|rfl));done));intro x hm)|((with_reducible apply aO hm);(simp only[push_cast,seval];rfl);intro hm;rotate_left;intro hm)|((with_reducible apply bQ hm);(focus(simp only[bu,dc,RV.get,push_cast,seval];rfl));(focus((repeat'(first|rfl));done)))|((with_reducible apply cJ hm);(simp only[push_cast,seval];rfl))|((with_reducible apply bE hm);intro r hm)|((with_reducible apply di hm);intro r hm)|((apply az (b:=0) (X:=iE) (x:=eI) rfl (fun(c:SV×SV×SV) (s:Int)=>st [(1,c.1),(2,c.2.1),(5,c.2.2),(6,.d (.int .i64 s))] []) (c:=(_,_,_)) (s0:=_) hm);(focus(first|(dsimp only;done)));(with_reducible refine cN.mk ?_ ?_))|((apply bG (s':=_) hm);(focus(first|(dsimp only;done))))|((apply cZ (s':=_) hm);(focus(first|(dsimp only;done))))|(((with_reducible apply gq hm);intro r hm))|(((with_reducible apply dC.of);(focus(first|(dsimp only;done)));(focus((intro _;repeat'(first|with_reducible exact bo|with_reducible refine aG ?_))));(intro s o hm;first|unfold eI);rotate_left;intro s hm))|(((apply aW;(repeat'(first|with_reducible exact aw|with_reducible exact ax|with_reducible apply ap|((with_reducible apply aP);(focus(first|(simp only[push_cast,seval];rfl)));(focus((repeat'(first|rfl));done)))));done))))
noncomputable def fW (x0:aE) (x1:Int):Option (Int):=(vl x0 x1).1
theorem oC (x0:aE) (x1:Int):∀ r,fW x0 x1=some r->aa Tryz.prog 146 [.agg (bw x0),.int .i64 x1] (.int .i64 r):=(vl x0 x1).2
def eJ:SC:=
 (.seq (.seq (.reg [.r 37 (.mv (.t 3)),
   .r 38 (.fld 4 (.t 1)),
   .o 39 (.ld1 (.t 38)),
   .r 40 (.len (.t 39)),
   .r 41 (.bin .lss (.t 37) (.t 40))])
 (.cond (.t 41)
  .skip
  (.exit 0)))
 (.seq (.block 1 (.seq (.reg [.o 44 (.ldA 5 (.t 1)),
    .r 45 (.mv (.t 3)),
    .c 46 (.f 146) [.t 44,.t 45],
    .r 4 (.mv (.t 46))])
  (.seq (.reg [.r 47 (.mv (.t 4)),
    .r 48 (.bin .neq (.t 47) (.c (.d (.int .i64 0))))])
  (.cond (.t 48)
   (.seq (.reg [.r 49 (.mv (.t 4)),
     .r 2 (.mv (.t 49))])
   .ret)
   .skip))))
 (.reg [.r 42 (.mv (.t 3)),
   .r 43 (.bin .add (.t 42) (.c (.d (.int .i64 1)))),
   .r 3 (.mv (.t 43))])))
def iF:SC:= .block 0 (.loop eJ)
def jB:SC:=
 (.seq (.reg [.r 1 (.boxI (.t 0)),
   .r 2 (.mv (.c (.d (.int .i64 0))))])
 (.seq (.seq (.reg [.r 5 (.fld 1 (.t 1)),
   .o 6 (.ld1 (.t 5)),
   .c 7 (.f 86) [.t 6,.c (.d (.int .i64 1)),.c (.d (.int .i64 5))],
   .r 8 (.not (.t 7))])
 (.cond (.t 8)
  (.seq (.reg [.r 2 (.mv (.c (.d (.int .i64 4))))])
  .ret)
  .skip))
 (.seq (.seq (.reg (.r 9 (.fld 2 (.t 1)):: .o 10 (.ld1 (.t 9)):: .r 11 (.fld 3 (.t 1)):: .o 12 (.ld1 (.t 11)):: .c 13 (.f 86) [.t 10,.c (.d (.int .i64 1)),.t 12]:: .r 14 (.not (.t 13)):: .r 15 (.mv (.t 14))::aV [16,17,18] 15 false (.r 16 (.fld 3 (.t 1)):: .r 17 (.ld1 (.t 16)):: .r 18 (.bin .gtr (.t 17) (.c (.d (.int .i64 1000))))::[]) (.r 19 (.pick (.t 15) (.c (.d (.bool true))) (.t 18))::[])))
 (.cond (.t 19)
  (.seq (.reg [.r 2 (.mv (.c (.d (.int .i64 1))))])
  .ret)
  .skip))
 (.seq (.seq (.reg (.r 20 (.fld 1 (.t 1)):: .o 21 (.ld1 (.t 20)):: .r 22 (.bin .eql (.t 21) (.c (.d (.int .i64 5)))):: .r 23 (.mv (.t 22))::aV [24,25,26,27,28,29,30,31] 23 true (.r 24 (.fld 2 (.t 1)):: .r 25 (.ld1 (.t 24)):: .r 26 (.bin .gtr (.t 25) (.c (.d (.int .i64 8)))):: .r 27 (.mv (.t 26))::aV [28,29,30] 27 false (.r 28 (.fld 3 (.t 1)):: .r 29 (.ld1 (.t 28)):: .r 30 (.bin .lss (.t 29) (.c (.d (.int .i64 8))))::[]) (.r 31 (.pick (.t 27) (.c (.d (.bool true))) (.t 30))::[])) (.r 32 (.pick (.t 23) (.t 31) (.c (.d (.bool false))))::[])))
 (.cond (.t 32)
  (.seq (.reg [.r 2 (.mv (.c (.d (.int .i64 3))))])
  .ret)
  .skip))
 (.seq (.seq (.reg [.r 33 (.fld 4 (.t 1)),
   .o 34 (.ld1 (.t 33)),
   .r 35 (.len (.t 34)),
   .r 36 (.bin .gtr (.t 35) (.c (.d (.int .i64 50))))])
 (.cond (.t 36)
  (.seq (.reg [.r 2 (.mv (.c (.d (.int .i64 2))))])
  .ret)
  .skip))
 (.seq (.seq (.reg [.r 3 (.mv (.c (.d (.int .i64 0))))])
 iF)
 (.seq (.reg [.r 2 (.mv (.c (.d (.int .i64 0))))])
 .ret)))))))
theorem pl:fits Tryz.prog 107 Tryz.f107 jB [.t 2] 1=true:=oK
set_option maxRecDepth 100000 in
set_option maxHeartbeats 40000000 in
noncomputable def vm:(∀ (x0:aE),{m:Option (Int)//∀ r,m=some r->aa Tryz.prog 107 [.agg (bw x0)] (.int .i64 r)}):=by
 (intro x0;apply Subtype.mk;intro r hm;apply af Tryz.func107 pl;unfold jB)
 repeat'(first|with_reducible refine bA ?_|with_reducible refine bt ?_|with_reducible refine bm ?_|with_reducible refine bl ?_|with_reducible refine bR ?_|with_reducible refine cw ?_|with_reducible refine bv ?_|with_reducible refine bB ?_|with_reducible refine cx ?_|with_reducible refine cb ?_|with_reducible refine bq ?_|with_reducible refine cg ?_|with_reducible refine dI ?_|((with_reducible apply im);(simp only[push_cast,seval];rfl);(first|exact trivial))|((with_reducible apply fG hm);(simp only[push_cast,seval];rfl);rfl;intro v hm;rotate_left;intro v g hm)|((with_reducible apply qC hm);(simp only[push_cast,seval];rfl);rfl;intro v hm;rotate_left;intro v g hm)|((with_reducible apply fg hm);(simp only[push_cast,seval];rfl);(first|apply fV _ _ _|apply oC _ _);(any_goals((repeat'(first|rfl));done));intro x hm)|((with_reducible apply aO hm);(simp only[push_cast,seval];rfl);intro hm;rotate_left;intro hm)|((with_reducible apply bQ hm);(focus(simp only[bu,dc,RV.get,push_cast,seval];rfl));(focus((repeat'(first|rfl));done)))|((with_reducible apply cJ hm);(simp only[push_cast,seval];rfl))|((with_reducible apply bE hm);intro r hm)|((with_reducible apply di hm);intro r hm)|((apply az (b:=0) (X:=iF) (x:=eJ) rfl (fun(c:SV) (s:Int)=>st [(1,c),(3,.d (.int .i64 s))] []) (c:=_) (s0:=_) hm);(focus(first|(dsimp only;done)));(with_reducible refine cN.mk ?_ ?_))|((apply bG (s':=_) hm);(focus(first|(dsimp only;done))))|((apply cZ (s':=_) hm);(focus(first|(dsimp only;done))))|(((with_reducible apply gq hm);intro r hm))|(((with_reducible apply dC.of);(focus(first|(dsimp only;done)));(focus((intro _;repeat'(first|with_reducible exact bo|with_reducible refine aG ?_))));(intro s o hm;first|unfold eJ);rotate_left;intro s hm))|(((apply aW;(repeat'(first|with_reducible exact aw|with_reducible exact ax|with_reducible apply ap|((with_reducible apply aP);(focus(first|(simp only[push_cast,seval];rfl)));(focus((repeat'(first|rfl));done)))));done))))
noncomputable def fY (x0:aE):Option (Int):=(vm x0).1
theorem oE (x0:aE):∀ r,fY x0=some r->aa Tryz.prog 107 [.agg (bw x0)] (.int .i64 r):=(vm x0).2
def eU:SC:=
 (.seq (.seq (.reg [.r 35 (.mv (.t 5)),
   .r 36 (.fld 2 (.t 4)),
   .o 37 (.ld1 (.t 36)),
   .r 38 (.len (.t 37)),
   .r 39 (.bin .lss (.t 35) (.t 38))])
 (.cond (.t 39)
  .skip
  (.exit 2)))
 (.seq (.block 3 (.seq (.reg [.r 42 (.fld 2 (.t 4)),
    .o 43 (.ld1 (.t 42)),
    .r 44 (.mv (.t 5)),
    .r 45 (.idx 5 (.t 43) (.t 44)),
    .o 46 (.ldA 5 (.t 45)),
    .c 47 (.f 107) [.t 46],
    .r 6 (.mv (.t 47))])
  (.seq (.reg [.r 48 (.mv (.t 6)),
    .r 49 (.bin .neq (.t 48) (.c (.d (.int .i64 0))))])
  (.cond (.t 49)
   (.seq (.reg [.r 50 (.mv (.t 6)),
     .r 2 (.mv (.t 50))])
   .ret)
   .skip))))
 (.reg [.r 40 (.mv (.t 5)),
   .r 41 (.bin .add (.t 40) (.c (.d (.int .i64 1)))),
   .r 5 (.mv (.t 41))])))
def iW:SC:= .block 2 (.loop eU)
def eV:SC:=
 (.seq (.seq (.reg [.r 11 (.mv (.t 3)),
   .r 12 (.fld 1 (.t 1)),
   .o 13 (.ld1 (.t 12)),
   .r 14 (.len (.t 13)),
   .r 15 (.bin .lss (.t 11) (.t 14))])
 (.cond (.t 15)
  .skip
  (.exit 0)))
 (.seq (.block 1 (.seq (.reg [.r 18 (.fld 1 (.t 1)),
    .o 19 (.ld1 (.t 18)),
    .r 20 (.mv (.t 3)),
    .r 21 (.idx 3 (.t 19) (.t 20)),
    .o 22 (.ldA 3 (.t 21)),
    .w 4 (.boxM (.c (.agg [.d (.bool false),.d (.int .i64 0),.nils]))),
    .w 0 (.st 3 (.t 4) (.t 22))])
  (.seq (.seq (.reg [.r 23 (.fld 1 (.t 4)),
    .o 24 (.ld1 (.t 23)),
    .c 25 (.f 86) [.t 24,.c (.d (.int .i64 1)),.c (.d (.int .i64 20))],
    .r 26 (.not (.t 25))])
  (.cond (.t 26)
   (.seq (.reg [.r 2 (.mv (.c (.d (.int .i64 1))))])
   .ret)
   .skip))
  (.seq (.seq (.reg [.r 27 (.fld 2 (.t 4)),
    .o 28 (.ld1 (.t 27)),
    .r 29 (.len (.t 28)),
    .r 30 (.bin .eql (.t 29) (.c (.d (.int .i64 0))))])
  (.cond (.t 30)
   (.seq (.reg [.r 2 (.mv (.c (.d (.int .i64 9))))])
   .ret)
   .skip))
  (.seq (.seq (.reg [.r 31 (.fld 2 (.t 4)),
    .o 32 (.ld1 (.t 31)),
    .r 33 (.len (.t 32)),
    .r 34 (.bin .gtr (.t 33) (.c (.d (.int .i64 20))))])
  (.cond (.t 34)
   (.seq (.reg [.r 2 (.mv (.c (.d (.int .i64 2))))])
   .ret)
   .skip))
  (.seq (.reg [.r 5 (.mv (.c (.d (.int .i64 0))))])
  iW))))))
 (.reg [.r 16 (.mv (.t 3)),
   .r 17 (.bin .add (.t 16) (.c (.d (.int .i64 1)))),
   .r 3 (.mv (.t 17))])))
def iX:SC:= .block 0 (.loop eV)
def j7:SC:=
 (.seq (.reg [.r 1 (.boxI (.t 0)),
   .r 2 (.mv (.c (.d (.int .i64 0))))])
 (.seq (.seq (.reg [.r 7 (.fld 1 (.t 1)),
   .o 8 (.ld1 (.t 7)),
   .r 9 (.len (.t 8)),
   .r 10 (.bin .gtr (.t 9) (.c (.d (.int .i64 50))))])
 (.cond (.t 10)
  (.seq (.reg [.r 2 (.mv (.c (.d (.int .i64 2))))])
  .ret)
  .skip))
 (.seq (.seq (.reg [.r 3 (.mv (.c (.d (.int .i64 0))))])
 iX)
 (.seq (.reg [.r 2 (.mv (.c (.d (.int .i64 0))))])
 .ret))))
theorem pS:fits Tryz.prog 62 Tryz.f62 j7 [.t 2] 1=true:=oK
set_option maxRecDepth 100000 in
set_option maxHeartbeats 40000000 in
noncomputable def vn:(∀ (x0:ah),{m:Option (Int)//∀ r,m=some r->aa Tryz.prog 62 [.agg (ak x0)] (.int .i64 r)}):=by
 (intro x0;apply Subtype.mk;intro r hm;apply af Tryz.func62 pS;unfold j7)
 repeat'(first|with_reducible refine bA ?_|with_reducible refine bt ?_|with_reducible refine bm ?_|with_reducible refine bl ?_|with_reducible refine bR ?_|with_reducible refine cw ?_|with_reducible refine bv ?_|with_reducible refine bB ?_|with_reducible refine cx ?_|with_reducible refine cb ?_|with_reducible refine bq ?_|with_reducible refine cg ?_|with_reducible refine dI ?_|((with_reducible apply dz hm);(iterate 2 (simp only[push_cast,seval];rfl));(intro _;rfl);intro e hm)|((with_reducible apply im);(simp only[push_cast,seval];rfl);(first|exact trivial))|((with_reducible apply fg hm);(simp only[push_cast,seval];rfl);(first|apply fV _ _ _|apply oE _);(any_goals((repeat'(first|rfl));done));intro x hm)|((with_reducible apply wM);(simp only[push_cast,seval];rfl);(first|exact trivial))|((with_reducible apply aO hm);(simp only[push_cast,seval];rfl);intro hm;rotate_left;intro hm)|((with_reducible apply bQ hm);(focus(simp only[bu,dc,RV.get,push_cast,seval];rfl));(focus((repeat'(first|rfl));done)))|((with_reducible apply bE hm);intro r hm)|((with_reducible apply di hm);intro r hm)|((apply az (b:=2) (X:=iW) (x:=eU) rfl (fun(c:SV×SV×Ch) (s:Int)=>st [(1,c.1),(3,c.2.1),(4,.ref 4 0),(5,.d (.int .i64 s))] [(4,c.2.2)]) (c:=(_,_,_)) (s0:=_) hm);(focus(first|(dsimp only;done)));(with_reducible refine cN.mk ?_ ?_))|((apply az (b:=0) (X:=iX) (x:=eV) rfl (fun(c:SV) (s:Int)=>st [(1,c),(3,.d (.int .i64 s))] []) (c:=_) (s0:=_) hm);(focus(first|(dsimp only;done)));(with_reducible refine cN.mk ?_ ?_))|((apply bG (s':=_) hm);(focus(first|(dsimp only;done))))|((apply cZ (s':=_) hm);(focus(first|(dsimp only;done))))|(((with_reducible apply gq hm);intro r hm))|(((with_reducible apply dC.of);(focus(first|(dsimp only;done)));(focus((intro _;repeat'(first|with_reducible exact bo|with_reducible refine aG ?_|with_reducible refine dj ?_|((with_reducible refine ec ?_);intro _)|((with_reducible refine fH ?_);intro _)))));(intro s o hm;first|unfold eU|unfold eV);rotate_left;intro s hm))|(((apply aW;(repeat'(first|with_reducible exact aw|with_reducible exact ax|with_reducible apply ap|with_reducible apply aU|((with_reducible apply aP);(focus(first|(simp only[push_cast,seval];rfl)));(focus((repeat'(first|rfl));done)))|((with_reducible apply cC);(focus(first|(simp only[push_cast,seval];rfl)));(first|with_reducible exact bj rfl))));done))))
noncomputable def gA (x0:ah):Option (Int):=(vn x0).1
theorem pm (x0:ah):∀ r,gA x0=some r->aa Tryz.prog 62 [.agg (ak x0)] (.int .i64 r):=(vn x0).2
def eK:SC:=
 (.seq (.seq (.reg [.r 8 (.mv (.t 3)),
   .r 9 (.mv (.t 0)),
   .r 10 (.len (.t 9)),
   .r 11 (.bin .lss (.t 8) (.t 10))])
 (.cond (.t 11)
  .skip
  (.exit 0)))
 (.seq (.block 1 (.seq (.seq (.reg [.r 14 (.mv (.t 0)),
    .r 15 (.mv (.t 3)),
    .r 16 (.idx 2 (.t 14) (.t 15)),
    .r 17 (.fld 0 (.t 16)),
    .o 18 (.ld1 (.t 17)),
    .c 19 (.f 61) [.t 18],
    .r 20 (.not (.t 19))])
  (.cond (.t 20)
   (.seq (.reg [.r 2 (.mv (.c (.d (.int .i64 5))))])
   .ret)
   .skip))
  (.seq (.seq (.regD (.r 21 (.mv (.t 3)):: .r 22 (.bin .gtr (.t 21) (.c (.d (.int .i64 0)))):: .r 23 (.mv (.t 22))::aV [24,25,26,27,28,29,30,31,32,33,34,35] 23 true (.r 24 (.mv (.t 0)):: .r 25 (.mv (.t 3)):: .r 26 (.idx 2 (.t 24) (.t 25)):: .r 27 (.fld 0 (.t 26)):: .r 28 (.ld1 (.t 27)):: .r 29 (.mv (.t 0)):: .r 30 (.mv (.t 3)):: .r 31 (.bin .sub (.t 30) (.c (.d (.int .i64 1)))):: .r 32 (.idx 2 (.t 29) (.t 31)):: .r 33 (.fld 0 (.t 32)):: .r 34 (.ld1 (.t 33)):: .r 35 (.bin .leq (.t 28) (.t 34))::[]) (.r 36 (.pick (.t 23) (.t 35) (.c (.d (.bool false))))::[])))
  (.cond (.t 36)
   (.seq (.reg [.r 2 (.mv (.c (.d (.int .i64 8))))])
   .ret)
   .skip))
  (.seq (.reg [.r 37 (.mv (.t 0)),
    .r 38 (.mv (.t 3)),
    .r 39 (.idx 2 (.t 37) (.t 38)),
    .o 40 (.ldA 2 (.t 39)),
    .c 41 (.f 62) [.t 40],
    .r 4 (.mv (.t 41))])
  (.seq (.reg [.r 42 (.mv (.t 4)),
    .r 43 (.bin .neq (.t 42) (.c (.d (.int .i64 0))))])
  (.cond (.t 43)
   (.seq (.reg [.r 44 (.mv (.t 4)),
     .r 2 (.mv (.t 44))])
   .ret)
   .skip))))))
 (.reg [.r 12 (.mv (.t 3)),
   .r 13 (.bin .add (.t 12) (.c (.d (.int .i64 1)))),
   .r 3 (.mv (.t 13))])))
def iG:SC:= .block 0 (.loop eK)
def jC:SC:=
 (.seq (.reg [.r 2 (.mv (.c (.d (.int .i64 0))))])
 (.seq (.seq (.reg [.r 5 (.mv (.t 0)),
   .r 6 (.len (.t 5)),
   .r 7 (.bin .gtr (.t 6) (.c (.d (.int .i64 100))))])
 (.cond (.t 7)
  (.seq (.reg [.r 2 (.mv (.c (.d (.int .i64 2))))])
  .ret)
  .skip))
 (.seq (.seq (.reg [.r 3 (.mv (.c (.d (.int .i64 0))))])
 iG)
 (.seq (.reg [.r 2 (.mv (.c (.d (.int .i64 0))))])
 .ret))))
theorem pn:fits Tryz.prog 28 Tryz.f28 jC [.t 2] 1=true:=oK
set_option maxRecDepth 100000 in
set_option maxHeartbeats 40000000 in
noncomputable def vo:(∀ (x0:List ah),{m:Option (Int)//∀ r,m=some r->aa Tryz.prog 28 [.slice (List.map ak x0)] (.int .i64 r)}):=by
 (intro x0;apply Subtype.mk;intro r hm;apply af Tryz.func28 pn;unfold jC)
 repeat'(first|with_reducible refine bA ?_|with_reducible refine bt ?_|with_reducible refine uE ?_|with_reducible refine bm ?_|with_reducible refine bl ?_|with_reducible refine bR ?_|with_reducible refine cw ?_|with_reducible refine bv ?_|with_reducible refine bB ?_|with_reducible refine cx ?_|with_reducible refine cb ?_|with_reducible refine bq ?_|with_reducible refine cg ?_|with_reducible refine dI ?_|((with_reducible apply dz hm);(iterate 2 (simp only[push_cast,seval];rfl));(intro _;rfl);intro e hm)|((with_reducible apply im);(simp only[push_cast,seval];rfl);(first|exact trivial))|((with_reducible apply fG hm);(simp only[push_cast,seval];rfl);rfl;intro v hm;rotate_left;intro v g hm)|((with_reducible apply fg hm);(simp only[push_cast,seval];rfl);(first|apply gH _|apply pm _);(any_goals((repeat'(first|rfl));done));intro x hm)|((with_reducible apply aO hm);(simp only[push_cast,seval];rfl);intro hm;rotate_left;intro hm)|((with_reducible apply bQ hm);(focus(simp only[bu,dc,RV.get,push_cast,seval];rfl));(focus((repeat'(first|rfl));done)))|((with_reducible apply cJ hm);(simp only[push_cast,seval];rfl))|((with_reducible apply bE hm);intro r hm)|((with_reducible apply di hm);intro r hm)|((apply az (b:=0) (X:=iG) (x:=eK) rfl (fun(c:SV) (s:Int)=>st [(0,c),(3,.d (.int .i64 s))] []) (c:=_) (s0:=_) hm);(focus(first|(dsimp only;done)));(with_reducible refine cN.mk ?_ ?_))|((apply bG (s':=_) hm);(focus(first|(dsimp only;done))))|((apply cZ (s':=_) hm);(focus(first|(dsimp only;done))))|(((with_reducible apply gq hm);intro r hm))|(((with_reducible apply dC.of);(focus(first|(dsimp only;done)));(focus((intro _;repeat'(first|with_reducible exact bo|with_reducible refine aG ?_))));(intro s o hm;first|unfold eK);rotate_left;intro s hm))|(((apply aW;(repeat'(first|with_reducible exact aw|with_reducible exact ax|with_reducible apply ap|((with_reducible apply aP);(focus(first|(simp only[push_cast,seval];rfl)));(focus((repeat'(first|rfl));done)))));done))))
noncomputable def fZ (x0:List ah):Option (Int):=(vo x0).1
theorem oF (x0:List ah):∀ r,fZ x0=some r->aa Tryz.prog 28 [.slice (List.map ak x0)] (.int .i64 r):=(vo x0).2
def f6:SC:=
 (.seq (.seq (.reg [.r 4 (.mv (.t 3)),
   .r 5 (.mv (.t 0)),
   .r 6 (.len (.t 5)),
   .r 7 (.bin .lss (.t 4) (.t 6))])
 (.cond (.t 7)
  .skip
  (.exit 0)))
 (.seq (.block 1 (.seq (.reg [.r 10 (.mv (.t 0)),
    .r 11 (.mv (.t 3)),
    .r 12 (.idx 1 (.t 10) (.t 11)),
    .o 13 (.ld1 (.t 12)),
    .r 14 (.bin .neq (.t 13) (.c (.d (.str []))))])
  (.cond (.t 14)
   (.seq (.reg [.r 2 (.mv (.c (.d (.bool false))))])
   .ret)
   .skip)))
 (.reg [.r 8 (.mv (.t 3)),
   .r 9 (.bin .add (.t 8) (.c (.d (.int .i64 1)))),
   .r 3 (.mv (.t 9))])))
def j9:SC:= .block 0 (.loop f6)
def l8:SC:=
 (.seq (.reg [.r 2 (.mv (.c (.d (.bool false))))])
 (.seq (.seq (.reg [.r 3 (.mv (.c (.d (.int .i64 0))))])
 j9)
 (.seq (.reg [.r 2 (.mv (.c (.d (.bool true))))])
 .ret)))
theorem rH:fits Tryz.prog 64 Tryz.f64 l8 [.t 2] 1=true:=oK
def mZ:SC:=
 (.seq (.reg [.w 8 (.boxM (.c (.agg [.d (.int .i64 0),.d (.int .i64 0),.d (.int .i64 0),.d (.int .i64 0),.d (.int .i64 0),.d (.str [])])))])
 (.seq (.reg [.r 9 (.mv (.t 0)),
   .r 10 (.mv (.t 1)),
   .r 11 (.mv (.t 2)),
   .r 12 (.mv (.t 3)),
   .r 13 (.build [.d (.int .i64 0),.d (.int .i64 0),.d (.int .i64 0)] [(0,1,.t 10),(1,1,.t 11),(2,1,.t 12)]),
   .r 14 (.build [.d (.int .i64 0),.d (.int .i64 0),.d (.int .i64 0),.d (.int .i64 0),.d (.int .i64 0),.d (.str [])] [(0,1,.t 9),(2,3,.t 13)]),
   .w 0 (.st 6 (.t 8) (.t 14))])
 .ret))
theorem sx:fits Tryz.prog 65 Tryz.f65 mZ [.cell 8 6] 4=true:=oK
set_option maxRecDepth 100000 in
set_option maxHeartbeats 40000000 in
noncomputable def ld:(∀ (x0:List (List UInt8)),{m:Option (Bool)//∀ r,m=some r->aa Tryz.prog 64 [.slice (List.map en x0)] (.bool r)})×(∀ (x0:Int) (x1:Int) (x2:Int) (x3:Int),{m:Option (ac)//∀ r,m=some r->aa Tryz.prog 65 [.int .i64 x0,.int .i64 x1,.int .i64 x2,.int .i64 x3] (.agg (ab r))}):=by
 refine⟨?g0, ?g1⟩
 case' g0=>(intro x0;apply Subtype.mk;intro r hm;apply af Tryz.func64 rH;unfold l8)
 case' g1=>(intro x0 x1 x2 x3;apply Subtype.mk;intro r hm;apply af Tryz.func65 sx;unfold mZ)
 all_goals(repeat'(first|with_reducible refine bA ?_|with_reducible refine bt ?_|with_reducible refine bm ?_|with_reducible refine bl ?_|with_reducible refine bR ?_|with_reducible refine cw ?_|with_reducible refine bv ?_|with_reducible refine bB ?_|with_reducible refine cx ?_|with_reducible refine cb ?_|with_reducible refine bq ?_|with_reducible refine cg ?_|with_reducible refine dI ?_|((with_reducible apply dz hm);(iterate 2 (simp only[push_cast,seval];rfl));(intro _;rfl);intro e hm)|((with_reducible apply im);(simp only[push_cast,seval];rfl);(first|exact trivial))|((with_reducible apply wM);(simp only[push_cast,seval];rfl);(first|exact trivial))|((with_reducible apply aO hm);(simp only[push_cast,seval];rfl);intro hm;rotate_left;intro hm)|((with_reducible apply bQ hm);(focus(simp only[bu,dc,RV.get,push_cast,seval];rfl));(focus((repeat'(first|rfl|(with_reducible first|apply yJ|apply tN|apply p5)));done)))|((with_reducible apply bE hm);intro r hm)|((with_reducible apply di hm);intro r hm)|((apply az (b:=0) (X:=j9) (x:=f6) rfl (fun(c:SV) (s:Int)=>st [(0,c),(3,.d (.int .i64 s))] []) (c:=_) (s0:=_) hm);(focus(first|(dsimp only;done)));(with_reducible refine cN.mk ?_ ?_))|((apply bG (s':=_) hm);(focus(first|(dsimp only;done))))|((apply cZ (s':=_) hm);(focus(first|(dsimp only;done))))|(((with_reducible apply gq hm);intro r hm))|(((with_reducible apply dC.of);(focus(first|(dsimp only;done)));(focus((intro _;repeat'(first|with_reducible exact bo|with_reducible refine aG ?_))));(intro s o hm;first|unfold f6);rotate_left;intro s hm))|(((apply aW;(repeat'(first|with_reducible exact aw|with_reducible exact ax|with_reducible apply ap|((with_reducible apply aP);(focus(first|(simp only[push_cast,seval];rfl)));(focus((repeat'(first|rfl));done)))));done)))))
noncomputable def fB (x0:List (List UInt8)):Option (Bool):=(ld.1 x0).1
theorem kM (x0:List (List UInt8)):∀ r,fB x0=some r->aa Tryz.prog 64 [.slice (List.map en x0)] (.bool r):=(ld.1 x0).2
noncomputable def ju (x0:Int) (x1:Int) (x2:Int) (x3:Int):Option (ac):=(ld.2 x0 x1 x2 x3).1
theorem gX (x0:Int) (x1:Int) (x2:Int) (x3:Int):∀ r,ju x0 x1 x2 x3=some r->aa Tryz.prog 65 [.int .i64 x0,.int .i64 x1,.int .i64 x2,.int .i64 x3] (.agg (ab r)):=(ld.2 x0 x1 x2 x3).2
def ew:SC:= .cond (.t 18)
  (.reg [.r 19 (.mv (.t 11)),
   .r 20 (.mv (.t 2)),
   .r 21 (.mv (.t 3)),
   .r 22 (.mv (.t 4)),
   .c 23 (.f 65) [.c (.d (.int .i64 9)),.t 20,.t 21,.t 22],
   .r 24 (.bslice 6 [.t 23]),
   .w 25 (.app 36 6 (.t 19) (.t 24)),
   .r 11 (.mv (.t 25))])
  .skip
def ib:SC:= .cond (.t 30)
  (.reg [.r 31 (.mv (.t 11)),
   .r 32 (.mv (.t 2)),
   .r 33 (.mv (.t 3)),
   .r 34 (.mv (.t 4)),
   .c 35 (.f 65) [.c (.d (.int .i64 10)),.t 32,.t 33,.t 34],
   .r 36 (.bslice 6 [.t 35]),
   .w 37 (.app 36 6 (.t 31) (.t 36)),
   .r 11 (.mv (.t 37))])
  .skip
def ic:SC:= .cond (.t 42)
  (.reg [.r 43 (.mv (.t 11)),
   .r 44 (.mv (.t 2)),
   .r 45 (.mv (.t 3)),
   .r 46 (.mv (.t 4)),
   .c 47 (.f 65) [.c (.d (.int .i64 11)),.t 44,.t 45,.t 46],
   .r 48 (.bslice 6 [.t 47]),
   .w 49 (.app 36 6 (.t 43) (.t 48)),
   .r 11 (.mv (.t 49))])
  .skip
def eM:SC:=
 (.seq (.seq (.reg [.r 54 (.mv (.t 13)),
   .r 55 (.fld 4 (.t 5)),
   .o 56 (.ld1 (.t 55)),
   .r 57 (.len (.t 56)),
   .r 58 (.bin .lss (.t 54) (.t 57))])
 (.cond (.t 58)
  .skip
  (.exit 0)))
 (.seq (.block 1 (.reg (.r 61 (.mv (.t 12)):: .r 62 (.mv (.t 61))::aV [63,64,65,66,67,68,69] 62 false (.r 63 (.fld 4 (.t 5)):: .r 64 (.ld1 (.t 63)):: .r 65 (.mv (.t 13)):: .r 66 (.idx 1 (.t 64) (.t 65)):: .r 67 (.ld1 (.t 66)):: .r 68 (.mv (.t 1)):: .r 69 (.bin .eql (.t 67) (.t 68))::[]) (.r 70 (.pick (.t 62) (.c (.d (.bool true))) (.t 69)):: .r 12 (.mv (.t 70))::[]))))
 (.reg [.r 59 (.mv (.t 13)),
   .r 60 (.bin .add (.t 59) (.c (.d (.int .i64 1)))),
   .r 13 (.mv (.t 60))])))
def iH:SC:= .block 0 (.loop eM)
def jH:SC:=
 (.seq (.reg [.r 5 (.boxI (.t 0)),
   .r 10 (.mv (.c (.nils)))])
 (.seq (.reg [.r 11 (.mv (.c (.nils)))])
 (.seq (.seq (.reg [.r 14 (.mv (.t 1)),
   .r 15 (.lenT (.t 14)),
   .r 16 (.fld 2 (.t 5)),
   .o 17 (.ld1 (.t 16)),
   .r 18 (.bin .lss (.t 15) (.t 17))])
 ew)
 (.seq (.seq (.reg [.r 26 (.mv (.t 1)),
   .r 27 (.lenT (.t 26)),
   .r 28 (.fld 3 (.t 5)),
   .o 29 (.ld1 (.t 28)),
   .r 30 (.bin .gtr (.t 27) (.t 29))])
 ib)
 (.seq (.seq (.reg [.r 38 (.mv (.t 1)),
   .r 39 (.fld 1 (.t 5)),
   .o 40 (.ld1 (.t 39)),
   .c 41 (.f 147) [.t 38,.t 40],
   .r 42 (.not (.t 41))])
 ic)
 (.seq (.reg [.r 50 (.fld 4 (.t 5)),
   .o 51 (.ld1 (.t 50)),
   .r 52 (.len (.t 51)),
   .r 53 (.bin .eql (.t 52) (.c (.d (.int .i64 0)))),
   .r 12 (.mv (.t 53))])
 (.seq (.seq (.reg [.r 13 (.mv (.c (.d (.int .i64 0))))])
 iH)
 (.seq (.seq (.reg [.r 71 (.mv (.t 12)),
   .r 72 (.not (.t 71))])
 (.cond (.t 72)
  (.reg [.r 73 (.mv (.t 11)),
    .r 74 (.mv (.t 2)),
    .r 75 (.mv (.t 3)),
    .r 76 (.mv (.t 4)),
    .c 77 (.f 65) [.c (.d (.int .i64 12)),.t 74,.t 75,.t 76],
    .r 78 (.bslice 6 [.t 77]),
    .w 79 (.app 36 6 (.t 73) (.t 78)),
    .r 11 (.mv (.t 79))])
  .skip))
 (.seq (.reg [.r 80 (.mv (.t 11)),
   .r 10 (.mv (.t 80))])
 .ret)))))))))
theorem po:fits Tryz.prog 109 Tryz.f109 jH [.t 10] 5=true:=oK
set_option maxRecDepth 100000 in
set_option maxHeartbeats 40000000 in
noncomputable def tK:(∀ (x0:aE) (x1:List UInt8) (x2:Int) (x3:Int) (x4:Int),{m:Option ((List ac))//∀ r,m=some r->aa Tryz.prog 109 [.agg (bw x0),.str x1,.int .i64 x2,.int .i64 x3,.int .i64 x4] (.slice (List.map ab r))}):=by
 (intro x0 x1 x2 x3 x4;apply Subtype.mk;intro r hm;apply af Tryz.func109 po;unfold jH)
 repeat'(first|with_reducible refine bA ?_|with_reducible refine bt ?_|with_reducible refine bm ?_|with_reducible refine bl ?_|with_reducible refine bR ?_|with_reducible refine cw ?_|with_reducible refine bv ?_|with_reducible refine bB ?_|with_reducible refine cx ?_|with_reducible refine bq ?_|with_reducible refine dI ?_|((with_reducible apply dz hm);(iterate 2 (simp only[push_cast,seval];rfl));(intro _;rfl);intro e hm)|((with_reducible apply im);(simp only[push_cast,seval];rfl);(first|exact trivial))|((with_reducible apply qC hm);(simp only[push_cast,seval];rfl);rfl;intro v hm;rotate_left;intro v g hm)|((with_reducible apply fg hm);(simp only[push_cast,seval];rfl);(first|apply gX _ _ _ _|apply lr _ _);(any_goals((repeat'(first|rfl));done));intro x hm)|((with_reducible apply xt hm);(iterate 4 (simp only[push_cast,seval];rfl));(focus((repeat'(first|rfl|(with_reducible first|apply cT|apply cU|apply ez)));done));decide;(intro _;rfl);intro hm)|((with_reducible apply aO hm);(simp only[push_cast,seval];rfl);intro hm;rotate_left;intro hm)|((with_reducible apply bQ hm);(focus(simp only[bu,dc,RV.get,push_cast,seval];rfl));(focus((repeat'(first|rfl));done)))|((with_reducible apply cJ hm);(simp only[push_cast,seval];rfl))|((with_reducible apply bE hm);intro r hm)|((apply az (b:=0) (X:=iH) (x:=eM) rfl (fun(c:SV×SV×SV×SV×SV) (s:(List ac)×Bool×Int)=>st [(1,c.1),(2,c.2.1),(3,c.2.2.1),(4,c.2.2.2.1),(5,c.2.2.2.2),(11,.vec 11),(12,.d (.bool s.2.1)),(13,.d (.int .i64 s.2.2))] [(11,.vec 36 6 (bF ab s.1))]) (c:=(_,_,_,_,_)) (s0:=(_,_,_)) hm);(focus(first|(dsimp only;done)));(with_reducible refine cN.mk ?_ ?_))|(((try((with_reducible apply Mg (X:=ew) (slot:=11) (id:=11) (e:=36) (sz:=6) (row:=ab));(focus(simp only[push_cast,seval];done))));(apply o5 (X:=ew) rfl (fun(c:SV×SV×SV×SV×SV) (s:(List ac))=>st [(1,c.1),(2,c.2.1),(3,c.2.2.1),(4,c.2.2.2.1),(5,c.2.2.2.2),(11,.vec 11)] [(11,.vec 36 6 (bF ab s))]) (c:=(_,_,_,_,_)) hm);(intro o hm);rotate_left;(focus((intro _;repeat'(first|with_reducible exact bo|with_reducible refine aG ?_))));(intro s hm);rotate_left))|(((apply o5 (X:=ib) rfl (fun(c:SV×SV×SV×SV×SV) (s:(List ac))=>st [(1,c.1),(2,c.2.1),(3,c.2.2.1),(4,c.2.2.2.1),(5,c.2.2.2.2),(11,.vec 11)] [(11,.vec 36 6 (bF ab s))]) (c:=(_,_,_,_,_)) hm);(intro o hm);rotate_left;(focus((intro _;repeat'(first|with_reducible exact bo|with_reducible refine aG ?_))));(intro s hm);rotate_left))|(((apply o5 (X:=ic) rfl (fun(c:SV×SV×SV×SV×SV) (s:(List ac))=>st [(1,c.1),(2,c.2.1),(3,c.2.2.1),(4,c.2.2.2.1),(5,c.2.2.2.2),(11,.vec 11)] [(11,.vec 36 6 (bF ab s))]) (c:=(_,_,_,_,_)) hm);(intro o hm);rotate_left;(focus((intro _;repeat'(first|with_reducible exact bo|with_reducible refine aG ?_))));(intro s hm);rotate_left))|((apply bG (s':=(_,_,_)) hm);(focus(first|(dsimp only;done))))|((apply cZ (s':=(_,_,_)) hm);(focus(first|(dsimp only;done))))|((apply bG (s':=_) hm);(focus(first|(dsimp only;done))))|(((with_reducible apply dC.of);(focus(first|(dsimp only;done)));(focus((intro _;repeat'(first|with_reducible exact bo|with_reducible refine aG ?_))));(intro s o hm;first|unfold eM);rotate_left;intro s hm))|(((apply aW;(repeat'(first|with_reducible exact aw|with_reducible exact ax|with_reducible apply ap|with_reducible apply aU|((with_reducible apply aP);(focus(first|(simp only[push_cast,seval];rfl)));(focus((repeat'(first|rfl));done)))|((with_reducible apply cC);(focus(first|(simp only[push_cast,seval];rfl)));(first|with_reducible exact bj rfl))));done))))
noncomputable def f_ (x0:aE) (x1:List UInt8) (x2:Int) (x3:Int) (x4:Int):Option ((List ac)):=(tK x0 x1 x2 x3 x4).1
theorem oI (x0:aE) (x1:List UInt8) (x2:Int) (x3:Int) (x4:Int):∀ r,f_ x0 x1 x2 x3 x4=some r->aa Tryz.prog 109 [.agg (bw x0),.str x1,.int .i64 x2,.int .i64 x3,.int .i64 x4] (.slice (List.map ab r)):=(tK x0 x1 x2 x3 x4).2
def gC:SC:= .cond (.t 30)
  (.reg [.r 31 (.mv (.t 1)),
   .r 32 (.mv (.t 10)),
   .r 33 (.idx 1 (.t 31) (.t 32)),
   .o 34 (.ld1 (.t 33)),
   .r 11 (.mv (.t 34))])
  .skip
def ek:SC:=
 (.seq (.seq (.reg [.r 20 (.mv (.t 10)),
   .r 21 (.fld 2 (.t 4)),
   .o 22 (.ld1 (.t 21)),
   .r 23 (.len (.t 22)),
   .r 24 (.bin .lss (.t 20) (.t 23))])
 (.cond (.t 24)
  .skip
  (.exit 0)))
 (.seq (.block 1 (.seq (.reg [.r 11 (.mv (.c (.d (.str []))))])
  (.seq (.seq (.reg [.r 27 (.mv (.t 10)),
    .r 28 (.mv (.t 1)),
    .r 29 (.len (.t 28)),
    .r 30 (.bin .lss (.t 27) (.t 29))])
  gC)
  (.seq (.reg [.r 35 (.mv (.t 11)),
    .r 36 (.bin .neq (.t 35) (.c (.d (.str []))))])
  (.cond (.t 36)
   (.reg [.r 37 (.mv (.t 9)),
     .r 38 (.fld 2 (.t 4)),
     .o 39 (.ld1 (.t 38)),
     .r 40 (.mv (.t 10)),
     .r 41 (.idx 5 (.t 39) (.t 40)),
     .o 42 (.ldA 5 (.t 41)),
     .r 43 (.mv (.t 11)),
     .r 44 (.mv (.t 2)),
     .r 45 (.mv (.t 3)),
     .r 46 (.mv (.t 10)),
     .r 47 (.bin .add (.t 46) (.c (.d (.int .i64 1)))),
     .c 48 (.f 109) [.t 42,.t 43,.t 44,.t 45,.t 47],
     .w 49 (.app 36 6 (.t 37) (.t 48)),
     .r 9 (.mv (.t 49))])
   (.seq (.reg [.r 50 (.fld 2 (.t 4)),
     .o 51 (.ld1 (.t 50)),
     .r 52 (.mv (.t 10)),
     .r 53 (.idx 5 (.t 51) (.t 52)),
     .r 54 (.fld 0 (.t 53)),
     .o 55 (.ld1 (.t 54))])
   (.cond (.t 55)
    (.reg [.r 56 (.mv (.t 9)),
      .r 57 (.mv (.t 2)),
      .r 58 (.mv (.t 3)),
      .r 59 (.mv (.t 10)),
      .r 60 (.bin .add (.t 59) (.c (.d (.int .i64 1)))),
      .c 61 (.f 65) [.c (.d (.int .i64 8)),.t 57,.t 58,.t 60],
      .r 62 (.bslice 6 [.t 61]),
      .w 63 (.app 36 6 (.t 56) (.t 62)),
      .r 9 (.mv (.t 63))])
    .skip)))))))
 (.reg [.r 25 (.mv (.t 10)),
   .r 26 (.bin .add (.t 25) (.c (.d (.int .i64 1)))),
   .r 10 (.mv (.t 26))])))
def gT:SC:= .block 0 (.loop ek)
def d_:SC:= .cond (.t 13)
  (.reg [.r 14 (.mv (.t 9)),
   .r 15 (.mv (.t 2)),
   .r 16 (.mv (.t 3)),
   .c 17 (.f 65) [.c (.d (.int .i64 8)),.t 15,.t 16,.c (.d (.int .i64 0))],
   .r 18 (.bslice 6 [.t 17]),
   .w 19 (.app 36 6 (.t 14) (.t 18)),
   .r 9 (.mv (.t 19))])
  (.seq (.reg [.r 10 (.mv (.c (.d (.int .i64 0))))])
 gT)
def i7:SC:=
 (.seq (.reg [.r 4 (.boxI (.t 0)),
   .r 8 (.mv (.c (.nils)))])
 (.seq (.reg [.r 9 (.mv (.c (.nils)))])
 (.seq (.seq (.reg [.r 12 (.mv (.t 1)),
   .c 13 (.f 64) [.t 12]])
 d_)
 (.seq (.seq (.reg [.r 64 (.mv (.t 1)),
   .r 65 (.len (.t 64)),
   .r 66 (.fld 2 (.t 4)),
   .o 67 (.ld1 (.t 66)),
   .r 68 (.len (.t 67)),
   .r 69 (.bin .gtr (.t 65) (.t 68))])
 (.cond (.t 69)
  (.reg [.r 70 (.mv (.t 9)),
    .r 71 (.mv (.t 2)),
    .r 72 (.mv (.t 3)),
    .r 73 (.fld 2 (.t 4)),
    .o 74 (.ld1 (.t 73)),
    .r 75 (.len (.t 74)),
    .r 76 (.bin .add (.t 75) (.c (.d (.int .i64 1)))),
    .c 77 (.f 65) [.c (.d (.int .i64 7)),.t 71,.t 72,.t 76],
    .r 78 (.bslice 6 [.t 77]),
    .w 79 (.app 36 6 (.t 70) (.t 78)),
    .r 9 (.mv (.t 79))])
  .skip))
 (.seq (.reg [.r 80 (.mv (.t 9)),
   .r 8 (.mv (.t 80))])
 .ret)))))
theorem n9:fits Tryz.prog 66 Tryz.f66 i7 [.t 8] 4=true:=oK
set_option maxRecDepth 100000 in
set_option maxHeartbeats 40000000 in
noncomputable def tL:(∀ (x0:aq) (x1:List (List UInt8)) (x2:Int) (x3:Int),{m:Option ((List ac))//∀ r,m=some r->aa Tryz.prog 66 [.agg (aX x0),.slice (List.map en x1),.int .i64 x2,.int .i64 x3] (.slice (List.map ab r))}):=by
 (intro x0 x1 x2 x3;apply Subtype.mk;intro r hm;apply af Tryz.func66 n9;unfold i7)
 repeat'(first|with_reducible refine bA ?_|with_reducible refine bt ?_|with_reducible refine bm ?_|with_reducible refine bl ?_|with_reducible refine bR ?_|with_reducible refine cw ?_|with_reducible refine bv ?_|with_reducible refine bB ?_|with_reducible refine cx ?_|with_reducible refine bq ?_|with_reducible refine dI ?_|((with_reducible apply dz hm);(iterate 2 (simp only[push_cast,seval];rfl));(intro _;rfl);intro e hm)|((with_reducible apply im);(simp only[push_cast,seval];rfl);(first|exact trivial))|((with_reducible apply fg hm);(simp only[push_cast,seval];rfl);(first|apply kM _|apply gX _ _ _ _|apply oI _ _ _ _ _);(any_goals((repeat'(first|rfl));done));intro x hm)|((with_reducible apply xt hm);(iterate 4 (simp only[push_cast,seval];rfl));(focus((repeat'(first|rfl|(with_reducible first|apply cT|apply cU|apply ez)));done));decide;(intro _;rfl);intro hm)|((with_reducible apply aO hm);(simp only[push_cast,seval];rfl);intro hm;rotate_left;intro hm)|((with_reducible apply bQ hm);(focus(simp only[bu,dc,RV.get,push_cast,seval];rfl));(focus((repeat'(first|rfl));done)))|((with_reducible apply bE hm);intro r hm)|((apply az (b:=0) (X:=gT) (x:=ek) rfl (fun(c:SV×SV×SV×SV) (s:(List ac)×Int)=>st [(1,c.1),(2,c.2.1),(3,c.2.2.1),(4,c.2.2.2),(9,.vec 9),(10,.d (.int .i64 s.2))] [(9,.vec 36 6 (bF ab s.1))]) (c:=(_,_,_,_)) (s0:=(_,_)) hm);(focus(first|(dsimp only;done)));(with_reducible refine cN.mk ?_ ?_))|(((apply o5 (X:=gC) rfl (fun(c:SV×SV×SV×SV×Ch×SV) (s:(List UInt8))=>st [(1,c.1),(2,c.2.1),(3,c.2.2.1),(4,c.2.2.2.1),(9,.vec 9),(10,c.2.2.2.2.2),(11,.d (.str s))] [(9,c.2.2.2.2.1)]) (c:=(_,_,_,_,_,_)) hm);(intro o hm);rotate_left;(focus((intro _;repeat'(first|with_reducible exact bo|with_reducible refine aG ?_|with_reducible refine dj ?_|((with_reducible refine ec ?_);intro _)|((with_reducible refine fH ?_);intro _)))));(intro s hm);rotate_left))|(((try((with_reducible apply Mg (X:=d_) (slot:=9) (id:=9) (e:=36) (sz:=6) (row:=ab));(focus(simp only[push_cast,seval];done))));(apply o5 (X:=d_) rfl (fun(c:SV×SV×SV×SV) (s:(List ac))=>st [(1,c.1),(2,c.2.1),(3,c.2.2.1),(4,c.2.2.2),(9,.vec 9)] [(9,.vec 36 6 (bF ab s))]) (c:=(_,_,_,_)) hm);(intro o hm);rotate_left;(focus((intro _;repeat'(first|with_reducible exact bo|with_reducible refine aG ?_))));(intro s hm);rotate_left))|((apply bG (s':=(_,_)) hm);(focus(first|(dsimp only;done))))|((apply cZ (s':=(_,_)) hm);(focus(first|(dsimp only;done))))|((apply bG (s':=_) hm);(focus(first|(dsimp only;done))))|(((with_reducible apply dC.of);(focus(first|(dsimp only;done)));(focus((intro _;repeat'(first|with_reducible exact bo|with_reducible refine aG ?_|((with_reducible refine ec ?_);intro _)))));(intro s o hm;first|unfold ek);rotate_left;intro s hm))|(((apply aW;(repeat'(first|with_reducible exact aw|with_reducible exact ax|with_reducible apply ap|with_reducible apply aU|((with_reducible apply aP);(focus(first|(simp only[push_cast,seval];rfl)));(focus((repeat'(first|rfl));done)))|((with_reducible apply cC);(focus(first|(simp only[push_cast,seval];rfl)));(first|with_reducible exact bj rfl))));done))))
noncomputable def dK (x0:aq) (x1:List (List UInt8)) (x2:Int) (x3:Int):Option ((List ac)):=(tL x0 x1 x2 x3).1
theorem nO (x0:aq) (x1:List (List UInt8)) (x2:Int) (x3:Int):∀ r,dK x0 x1 x2 x3=some r->aa Tryz.prog 66 [.agg (aX x0),.slice (List.map en x1),.int .i64 x2,.int .i64 x3] (.slice (List.map ab r)):=(tL x0 x1 x2 x3).2
def jI:SC:= .cond (.t 23)
  (.reg [.r 24 (.fld 1 (.t 3)),
   .o 25 (.ld1 (.t 24)),
   .r 26 (.mv (.t 6)),
   .r 27 (.idx 1 (.t 25) (.t 26)),
   .r 28 (.fld 0 (.t 27)),
   .o 29 (.ld1 (.t 28)),
   .r 7 (.mv (.t 29))])
  .skip
def ga:SC:=
 (.seq (.seq (.reg [.r 30 (.mv (.t 9)),
   .r 31 (.mv (.t 7)),
   .r 32 (.len (.t 31)),
   .r 33 (.bin .lss (.t 30) (.t 32))])
 (.cond (.t 33)
  .skip
  (.exit 2)))
 (.seq (.block 3 (.reg (.r 36 (.mv (.t 8)):: .r 37 (.mv (.t 36))::aV [38,39,40,41,42] 37 true (.r 38 (.mv (.t 7)):: .r 39 (.mv (.t 9)):: .r 40 (.idx 1 (.t 38) (.t 39)):: .r 41 (.ld1 (.t 40)):: .c 42 (.f 64) [.t 41]::[]) (.r 43 (.pick (.t 37) (.t 42) (.c (.d (.bool false)))):: .r 8 (.mv (.t 43))::[]))))
 (.reg [.r 34 (.mv (.t 9)),
   .r 35 (.bin .add (.t 34) (.c (.d (.int .i64 1)))),
   .r 9 (.mv (.t 35))])))
def j_:SC:= .block 2 (.loop ga)
def gb:SC:=
 (.seq (.seq (.reg (.r 63 (.mv (.t 11)):: .r 64 (.mv (.t 7)):: .r 65 (.len (.t 64)):: .r 66 (.bin .lss (.t 63) (.t 65)):: .r 67 (.mv (.t 66))::aV [68,69,70] 67 true (.r 68 (.mv (.t 11)):: .r 69 (.mv (.t 10)):: .r 70 (.bin .lss (.t 68) (.t 69))::[]) (.r 71 (.pick (.t 67) (.t 70) (.c (.d (.bool false))))::[])))
 (.cond (.t 71)
  .skip
  (.exit 4)))
 (.seq (.block 5 (.regE [.r 74 (.mv (.t 5)),
    .r 75 (.fld 1 (.t 2)),
    .r 76 (.ld1 (.t 75)),
    .r 77 (.mv (.t 6)),
    .r 78 (.idx 3 (.t 76) (.t 77)),
    .r 79 (.ldA 3 (.t 78)),
    .r 80 (.mv (.t 7)),
    .r 81 (.mv (.t 11)),
    .r 82 (.idx 1 (.t 80) (.t 81)),
    .r 83 (.ld1 (.t 82)),
    .r 84 (.mv (.t 6)),
    .r 85 (.bin .add (.t 84) (.c (.d (.int .i64 1)))),
    .r 86 (.mv (.t 11)),
    .r 87 (.bin .add (.t 86) (.c (.d (.int .i64 1)))),
    .c 88 (.f 66) [.t 79,.t 83,.t 85,.t 87],
    .x 89 (.app 36 6 (.t 74) (.t 88)) [],
    .r 5 (.mv (.t 89))]))
 (.reg [.r 72 (.mv (.t 11)),
   .r 73 (.bin .add (.t 72) (.c (.d (.int .i64 1)))),
   .r 11 (.mv (.t 73))])))
def ka:SC:= .block 4 (.loop gb)
def gc:SC:=
 (.seq (.seq (.reg [.r 12 (.mv (.t 6)),
   .r 13 (.fld 1 (.t 2)),
   .o 14 (.ld1 (.t 13)),
   .r 15 (.len (.t 14)),
   .r 16 (.bin .lss (.t 12) (.t 15))])
 (.cond (.t 16)
  .skip
  (.exit 0)))
 (.seq (.block 1 (.seq (.reg [.r 7 (.mv (.c (.nils)))])
  (.seq (.seq (.reg [.r 19 (.mv (.t 6)),
    .r 20 (.fld 1 (.t 3)),
    .o 21 (.ld1 (.t 20)),
    .r 22 (.len (.t 21)),
    .r 23 (.bin .lss (.t 19) (.t 22))])
  jI)
  (.seq (.reg [.r 8 (.mv (.c (.d (.bool true))))])
  (.seq (.seq (.reg [.r 9 (.mv (.c (.d (.int .i64 0))))])
  j_)
  (.seq (.seq (.reg [.r 44 (.mv (.t 8))])
  (.cond (.t 44)
   (.seq (.seq (.reg [.r 45 (.fld 1 (.t 2)),
     .o 46 (.ld1 (.t 45)),
     .r 47 (.mv (.t 6)),
     .r 48 (.idx 3 (.t 46) (.t 47)),
     .r 49 (.fld 0 (.t 48)),
     .o 50 (.ld1 (.t 49))])
   (.cond (.t 50)
    (.reg [.r 51 (.mv (.t 5)),
      .r 52 (.mv (.t 6)),
      .r 53 (.bin .add (.t 52) (.c (.d (.int .i64 1)))),
      .c 54 (.f 65) [.c (.d (.int .i64 8)),.t 53,.c (.d (.int .i64 0)),.c (.d (.int .i64 0))],
      .r 55 (.bslice 6 [.t 54]),
      .w 56 (.app 36 6 (.t 51) (.t 55)),
      .r 5 (.mv (.t 56))])
    .skip))
   (.exit 1))
   .skip))
  (.seq (.reg [.r 57 (.fld 1 (.t 2)),
    .o 58 (.ld1 (.t 57)),
    .r 59 (.mv (.t 6)),
    .r 60 (.idx 3 (.t 58) (.t 59)),
    .r 61 (.fld 1 (.t 60)),
    .o 62 (.ld1 (.t 61)),
    .r 10 (.mv (.t 62))])
  (.seq (.seq (.reg [.r 11 (.mv (.c (.d (.int .i64 0))))])
  ka)
  (.seq (.reg [.r 90 (.mv (.t 7)),
    .r 91 (.len (.t 90)),
    .r 92 (.mv (.t 10)),
    .r 93 (.bin .gtr (.t 91) (.t 92))])
  (.cond (.t 93)
   (.reg [.r 94 (.mv (.t 5)),
     .r 95 (.mv (.t 6)),
     .r 96 (.bin .add (.t 95) (.c (.d (.int .i64 1)))),
     .r 97 (.mv (.t 10)),
     .r 98 (.bin .add (.t 97) (.c (.d (.int .i64 1)))),
     .c 99 (.f 65) [.c (.d (.int .i64 6)),.t 96,.t 98,.c (.d (.int .i64 0))],
     .r 100 (.bslice 6 [.t 99]),
     .w 101 (.app 36 6 (.t 94) (.t 100)),
     .r 5 (.mv (.t 101))])
   .skip))))))))))
 (.reg [.r 17 (.mv (.t 6)),
   .r 18 (.bin .add (.t 17) (.c (.d (.int .i64 1)))),
   .r 6 (.mv (.t 18))])))
def kb:SC:= .block 0 (.loop gc)
def l9:SC:=
 (.seq (.reg [.r 2 (.boxI (.t 0)),
   .r 3 (.boxI (.t 1)),
   .r 4 (.mv (.c (.nils)))])
 (.seq (.reg [.r 5 (.mv (.c (.nils)))])
 (.seq (.seq (.reg [.r 6 (.mv (.c (.d (.int .i64 0))))])
 kb)
 (.seq (.seq (.reg [.r 102 (.fld 1 (.t 3)),
   .o 103 (.ld1 (.t 102)),
   .r 104 (.len (.t 103)),
   .r 105 (.fld 1 (.t 2)),
   .o 106 (.ld1 (.t 105)),
   .r 107 (.len (.t 106)),
   .r 108 (.bin .gtr (.t 104) (.t 107))])
 (.cond (.t 108)
  (.reg [.r 109 (.mv (.t 5)),
    .r 110 (.fld 1 (.t 2)),
    .o 111 (.ld1 (.t 110)),
    .r 112 (.len (.t 111)),
    .r 113 (.bin .add (.t 112) (.c (.d (.int .i64 1)))),
    .c 114 (.f 65) [.c (.d (.int .i64 5)),.t 113,.c (.d (.int .i64 0)),.c (.d (.int .i64 0))],
    .r 115 (.bslice 6 [.t 114]),
    .w 116 (.app 36 6 (.t 109) (.t 115)),
    .r 5 (.mv (.t 116))])
  .skip))
 (.seq (.reg [.r 117 (.mv (.t 5)),
   .r 4 (.mv (.t 117))])
 .ret)))))
theorem rI:fits Tryz.prog 30 Tryz.f30 l9 [.t 4] 2=true:=oK
set_option maxRecDepth 100000 in
set_option maxHeartbeats 40000000 in
noncomputable def tM:(∀ (x0:ah) (x1:aj),{m:Option ((List ac))//∀ r,m=some r->aa Tryz.prog 30 [.agg (ak x0),.agg (aN x1)] (.slice (List.map ab r))}):=by
 (intro x0 x1;apply Subtype.mk;intro r hm;apply af Tryz.func30 rI;unfold l9)
 repeat'(first|with_reducible refine bA ?_|with_reducible refine bt ?_|with_reducible refine xf ?_|with_reducible refine bm ?_|with_reducible refine bl ?_|with_reducible refine bR ?_|with_reducible refine cw ?_|with_reducible refine bv ?_|with_reducible refine bB ?_|with_reducible refine cx ?_|with_reducible refine bq ?_|with_reducible refine sI ?_|with_reducible refine dI ?_|((with_reducible apply dz hm);(iterate 2 (simp only[push_cast,seval];rfl));(intro _;rfl);intro e hm)|((with_reducible apply im);(simp only[push_cast,seval];rfl);(first|exact trivial))|((with_reducible apply fG hm);(simp only[push_cast,seval];rfl);rfl;intro v hm;rotate_left;intro v g hm)|((with_reducible apply fg hm);(simp only[push_cast,seval];rfl);(first|apply kM _|apply gX _ _ _ _|apply nO _ _ _ _);(any_goals((repeat'(first|rfl));done));intro x hm)|((with_reducible apply xt hm);(iterate 4 (simp only[push_cast,seval];rfl));(focus((repeat'(first|rfl|(with_reducible first|apply cT|apply cU|apply ez)));done));decide;(intro _;rfl);intro hm)|((with_reducible apply Lv hm);(iterate 2 (simp only[push_cast,seval];rfl));(focus((repeat'(first|rfl));done));(simp only[push_cast,seval];rfl);(focus((repeat'(first|rfl));done));(intro _;rfl);(focus((repeat'(first|exact tl));done));intro hm)|((with_reducible apply aO hm);(simp only[push_cast,seval];rfl);intro hm;rotate_left;intro hm)|((with_reducible apply bQ hm);(focus(simp only[bu,dc,RV.get,push_cast,seval];rfl));(focus((repeat'(first|rfl));done)))|((with_reducible apply cJ hm);(simp only[push_cast,seval];rfl))|((with_reducible apply bE hm);intro r hm)|((apply az (b:=2) (X:=j_) (x:=ga) rfl (fun(c:SV×SV×Ch×SV×SV) (s:Bool×Int)=>st [(2,c.1),(3,c.2.1),(5,.vec 5),(6,c.2.2.2.1),(7,c.2.2.2.2),(8,.d (.bool s.1)),(9,.d (.int .i64 s.2))] [(5,c.2.2.1)]) (c:=(_,_,_,_,_)) (s0:=(_,_)) hm);(focus(first|(dsimp only;done)));(with_reducible refine cN.mk ?_ ?_))|((apply az (b:=4) (X:=ka) (x:=gb) rfl (fun(c:SV×SV×SV×SV×SV) (s:(List ac)×Int)=>st [(2,c.1),(3,c.2.1),(5,.vec 5),(6,c.2.2.1),(7,c.2.2.2.1),(10,c.2.2.2.2),(11,.d (.int .i64 s.2))] [(5,.vec 36 6 (bF ab s.1))]) (c:=(_,_,_,_,_)) (s0:=(_,_)) hm);(focus(first|(dsimp only;done)));(with_reducible refine cN.mk ?_ ?_))|((apply az (b:=0) (X:=kb) (x:=gc) rfl (fun(c:SV×SV) (s:(List ac)×Int)=>st [(2,c.1),(3,c.2),(5,.vec 5),(6,.d (.int .i64 s.2))] [(5,.vec 36 6 (bF ab s.1))]) (c:=(_,_)) (s0:=(_,_)) hm);(focus(first|(dsimp only;done)));(with_reducible refine cN.mk ?_ ?_);apply dB.trans;(focus(apply tk (slot:=5) (id:=5) (e:=36) (sz:=6);(focus(simp only[push_cast,seval];done)))))|(((apply o5 (X:=jI) rfl (fun(c:SV×SV×Ch×SV) (s:(List (List (List UInt8))))=>st [(2,c.1),(3,c.2.1),(5,.vec 5),(6,c.2.2.2),(7,.d (.slice (List.map (rz en) s)))] [(5,c.2.2.1)]) (c:=(_,_,_,_)) hm);(intro o hm);rotate_left;(focus((intro _;repeat'(first|with_reducible exact bo|with_reducible refine aG ?_|with_reducible refine dj ?_|((with_reducible refine ec ?_);intro _)|((with_reducible refine fH ?_);intro _)))));(intro s hm);rotate_left))|((apply bG (s':=(_,_)) hm);(focus(first|(dsimp only;done))))|((apply cZ (s':=(_,_)) hm);(focus(first|(dsimp only;done))))|((apply bG (s':=_) hm);(focus(first|(dsimp only;done))))|(((with_reducible apply dC.of);(focus(first|(dsimp only;done)));(focus((intro _;repeat'(first|with_reducible exact bo|with_reducible refine aG ?_|with_reducible refine dj ?_|((with_reducible refine ec ?_);intro _)|((with_reducible refine fH ?_);intro _)))));(intro s o hm;first|unfold ga|unfold gb|unfold gc);rotate_left;intro s hm))|(((apply aW;(repeat'(first|with_reducible exact aw|with_reducible exact ax|with_reducible apply ap|with_reducible apply aU|((with_reducible apply aP);(focus(first|(simp only[push_cast,seval];rfl)));(focus((repeat'(first|rfl));done)))|((with_reducible apply Lp);(focus(first|(simp only[push_cast,seval];rfl)));(focus(first|(simp only[push_cast,seval];rfl)));(focus((repeat'(first|(with_reducible first|apply cT|apply cU)));done)))|((with_reducible apply cC);(focus(first|(simp only[push_cast,seval];rfl)));(first|with_reducible exact bj rfl|with_reducible apply qD))|(with_reducible first|apply Hg)));done))))
noncomputable def i8 (x0:ah) (x1:aj):Option ((List ac)):=(tM x0 x1).1
theorem rk (x0:ah) (x1:aj):∀ r,i8 x0 x1=some r->aa Tryz.prog 30 [.agg (ak x0),.agg (aN x1)] (.slice (List.map ab r)):=(tM x0 x1).2
def l7:SC:=
 (.seq (.reg [.r 2 (.boxI (.t 0)),
   .r 3 (.boxI (.t 1)),
   .r 4 (.mv (.c (.nils))),
   .r 5 (.mv (.c (.d (.int .i64 0))))])
 (.seq (.seq (.reg [.r 8 (.fld 0 (.t 2)),
   .o 9 (.ld1 (.t 8)),
   .r 10 (.fld 0 (.t 3)),
   .o 11 (.ld1 (.t 10)),
   .r 12 (.bin .neq (.t 9) (.t 11))])
 (.cond (.t 12)
  (.seq (.reg [.r 4 (.mv (.c (.nils))),
    .r 5 (.mv (.c (.d (.int .i64 3))))])
  .ret)
  .skip))
 (.seq (.seq (.reg [.o 13 (.ldA 2 (.t 2)),
   .r 14 (.bslice 2 [.t 13]),
   .c 15 (.f 28) [.t 14],
   .r 6 (.mv (.t 15))])
 (.seq (.reg [.r 16 (.mv (.t 6)),
   .r 17 (.bin .neq (.t 16) (.c (.d (.int .i64 0))))])
 (.cond (.t 17)
  (.seq (.reg [.r 18 (.mv (.t 6)),
    .r 4 (.mv (.c (.nils))),
    .r 5 (.mv (.t 18))])
  .ret)
  .skip)))
 (.seq (.seq (.reg [.o 19 (.ldA 2 (.t 3)),
   .c 20 (.f 29) [.t 19],
   .r 7 (.mv (.t 20))])
 (.seq (.reg [.r 21 (.mv (.t 7)),
   .r 22 (.bin .neq (.t 21) (.c (.d (.int .i64 0))))])
 (.cond (.t 22)
  (.seq (.reg [.r 23 (.mv (.t 7)),
    .r 4 (.mv (.c (.nils))),
    .r 5 (.mv (.t 23))])
  .ret)
  .skip)))
 (.seq (.reg [.o 24 (.ldA 2 (.t 2)),
   .o 25 (.ldA 2 (.t 3)),
   .c 26 (.f 30) [.t 24,.t 25],
   .r 4 (.mv (.t 26)),
   .r 5 (.mv (.c (.d (.int .i64 0))))])
 .ret)))))
theorem rG:fits Tryz.prog 8 Tryz.f8 l7 [.t 4,.t 5] 2=true:=oK
set_option maxRecDepth 100000 in
set_option maxHeartbeats 40000000 in
noncomputable def vJ:(∀ (x0:ah) (x1:aj),{m:Option ((List ac)×Int)//∀ r,m=some r->aa Tryz.prog 8 [.agg (ak x0),.agg (aN x1)] (.tup [.slice (List.map ab r.1),.int .i64 r.2])}):=by
 (intro x0 x1;apply Subtype.mk;intro r hm;apply af Tryz.func8 rG;unfold l7)
 repeat'(first|with_reducible refine bA ?_|with_reducible refine bt ?_|with_reducible refine bl ?_|with_reducible refine bR ?_|with_reducible refine bv ?_|with_reducible refine bB ?_|with_reducible refine cb ?_|with_reducible refine dI ?_|((with_reducible apply im);(simp only[push_cast,seval];rfl);(first|exact trivial))|((with_reducible apply fg hm);(simp only[push_cast,seval];rfl);(first|apply oF _|apply px _|apply rk _ _);(any_goals((repeat'(first|rfl|(with_reducible first|apply cT|apply eo|apply cU|apply ez)));done));intro x hm)|((with_reducible apply aO hm);(simp only[push_cast,seval];rfl);intro hm;rotate_left;intro hm)|((with_reducible apply jO hm);(focus(simp only[bu,dc,RV.get,push_cast,seval];rfl));(focus(first|(dsimp only;done)));(focus((repeat'(first|rfl|(with_reducible first|apply wP|apply cT|apply eo|apply cU)));done))))
noncomputable def i6 (x0:ah) (x1:aj):Option ((List ac)×Int):=(vJ x0 x1).1
theorem rj (x0:ah) (x1:aj):∀ r,i6 x0 x1=some r->aa Tryz.prog 8 [.agg (ak x0),.agg (aN x1)] (.tup [.slice (List.map ab r.1),.int .i64 r.2]):=(vJ x0 x1).2
def bp:SC:=
 (.seq (.reg [.r 14 (.bin .lss (.t 13) (.t 12))])
 (.seq (.cond (.t 14)
  .skip
  (.exit 0))
 (.seq (.block 1 (.seq (.reg [.r 15 (.mv (.t 13)),
    .r 5 (.mv (.t 15))])
  (.seq (.regD [.r 16 (.mv (.t 0)),
    .r 17 (.mv (.t 5)),
    .r 18 (.idx 6 (.t 16) (.t 17)),
    .r 19 (.ldA 6 (.t 18)),
    .r 20 (.mv (.t 1)),
    .r 21 (.mv (.t 5)),
    .r 22 (.idx 6 (.t 20) (.t 21)),
    .r 23 (.ldA 6 (.t 22)),
    .r 24 (.eqs .neq [(.int .i64),(.int .i64),(.int .i64),(.int .i64),(.int .i64),.str] (.t 19) (.t 23))])
  (.cond (.t 24)
   (.seq (.reg [.r 4 (.mv (.c (.d (.bool false))))])
   .ret)
   .skip))))
 (.reg [.r 25 (.bin .add (.t 13) (.c (.d (.int .i64 1)))),
   .r 13 (.mv (.t 25))]))))
def cv:SC:= .block 0 (.loop bp)
def cH:SC:=
 (.seq (.reg [.r 4 (.mv (.c (.d (.bool false))))])
 (.seq (.seq (.reg [.r 6 (.mv (.t 0)),
   .r 7 (.len (.t 6)),
   .r 8 (.mv (.t 1)),
   .r 9 (.len (.t 8)),
   .r 10 (.bin .neq (.t 7) (.t 9))])
 (.cond (.t 10)
  (.seq (.reg [.r 4 (.mv (.c (.d (.bool false))))])
  .ret)
  .skip))
 (.seq (.seq (.reg [.r 11 (.mv (.t 0)),
   .r 12 (.len (.t 11)),
   .r 13 (.mv (.c (.d (.int .i64 0))))])
 cv)
 (.seq (.reg [.r 4 (.mv (.c (.d (.bool true))))])
 .ret))))
theorem eW:fits Tryz.prog 9 Tryz.f9 cH [.t 4] 2=true:=oK
set_option maxRecDepth 100000 in
set_option maxHeartbeats 40000000 in
noncomputable def vE:(∀ (x0:List ac) (x1:List ac),{m:Option (Bool)//∀ r,m=some r->aa Tryz.prog 9 [.slice (List.map ab x0),.slice (List.map ab x1)] (.bool r)}):=by
 (intro x0 x1;apply Subtype.mk;intro r hm;apply af Tryz.func9 eW;unfold cH)
 repeat'(first|with_reducible refine bA ?_|with_reducible refine bt ?_|with_reducible refine uE ?_|with_reducible refine bm ?_|with_reducible refine bl ?_|with_reducible refine bR ?_|with_reducible refine cw ?_|with_reducible refine bv ?_|with_reducible refine bB ?_|with_reducible refine cx ?_|with_reducible refine cb ?_|with_reducible refine bq ?_|with_reducible refine cg ?_|((with_reducible apply dz hm);(iterate 2 (simp only[push_cast,seval];rfl));(intro _;rfl);intro e hm)|((with_reducible apply im);(simp only[push_cast,seval];rfl);(first|exact trivial))|((with_reducible apply aO hm);(simp only[push_cast,seval];rfl);intro hm;rotate_left;intro hm)|((with_reducible apply bQ hm);(focus(simp only[bu,dc,RV.get,push_cast,seval];rfl));(focus((repeat'(first|rfl));done)))|((with_reducible apply bE hm);intro r hm)|((with_reducible apply di hm);intro r hm)|((apply az (b:=0) (X:=cv) (x:=bp) rfl (fun(c:SV×SV×SV) (s:Int)=>st [(0,c.1),(1,c.2.1),(12,c.2.2),(13,.d (.int .i64 s))] []) (c:=(_,_,_)) (s0:=_) hm);(focus(first|(dsimp only;done)));(with_reducible refine cN.mk ?_ ?_))|((apply bG (s':=_) hm);(focus(first|(dsimp only;done))))|((apply cZ (s':=_) hm);(focus(first|(dsimp only;done))))|(((with_reducible apply gq hm);intro r hm))|(((with_reducible apply dC.of);(focus(first|(dsimp only;done)));(focus((intro _;repeat'(first|with_reducible exact bo|with_reducible refine aG ?_))));(intro s o hm;first|unfold bp);rotate_left;intro s hm))|(((apply aW;(repeat'(first|with_reducible exact aw|with_reducible exact ax|with_reducible apply ap|((with_reducible apply aP);(focus(first|(simp only[push_cast,seval];rfl)));(focus((repeat'(first|rfl));done)))));done))))
noncomputable def bC (x0:List ac) (x1:List ac):Option (Bool):=(vE x0 x1).1
theorem eQ (x0:List ac) (x1:List ac):∀ r,bC x0 x1=some r->aa Tryz.prog 9 [.slice (List.map ab x0),.slice (List.map ab x1)] (.bool r):=(vE x0 x1).2
def fb:SC:=
 (.seq (.reg [.r 2 (.boxI (.t 0)),
   .r 3 (.boxI (.t 1)),
   .r 4 (.mv (.c (.d (.bool false))))])
 (.seq (.reg [.o 10 (.ldA 2 (.t 2)),
   .o 11 (.ldA 2 (.t 3)),
   .c 12 (.f 7) [.t 10,.t 11],
   .r 9 (.mv (.t 12)),
   .r 13 (.ext (.t 9) 0),
   .r 14 (.ext (.t 9) 1),
   .r 5 (.mv (.t 13)),
   .r 6 (.mv (.t 14))])
 (.seq (.reg [.o 16 (.ldA 2 (.t 2)),
   .o 17 (.ldA 2 (.t 3)),
   .c 18 (.f 8) [.t 16,.t 17],
   .r 15 (.mv (.t 18)),
   .r 19 (.ext (.t 15) 0),
   .r 20 (.ext (.t 15) 1),
   .r 7 (.mv (.t 19)),
   .r 8 (.mv (.t 20))])
 (.seq (.reg (.r 21 (.mv (.t 5)):: .r 22 (.mv (.t 7)):: .c 23 (.f 9) [.t 21,.t 22]:: .r 24 (.mv (.t 23))::aV [25,26,27] 24 true (.r 25 (.mv (.t 6)):: .r 26 (.mv (.t 8)):: .r 27 (.bin .eql (.t 25) (.t 26))::[]) (.r 28 (.pick (.t 24) (.t 27) (.c (.d (.bool false)))):: .r 29 (.mv (.t 28))::aV [30] 29 true (.c 30 (.f 10) []::[]) (.r 31 (.pick (.t 29) (.t 30) (.c (.d (.bool false)))):: .r 4 (.mv (.t 31))::[]))))
 .ret))))
theorem jS:fits Tryz.prog 3 Tryz.f3 fb [.t 4] 2=true:=oK
set_option maxRecDepth 100000 in
set_option maxHeartbeats 40000000 in
noncomputable def vF:(∀ (x0:ah) (x1:aj),{m:Option (Bool)//∀ r,m=some r->aa Tryz.prog 3 [.agg (ak x0),.agg (aN x1)] (.bool r)}):=by
 (intro x0 x1;apply Subtype.mk;intro r hm;apply af Tryz.func3 jS;unfold fb)
 repeat'(first|with_reducible refine bA ?_|with_reducible refine bt ?_|with_reducible refine bR ?_|with_reducible refine bv ?_|with_reducible refine bB ?_|with_reducible refine dI ?_|((with_reducible apply im);(simp only[push_cast,seval];rfl);(first|exact trivial))|((with_reducible apply fG hm);(simp only[push_cast,seval];rfl);rfl;intro v hm;rotate_left;intro v g hm)|((with_reducible apply fg hm);(simp only[push_cast,seval];rfl);(first|apply yH _ _|apply rj _ _|apply eQ _ _|apply rc);(any_goals((repeat'(first|rfl));done));intro x hm)|((with_reducible apply bQ hm);(focus(simp only[bu,dc,RV.get,push_cast,seval];rfl));(focus((repeat'(first|rfl));done)))|((with_reducible apply cJ hm);(simp only[push_cast,seval];rfl)))
noncomputable def cj (x0:ah) (x1:aj):Option (Bool):=(vF x0 x1).1
theorem jE (x0:ah) (x1:aj):∀ r,cj x0 x1=some r->aa Tryz.prog 3 [.agg (ak x0),.agg (aN x1)] (.bool r):=(vF x0 x1).2
end Go.Proofs.YteaolfcegaidpaaGreatDoor
namespace Go.Proofs.YteaolfcegaidpaaGreatDoor
open Go.ChangeShapes Go.WideShapes Go.ChangeAt Go.RowKit
set_option linter.unusedSimpArgs false
set_option linter.unusedVariables false
theorem NL {a b:Bool} (h1:a=true) (h2:b=true):(a&&b)=true:=by rw[h1,h2];rfl
def Wt (P:Program) (n:Nat) (t:TypeId) {α:Type} (row:α->List DV) (ok:α->Prop):Prop:=∀ m ds,WT P (m+n) t ds->∃ x,ds=row x/\ok x
theorem Wt.up {P:Program} {n:Nat} {t:TypeId} {α:Type} {row:α->List DV} {ok:α->Prop} (h:Wt P n t row ok) (k:Nat):Wt P (n+k) t row ok:=fun m ds hd=>h (m+k) ds (by rwa[show m+k+n=m+(n+k) by omega])
def M5 (n:Int):Prop:= -9223372036854775808<=n/\n<=9223372036854775807
def LN (s:List UInt8):Prop:=s.length<=9223372036854775807
def N9 (_:Bool):Prop:=True
def Iu {α:Type} (ok:α->Prop) (l:List α):Prop:=l.length<=9223372036854775807/\∀ a∈l,ok a
theorem s_ {P:Program} {n:Nat} {t:TypeId} {fs:Array Field} {ds:List DV} (hu:P.underlying t=some (.struct fs)) (h:WT P (n+1) t ds):K9 (WT P n) fs.toList ds:=by
 simp only[WT,hu] at h;exact h
theorem M6 {P:Program} {t:TypeId} (hu:P.underlying t=some (.int .i64)):Wt P 1 t yp M5:=by
 intro m ds h
 simp only[WT,hu] at h
 obtain⟨k,rfl,hw⟩:=h
 refine⟨k,rfl, ?_⟩
 simp[Lit.wf] at hw
 have e:IntKind.i64.min= -9223372036854775808:=by decide
 unfold M5;omega
theorem LO {P:Program} {t:TypeId} (hu:P.underlying t=some .bool):Wt P 1 t Fp N9:=by
 intro m ds h
 simp only[WT,hu] at h
 obtain⟨b,rfl⟩:=h
 exact⟨b,rfl,trivial⟩
theorem M7 {P:Program} {t:TypeId} (hu:P.underlying t=some .string):Wt P 1 t en LN:=by
 intro m ds h
 simp only[WT,hu] at h
 obtain⟨b,rfl,hl⟩:=h
 exact⟨b,rfl,by unfold LN;unfold maxLen at hl;omega⟩
theorem vZ {P:Program} {n:Nat} {t e:TypeId} {α:Type} {row:α->List DV} {ok:α->Prop} (hu:P.underlying t=some (.slice e)) (he:Wt P n e row ok):Wt P (n+1) t (rz row) (Iu ok):=by
 intro m ds h
 rw[show m+(n+1)=(m+n)+1 by omega] at h
 simp only[WT,hu] at h
 obtain⟨rows,rfl,hl,hr⟩:=h
 have:∀ rows:List (List DV),(∀ r∈rows,WT P (m+n) e r)->∃ l:List α,rows=l.map row/\∀ a∈l,ok a:=by
  intro rows
  induction rows with
  |nil=>intro _;exact⟨[],rfl,by simp⟩
  |cons r rows ih=>
   intro h
   obtain⟨a,rfl,ha⟩:=he m r (h r oS)
   obtain⟨l,rfl,hl⟩:=ih (fun r hr=>h r (by simp[hr]))
   exact⟨a::l,rfl,by simpa using⟨ha,hl⟩⟩
 obtain⟨l,rfl,hok⟩:=this rows hr
 exact⟨l,rfl,by unfold maxLen at hl;simp at hl;omega,hok⟩
theorem Oi:ownKnob Tryz.prog.godebug=none:=oK
theorem LP:laidOutB Tryz.prog=true:=oK
theorem Oj:Wt Tryz.prog 1 9 en LN:=M7 Tryz.underlying9
theorem Or:Wt Tryz.prog 1 4 Fp N9:=LO Tryz.underlying4
theorem N_:Wt Tryz.prog 1 3 yp M5:=M6 Tryz.underlying3
theorem NM:Wt Tryz.prog 2 69 (rz en) (Iu LN):=vZ Tryz.underlying69 Oj
def rp (x:aE):Prop:=N9 x.fNeeded/\M5 x.fType/\M5 x.fMin/\M5 x.fMax/\(Iu LN) x.fCodes
set_option maxRecDepth 100000 in
theorem NN:Wt Tryz.prog 3 178 bw rp:=by
 intro m ds h
 have h:=s_ Tryz.underlying178 h
 simp only[K9] at h
 obtain⟨a0,_,rfl,h0,a1,_,rfl,h1,a2,_,rfl,h2,a3,_,rfl,h3,a4,_,rfl,h4,rfl⟩:=h
 obtain⟨x0,rfl,o0⟩:=(Or.up 1) m _ h0
 obtain⟨x1,rfl,o1⟩:=(N_.up 1) m _ h1
 obtain⟨x2,rfl,o2⟩:=(N_.up 1) m _ h2
 obtain⟨x3,rfl,o3⟩:=(N_.up 1) m _ h3
 obtain⟨x4,rfl,o4⟩:=(NM.up 0) m _ h4
 refine⟨⟨x0,x1,x2,x3,x4⟩, ?_,o0,o1,o2,o3,o4⟩
 simp only[bw,yp,H_,en,Fp,rz,OK,OM,OR,OY]
theorem NO:Wt Tryz.prog 4 119 (rz bw) (Iu rp):=vZ Tryz.underlying119 NN
def nU (x:aq):Prop:=N9 x.fNeeded/\M5 x.fMost/\(Iu rp) x.fParts
set_option maxRecDepth 100000 in
theorem NP:Wt Tryz.prog 5 121 aX nU:=by
 intro m ds h
 have h:=s_ Tryz.underlying121 h
 simp only[K9] at h
 obtain⟨a0,_,rfl,h0,a1,_,rfl,h1,a2,_,rfl,h2,rfl⟩:=h
 obtain⟨x0,rfl,o0⟩:=(Or.up 3) m _ h0
 obtain⟨x1,rfl,o1⟩:=(N_.up 3) m _ h1
 obtain⟨x2,rfl,o2⟩:=(NO.up 0) m _ h2
 refine⟨⟨x0,x1,x2⟩, ?_,o0,o1,o2⟩
 simp only[aX,yp,H_,en,Fp,rz,OK,OM,OR,OY]
theorem Ok:Wt Tryz.prog 6 22 (rz aX) (Iu nU):=vZ Tryz.underlying22 NP
def nV (x:ah):Prop:=LN x.fTag/\(Iu nU) x.fElements
set_option maxRecDepth 100000 in
theorem Ol:Wt Tryz.prog 7 24 ak nV:=by
 intro m ds h
 have h:=s_ Tryz.underlying24 h
 simp only[K9] at h
 obtain⟨a0,_,rfl,h0,a1,_,rfl,h1,rfl⟩:=h
 obtain⟨x0,rfl,o0⟩:=(Oj.up 5) m _ h0
 obtain⟨x1,rfl,o1⟩:=(Ok.up 0) m _ h1
 refine⟨⟨x0,x1⟩, ?_,o0,o1⟩
 simp only[ak,yp,H_,en,Fp,rz,OK,OM,OR,OY]
theorem NQ:Wt Tryz.prog 3 112 (rz (rz en)) (Iu (Iu LN)):=vZ Tryz.underlying112 NM
def rq (x:bV):Prop:=(Iu (Iu LN)) x.fRepeats
set_option maxRecDepth 100000 in
theorem NR:Wt Tryz.prog 4 114 b_ rq:=by
 intro m ds h
 have h:=s_ Tryz.underlying114 h
 simp only[K9] at h
 obtain⟨a0,_,rfl,h0,rfl⟩:=h
 obtain⟨x0,rfl,o0⟩:=(NQ.up 0) m _ h0
 refine⟨⟨x0⟩, ?_,o0⟩
 simp only[b_,yp,H_,en,Fp,rz,OK,OM,OR,OY]
theorem Om:Wt Tryz.prog 5 25 (rz b_) (Iu rq):=vZ Tryz.underlying25 NR
def rr (x:aj):Prop:=LN x.fTag/\(Iu rq) x.fElements
set_option maxRecDepth 100000 in
theorem On:Wt Tryz.prog 6 27 aN rr:=by
 intro m ds h
 have h:=s_ Tryz.underlying27 h
 simp only[K9] at h
 obtain⟨a0,_,rfl,h0,a1,_,rfl,h1,rfl⟩:=h
 obtain⟨x0,rfl,o0⟩:=(Oj.up 4) m _ h0
 obtain⟨x1,rfl,o1⟩:=(Om.up 0) m _ h1
 refine⟨⟨x0,x1⟩, ?_,o0,o1⟩
 simp only[aN,yp,H_,en,Fp,rz,OK,OM,OR,OY]
def wv:Nat->DataW Unit->List Value
 |0,_=>[]
 |_+1,.lit (.int k n)=>[.int k n]
 |n+1,.agg ps=>ps.flatMap (wv n)
 |_+1,_=>[]
def rt (l:List Value):Obj->Obj
 | .cells _ t frozen=> .cells l.toArray t frozen
 |o=>o
noncomputable def FB:Nat:=(World.holding Tryz.prog default ⟨#[],#[],[]⟩).heap.size
noncomputable def zG (os:Os):World:=
 {World.holding Tryz.prog os ⟨#[],#[],[]⟩ with
  heap:=((((((((World.holding Tryz.prog os ⟨#[.cells #[.string ⟨#[118,97,108,117,101,32,111,117,116,32,111,102,32,114,97,110,103,101]⟩] 290,.cells #[.string ⟨#[105,110,118,97,108,105,100,32,115,121,110,116,97,120]⟩] 290],#[],[]⟩).heap.modify 6 (rt (wv 5 Rows.laid_math_bits_deBruijn32tab))).modify 7 (rt (wv 5 Rows.laid_math_bits_deBruijn64tab))).modify 5 (rt (wv 5 Rows.laid_internal_strconv_uint64pow10))).modify 2 (rt (wv 5 Rows.laid_unicode_utf8_acceptRanges))).modify 4 (rt [.iface 288 (.pointer (some ⟨FB+0,0,none⟩))])).modify 3 (rt [.iface 288 (.pointer (some ⟨FB+1,0,none⟩))])).modify 1 (rt (wv 5 Rows.laid_unicode_utf8_first)))}
end Go.Proofs.YteaolfcegaidpaaGreatDoor
namespace Go.Proofs.YteaolfcegaidpaaGreatDoor
open Go.RowKit
set_option linter.unusedSimpArgs false
set_option linter.unusedVariables false
def Fz {α S A:Type} (g:Nat->S->α->Option (S⊕A)) (fin:S->Option A):List α->Nat->S->Option A
 |[],_,s=>fin s
 |e::l,i,s=>match g i s e with
  |some (.inl s')=>Fz g fin l (i+1) s'
  |some (.inr a)=>some a
  |none=>none
theorem zF {α:Type} {l t:List α} {e:α} {i:Nat} (hd:l.drop i=e::t):l[i]?=some e/\i<l.length/\l.drop (i+1)=t:=by
 refine⟨?_, ?_, ?_⟩
 ·have:=congrArg (fun q=>q[0]?) hd
  simpa using this
 ·rcases O2 i l.length with h|h
  ·exact h
  ·rw[P_ h] at hd;cases hd
 ·have:=congrArg List.tail hd
  simpa using this
theorem tS {α:Type} {l:List α} {i:Nat} (hd:l.drop i=[]) (hi:i<=l.length):i=l.length:=by
 have:=congrArg List.length hd;simp at this;omega
theorem Il {α S T A:Type} (l:List α) (mk:Nat->S->T) (g:Nat->S->α->Option (S⊕A)) (fin:S->Option A) {f:T->Option (T⊕A)}
  (hb:∀ (i:Nat) (e:α) (s:S),l[i]?=some e->f (mk i s)=(match g i s e with|some (.inl s')=>some (.inl (mk (i+1) s'))|some (.inr a)=>some (.inr a)|none=>none))
  (he:∀ s,f (mk l.length s)=(fin s).map .inr) (s:S):bx f (mk 0 s)=Fz g fin l 0 s:=by
 have:∀ (t:List α) (i:Nat) (s:S),l.drop i=t->i<=l.length->bx f (mk i s)=Fz g fin t i s:=by
  intro t
  induction t with
  |nil=>
   intro i s hd hi
   have:=tS hd hi
   subst this
   rw[ct,he]
   simp only[Fz]
   cases fin s<;>rfl
  |cons e t ih=>
   intro i s hd hi
   obtain⟨h1,h2,h3⟩:=zF hd
   rw[ct,hb i e s h1]
   simp only[Fz]
   cases g i s e with
   |none=>rfl
   |some o=>
    cases o with
    |inr a=>rfl
    |inl s'=>exact ih (i+1) s' h3 h2
 exact this l 0 s rfl (Pi _)
theorem py {α T A:Type} (l:List α) (st:Nat->List α->T) {f:T->Option (T⊕A)} {a:A}
  (hb:∀ (i:Nat) (e:α),l[i]?=some e->f (st i (l.take i))=some (.inl (st (i+1) (l.take i++[e]))))
  (he:f (st l.length l)=some (.inr a)):bx f (st 0 [])=some a:=by
 have:=GE (f:=f) (a:=a) (fun i=>st i (l.take i)) l.length (fun i hi=>by
  obtain⟨e,h⟩:=jw hi
  show f (st i (l.take i))=some (.inl (st (i+1) (l.take (i+1))))
  rw[hb i e h,ng h]) (by
  show f (st l.length (l.take l.length))=_
  rw[PH];exact he)
 simpa using this
def dX {α β:Type} (f:Nat->α->List β):Nat->List α->List β
 |_,[]=>[]
 |i,x::l=>f i x++dX f (i+1) l
theorem yR {α β:Type} (f:Nat->α->List β):∀ (l l2:List α) (i:Nat),dX f i (l++l2)=dX f i l++dX f (i+l.length) l2
 |[],l2,i=>by simp[dX]
 |x::l,l2,i=>by
  simp only[OM,dX,yR f l l2 (i+1),OK,OW]
  rw[show i+1+l.length=i+(l.length+1) by omega]
theorem oV {α β:Type} (f:Nat->α->List β) (l:List α) (e:α):dX f 0 (l++[e])=dX f 0 l++f l.length e:=by
 rw[yR];simp[dX]
theorem wu {α β:Type} {f:Nat->α->List β} {y:β}:∀ {l:List α} {i:Nat},y∈dX f i l->∃ k e,l[k]?=some e/\y∈f (i+k) e
 |[],i,h=>by simp[dX] at h
 |x::l,i,h=>by
  simp only[dX,OV] at h
  rcases h with h|h
  ·exact⟨0,x,rfl,by simpa using h⟩
  ·obtain⟨k,e,h1,h2⟩:=wu h
   exact⟨k+1,e,by simpa using h1,by rwa[show i+(k+1)=i+1+k by omega]⟩
theorem eB {α β:Type} {f:Nat->α->List β} {b:Nat}:∀ (l:List α) (i:Nat),(∀ i e,e∈l->(f i e).length<=b)->(dX f i l).length<=l.length * b
 |[],_,_=>by simp[dX]
 |x::l,i,hf=>by
  have h1:=hf i x oS
  have h2:=eB l (i+1) (fun i e he=>hf i e (by simp[he]))
  simp only[dX,OD,OW,PD,Nat.one_mul]
  omega
theorem sZ {α:Type} {l:List α} {i:Nat} {e:α} (h:l[i]?=some e):(l.take i).length=i:=by
 obtain⟨hi, -⟩:=OG.1 h
 simp;omega
theorem bI {α:Type} {l:List α} {i:Nat} {e:α} (h:l[i]?=some e):i<l.length:=(OG.1 h).1
theorem gL {R:Type} {n:Nat} {m:Option R} (h:n<=137438953472):jV (tu n) m=m:=ey (Lz h)
theorem FA {α:Type} {l:List α} {i:Nat} {x:α} (h:x∈l.take i):x∈l:=O0 h
theorem yS {X S A R:Type} {f:S->Option (S⊕A)} {k:A->Option R} {c:Option R} (st:X->S) (μ:X->Nat) (P:X->Prop)
  (h:∀ x,P x->(∃ y,P y/\μ y<μ x/\f (st x)=some (.inl (st y)))\/(∃ a,f (st x)=some (.inr a)/\k a=c)) (x:X) (hx:P x):(bx f (st x)).bind k=c:=by
 have:∀ n x,μ x<=n->P x->(bx f (st x)).bind k=c:=by
  intro n
  induction n with
  |zero=>
   intro x hn hx
   rcases h x hx with⟨y,_,h2,_⟩|⟨a,h1,h2⟩
   ·omega
   ·rw[ct,h1];exact h2
  |succ n ih=>
   intro x hn hx
   rcases h x hx with⟨y,h1,h2,h3⟩|⟨a,h1,h2⟩
   ·rw[ct,h3];exact ih y oM h1
   ·rw[ct,h1];exact h2
 exact this (μ x) x (OH _) hx
theorem me {X S A R:Type} {f:S->Option (S⊕A)} {k:A->Option R} {C:R->Prop} (st:X->S) (μ:X->Nat) (P:X->Prop)
  (h:∀ x,P x->(∃ y,P y/\μ y<μ x/\f (st x)=some (.inl (st y)))\/(∃ a c,f (st x)=some (.inr a)/\k a=some c/\C c)) (x:X) (hx:P x):∃ c,(bx f (st x)).bind k=some c/\C c:=by
 have:∀ n x,μ x<=n->P x->∃ c,(bx f (st x)).bind k=some c/\C c:=by
  intro n
  induction n with
  |zero=>
   intro x hn hx
   rcases h x hx with⟨y,_,h2,_⟩|⟨a,c,h1,h2,h3⟩
   ·omega
   ·rw[ct,h1];exact⟨c,h2,h3⟩
  |succ n ih=>
   intro x hn hx
   rcases h x hx with⟨y,h1,h2,h3⟩|⟨a,c,h1,h2,h3⟩
   ·rw[ct,h3];exact ih y oM h1
   ·rw[ct,h1];exact⟨c,h2,h3⟩
 exact this (μ x) x (OH _) hx
theorem nh {α R:Type} (l:List α) (q:α->Bool) (a:R) {f:Int->Option (Int⊕(Int⊕R))} {K:Int->Option R}
  (hb:∀ (i:Nat) (e:α),l[i]?=some e->f (i:Int)=if q e=true then some (.inl ((i+1:Nat):Int)) else some (.inr (.inr a))) (he:f (l.length:Int)=some (.inr (.inl (l.length:Int)))):
  (bx f 0).bind (bX K)=if l.all q=true then K (l.length:Int) else some a:=by
 refine yS (X:=Nat) (fun i=>((i:Nat):Int)) (fun i=>l.length - i) (fun i=>i<=l.length/\(l.take i).all q=true) ?_ 0 ⟨Pi _,rfl⟩
 rintro i ⟨h1,h2⟩
 rcases O2 i l.length with hi|hi
 ·obtain⟨e,hx⟩:=jw hi
  cases hq:q e with
  |true=>
   refine .inl ⟨i+1,⟨hi, ?_⟩,by omega,by rw[hb i e hx,hq];rfl⟩
   rw[ng hx,List.all_append,h2]
   simp[hq]
  |false=>
   refine .inr ⟨_,by rw[hb i e hx,hq];rfl, ?_⟩
   have:l.all q=false:=by
    rw[List.all_eq_false]
    exact⟨e,OE hx,by rw[hq];decide⟩
   rw[this];rfl
 ·have hl:i=l.length:=by omega
  subst hl
  rw[PH] at h2
  refine .inr ⟨_,he, ?_⟩
  rw[h2];rfl
theorem Im {α:Type} (l:List α) (x:α) (h:l.length<9223372036854775807):dg (l++[x]) (IntKind.i64.wrap (((l++[x]).length:Int) - 1))=some x/\(IntKind.i64.wrap (((l++[x]).length:Int) - 1)).toNat=l.length:=by
 have e:IntKind.i64.wrap (((l++[x]).length:Int) - 1)=((l.length:Nat):Int):=by
  rw[OD,Ph,bn _ oM oM];omega
 rw[e,av,Pe (OH _),QG]
 exact⟨rfl,by omega⟩
end Go.Proofs.YteaolfcegaidpaaGreatDoor
