/-
  Laws on the way to the theorem.
-/
import Derived.Test.YtgocgdgknpdknaaGreatDoorBX3
namespace Go.Proofs.YtgocgdgknpdknaaGreatDoor
open Go.RowKit
set_option linter.unusedSimpArgs false
set_option linter.unusedVariables false
def iQ:SC:=
 (.seq (.reg [.r 6 (.mv (.c (.d (.bool false))))])
 (.seq (.reg (.r 7 (.mv (.t 1)):: .r 8 (.mv (.t 0)):: .r 9 (.bin .leq (.t 7) (.t 8)):: .r 10 (.mv (.t 9))::aK [11,12,13] 10 true (.r 11 (.mv (.t 0)):: .r 12 (.mv (.t 2)):: .r 13 (.bin .leq (.t 11) (.t 12))::[]) (.r 14 (.pick (.t 10) (.t 13) (.c (.d (.bool false)))):: .r 6 (.mv (.t 14))::[])))
 .ret))
theorem nr:fits Tryz.prog 148 Tryz.f148 iQ [.t 6] 3=true:=oK
def iR:SC:=
 (.seq (.reg [.r 2 (.mv (.c (.d (.int .i64 0))))])
 (.seq (.seq (.reg [.r 5 (.mv (.t 0)),
   .c 6 (.f 146) [.t 5],
   .r 7 (.not (.t 6))])
 (.cond (.t 7)
  (.seq (.reg [.r 2 (.mv (.c (.d (.int .i64 (-1)))))])
  .ret)
  .skip))
 (.seq (.reg [.r 9 (.mv (.t 0)),
   .c 10 (.f 147) [.t 9],
   .r 8 (.mv (.t 10)),
   .r 11 (.ext (.t 8) 0),
   .r 12 (.ext (.t 8) 1),
   .r 3 (.mv (.t 11)),
   .r 4 (.mv (.t 12))])
 (.seq (.reg [.r 13 (.mv (.t 3)),
   .r 2 (.mv (.t 13))])
 .ret))))
theorem nu:fits Tryz.prog 149 Tryz.f149 iR [.t 2] 1=true:=oK
def iS:SC:=
 (.seq (.reg [.r 2 (.mv (.c (.d (.bool false))))])
 (.seq (.reg (.r 3 (.mv (.t 0)):: .r 4 (.bin .rem (.t 3) (.c (.d (.int .i64 4)))):: .r 5 (.bin .eql (.t 4) (.c (.d (.int .i64 0)))):: .r 6 (.mv (.t 5))::aK [7,8,9] 6 true (.r 7 (.mv (.t 0)):: .r 8 (.bin .rem (.t 7) (.c (.d (.int .i64 100)))):: .r 9 (.bin .neq (.t 8) (.c (.d (.int .i64 0))))::[]) (.r 10 (.pick (.t 6) (.t 9) (.c (.d (.bool false)))):: .r 11 (.mv (.t 10))::aK [12,13,14] 11 false (.r 12 (.mv (.t 0)):: .r 13 (.bin .rem (.t 12) (.c (.d (.int .i64 400)))):: .r 14 (.bin .eql (.t 13) (.c (.d (.int .i64 0))))::[]) (.r 15 (.pick (.t 11) (.c (.d (.bool true))) (.t 14)):: .r 2 (.mv (.t 15))::[]))))
 .ret))
theorem nv:fits Tryz.prog 190 Tryz.f190 iS [.t 2] 1=true:=oK
def iT:SC:=
 (.seq (.reg [.r 2 (.mv (.c (.d (.int .i64 0))))])
 (.seq (.reg [.r 4 (.mv (.t 0)),
   .r 5 (.bin .sub (.t 4) (.c (.d (.int .i64 1)))),
   .r 3 (.mv (.t 5))])
 (.seq (.reg [.r 6 (.mv (.t 3)),
   .r 7 (.bin .mul (.c (.d (.int .i64 365))) (.t 6)),
   .r 8 (.mv (.t 3)),
   .r 9 (.bin .quo (.t 8) (.c (.d (.int .i64 4)))),
   .r 10 (.bin .add (.t 7) (.t 9)),
   .r 11 (.mv (.t 3)),
   .r 12 (.bin .quo (.t 11) (.c (.d (.int .i64 100)))),
   .r 13 (.bin .sub (.t 10) (.t 12)),
   .r 14 (.mv (.t 3)),
   .r 15 (.bin .quo (.t 14) (.c (.d (.int .i64 400)))),
   .r 16 (.bin .add (.t 13) (.t 15)),
   .r 2 (.mv (.t 16))])
 .ret)))
theorem nw:fits Tryz.prog 169 Tryz.f169 iT [.t 2] 1=true:=oK
set_option maxRecDepth 100000 in
set_option maxHeartbeats 40000000 in
noncomputable def cV:(∀ (x0:Int) (x1:Int) (x2:Int),{m:Option (Bool)//∀ r,m=some r->aa Tryz.prog 148 [.int .i64 x0,.int .i64 x1,.int .i64 x2] (.bool r)})×(∀ (x0:List UInt8),{m:Option (Int)//∀ r,m=some r->aa Tryz.prog 149 [.str x0] (.int .i64 r)})×(∀ (x0:Int),{m:Option (Bool)//∀ r,m=some r->aa Tryz.prog 190 [.int .i64 x0] (.bool r)})×(∀ (x0:Int),{m:Option (Int)//∀ r,m=some r->aa Tryz.prog 169 [.int .i64 x0] (.int .i64 r)}):=by
 refine⟨?g0, ?g1, ?g2, ?g3⟩
 case' g0=>(intro x0 x1 x2;apply Subtype.mk;intro r hm;apply af Tryz.func148 nr;unfold iQ)
 case' g1=>(intro x0;apply Subtype.mk;intro r hm;apply af Tryz.func149 nu;unfold iR)
 case' g2=>(intro x0;apply Subtype.mk;intro r hm;apply af Tryz.func190 nv;unfold iS)
 case' g3=>(intro x0;apply Subtype.mk;intro r hm;apply af Tryz.func169 nw;unfold iT)
 all_goals(repeat'(first|with_reducible refine bu ?_|with_reducible refine bt ?_|with_reducible refine be ?_|with_reducible refine bB ?_|with_reducible refine bw ?_|with_reducible refine bv ?_|with_reducible refine bD ?_|((with_reducible apply iN);(simp only[push_cast,seval];rfl);(first|exact trivial))|((with_reducible apply eE hm);(simp only[push_cast,seval];rfl);rfl;intro v hm;rotate_left;intro v g hm)|((with_reducible apply mV hm);(simp only[push_cast,seval];rfl);rfl;intro v hm;rotate_left;intro v g hm)|((with_reducible apply dJ hm);(simp only[push_cast,seval];rfl);(first|apply fV _|apply fW _);(any_goals((repeat'(first|rfl));done));intro x hm)|((with_reducible apply aQ hm);(simp only[push_cast,seval];rfl);intro hm;rotate_left;intro hm)|((with_reducible apply bF hm);(focus(simp only[a8,cj,RV.get,push_cast,seval];rfl));(focus((repeat'(first|rfl));done)))|((with_reducible apply bO hm);(simp only[push_cast,seval];rfl))))
noncomputable def e9 (x0:Int) (x1:Int) (x2:Int):Option (Bool):=(cV.1 x0 x1 x2).1
theorem gP (x0:Int) (x1:Int) (x2:Int):∀ r,e9 x0 x1 x2=some r->aa Tryz.prog 148 [.int .i64 x0,.int .i64 x1,.int .i64 x2] (.bool r):=(cV.1 x0 x1 x2).2
noncomputable def e_ (x0:List UInt8):Option (Int):=(cV.2.1 x0).1
theorem mW (x0:List UInt8):∀ r,e_ x0=some r->aa Tryz.prog 149 [.str x0] (.int .i64 r):=(cV.2.1 x0).2
noncomputable def fa (x0:Int):Option (Bool):=(cV.2.2.1 x0).1
theorem mX (x0:Int):∀ r,fa x0=some r->aa Tryz.prog 190 [.int .i64 x0] (.bool r):=(cV.2.2.1 x0).2
noncomputable def fb (x0:Int):Option (Int):=(cV.2.2.2 x0).1
theorem mY (x0:Int):∀ r,fb x0=some r->aa Tryz.prog 169 [.int .i64 x0] (.int .i64 r):=(cV.2.2.2 x0).2
def iU:SC:=
 (.seq (.reg [.r 4 (.mv (.c (.d (.int .i64 0))))])
 (.seq (.seq (.reg [.r 5 (.mv (.t 1))])
 (.block 0 (.seq (.reg [.r 7 (.bin .eql (.t 5) (.c (.d (.int .i64 2)))),
    .r 6 (.mv (.t 7))])
  (.cond (.t 6)
   (.seq (.seq (.reg [.r 8 (.mv (.t 0)),
     .c 9 (.f 190) [.t 8]])
   (.cond (.t 9)
    (.seq (.reg [.r 4 (.mv (.c (.d (.int .i64 29))))])
    .ret)
    .skip))
   (.seq (.reg [.r 4 (.mv (.c (.d (.int .i64 28))))])
   .ret))
   (.seq (.seq (.reg [.r 11 (.bin .eql (.t 5) (.c (.d (.int .i64 4)))),
     .r 10 (.mv (.t 11))])
   (.cond (.t 10)
    .skip
    (.seq (.reg [.r 12 (.bin .eql (.t 5) (.c (.d (.int .i64 6)))),
      .r 10 (.mv (.t 12))])
    (.cond (.t 10)
     .skip
     (.seq (.reg [.r 13 (.bin .eql (.t 5) (.c (.d (.int .i64 9)))),
       .r 10 (.mv (.t 13))])
     (.cond (.t 10)
      .skip
      (.reg [.r 14 (.bin .eql (.t 5) (.c (.d (.int .i64 11)))),
        .r 10 (.mv (.t 14))])))))))
   (.cond (.t 10)
    (.seq (.reg [.r 4 (.mv (.c (.d (.int .i64 30))))])
    .ret)
    .skip))))))
 (.seq (.reg [.r 4 (.mv (.c (.d (.int .i64 31))))])
 .ret)))
theorem nA:fits Tryz.prog 171 Tryz.f171 iU [.t 4] 2=true:=oK
set_option maxRecDepth 100000 in
set_option maxHeartbeats 40000000 in
noncomputable def rk:(∀ (x0:Int) (x1:Int),{m:Option (Int)//∀ r,m=some r->aa Tryz.prog 171 [.int .i64 x0,.int .i64 x1] (.int .i64 r)}):=by
 (intro x0 x1;apply Subtype.mk;intro r hm;apply af Tryz.func171 nA;unfold iU)
 repeat'(first|with_reducible refine bu ?_|with_reducible refine bt ?_|with_reducible refine bf ?_|with_reducible refine be ?_|with_reducible refine bB ?_|with_reducible refine bw ?_|with_reducible refine bv ?_|with_reducible refine bD ?_|with_reducible refine bo ?_|with_reducible refine bE ?_|((with_reducible apply iN);(simp only[push_cast,seval];rfl);(first|exact trivial))|((with_reducible apply dJ hm);(simp only[push_cast,seval];rfl);(first|apply mX _);(any_goals((repeat'(first|rfl));done));intro x hm)|((with_reducible apply aQ hm);(simp only[push_cast,seval];rfl);intro hm;rotate_left;intro hm)|((with_reducible apply bF hm);(focus(simp only[a8,cj,RV.get,push_cast,seval];rfl));(focus((repeat'(first|rfl));done))))
noncomputable def fc (x0:Int) (x1:Int):Option (Int):=(rk x0 x1).1
theorem gQ (x0:Int) (x1:Int):∀ r,fc x0 x1=some r->aa Tryz.prog 171 [.int .i64 x0,.int .i64 x1] (.int .i64 r):=(rk x0 x1).2
def dY:SC:=
 (.seq (.seq (.reg [.r 13 (.mv (.t 8)),
   .r 14 (.mv (.t 1)),
   .r 15 (.bin .lss (.t 13) (.t 14))])
 (.cond (.t 15)
  .skip
  (.exit 0)))
 (.seq (.block 1 (.reg [.r 18 (.mv (.t 7)),
    .r 19 (.mv (.t 0)),
    .r 20 (.mv (.t 8)),
    .c 21 (.f 171) [.t 19,.t 20],
    .r 22 (.bin .add (.t 18) (.t 21)),
    .r 7 (.mv (.t 22))]))
 (.reg [.r 16 (.mv (.t 8)),
   .r 17 (.bin .add (.t 16) (.c (.d (.int .i64 1)))),
   .r 8 (.mv (.t 17))])))
def gR:SC:= .block 0 (.loop dY)
def jh:SC:=
 (.seq (.reg [.r 6 (.mv (.c (.d (.int .i64 0))))])
 (.seq (.reg [.r 9 (.mv (.t 0)),
   .c 10 (.f 169) [.t 9],
   .r 11 (.mv (.t 2)),
   .r 12 (.bin .add (.t 10) (.t 11)),
   .r 7 (.mv (.t 12))])
 (.seq (.seq (.reg [.r 8 (.mv (.c (.d (.int .i64 1))))])
 gR)
 (.seq (.reg [.r 23 (.mv (.t 7)),
   .r 6 (.mv (.t 23))])
 .ret))))
theorem n8:fits Tryz.prog 172 Tryz.f172 jh [.t 6] 3=true:=oK
set_option maxRecDepth 100000 in
set_option maxHeartbeats 40000000 in
noncomputable def rl:(∀ (x0:Int) (x1:Int) (x2:Int),{m:Option (Int)//∀ r,m=some r->aa Tryz.prog 172 [.int .i64 x0,.int .i64 x1,.int .i64 x2] (.int .i64 r)}):=by
 (intro x0 x1 x2;apply Subtype.mk;intro r hm;apply af Tryz.func172 n8;unfold jh)
 repeat'(first|with_reducible refine bu ?_|with_reducible refine bt ?_|with_reducible refine bf ?_|with_reducible refine be ?_|with_reducible refine bB ?_|with_reducible refine cg ?_|with_reducible refine bw ?_|with_reducible refine bv ?_|with_reducible refine ck ?_|with_reducible refine bo ?_|((with_reducible apply iN);(simp only[push_cast,seval];rfl);(first|exact trivial))|((with_reducible apply dJ hm);(simp only[push_cast,seval];rfl);(first|apply mY _|apply gQ _ _);(any_goals((repeat'(first|rfl));done));intro x hm)|((with_reducible apply aQ hm);(simp only[push_cast,seval];rfl);intro hm;rotate_left;intro hm)|((with_reducible apply bF hm);(focus(simp only[a8,cj,RV.get,push_cast,seval];rfl));(focus((repeat'(first|rfl));done)))|((with_reducible apply bH hm);intro r hm)|((apply aF (b:=0) (X:=gR) (x:=dY) rfl (fun(c:SV×SV) (s:Int×Int)=>st [(0,c.1),(1,c.2),(7,.d (.int .i64 s.1)),(8,.d (.int .i64 s.2))] []) (c:=(_,_)) (s0:=(_,_)) hm);(focus(first|(dsimp only;done)));(with_reducible refine cz.mk ?_ ?_))|((apply bN (s':=(_,_)) hm);(focus(first|(dsimp only;done))))|((apply cJ (s':=(_,_)) hm);(focus(first|(dsimp only;done))))|(((with_reducible apply dz.of);(focus(first|(dsimp only;done)));(focus((intro _;repeat'(first|with_reducible exact bp|with_reducible refine ba ?_))));(intro s o hm;first|unfold dY);rotate_left;intro s hm))|(((apply bI;(repeat'(first|with_reducible exact aS|with_reducible exact aT|with_reducible apply aL|((with_reducible apply a_);(focus(first|(simp only[push_cast,seval];rfl)));(focus((repeat'(first|rfl));done)))));done))))
noncomputable def fI (x0:Int) (x1:Int) (x2:Int):Option (Int):=(rl x0 x1 x2).1
theorem nB (x0:Int) (x1:Int) (x2:Int):∀ r,fI x0 x1 x2=some r->aa Tryz.prog 172 [.int .i64 x0,.int .i64 x1,.int .i64 x2] (.int .i64 r):=(rl x0 x1 x2).2
def ji:SC:=
 (.seq (.reg [.r 6 (.mv (.c (.d (.int .i64 0)))),
   .r 7 (.mv (.c (.d (.int .i64 0))))])
 (.seq (.seq (.reg (.r 8 (.mv (.t 0)):: .c 9 (.f 148) [.t 8,.c (.d (.int .i64 1)),.c (.d (.int .i64 9999))]:: .r 10 (.not (.t 9)):: .r 11 (.mv (.t 10))::aK [12,13,14] 11 false (.r 12 (.mv (.t 1)):: .c 13 (.f 148) [.t 12,.c (.d (.int .i64 1)),.c (.d (.int .i64 12))]:: .r 14 (.not (.t 13))::[]) (.r 15 (.pick (.t 11) (.c (.d (.bool true))) (.t 14)):: .r 16 (.mv (.t 15))::aK [17,18,19,20,21,22] 16 false (.r 17 (.mv (.t 2)):: .r 18 (.mv (.t 0)):: .r 19 (.mv (.t 1)):: .c 20 (.f 171) [.t 18,.t 19]:: .c 21 (.f 148) [.t 17,.c (.d (.int .i64 1)),.t 20]:: .r 22 (.not (.t 21))::[]) (.r 23 (.pick (.t 16) (.c (.d (.bool true))) (.t 22))::[]))))
 (.cond (.t 23)
  (.seq (.reg [.r 6 (.mv (.c (.d (.int .i64 0)))),
    .r 7 (.mv (.c (.d (.int .i64 1))))])
  .ret)
  .skip))
 (.seq (.reg [.r 24 (.mv (.t 0)),
   .r 25 (.mv (.t 1)),
   .r 26 (.mv (.t 2)),
   .c 27 (.f 172) [.t 24,.t 25,.t 26],
   .r 6 (.mv (.t 27)),
   .r 7 (.mv (.c (.d (.int .i64 0))))])
 .ret)))
theorem n9:fits Tryz.prog 151 Tryz.f151 ji [.t 6,.t 7] 3=true:=oK
set_option maxRecDepth 100000 in
set_option maxHeartbeats 40000000 in
noncomputable def rm:(∀ (x0:Int) (x1:Int) (x2:Int),{m:Option (Int×Int)//∀ r,m=some r->aa Tryz.prog 151 [.int .i64 x0,.int .i64 x1,.int .i64 x2] (.tup [.int .i64 r.1,.int .i64 r.2])}):=by
 (intro x0 x1 x2;apply Subtype.mk;intro r hm;apply af Tryz.func151 n9;unfold ji)
 repeat'(first|with_reducible refine bu ?_|with_reducible refine bt ?_|with_reducible refine be ?_|with_reducible refine bB ?_|with_reducible refine bw ?_|with_reducible refine bv ?_|with_reducible refine bD ?_|((with_reducible apply iN);(simp only[push_cast,seval];rfl);(first|exact trivial))|((with_reducible apply mV hm);(simp only[push_cast,seval];rfl);rfl;intro v hm;rotate_left;intro v g hm)|((with_reducible apply dJ hm);(simp only[push_cast,seval];rfl);(first|apply gP _ _ _|apply gQ _ _|apply nB _ _ _);(any_goals((repeat'(first|rfl));done));intro x hm)|((with_reducible apply aQ hm);(simp only[push_cast,seval];rfl);intro hm;rotate_left;intro hm)|((with_reducible apply ge hm);(focus(simp only[a8,cj,RV.get,push_cast,seval];rfl));(focus(first|(dsimp only;done)));(focus((repeat'(first|rfl));done)))|((with_reducible apply bO hm);(simp only[push_cast,seval];rfl)))
noncomputable def dL (x0:Int) (x1:Int) (x2:Int):Option (Int×Int):=(rm x0 x1 x2).1
theorem nC (x0:Int) (x1:Int) (x2:Int):∀ r,dL x0 x1 x2=some r->aa Tryz.prog 151 [.int .i64 x0,.int .i64 x1,.int .i64 x2] (.tup [.int .i64 r.1,.int .i64 r.2]):=(rm x0 x1 x2).2
def ik:SC:=
 (.seq (.reg [.r 6 (.mv (.c (.d (.int .i64 0)))),
   .r 7 (.mv (.c (.d (.int .i64 0))))])
 (.seq (.seq (.reg [.r 13 (.mv (.t 1)),
   .c 14 (.f 148) [.t 13,.c (.d (.int .i64 1)),.c (.d (.int .i64 5))],
   .r 15 (.not (.t 14))])
 (.cond (.t 15)
  (.seq (.reg [.r 6 (.mv (.c (.d (.int .i64 0)))),
    .r 7 (.mv (.c (.d (.int .i64 4))))])
  .ret)
  .skip))
 (.seq (.seq (.reg [.r 16 (.mv (.t 2)),
   .c 17 (.f 148) [.t 16,.c (.d (.int .i64 1)),.c (.d (.int .i64 9900))],
   .r 18 (.not (.t 17))])
 (.cond (.t 18)
  (.seq (.reg [.r 6 (.mv (.c (.d (.int .i64 0)))),
    .r 7 (.mv (.c (.d (.int .i64 1))))])
  .ret)
  .skip))
 (.seq (.reg [.r 8 (.mv (.c (.d (.int .i64 (-1))))),
   .r 9 (.mv (.c (.d (.int .i64 (-1))))),
   .r 10 (.mv (.c (.d (.int .i64 (-1)))))])
 (.seq (.block 0 (.seq (.reg (.r 20 (.mv (.t 1)):: .r 21 (.bin .eql (.t 20) (.c (.d (.int .i64 1)))):: .r 22 (.mv (.t 21))::aK [23,24,25] 22 true (.r 23 (.mv (.t 0)):: .r 24 (.lenT (.t 23)):: .r 25 (.bin .eql (.t 24) (.c (.d (.int .i64 8))))::[]) (.r 26 (.pick (.t 22) (.t 25) (.c (.d (.bool false)))):: .r 19 (.mv (.t 26))::[])))
  (.cond (.t 19)
   (.regD [.r 27 (.mv (.t 0)),
     .r 28 (.sslc (.t 27) none (some (.c (.d (.int .i64 4))))),
     .c 29 (.f 149) [.t 28],
     .r 30 (.mv (.t 0)),
     .r 31 (.sslc (.t 30) (some (.c (.d (.int .i64 4)))) (some (.c (.d (.int .i64 6))))),
     .c 32 (.f 149) [.t 31],
     .r 33 (.mv (.t 0)),
     .r 34 (.sslc (.t 33) (some (.c (.d (.int .i64 6)))) none),
     .c 35 (.f 149) [.t 34],
     .r 8 (.mv (.t 29)),
     .r 9 (.mv (.t 32)),
     .r 10 (.mv (.t 35))])
   (.seq (.reg (.r 37 (.mv (.t 1)):: .r 38 (.bin .eql (.t 37) (.c (.d (.int .i64 2)))):: .r 39 (.mv (.t 38))::aK [40,41,42] 39 true (.r 40 (.mv (.t 0)):: .r 41 (.lenT (.t 40)):: .r 42 (.bin .eql (.t 41) (.c (.d (.int .i64 6))))::[]) (.r 43 (.pick (.t 39) (.t 42) (.c (.d (.bool false)))):: .r 36 (.mv (.t 43))::[])))
   (.cond (.t 36)
    .any
    (.seq (.reg (.r 64 (.mv (.t 1)):: .r 65 (.bin .eql (.t 64) (.c (.d (.int .i64 3)))):: .r 66 (.mv (.t 65))::aK [67,68,69] 66 true (.r 67 (.mv (.t 0)):: .r 68 (.lenT (.t 67)):: .r 69 (.bin .eql (.t 68) (.c (.d (.int .i64 8))))::[]) (.r 70 (.pick (.t 66) (.t 69) (.c (.d (.bool false)))):: .r 63 (.mv (.t 70))::[])))
    (.cond (.t 63)
     .any
     (.seq (.reg (.r 81 (.mv (.t 1)):: .r 82 (.bin .eql (.t 81) (.c (.d (.int .i64 4)))):: .r 83 (.mv (.t 82))::aK [84,85,86] 83 true (.r 84 (.mv (.t 0)):: .r 85 (.lenT (.t 84)):: .r 86 (.bin .eql (.t 85) (.c (.d (.int .i64 10))))::[]) (.r 87 (.pick (.t 83) (.t 86) (.c (.d (.bool false)))):: .r 88 (.mv (.t 87))::aK [89,90,91] 88 true (.r 89 (.mv (.t 0)):: .r 90 (.sidx (.t 89) (.c (.d (.int .i64 4)))):: .r 91 (.bin .eql (.t 90) (.c (.d (.int .u8 45))))::[]) (.r 92 (.pick (.t 88) (.t 91) (.c (.d (.bool false)))):: .r 93 (.mv (.t 92))::aK [94,95,96] 93 true (.r 94 (.mv (.t 0)):: .r 95 (.sidx (.t 94) (.c (.d (.int .i64 7)))):: .r 96 (.bin .eql (.t 95) (.c (.d (.int .u8 45))))::[]) (.r 97 (.pick (.t 93) (.t 96) (.c (.d (.bool false)))):: .r 80 (.mv (.t 97))::[])))))
     (.cond (.t 80)
      .any
      (.seq (.reg (.r 108 (.mv (.t 1)):: .r 109 (.bin .eql (.t 108) (.c (.d (.int .i64 5)))):: .r 110 (.mv (.t 109))::aK [111,112,113] 110 true (.r 111 (.mv (.t 0)):: .r 112 (.lenT (.t 111)):: .r 113 (.bin .eql (.t 112) (.c (.d (.int .i64 7))))::[]) (.r 114 (.pick (.t 110) (.t 113) (.c (.d (.bool false)))):: .r 107 (.mv (.t 114))::[])))
      (.cond (.t 107)
       .any
       .skip)))))))))))
 (.seq (.reg [.r 120 (.mv (.t 8)),
   .r 121 (.mv (.t 9)),
   .r 122 (.mv (.t 10)),
   .c 123 (.f 151) [.t 120,.t 121,.t 122],
   .r 119 (.mv (.t 123)),
   .r 124 (.ext (.t 119) 0),
   .r 125 (.ext (.t 119) 1),
   .r 11 (.mv (.t 124)),
   .r 12 (.mv (.t 125))])
 (.seq (.seq (.reg [.r 126 (.mv (.t 12)),
   .r 127 (.bin .neq (.t 126) (.c (.d (.int .i64 0))))])
 (.cond (.t 127)
  (.seq (.reg [.r 6 (.mv (.c (.d (.int .i64 0)))),
    .r 7 (.mv (.c (.d (.int .i64 10))))])
  .ret)
  .skip))
 (.seq (.reg [.r 128 (.mv (.t 11)),
   .r 6 (.mv (.t 128)),
   .r 7 (.mv (.c (.d (.int .i64 0))))])
 .ret))))))))
theorem mZ:fits Tryz.prog 130 Tryz.f130 ik [.t 6,.t 7] 3=true:=oK
set_option maxRecDepth 100000 in
set_option maxHeartbeats 40000000 in
noncomputable def rn:(∀ (x0:List UInt8) (x1:Int) (x2:Int),{m:Option (Int×Int)//∀ r,m=some r->aa Tryz.prog 130 [.str x0,.int .i64 x1,.int .i64 x2] (.tup [.int .i64 r.1,.int .i64 r.2])}):=by
 (intro x0 x1 x2;apply Subtype.mk;intro r hm;apply af Tryz.func130 mZ;unfold ik)
 repeat'(first|with_reducible refine bu ?_|with_reducible refine bt ?_|with_reducible refine pW ?_|with_reducible refine bf ?_|with_reducible refine be ?_|with_reducible refine bB ?_|with_reducible refine bw ?_|with_reducible refine bv ?_|with_reducible refine bD ?_|with_reducible refine bo ?_|((with_reducible apply jv hm);(iterate 2 (simp only[push_cast,seval];rfl));intro e hm)|((with_reducible apply C9 hm);(iterate 3 (simp only[push_cast,seval];rfl));intro e hm)|((with_reducible apply iN);(simp only[push_cast,seval];rfl);(first|exact trivial))|(with_reducible apply uh hm)|((with_reducible apply eE hm);(simp only[push_cast,seval];rfl);rfl;intro v hm;rotate_left;intro v g hm)|((with_reducible apply dJ hm);(simp only[push_cast,seval];rfl);(first|apply gP _ _ _|apply mW _|apply nC _ _ _);(any_goals((repeat'(first|rfl));done));intro x hm)|((with_reducible apply aQ hm);(simp only[push_cast,seval];rfl);intro hm;rotate_left;intro hm)|((with_reducible apply ge hm);(focus(simp only[a8,cj,RV.get,push_cast,seval];rfl));(focus(first|(dsimp only;done)));(focus((repeat'(first|rfl));done)))|((with_reducible apply bO hm);(simp only[push_cast,seval];rfl)))
 all_goals(intros;exact())
noncomputable def eL (x0:List UInt8) (x1:Int) (x2:Int):Option (Int×Int):=(rn x0 x1 x2).1
theorem mw (x0:List UInt8) (x1:Int) (x2:Int):∀ r,eL x0 x1 x2=some r->aa Tryz.prog 130 [.str x0,.int .i64 x1,.int .i64 x2] (.tup [.int .i64 r.1,.int .i64 r.2]):=(rn x0 x1 x2).2
def iW:SC:=
 (.seq (.reg [.r 6 (.mv (.c (.d (.bool false))))])
 (.seq (.reg (.r 7 (.mv (.t 0)):: .r 8 (.mv (.t 1)):: .r 9 (.bin .geq (.t 7) (.t 8)):: .r 10 (.mv (.t 9))::aK [11,12,13] 10 true (.r 11 (.mv (.t 0)):: .r 12 (.mv (.t 2)):: .r 13 (.bin .leq (.t 11) (.t 12))::[]) (.r 14 (.pick (.t 10) (.t 13) (.c (.d (.bool false)))):: .r 6 (.mv (.t 14))::[])))
 .ret))
theorem nM:fits Tryz.prog 45 Tryz.f45 iW [.t 6] 3=true:=oK
def er:SC:=
 (.seq (.seq (.reg [.r 30 (.mv (.t 9)),
   .r 31 (.mv (.t 0)),
   .r 32 (.lenT (.t 31)),
   .r 33 (.bin .lss (.t 30) (.t 32))])
 (.cond (.t 33)
  .skip
  (.exit 1)))
 (.seq (.block 2 (.seq (.reg [.r 36 (.mv (.t 0)),
    .r 37 (.mv (.t 9)),
    .r 38 (.sidx (.t 36) (.t 37)),
    .r 10 (.mv (.t 38))])
  (.seq (.seq (.reg (.r 39 (.mv (.t 1)):: .r 40 (.bin .eql (.t 39) (.c (.d (.int .i64 1)))):: .r 41 (.mv (.t 40))::aK [42,43,44,45,46,47] 41 true (.r 42 (.mv (.t 10)):: .r 43 (.bin .lss (.t 42) (.c (.d (.int .u8 32)))):: .r 44 (.mv (.t 43))::aK [45,46] 44 false (.r 45 (.mv (.t 10)):: .r 46 (.bin .gtr (.t 45) (.c (.d (.int .u8 126))))::[]) (.r 47 (.pick (.t 44) (.c (.d (.bool true))) (.t 46))::[])) (.r 48 (.pick (.t 41) (.t 47) (.c (.d (.bool false))))::[])))
  (.cond (.t 48)
   (.seq (.reg [.r 4 (.mv (.c (.d (.bool false))))])
   .ret)
   .skip))
  (.seq (.seq (.reg (.r 49 (.mv (.t 1)):: .r 50 (.bin .eql (.t 49) (.c (.d (.int .i64 2)))):: .r 51 (.mv (.t 50))::aK [52,53,54,55,56,57,58,59,60,61,62,63,64,65,66,67,68,69,70] 51 true (.r 52 (.mv (.t 10)):: .r 53 (.bin .geq (.t 52) (.c (.d (.int .u8 65)))):: .r 54 (.mv (.t 53))::aK [55,56] 54 true (.r 55 (.mv (.t 10)):: .r 56 (.bin .leq (.t 55) (.c (.d (.int .u8 90))))::[]) (.r 57 (.pick (.t 54) (.t 56) (.c (.d (.bool false)))):: .r 58 (.mv (.t 57))::aK [59,60,61,62,63,64] 58 false (.r 59 (.mv (.t 10)):: .r 60 (.bin .geq (.t 59) (.c (.d (.int .u8 97)))):: .r 61 (.mv (.t 60))::aK [62,63] 61 true (.r 62 (.mv (.t 10)):: .r 63 (.bin .leq (.t 62) (.c (.d (.int .u8 122))))::[]) (.r 64 (.pick (.t 61) (.t 63) (.c (.d (.bool false))))::[])) (.r 65 (.pick (.t 58) (.c (.d (.bool true))) (.t 64)):: .r 66 (.mv (.t 65))::aK [67,68] 66 false (.r 67 (.mv (.t 10)):: .r 68 (.bin .eql (.t 67) (.c (.d (.int .u8 32))))::[]) (.r 69 (.pick (.t 66) (.c (.d (.bool true))) (.t 68)):: .r 70 (.not (.t 69))::[])))) (.r 71 (.pick (.t 51) (.t 70) (.c (.d (.bool false))))::[])))
  (.cond (.t 71)
   (.seq (.reg [.r 4 (.mv (.c (.d (.bool false))))])
   .ret)
   .skip))
  (.seq (.reg (.r 72 (.mv (.t 1)):: .r 73 (.bin .eql (.t 72) (.c (.d (.int .i64 3)))):: .r 74 (.mv (.t 73))::aK [75,76,77,78,79,80] 74 true (.r 75 (.mv (.t 10)):: .r 76 (.bin .lss (.t 75) (.c (.d (.int .u8 48)))):: .r 77 (.mv (.t 76))::aK [78,79] 77 false (.r 78 (.mv (.t 10)):: .r 79 (.bin .gtr (.t 78) (.c (.d (.int .u8 57))))::[]) (.r 80 (.pick (.t 77) (.c (.d (.bool true))) (.t 79))::[])) (.r 81 (.pick (.t 74) (.t 80) (.c (.d (.bool false))))::[])))
  (.cond (.t 81)
   (.seq (.reg [.r 4 (.mv (.c (.d (.bool false))))])
   .ret)
   .skip))))))
 (.reg [.r 34 (.mv (.t 9)),
   .r 35 (.bin .add (.t 34) (.c (.d (.int .i64 1)))),
   .r 9 (.mv (.t 35))])))
def iu:SC:= .block 1 (.loop er)
def j2:SC:=
 (.seq (.reg [.r 4 (.mv (.c (.d (.bool false))))])
 (.seq (.seq (.reg [.r 11 (.mv (.t 1))])
 (.block 0 (.seq (.reg [.r 13 (.bin .eql (.t 11) (.c (.d (.int .i64 4)))),
    .r 12 (.mv (.t 13))])
  (.cond (.t 12)
   (.seq (.reg [.r 15 (.mv (.t 0)),
     .c 16 (.f 129) [.t 15],
     .r 14 (.mv (.t 16)),
     .r 17 (.ext (.t 14) 0),
     .r 18 (.ext (.t 14) 1),
     .w 5 (.boxM (.c (.agg [.d (.int .i64 0),.d (.int .i64 0)]))),
     .w 0 (.st 2 (.t 5) (.t 17)),
     .r 6 (.mv (.t 18))])
   (.seq (.reg [.r 19 (.mv (.t 6)),
     .r 20 (.bin .eql (.t 19) (.c (.d (.int .i64 0)))),
     .r 4 (.mv (.t 20))])
   .ret))
   (.seq (.reg [.r 22 (.bin .eql (.t 11) (.c (.d (.int .i64 5)))),
     .r 21 (.mv (.t 22))])
   (.cond (.t 21)
    (.seq (.reg [.r 24 (.mv (.t 0)),
      .c 25 (.f 130) [.t 24,.c (.d (.int .i64 1)),.c (.d (.int .i64 1))],
      .r 23 (.mv (.t 25)),
      .r 26 (.ext (.t 23) 0),
      .r 27 (.ext (.t 23) 1),
      .r 7 (.mv (.t 26)),
      .r 8 (.mv (.t 27))])
    (.seq (.reg [.r 28 (.mv (.t 8)),
      .r 29 (.bin .eql (.t 28) (.c (.d (.int .i64 0)))),
      .r 4 (.mv (.t 29))])
    .ret))
    .skip))))))
 (.seq (.seq (.reg [.r 9 (.mv (.c (.d (.int .i64 0))))])
 iu)
 (.seq (.reg [.r 4 (.mv (.c (.d (.bool true))))])
 .ret))))
theorem pb:fits Tryz.prog 112 Tryz.f112 j2 [.t 4] 2=true:=oK
def dZ:SC:=
 (.seq (.seq (.reg [.r 11 (.mv (.t 4)),
   .r 12 (.mv (.t 3)),
   .r 13 (.bin .lss (.t 11) (.t 12))])
 (.cond (.t 13)
  .skip
  (.exit 2)))
 (.seq (.block 3 (.seq (.regD [.r 16 (.mv (.t 0)),
    .r 17 (.mv (.t 3)),
    .r 18 (.idx 1 (.t 16) (.t 17)),
    .r 19 (.ld1 (.t 18)),
    .r 20 (.mv (.t 0)),
    .r 21 (.mv (.t 4)),
    .r 22 (.idx 1 (.t 20) (.t 21)),
    .r 23 (.ld1 (.t 22)),
    .r 24 (.bin .eql (.t 19) (.t 23))])
  (.cond (.t 24)
   (.seq (.reg [.r 2 (.mv (.c (.d (.bool true))))])
   .ret)
   .skip)))
 (.reg [.r 14 (.mv (.t 4)),
   .r 15 (.bin .add (.t 14) (.c (.d (.int .i64 1)))),
   .r 4 (.mv (.t 15))])))
def gT:SC:= .block 2 (.loop dZ)
def d5:SC:=
 (.seq (.seq (.reg [.r 5 (.mv (.t 3)),
   .r 6 (.mv (.t 0)),
   .r 7 (.len (.t 6)),
   .r 8 (.bin .lss (.t 5) (.t 7))])
 (.cond (.t 8)
  .skip
  (.exit 0)))
 (.seq (.block 1 (.seq (.reg [.r 4 (.mv (.c (.d (.int .i64 0))))])
  gT))
 (.reg [.r 9 (.mv (.t 3)),
   .r 10 (.bin .add (.t 9) (.c (.d (.int .i64 1)))),
   .r 3 (.mv (.t 10))])))
def gU:SC:= .block 0 (.loop d5)
def jl:SC:=
 (.seq (.reg [.r 2 (.mv (.c (.d (.bool false))))])
 (.seq (.seq (.reg [.r 3 (.mv (.c (.d (.int .i64 0))))])
 gU)
 (.seq (.reg [.r 2 (.mv (.c (.d (.bool false))))])
 .ret)))
theorem n_:fits Tryz.prog 28 Tryz.f28 jl [.t 2] 1=true:=oK
set_option maxRecDepth 100000 in
set_option maxHeartbeats 40000000 in
noncomputable def eQ:(∀ (x0:Int) (x1:Int) (x2:Int),{m:Option (Bool)//∀ r,m=some r->aa Tryz.prog 45 [.int .i64 x0,.int .i64 x1,.int .i64 x2] (.bool r)})×(∀ (x0:List UInt8) (x1:Int),{m:Option (Bool)//∀ r,m=some r->aa Tryz.prog 112 [.str x0,.int .i64 x1] (.bool r)})×(∀ (x0:List (List UInt8)),{m:Option (Bool)//∀ r,m=some r->aa Tryz.prog 28 [.slice (List.map eK x0)] (.bool r)}):=by
 refine⟨?g0, ?g1, ?g2⟩
 case' g0=>(intro x0 x1 x2;apply Subtype.mk;intro r hm;apply af Tryz.func45 nM;unfold iW)
 case' g1=>(intro x0 x1;apply Subtype.mk;intro r hm;apply af Tryz.func112 pb;unfold j2)
 case' g2=>(intro x0;apply Subtype.mk;intro r hm;apply af Tryz.func28 n_;unfold jl)
 all_goals(repeat'(first|with_reducible refine bu ?_|with_reducible refine bt ?_|with_reducible refine pW ?_|with_reducible refine bf ?_|with_reducible refine be ?_|with_reducible refine bB ?_|with_reducible refine cg ?_|with_reducible refine bw ?_|with_reducible refine bv ?_|with_reducible refine ck ?_|with_reducible refine bD ?_|with_reducible refine bo ?_|with_reducible refine bE ?_|((with_reducible apply cD hm);(iterate 2 (simp only[push_cast,seval];rfl));(intro _;rfl);intro e hm)|((with_reducible apply jv hm);(iterate 2 (simp only[push_cast,seval];rfl));intro e hm)|((with_reducible apply iN);(simp only[push_cast,seval];rfl);(first|exact trivial))|((with_reducible apply eE hm);(simp only[push_cast,seval];rfl);rfl;intro v hm;rotate_left;intro v g hm)|((with_reducible apply mV hm);(simp only[push_cast,seval];rfl);rfl;intro v hm;rotate_left;intro v g hm)|((with_reducible apply dJ hm);(simp only[push_cast,seval];rfl);(first|apply lU _|apply mw _ _ _);(any_goals((repeat'(first|rfl));done));intro x hm)|((with_reducible apply tQ);(simp only[push_cast,seval];rfl);(first|exact trivial))|((with_reducible apply aQ hm);(simp only[push_cast,seval];rfl);intro hm;rotate_left;intro hm)|((with_reducible apply bF hm);(focus(simp only[a8,cj,RV.get,push_cast,seval];rfl));(focus((repeat'(first|rfl));done)))|((with_reducible apply bO hm);(simp only[push_cast,seval];rfl))|((with_reducible apply bH hm);intro r hm)|((with_reducible apply cy hm);intro r hm)|((apply aF (b:=1) (X:=iu) (x:=er) rfl (fun(c:SV×SV) (s:Int)=>st [(0,c.1),(1,c.2),(9,.d (.int .i64 s))] []) (c:=(_,_)) (s0:=_) hm);(focus(first|(dsimp only;done)));(with_reducible refine cz.mk ?_ ?_))|((apply aF (b:=2) (X:=gT) (x:=dZ) rfl (fun(c:SV×SV) (s:Int)=>st [(0,c.1),(3,c.2),(4,.d (.int .i64 s))] []) (c:=(_,_)) (s0:=_) hm);(focus(first|(dsimp only;done)));(with_reducible refine cz.mk ?_ ?_))|((apply aF (b:=0) (X:=gU) (x:=d5) rfl (fun(c:SV) (s:Int)=>st [(0,c),(3,.d (.int .i64 s))] []) (c:=_) (s0:=_) hm);(focus(first|(dsimp only;done)));(with_reducible refine cz.mk ?_ ?_))|((apply bN (s':=_) hm);(focus(first|(dsimp only;done))))|((apply cJ (s':=_) hm);(focus(first|(dsimp only;done))))|(((with_reducible apply fD hm);intro r hm))|(((with_reducible apply dz.of);(focus(first|(dsimp only;done)));(focus((intro _;repeat'(first|with_reducible exact bp|with_reducible refine ba ?_|with_reducible refine dP ?_|((with_reducible refine ii ?_);intro _)|((with_reducible refine ij ?_);intro _)))));(intro s o hm;first|unfold er|unfold dZ|unfold d5);rotate_left;intro s hm))|(((apply bI;(repeat'(first|with_reducible exact aS|with_reducible exact aT|with_reducible apply aL|((with_reducible apply a_);(focus(first|(simp only[push_cast,seval];rfl)));(focus((repeat'(first|rfl));done)))));done)))))
noncomputable def fd (x0:Int) (x1:Int) (x2:Int):Option (Bool):=(eQ.1 x0 x1 x2).1
theorem cB (x0:Int) (x1:Int) (x2:Int):∀ r,fd x0 x1 x2=some r->aa Tryz.prog 45 [.int .i64 x0,.int .i64 x1,.int .i64 x2] (.bool r):=(eQ.1 x0 x1 x2).2
noncomputable def gh (x0:List UInt8) (x1:Int):Option (Bool):=(eQ.2.1 x0 x1).1
theorem oa (x0:List UInt8) (x1:Int):∀ r,gh x0 x1=some r->aa Tryz.prog 112 [.str x0,.int .i64 x1] (.bool r):=(eQ.2.1 x0 x1).2
noncomputable def fK (x0:List (List UInt8)):Option (Bool):=(eQ.2.2 x0).1
theorem iv (x0:List (List UInt8)):∀ r,fK x0=some r->aa Tryz.prog 28 [.slice (List.map eK x0)] (.bool r):=(eQ.2.2 x0).2
def d6:SC:=
 (.seq (.seq (.reg [.r 5 (.mv (.t 4)),
   .r 6 (.mv (.t 0)),
   .r 7 (.len (.t 6)),
   .r 8 (.bin .lss (.t 5) (.t 7))])
 (.cond (.t 8)
  .skip
  (.exit 0)))
 (.seq (.block 1 (.seq (.reg [.r 11 (.mv (.t 0)),
    .r 12 (.mv (.t 4)),
    .r 13 (.idx 5 (.t 11) (.t 12)),
    .r 14 (.fld 1 (.t 13)),
    .o 15 (.ld1 (.t 14)),
    .r 16 (.bin .neq (.t 15) (.c (.d (.str []))))])
  (.cond (.t 16)
   (.seq (.reg [.r 17 (.mv (.t 3)),
     .r 18 (.mv (.t 0)),
     .r 19 (.mv (.t 4)),
     .r 20 (.idx 5 (.t 18) (.t 19)),
     .r 21 (.fld 1 (.t 20)),
     .o 22 (.ld1 (.t 21)),
     .r 23 (.bslice 1 [.t 22]),
     .w 24 (.app 9 1 (.t 17) (.t 23)),
     .r 3 (.mv (.t 24))])
   (.reg [.r 25 (.mv (.t 3)),
     .r 26 (.mv (.t 0)),
     .r 27 (.mv (.t 4)),
     .r 28 (.idx 5 (.t 26) (.t 27)),
     .r 29 (.fld 4 (.t 28)),
     .o 30 (.ld1 (.t 29)),
     .c 31 (.f 29) [.t 30],
     .w 32 (.app 9 1 (.t 25) (.t 31)),
     .r 3 (.mv (.t 32))]))
   .skip)))
 (.reg [.r 9 (.mv (.t 4)),
   .r 10 (.bin .add (.t 9) (.c (.d (.int .i64 1)))),
   .r 4 (.mv (.t 10))])))
def gV:SC:= .block 0 (.loop d6)
def jm:SC:=
 (.seq (.reg [.r 2 (.mv (.c (.nils)))])
 (.seq (.reg [.r 3 (.mv (.c (.nils)))])
 (.seq (.seq (.reg [.r 4 (.mv (.c (.d (.int .i64 0))))])
 gV)
 (.seq (.reg [.r 33 (.mv (.t 3)),
   .r 2 (.mv (.t 33))])
 .ret))))
theorem ob:fits Tryz.prog 29 Tryz.f29 jm [.t 2] 1=true:=oK
set_option maxRecDepth 100000 in
set_option maxHeartbeats 40000000 in
noncomputable def rz:((∀ (x0:List ab),{m:Option ((List (List UInt8)))//∀ r,m=some r->aa Tryz.prog 29 [.slice (List.map ac x0)] (.slice (List.map eK r))}))->((∀ (x0:List ab),{m:Option ((List (List UInt8)))//∀ r,m=some r->aa Tryz.prog 29 [.slice (List.map ac x0)] (.slice (List.map eK r))})):=by
 intro ih
 have et:∀ (x0:List ab),∀ r,(ih x0).1=some r->aa Tryz.prog 29 [.slice (List.map ac x0)] (.slice (List.map eK r)):=fun x0=>(ih x0).2
 (intro x0;apply Subtype.mk;intro r hm;apply af Tryz.func29 ob;unfold jm)
 repeat'(first|with_reducible refine bu ?_|with_reducible refine bt ?_|with_reducible refine bf ?_|with_reducible refine be ?_|with_reducible refine bB ?_|with_reducible refine cg ?_|with_reducible refine bw ?_|with_reducible refine bv ?_|with_reducible refine ck ?_|with_reducible refine bo ?_|with_reducible refine du ?_|((with_reducible apply cD hm);(iterate 2 (simp only[push_cast,seval];rfl));(intro _;rfl);intro e hm)|((with_reducible apply iN);(simp only[push_cast,seval];rfl);(first|exact trivial))|((with_reducible apply dJ hm);(simp only[push_cast,seval];rfl);(first|apply et _);(any_goals((repeat'(first|rfl));done));intro x hm)|((with_reducible apply vh hm);(iterate 4 (simp only[push_cast,seval];rfl));(focus((repeat'(first|rfl|(with_reducible first|apply c9|apply dA|apply ek)));done));decide;(intro _;rfl);intro hm)|((with_reducible apply aQ hm);(simp only[push_cast,seval];rfl);intro hm;rotate_left;intro hm)|((with_reducible apply bF hm);(focus(simp only[a8,cj,RV.get,push_cast,seval];rfl));(focus((repeat'(first|rfl));done)))|((with_reducible apply bH hm);intro r hm)|((apply aF (b:=0) (X:=gV) (x:=d6) rfl (fun(c:SV) (s:(List (List UInt8))×Int)=>st [(0,c),(3,.vec 3),(4,.d (.int .i64 s.2))] [(3,.vec 9 1 (eg eK s.1))]) (c:=_) (s0:=(_,_)) hm);(focus(first|(dsimp only;done)));(with_reducible refine cz.mk ?_ ?_);apply hY.trans;(focus(apply pX (slot:=3) (id:=3) (e:=9) (sz:=1);(focus(simp only[push_cast,seval];done)))))|((apply bN (s':=(_,_)) hm);(focus(first|(dsimp only;done))))|((apply cJ (s':=(_,_)) hm);(focus(first|(dsimp only;done))))|(((with_reducible apply dz.of);(focus(first|(dsimp only;done)));(focus((intro _;repeat'(first|with_reducible exact bp|with_reducible refine ba ?_))));(intro s o hm;first|unfold d6);rotate_left;intro s hm))|(((apply bI;(repeat'(first|with_reducible exact aS|with_reducible exact aT|with_reducible apply aL|with_reducible apply ca|((with_reducible apply a_);(focus(first|(simp only[push_cast,seval];rfl)));(focus((repeat'(first|rfl));done)))|((with_reducible apply fx);(focus(first|(simp only[push_cast,seval];rfl)));(first|with_reducible exact cK rfl|with_reducible apply uj))|(with_reducible first|apply Da)));done))))
noncomputable def oG (fu:Nat):(∀ (x0:List ab),{m:Option ((List (List UInt8)))//∀ r,m=some r->aa Tryz.prog 29 [.slice (List.map ac x0)] (.slice (List.map eK r))}):=Nat.rec (fun x0=>⟨none,fun r h=>by cases h⟩) (fun _ ih=>rz ih) fu
noncomputable def dN (fu:Nat) (x0:List ab):Option ((List (List UInt8))):=((oG fu) x0).1
theorem my (fu:Nat) (x0:List ab):((oG fu) x0).1=dN fu x0:=rfl
theorem mz (fu:Nat) (x0:List ab):dN (fu+1) x0=((rz (oG fu)) x0).1:=rfl
theorem et (fu:Nat) (x0:List ab):∀ r,dN fu x0=some r->aa Tryz.prog 29 [.slice (List.map ac x0)] (.slice (List.map eK r)):=((oG fu) x0).2
def cX:SC:=
 (.seq (.seq (.reg [.r 33 (.mv (.t 6)),
   .r 34 (.mv (.t 5)),
   .r 35 (.lenT (.t 34)),
   .r 36 (.bin .lss (.t 33) (.t 35))])
 (.cond (.t 36)
  .skip
  (.exit 0)))
 (.seq (.block 1 (.seq (.reg (.r 39 (.mv (.t 5)):: .r 40 (.mv (.t 6)):: .r 41 (.sidx (.t 39) (.t 40)):: .r 42 (.bin .lss (.t 41) (.c (.d (.int .u8 33)))):: .r 43 (.mv (.t 42))::aK [44,45,46,47] 43 false (.r 44 (.mv (.t 5)):: .r 45 (.mv (.t 6)):: .r 46 (.sidx (.t 44) (.t 45)):: .r 47 (.bin .gtr (.t 46) (.c (.d (.int .u8 126))))::[]) (.r 48 (.pick (.t 43) (.c (.d (.bool true))) (.t 47))::[])))
  (.cond (.t 48)
   (.seq (.reg [.r 4 (.mv (.c (.d (.int .i64 3))))])
   .ret)
   .skip)))
 (.reg [.r 37 (.mv (.t 6)),
   .r 38 (.bin .add (.t 37) (.c (.d (.int .i64 1)))),
   .r 6 (.mv (.t 38))])))
def fl:SC:= .block 0 (.loop cX)
def gq:SC:=
 (.seq (.reg [.r 2 (.boxI (.t 0)),
   .r 4 (.mv (.c (.d (.int .i64 0))))])
 (.seq (.reg [.r 7 (.fld 4 (.t 2)),
   .o 8 (.ld1 (.t 7)),
   .r 9 (.mv (.t 1)),
   .r 10 (.idx 1 (.t 8) (.t 9)),
   .o 11 (.ld1 (.t 10)),
   .r 5 (.mv (.t 11))])
 (.seq (.seq (.reg (.r 12 (.mv (.t 5)):: .r 13 (.lenT (.t 12)):: .c 14 (.f 45) [.t 13,.c (.d (.int .i64 1)),.c (.d (.int .i64 20))]:: .r 15 (.not (.t 14)):: .r 16 (.mv (.t 15))::aK [17,18,19,20,21,22,23,24] 16 false (.r 17 (.mv (.t 5)):: .r 18 (.lenT (.t 17)):: .r 19 (.fld 2 (.t 2)):: .r 20 (.ld1 (.t 19)):: .r 21 (.fld 3 (.t 2)):: .r 22 (.ld1 (.t 21)):: .c 23 (.f 45) [.t 18,.t 20,.t 22]:: .r 24 (.not (.t 23))::[]) (.r 25 (.pick (.t 16) (.c (.d (.bool true))) (.t 24)):: .r 26 (.mv (.t 25))::aK [27,28,29,30,31] 26 false (.r 27 (.mv (.t 5)):: .r 28 (.fld 1 (.t 2)):: .r 29 (.ld1 (.t 28)):: .c 30 (.f 112) [.t 27,.t 29]:: .r 31 (.not (.t 30))::[]) (.r 32 (.pick (.t 26) (.c (.d (.bool true))) (.t 31))::[]))))
 (.cond (.t 32)
  (.seq (.reg [.r 4 (.mv (.c (.d (.int .i64 3))))])
  .ret)
  .skip))
 (.seq (.seq (.reg [.r 6 (.mv (.c (.d (.int .i64 0))))])
 fl)
 (.seq (.seq (.reg (.r 49 (.mv (.t 1)):: .r 50 (.bin .gtr (.t 49) (.c (.d (.int .i64 0)))):: .r 51 (.mv (.t 50))::aK [52,53,54,55,56,57,58,59] 51 true (.r 52 (.mv (.t 5)):: .r 53 (.fld 4 (.t 2)):: .r 54 (.ld1 (.t 53)):: .r 55 (.mv (.t 1)):: .r 56 (.bin .sub (.t 55) (.c (.d (.int .i64 1)))):: .r 57 (.idx 1 (.t 54) (.t 56)):: .r 58 (.ld1 (.t 57)):: .r 59 (.bin .leq (.t 52) (.t 58))::[]) (.r 60 (.pick (.t 51) (.t 59) (.c (.d (.bool false))))::[])))
 (.cond (.t 60)
  (.seq (.reg [.r 4 (.mv (.c (.d (.int .i64 8))))])
  .ret)
  .skip))
 (.seq (.reg [.r 4 (.mv (.c (.d (.int .i64 0))))])
 .ret))))))
theorem lX:fits Tryz.prog 91 Tryz.f91 gq [.t 4] 2=true:=oK
set_option maxRecDepth 100000 in
set_option maxHeartbeats 40000000 in
noncomputable def rA:(∀ (x0:aH) (x1:Int),{m:Option (Int)//∀ r,m=some r->aa Tryz.prog 91 [.agg (bP x0),.int .i64 x1] (.int .i64 r)}):=by
 (intro x0 x1;apply Subtype.mk;intro r hm;apply af Tryz.func91 lX;unfold gq)
 repeat'(first|with_reducible refine bu ?_|with_reducible refine bt ?_|with_reducible refine bf ?_|with_reducible refine be ?_|with_reducible refine bB ?_|with_reducible refine cg ?_|with_reducible refine bw ?_|with_reducible refine bv ?_|with_reducible refine ck ?_|with_reducible refine bD ?_|with_reducible refine bo ?_|with_reducible refine bE ?_|with_reducible refine du ?_|((with_reducible apply cD hm);(iterate 2 (simp only[push_cast,seval];rfl));(intro _;rfl);intro e hm)|((with_reducible apply jv hm);(iterate 2 (simp only[push_cast,seval];rfl));intro e hm)|((with_reducible apply iN);(simp only[push_cast,seval];rfl);(first|exact trivial))|((with_reducible apply eE hm);(simp only[push_cast,seval];rfl);rfl;intro v hm;rotate_left;intro v g hm)|((with_reducible apply mV hm);(simp only[push_cast,seval];rfl);rfl;intro v hm;rotate_left;intro v g hm)|((with_reducible apply dJ hm);(simp only[push_cast,seval];rfl);(first|apply cB _ _ _|apply oa _ _);(any_goals((repeat'(first|rfl));done));intro x hm)|((with_reducible apply aQ hm);(simp only[push_cast,seval];rfl);intro hm;rotate_left;intro hm)|((with_reducible apply bF hm);(focus(simp only[a8,cj,RV.get,push_cast,seval];rfl));(focus((repeat'(first|rfl));done)))|((with_reducible apply bO hm);(simp only[push_cast,seval];rfl))|((with_reducible apply bH hm);intro r hm)|((with_reducible apply cy hm);intro r hm)|((apply aF (b:=0) (X:=fl) (x:=cX) rfl (fun(c:SV×SV×SV) (s:Int)=>st [(1,c.1),(2,c.2.1),(5,c.2.2),(6,.d (.int .i64 s))] []) (c:=(_,_,_)) (s0:=_) hm);(focus(first|(dsimp only;done)));(with_reducible refine cz.mk ?_ ?_))|((apply bN (s':=_) hm);(focus(first|(dsimp only;done))))|((apply cJ (s':=_) hm);(focus(first|(dsimp only;done))))|(((with_reducible apply fD hm);intro r hm))|(((with_reducible apply dz.of);(focus(first|(dsimp only;done)));(focus((intro _;repeat'(first|with_reducible exact bp|with_reducible refine ba ?_))));(intro s o hm;first|unfold cX);rotate_left;intro s hm))|(((apply bI;(repeat'(first|with_reducible exact aS|with_reducible exact aT|with_reducible apply aL|((with_reducible apply a_);(focus(first|(simp only[push_cast,seval];rfl)));(focus((repeat'(first|rfl));done)))));done))))
noncomputable def d7 (x0:aH) (x1:Int):Option (Int):=(rA x0 x1).1
theorem lw (x0:aH) (x1:Int):∀ r,d7 x0 x1=some r->aa Tryz.prog 91 [.agg (bP x0),.int .i64 x1] (.int .i64 r):=(rA x0 x1).2
def cM:SC:=
 (.seq (.seq (.reg [.r 22 (.mv (.t 10)),
   .r 23 (.mv (.t 1)),
   .r 24 (.len (.t 23)),
   .r 25 (.bin .lss (.t 22) (.t 24))])
 (.cond (.t 25)
  .skip
  (.exit 0)))
 (.seq (.block 1 (.seq (.reg [.r 28 (.mv (.t 1)),
    .r 29 (.mv (.t 10)),
    .r 30 (.idx 5 (.t 28) (.t 29)),
    .o 31 (.ldA 5 (.t 30)),
    .w 11 (.boxM (.c (.agg [.d (.str []),.d (.str []),.d (.int .i64 0),.d (.int .i64 0),.nils]))),
    .w 0 (.st 5 (.t 11) (.t 31))])
  (.seq (.reg [.r 32 (.mv (.t 3)),
    .r 33 (.bin .add (.t 32) (.c (.d (.int .i64 1)))),
    .r 3 (.mv (.t 33))])
  (.seq (.seq (.reg (.r 34 (.mv (.t 3)):: .r 35 (.bin .gtr (.t 34) (.c (.d (.int .i64 300)))):: .r 36 (.mv (.t 35))::aK [37,38] 36 false (.r 37 (.mv (.t 2)):: .r 38 (.bin .gtr (.t 37) (.c (.d (.int .i64 6))))::[]) (.r 39 (.pick (.t 36) (.c (.d (.bool true))) (.t 38))::[])))
  (.cond (.t 39)
   (.seq (.reg [.r 40 (.mv (.t 3)),
     .r 8 (.mv (.t 40)),
     .r 9 (.mv (.c (.d (.int .i64 2))))])
   .ret)
   .skip))
  (.seq (.seq (.reg (.o 41 (.ldA 5 (.t 11)):: .c 42 (.f 42) [.t 41]:: .r 43 (.not (.t 42)):: .r 44 (.mv (.t 43))::aK [45,46,47] 44 true (.r 45 (.ldA 5 (.t 11)):: .c 46 (.f 43) [.t 45]:: .r 47 (.not (.t 46))::[]) (.r 48 (.pick (.t 44) (.t 47) (.c (.d (.bool false))))::[])))
  (.cond (.t 48)
   (.seq (.reg [.r 49 (.mv (.t 3)),
     .r 8 (.mv (.t 49)),
     .r 9 (.mv (.c (.d (.int .i64 3))))])
   .ret)
   .skip))
  (.seq (.seq (.reg (.r 50 (.fld 1 (.t 11)):: .o 51 (.ld1 (.t 50)):: .r 52 (.bin .neq (.t 51) (.c (.d (.str [])))):: .r 53 (.mv (.t 52))::aK [54,55,56,57] 53 true (.r 54 (.fld 1 (.t 11)):: .r 55 (.ld1 (.t 54)):: .c 56 (.f 25) [.t 55]:: .r 57 (.not (.t 56))::[]) (.r 58 (.pick (.t 53) (.t 57) (.c (.d (.bool false))))::[])))
  (.cond (.t 58)
   (.seq (.reg [.r 59 (.mv (.t 3)),
     .r 8 (.mv (.t 59)),
     .r 9 (.mv (.c (.d (.int .i64 5))))])
   .ret)
   .skip))
  (.seq (.seq (.reg (.r 60 (.fld 1 (.t 11)):: .o 61 (.ld1 (.t 60)):: .r 62 (.bin .eql (.t 61) (.c (.d (.str [])))):: .r 63 (.mv (.t 62))::aK [64,65,66,67,68] 63 true (.r 64 (.ldA 4 (.t 4)):: .r 65 (.fld 0 (.t 11)):: .r 66 (.ld1 (.t 65)):: .c 67 (.f 44) [.t 64,.t 66]:: .r 68 (.bin .lss (.t 67) (.c (.d (.int .i64 0))))::[]) (.r 69 (.pick (.t 63) (.t 68) (.c (.d (.bool false))))::[])))
  (.cond (.t 69)
   (.seq (.reg [.r 70 (.mv (.t 3)),
     .r 8 (.mv (.t 70)),
     .r 9 (.mv (.c (.d (.int .i64 9))))])
   .ret)
   .skip))
  (.seq (.seq (.reg (.r 71 (.fld 2 (.t 11)):: .o 72 (.ld1 (.t 71)):: .r 73 (.fld 3 (.t 11)):: .o 74 (.ld1 (.t 73)):: .c 75 (.f 45) [.t 72,.c (.d (.int .i64 0)),.t 74]:: .r 76 (.not (.t 75)):: .r 77 (.mv (.t 76))::aK [78,79,80,81] 77 false (.r 78 (.fld 3 (.t 11)):: .r 79 (.ld1 (.t 78)):: .c 80 (.f 45) [.t 79,.c (.d (.int .i64 1)),.c (.d (.int .i64 1000))]:: .r 81 (.not (.t 80))::[]) (.r 82 (.pick (.t 77) (.c (.d (.bool true))) (.t 81))::[])))
  (.cond (.t 82)
   (.seq (.reg [.r 83 (.mv (.t 3)),
     .r 8 (.mv (.t 83)),
     .r 9 (.mv (.c (.d (.int .i64 1))))])
   .ret)
   .skip))
  (.seq (.seq (.reg [.r 84 (.fld 1 (.t 11)),
    .o 85 (.ld1 (.t 84)),
    .r 86 (.bin .eql (.t 85) (.c (.d (.str []))))])
  (.cond (.t 86)
   (.exit 1)
   .skip))
  (.seq (.reg [.o 88 (.ldA 4 (.t 4)),
    .r 89 (.fld 4 (.t 11)),
    .o 90 (.ld1 (.t 89)),
    .r 91 (.mv (.t 2)),
    .r 92 (.bin .add (.t 91) (.c (.d (.int .i64 1)))),
    .r 93 (.mv (.t 3)),
    .c 94 (.f 27) [.t 88,.t 90,.t 92,.t 93],
    .r 87 (.mv (.t 94)),
    .r 95 (.ext (.t 87) 0),
    .r 96 (.ext (.t 87) 1),
    .r 12 (.mv (.t 95)),
    .r 13 (.mv (.t 96))])
  (.seq (.seq (.reg [.r 97 (.mv (.t 13)),
    .r 98 (.bin .neq (.t 97) (.c (.d (.int .i64 0))))])
  (.cond (.t 98)
   (.seq (.reg [.r 99 (.mv (.t 12)),
     .r 100 (.mv (.t 13)),
     .r 8 (.mv (.t 99)),
     .r 9 (.mv (.t 100))])
   .ret)
   .skip))
  (.reg [.r 101 (.mv (.t 12)),
    .r 3 (.mv (.t 101))]))))))))))))
 (.reg [.r 26 (.mv (.t 10)),
   .r 27 (.bin .add (.t 26) (.c (.d (.int .i64 1)))),
   .r 10 (.mv (.t 27))])))
def eR:SC:= .block 0 (.loop cM)
def fZ:SC:=
 (.seq (.reg [.r 4 (.boxI (.t 0)),
   .r 8 (.mv (.c (.d (.int .i64 0)))),
   .r 9 (.mv (.c (.d (.int .i64 0))))])
 (.seq (.seq (.reg [.r 14 (.mv (.t 1)),
   .r 15 (.len (.t 14)),
   .r 16 (.bin .eql (.t 15) (.c (.d (.int .i64 0))))])
 (.cond (.t 16)
  (.seq (.reg [.r 17 (.mv (.t 3)),
    .r 8 (.mv (.t 17)),
    .r 9 (.mv (.c (.d (.int .i64 9))))])
  .ret)
  .skip))
 (.seq (.seq (.reg [.r 18 (.mv (.t 1)),
   .r 19 (.len (.t 18)),
   .r 20 (.bin .gtr (.t 19) (.c (.d (.int .i64 50))))])
 (.cond (.t 20)
  (.seq (.reg [.r 21 (.mv (.t 3)),
    .r 8 (.mv (.t 21)),
    .r 9 (.mv (.c (.d (.int .i64 2))))])
  .ret)
  .skip))
 (.seq (.seq (.reg [.r 10 (.mv (.c (.d (.int .i64 0))))])
 eR)
 (.seq (.reg [.r 102 (.mv (.t 3)),
   .r 8 (.mv (.t 102)),
   .r 9 (.mv (.c (.d (.int .i64 0))))])
 .ret)))))
theorem lz:fits Tryz.prog 27 Tryz.f27 fZ [.t 8,.t 9] 4=true:=oK
set_option maxRecDepth 100000 in
set_option maxHeartbeats 40000000 in
noncomputable def rB:((∀ (x0:ah) (x1:List ab) (x2:Int) (x3:Int),{m:Option (Int×Int)//∀ r,m=some r->aa Tryz.prog 27 [.agg (aC x0),.slice (List.map ac x1),.int .i64 x2,.int .i64 x3] (.tup [.int .i64 r.1,.int .i64 r.2])}))->((∀ (x0:ah) (x1:List ab) (x2:Int) (x3:Int),{m:Option (Int×Int)//∀ r,m=some r->aa Tryz.prog 27 [.agg (aC x0),.slice (List.map ac x1),.int .i64 x2,.int .i64 x3] (.tup [.int .i64 r.1,.int .i64 r.2])})):=by
 intro ih
 have cY:∀ (x0:ah) (x1:List ab) (x2:Int) (x3:Int),∀ r,(ih x0 x1 x2 x3).1=some r->aa Tryz.prog 27 [.agg (aC x0),.slice (List.map ac x1),.int .i64 x2,.int .i64 x3] (.tup [.int .i64 r.1,.int .i64 r.2]):=fun x0 x1 x2 x3=>(ih x0 x1 x2 x3).2
 (intro x0 x1 x2 x3;apply Subtype.mk;intro r hm;apply af Tryz.func27 lz;unfold fZ)
 repeat'(first|with_reducible refine bu ?_|with_reducible refine bt ?_|with_reducible refine bf ?_|with_reducible refine be ?_|with_reducible refine bB ?_|with_reducible refine cg ?_|with_reducible refine bw ?_|with_reducible refine bv ?_|with_reducible refine ck ?_|with_reducible refine bD ?_|with_reducible refine bo ?_|with_reducible refine bE ?_|with_reducible refine nk ?_|with_reducible refine du ?_|((with_reducible apply cD hm);(iterate 2 (simp only[push_cast,seval];rfl));(intro _;rfl);intro e hm)|((with_reducible apply iN);(simp only[push_cast,seval];rfl);(first|exact trivial))|((with_reducible apply eE hm);(simp only[push_cast,seval];rfl);rfl;intro v hm;rotate_left;intro v g hm)|((with_reducible apply mV hm);(simp only[push_cast,seval];rfl);rfl;intro v hm;rotate_left;intro v g hm)|((with_reducible apply dJ hm);(simp only[push_cast,seval];rfl);(first|apply fS _|apply mF _|apply g9 _|apply nY _ _|apply cB _ _ _|apply cY _ _ _ _);(any_goals((repeat'(first|rfl|(with_reducible first|apply iP|apply oq|apply dB)));done));intro x hm)|((with_reducible apply tQ);(simp only[push_cast,seval];rfl);(first|exact trivial))|((with_reducible apply aQ hm);(simp only[push_cast,seval];rfl);intro hm;rotate_left;intro hm)|((with_reducible apply ge hm);(focus(simp only[a8,cj,RV.get,push_cast,seval];rfl));(focus(first|(dsimp only;done)));(focus((repeat'(first|rfl));done)))|((with_reducible apply bO hm);(simp only[push_cast,seval];rfl))|((with_reducible apply bH hm);intro r hm)|((with_reducible apply cy hm);intro r hm)|((apply aF (b:=0) (X:=eR) (x:=cM) rfl (fun(c:SV×SV×SV) (s:Int×Int)=>st [(1,c.1),(2,c.2.1),(3,.d (.int .i64 s.1)),(4,c.2.2),(10,.d (.int .i64 s.2))] []) (c:=(_,_,_)) (s0:=(_,_)) hm);(focus(first|(dsimp only;done)));(with_reducible refine cz.mk ?_ ?_))|((apply bN (s':=(_,_)) hm);(focus(first|(dsimp only;done))))|((apply cJ (s':=(_,_)) hm);(focus(first|(dsimp only;done))))|(((with_reducible apply fD hm);intro r hm))|(((with_reducible apply dz.of);(focus(first|(dsimp only;done)));(focus((intro _;repeat'(first|with_reducible exact bp|with_reducible refine ba ?_))));(intro s o hm;first|unfold cM);rotate_left;intro s hm))|(((apply bI;(repeat'(first|with_reducible exact aS|with_reducible exact aT|with_reducible apply aL|((with_reducible apply a_);(focus(first|(simp only[push_cast,seval];rfl)));(focus((repeat'(first|rfl));done)))));done))))
noncomputable def oH (fu:Nat):(∀ (x0:ah) (x1:List ab) (x2:Int) (x3:Int),{m:Option (Int×Int)//∀ r,m=some r->aa Tryz.prog 27 [.agg (aC x0),.slice (List.map ac x1),.int .i64 x2,.int .i64 x3] (.tup [.int .i64 r.1,.int .i64 r.2])}):=Nat.rec (fun x0 x1 x2 x3=>⟨none,fun r h=>by cases h⟩) (fun _ ih=>rB ih) fu
noncomputable def cq (fu:Nat) (x0:ah) (x1:List ab) (x2:Int) (x3:Int):Option (Int×Int):=((oH fu) x0 x1 x2 x3).1
theorem ka (fu:Nat) (x0:ah) (x1:List ab) (x2:Int) (x3:Int):((oH fu) x0 x1 x2 x3).1=cq fu x0 x1 x2 x3:=rfl
theorem kb (fu:Nat) (x0:ah) (x1:List ab) (x2:Int) (x3:Int):cq (fu+1) x0 x1 x2 x3=((rB (oH fu)) x0 x1 x2 x3).1:=rfl
theorem cY (fu:Nat) (x0:ah) (x1:List ab) (x2:Int) (x3:Int):∀ r,cq fu x0 x1 x2 x3=some r->aa Tryz.prog 27 [.agg (aC x0),.slice (List.map ac x1),.int .i64 x2,.int .i64 x3] (.tup [.int .i64 r.1,.int .i64 r.2]):=((oH fu) x0 x1 x2 x3).2
def dC:SC:=
 (.seq (.seq (.reg [.r 33 (.mv (.t 10)),
   .r 34 (.mv (.t 1)),
   .r 35 (.len (.t 34)),
   .r 36 (.bin .lss (.t 33) (.t 35))])
 (.cond (.t 36)
  .skip
  (.exit 2)))
 (.seq (.block 3 (.seq (.reg [.r 39 (.mv (.t 1)),
    .r 40 (.mv (.t 10)),
    .r 41 (.idx 1 (.t 39) (.t 40)),
    .o 42 (.ld1 (.t 41)),
    .r 43 (.mv (.t 9)),
    .r 44 (.bin .eql (.t 42) (.t 43))])
  (.cond (.t 44)
   (.seq (.reg [.r 6 (.mv (.c (.d (.bool true))))])
   .ret)
   .skip)))
 (.reg [.r 37 (.mv (.t 10)),
   .r 38 (.bin .add (.t 37) (.c (.d (.int .i64 1)))),
   .r 10 (.mv (.t 38))])))
def f0:SC:= .block 2 (.loop dC)
def dD:SC:=
 (.seq (.seq (.reg [.r 13 (.mv (.t 8)),
   .r 14 (.mv (.t 0)),
   .r 15 (.len (.t 14)),
   .r 16 (.bin .lss (.t 13) (.t 15))])
 (.cond (.t 16)
  .skip
  (.exit 0)))
 (.seq (.block 1 (.seq (.reg [.r 19 (.mv (.t 0)),
    .r 20 (.mv (.t 8)),
    .r 21 (.idx 5 (.t 19) (.t 20)),
    .o 22 (.ldA 5 (.t 21)),
    .c 23 (.f 46) [.t 22],
    .r 9 (.mv (.t 23))])
  (.seq (.reg [.r 24 (.mv (.t 7)),
    .r 25 (.mv (.t 9)),
    .r 26 (.bslice 1 [.t 25]),
    .w 27 (.app 9 1 (.t 24) (.t 26)),
    .r 7 (.mv (.t 27))])
  (.seq (.seq (.reg (.r 28 (.mv (.t 2)):: .r 29 (.mv (.t 28))::aK [30,31] 29 true (.r 30 (.mv (.t 8)):: .r 31 (.bin .eql (.t 30) (.c (.d (.int .i64 0))))::[]) (.r 32 (.pick (.t 29) (.t 31) (.c (.d (.bool false))))::[])))
  (.cond (.t 32)
   (.exit 1)
   .skip))
  (.seq (.reg [.r 10 (.mv (.c (.d (.int .i64 0))))])
  f0)))))
 (.reg [.r 17 (.mv (.t 8)),
   .r 18 (.bin .add (.t 17) (.c (.d (.int .i64 1)))),
   .r 8 (.mv (.t 18))])))
def f9:SC:= .block 0 (.loop dD)
def dk:SC:=(.reg [.r 45 (.mv (.t 7)),
   .c 46 (.f 28) [.t 45]])
def dE:SC:=
 (.seq (.seq (.reg [.r 47 (.mv (.t 11)),
   .r 48 (.mv (.t 0)),
   .r 49 (.len (.t 48)),
   .r 50 (.bin .lss (.t 47) (.t 49))])
 (.cond (.t 50)
  .skip
  (.exit 4)))
 (.seq (.block 5 (.seq (.seq (.reg [.r 53 (.mv (.t 0)),
    .r 54 (.mv (.t 11)),
    .r 55 (.idx 5 (.t 53) (.t 54)),
    .r 56 (.fld 1 (.t 55)),
    .o 57 (.ld1 (.t 56)),
    .r 58 (.bin .eql (.t 57) (.c (.d (.str []))))])
  (.cond (.t 58)
   (.exit 5)
   .skip))
  (.seq (.reg [.r 12 (.mv (.c (.nils)))])
  (.seq (.reg [.r 59 (.mv (.t 12)),
    .r 60 (.mv (.t 1)),
    .w 61 (.app 9 1 (.t 59) (.t 60)),
    .r 12 (.mv (.t 61))])
  (.seq (.reg [.r 62 (.mv (.t 12)),
    .r 63 (.mv (.t 7)),
    .r 64 (.mv (.t 11)),
    .r 65 (.slc 1 (.t 63) (some (.t 64)) none),
    .w 66 (.app 9 1 (.t 62) (.t 65)),
    .r 12 (.mv (.t 66))])
  (.seq (.reg [.r 67 (.mv (.t 0)),
    .r 68 (.mv (.t 11)),
    .r 69 (.idx 5 (.t 67) (.t 68)),
    .r 70 (.fld 4 (.t 69)),
    .o 71 (.ld1 (.t 70)),
    .r 72 (.mv (.t 12)),
    .c 73 (.f 30) [.t 71,.t 72,.c (.d (.bool true))]])
  (.cond (.t 73)
   (.seq (.reg [.r 6 (.mv (.c (.d (.bool true))))])
   .ret)
   .skip)))))))
 (.reg [.r 51 (.mv (.t 11)),
   .r 52 (.bin .add (.t 51) (.c (.d (.int .i64 1)))),
   .r 11 (.mv (.t 52))])))
def f_:SC:= .block 4 (.loop dE)
def iw:SC:=
 (.seq (.reg [.r 6 (.mv (.c (.d (.bool false))))])
 (.seq (.reg [.r 7 (.mv (.c (.nils)))])
 (.seq (.seq (.reg [.r 8 (.mv (.c (.d (.int .i64 0))))])
 f9)
 (.seq (.seq dk
 (.cond (.t 46)
  (.seq (.reg [.r 6 (.mv (.c (.d (.bool true))))])
  .ret)
  .skip))
 (.seq (.seq (.reg [.r 11 (.mv (.c (.d (.int .i64 0))))])
 f_)
 (.seq (.reg [.r 6 (.mv (.c (.d (.bool false))))])
 .ret))))))
theorem m8:fits Tryz.prog 30 Tryz.f30 iw [.t 6] 3=true:=oK
set_option maxRecDepth 100000 in
set_option maxHeartbeats 40000000 in
noncomputable def rC:((∀ (x0:List ab) (x1:List (List UInt8)) (x2:Bool),{m:Option (Bool)//∀ r,m=some r->aa Tryz.prog 30 [.slice (List.map ac x0),.slice (List.map eK x1),.bool x2] (.bool r)}))->((∀ (x0:List ab) (x1:List (List UInt8)) (x2:Bool),{m:Option (Bool)//∀ r,m=some r->aa Tryz.prog 30 [.slice (List.map ac x0),.slice (List.map eK x1),.bool x2] (.bool r)})):=by
 intro ih
 have dQ:∀ (x0:List ab) (x1:List (List UInt8)) (x2:Bool),∀ r,(ih x0 x1 x2).1=some r->aa Tryz.prog 30 [.slice (List.map ac x0),.slice (List.map eK x1),.bool x2] (.bool r):=fun x0 x1 x2=>(ih x0 x1 x2).2
 (intro x0 x1 x2;apply Subtype.mk;intro r hm;apply af Tryz.func30 m8;unfold iw)
 repeat'(first|((with_reducible apply FG (x:=dk) 7);(focus(simp only[push_cast,seval];(try rfl);done));(focus(simp only[push_cast,seval];(try rfl);done));(focus(simp only[push_cast,seval];(try rfl);done));unfold dk)|with_reducible refine bu ?_|with_reducible refine bt ?_|with_reducible refine bf ?_|with_reducible refine be ?_|with_reducible refine bB ?_|with_reducible refine cg ?_|with_reducible refine bw ?_|with_reducible refine bv ?_|with_reducible refine ck ?_|with_reducible refine bD ?_|with_reducible refine bo ?_|with_reducible refine bE ?_|with_reducible refine nk ?_|with_reducible refine du ?_|((with_reducible apply cD hm);(iterate 2 (simp only[push_cast,seval];rfl));(intro _;rfl);intro e hm)|((with_reducible apply Aa hm);(iterate 3 (simp only[push_cast,seval];rfl));(intro _;rfl);intro e hm)|((with_reducible apply iN);(simp only[push_cast,seval];rfl);(first|exact trivial))|((with_reducible apply eE hm);(simp only[push_cast,seval];rfl);rfl;intro v hm;rotate_left;intro v g hm)|((with_reducible apply dJ hm);(simp only[push_cast,seval];rfl);(first|apply ma _|apply iv _);(any_goals((repeat'(first|rfl|(with_reducible first|apply iP|apply oq|apply dB)));done));intro x hm)|((with_reducible apply Hy hm);(simp only[push_cast,seval];rfl);(focus(first|exact dQ _ _ _));(intro _;rfl);intro x hm)|((with_reducible apply vh hm);(iterate 4 (simp only[push_cast,seval];rfl));(focus((repeat'(first|rfl|(with_reducible first|apply c9|apply dA|apply ek)));done));decide;(intro _;rfl);intro hm)|((with_reducible apply H_ hm);(focus(simp only[push_cast,seval];done));(iterate 2 (simp only[push_cast,seval];rfl));(focus((repeat'(first|rfl));done));decide;(intro _;rfl);intro hm)|((with_reducible apply aQ hm);(simp only[push_cast,seval];rfl);intro hm;rotate_left;intro hm)|((with_reducible apply bF hm);(focus(simp only[a8,cj,RV.get,push_cast,seval];rfl));(focus((repeat'(first|rfl));done)))|((with_reducible apply bO hm);(simp only[push_cast,seval];rfl))|((with_reducible apply bH hm);intro r hm)|((with_reducible apply cy hm);intro r hm)|((apply aF (b:=2) (X:=f0) (x:=dC) rfl (fun(c:SV×SV×SV×Ch×SV×SV) (s:Int)=>st [(0,c.1),(1,c.2.1),(2,c.2.2.1),(7,.vec 7),(8,c.2.2.2.2.1),(9,c.2.2.2.2.2),(10,.d (.int .i64 s))] [(7,c.2.2.2.1)]) (c:=(_,_,_,_,_,_)) (s0:=_) hm);(focus(first|(dsimp only;done)));(with_reducible refine cz.mk ?_ ?_))|((apply aF (b:=0) (X:=f9) (x:=dD) rfl (fun(c:SV×SV×SV) (s:(List (List UInt8))×Int)=>st [(0,c.1),(1,c.2.1),(2,c.2.2),(7,.vec 7),(8,.d (.int .i64 s.2))] [(7,.vec 9 1 (eg eK s.1))]) (c:=(_,_,_)) (s0:=(_,_)) hm);(focus(first|(dsimp only;done)));(with_reducible refine cz.mk ?_ ?_);apply hY.trans;(focus(apply pX (slot:=7) (id:=7) (e:=9) (sz:=1);(focus(simp only[push_cast,seval];done)))))|((apply aF (b:=4) (X:=f_) (x:=dE) rfl (fun(c:SV×SV×SV) (s:Int)=>st [(0,c.1),(1,c.2.1),(7,c.2.2),(11,.d (.int .i64 s))] []) (c:=(_,_,_)) (s0:=_) hm);(focus(first|(dsimp only;done)));(with_reducible refine cz.mk ?_ ?_))|((apply bN (s':=(_,_)) hm);(focus(first|(dsimp only;done))))|((apply cJ (s':=(_,_)) hm);(focus(first|(dsimp only;done))))|((apply bN (s':=_) hm);(focus(first|(dsimp only;done))))|((apply cJ (s':=_) hm);(focus(first|(dsimp only;done))))|(((with_reducible apply fD hm);intro r hm))|(((with_reducible apply dz.of);(focus(first|(dsimp only;done)));(focus((intro _;repeat'(first|with_reducible exact bp|with_reducible refine ba ?_|with_reducible refine dP ?_|((with_reducible refine ii ?_);intro _)|((with_reducible refine ij ?_);intro _)))));(intro s o hm;first|unfold dC|unfold dD|unfold dE);rotate_left;intro s hm))|(((apply bI;(repeat'(first|with_reducible exact aS|with_reducible exact aT|with_reducible apply aL|with_reducible apply ca|((with_reducible apply a_);(focus(first|(simp only[push_cast,seval];rfl)));(focus((repeat'(first|rfl));done)))|((with_reducible apply fx);(focus(first|(simp only[push_cast,seval];rfl)));(first|with_reducible exact cK rfl|with_reducible apply uj))|(with_reducible first|apply Da)));done))))
noncomputable def oI (fu:Nat):(∀ (x0:List ab) (x1:List (List UInt8)) (x2:Bool),{m:Option (Bool)//∀ r,m=some r->aa Tryz.prog 30 [.slice (List.map ac x0),.slice (List.map eK x1),.bool x2] (.bool r)}):=Nat.rec (fun x0 x1 x2=>⟨none,fun r h=>by cases h⟩) (fun _ ih=>rC ih) fu
noncomputable def b9 (fu:Nat) (x0:List ab) (x1:List (List UInt8)) (x2:Bool):Option (Bool):=((oI fu) x0 x1 x2).1
theorem lA (fu:Nat) (x0:List ab) (x1:List (List UInt8)) (x2:Bool):((oI fu) x0 x1 x2).1=b9 fu x0 x1 x2:=rfl
theorem lB (fu:Nat) (x0:List ab) (x1:List (List UInt8)) (x2:Bool):b9 (fu+1) x0 x1 x2=((rC (oI fu)) x0 x1 x2).1:=rfl
theorem dQ (fu:Nat) (x0:List ab) (x1:List (List UInt8)) (x2:Bool):∀ r,b9 fu x0 x1 x2=some r->aa Tryz.prog 30 [.slice (List.map ac x0),.slice (List.map eK x1),.bool x2] (.bool r):=((oI fu) x0 x1 x2).2
def cZ:SC:=
 (.seq (.seq (.reg [.r 37 (.mv (.t 3)),
   .r 38 (.fld 4 (.t 1)),
   .o 39 (.ld1 (.t 38)),
   .r 40 (.len (.t 39)),
   .r 41 (.bin .lss (.t 37) (.t 40))])
 (.cond (.t 41)
  .skip
  (.exit 0)))
 (.seq (.block 1 (.seq (.reg [.o 44 (.ldA 5 (.t 1)),
    .r 45 (.mv (.t 3)),
    .c 46 (.f 91) [.t 44,.t 45],
    .r 4 (.mv (.t 46))])
  (.seq (.reg [.r 47 (.mv (.t 4)),
    .r 48 (.bin .neq (.t 47) (.c (.d (.int .i64 0))))])
  (.cond (.t 48)
   (.seq (.reg [.r 49 (.mv (.t 4)),
     .r 2 (.mv (.t 49))])
   .ret)
   .skip))))
 (.reg [.r 42 (.mv (.t 3)),
   .r 43 (.bin .add (.t 42) (.c (.d (.int .i64 1)))),
   .r 3 (.mv (.t 43))])))
def fm:SC:= .block 0 (.loop cZ)
def gu:SC:=
 (.seq (.reg [.r 1 (.boxI (.t 0)),
   .r 2 (.mv (.c (.d (.int .i64 0))))])
 (.seq (.seq (.reg [.r 5 (.fld 1 (.t 1)),
   .o 6 (.ld1 (.t 5)),
   .c 7 (.f 45) [.t 6,.c (.d (.int .i64 1)),.c (.d (.int .i64 5))],
   .r 8 (.not (.t 7))])
 (.cond (.t 8)
  (.seq (.reg [.r 2 (.mv (.c (.d (.int .i64 4))))])
  .ret)
  .skip))
 (.seq (.seq (.reg (.r 9 (.fld 2 (.t 1)):: .o 10 (.ld1 (.t 9)):: .r 11 (.fld 3 (.t 1)):: .o 12 (.ld1 (.t 11)):: .c 13 (.f 45) [.t 10,.c (.d (.int .i64 1)),.t 12]:: .r 14 (.not (.t 13)):: .r 15 (.mv (.t 14))::aK [16,17,18] 15 false (.r 16 (.fld 3 (.t 1)):: .r 17 (.ld1 (.t 16)):: .r 18 (.bin .gtr (.t 17) (.c (.d (.int .i64 1000))))::[]) (.r 19 (.pick (.t 15) (.c (.d (.bool true))) (.t 18))::[])))
 (.cond (.t 19)
  (.seq (.reg [.r 2 (.mv (.c (.d (.int .i64 1))))])
  .ret)
  .skip))
 (.seq (.seq (.reg (.r 20 (.fld 1 (.t 1)):: .o 21 (.ld1 (.t 20)):: .r 22 (.bin .eql (.t 21) (.c (.d (.int .i64 5)))):: .r 23 (.mv (.t 22))::aK [24,25,26,27,28,29,30,31] 23 true (.r 24 (.fld 2 (.t 1)):: .r 25 (.ld1 (.t 24)):: .r 26 (.bin .gtr (.t 25) (.c (.d (.int .i64 8)))):: .r 27 (.mv (.t 26))::aK [28,29,30] 27 false (.r 28 (.fld 3 (.t 1)):: .r 29 (.ld1 (.t 28)):: .r 30 (.bin .lss (.t 29) (.c (.d (.int .i64 8))))::[]) (.r 31 (.pick (.t 27) (.c (.d (.bool true))) (.t 30))::[])) (.r 32 (.pick (.t 23) (.t 31) (.c (.d (.bool false))))::[])))
 (.cond (.t 32)
  (.seq (.reg [.r 2 (.mv (.c (.d (.int .i64 3))))])
  .ret)
  .skip))
 (.seq (.seq (.reg [.r 33 (.fld 4 (.t 1)),
   .o 34 (.ld1 (.t 33)),
   .r 35 (.len (.t 34)),
   .r 36 (.bin .gtr (.t 35) (.c (.d (.int .i64 50))))])
 (.cond (.t 36)
  (.seq (.reg [.r 2 (.mv (.c (.d (.int .i64 2))))])
  .ret)
  .skip))
 (.seq (.seq (.reg [.r 3 (.mv (.c (.d (.int .i64 0))))])
 fm)
 (.seq (.reg [.r 2 (.mv (.c (.d (.int .i64 0))))])
 .ret)))))))
theorem lY:fits Tryz.prog 69 Tryz.f69 gu [.t 2] 1=true:=oK
set_option maxRecDepth 100000 in
set_option maxHeartbeats 40000000 in
noncomputable def rD:(∀ (x0:aH),{m:Option (Int)//∀ r,m=some r->aa Tryz.prog 69 [.agg (bP x0)] (.int .i64 r)}):=by
 (intro x0;apply Subtype.mk;intro r hm;apply af Tryz.func69 lY;unfold gu)
 repeat'(first|with_reducible refine bu ?_|with_reducible refine bt ?_|with_reducible refine bf ?_|with_reducible refine be ?_|with_reducible refine bB ?_|with_reducible refine cg ?_|with_reducible refine bw ?_|with_reducible refine bv ?_|with_reducible refine ck ?_|with_reducible refine bD ?_|with_reducible refine bo ?_|with_reducible refine bE ?_|with_reducible refine du ?_|((with_reducible apply iN);(simp only[push_cast,seval];rfl);(first|exact trivial))|((with_reducible apply eE hm);(simp only[push_cast,seval];rfl);rfl;intro v hm;rotate_left;intro v g hm)|((with_reducible apply mV hm);(simp only[push_cast,seval];rfl);rfl;intro v hm;rotate_left;intro v g hm)|((with_reducible apply dJ hm);(simp only[push_cast,seval];rfl);(first|apply cB _ _ _|apply lw _ _);(any_goals((repeat'(first|rfl));done));intro x hm)|((with_reducible apply aQ hm);(simp only[push_cast,seval];rfl);intro hm;rotate_left;intro hm)|((with_reducible apply bF hm);(focus(simp only[a8,cj,RV.get,push_cast,seval];rfl));(focus((repeat'(first|rfl));done)))|((with_reducible apply bO hm);(simp only[push_cast,seval];rfl))|((with_reducible apply bH hm);intro r hm)|((with_reducible apply cy hm);intro r hm)|((apply aF (b:=0) (X:=fm) (x:=cZ) rfl (fun(c:SV) (s:Int)=>st [(1,c),(3,.d (.int .i64 s))] []) (c:=_) (s0:=_) hm);(focus(first|(dsimp only;done)));(with_reducible refine cz.mk ?_ ?_))|((apply bN (s':=_) hm);(focus(first|(dsimp only;done))))|((apply cJ (s':=_) hm);(focus(first|(dsimp only;done))))|(((with_reducible apply fD hm);intro r hm))|(((with_reducible apply dz.of);(focus(first|(dsimp only;done)));(focus((intro _;repeat'(first|with_reducible exact bp|with_reducible refine ba ?_))));(intro s o hm;first|unfold cZ);rotate_left;intro s hm))|(((apply bI;(repeat'(first|with_reducible exact aS|with_reducible exact aT|with_reducible apply aL|((with_reducible apply a_);(focus(first|(simp only[push_cast,seval];rfl)));(focus((repeat'(first|rfl));done)))));done))))
noncomputable def d9 (x0:aH):Option (Int):=(rD x0).1
theorem lC (x0:aH):∀ r,d9 x0=some r->aa Tryz.prog 69 [.agg (bP x0)] (.int .i64 r):=(rD x0).2
def dm:SC:=
 (.seq (.seq (.reg [.r 35 (.mv (.t 5)),
   .r 36 (.fld 2 (.t 4)),
   .o 37 (.ld1 (.t 36)),
   .r 38 (.len (.t 37)),
   .r 39 (.bin .lss (.t 35) (.t 38))])
 (.cond (.t 39)
  .skip
  (.exit 2)))
 (.seq (.block 3 (.seq (.reg [.r 42 (.fld 2 (.t 4)),
    .o 43 (.ld1 (.t 42)),
    .r 44 (.mv (.t 5)),
    .r 45 (.idx 5 (.t 43) (.t 44)),
    .o 46 (.ldA 5 (.t 45)),
    .c 47 (.f 69) [.t 46],
    .r 6 (.mv (.t 47))])
  (.seq (.reg [.r 48 (.mv (.t 6)),
    .r 49 (.bin .neq (.t 48) (.c (.d (.int .i64 0))))])
  (.cond (.t 49)
   (.seq (.reg [.r 50 (.mv (.t 6)),
     .r 2 (.mv (.t 50))])
   .ret)
   .skip))))
 (.reg [.r 40 (.mv (.t 5)),
   .r 41 (.bin .add (.t 40) (.c (.d (.int .i64 1)))),
   .r 5 (.mv (.t 41))])))
def fL:SC:= .block 2 (.loop dm)
def dp:SC:=
 (.seq (.seq (.reg [.r 11 (.mv (.t 3)),
   .r 12 (.fld 1 (.t 1)),
   .o 13 (.ld1 (.t 12)),
   .r 14 (.len (.t 13)),
   .r 15 (.bin .lss (.t 11) (.t 14))])
 (.cond (.t 15)
  .skip
  (.exit 0)))
 (.seq (.block 1 (.seq (.reg [.r 18 (.fld 1 (.t 1)),
    .o 19 (.ld1 (.t 18)),
    .r 20 (.mv (.t 3)),
    .r 21 (.idx 3 (.t 19) (.t 20)),
    .o 22 (.ldA 3 (.t 21)),
    .w 4 (.boxM (.c (.agg [.d (.bool false),.d (.int .i64 0),.nils]))),
    .w 0 (.st 3 (.t 4) (.t 22))])
  (.seq (.seq (.reg [.r 23 (.fld 1 (.t 4)),
    .o 24 (.ld1 (.t 23)),
    .c 25 (.f 45) [.t 24,.c (.d (.int .i64 1)),.c (.d (.int .i64 20))],
    .r 26 (.not (.t 25))])
  (.cond (.t 26)
   (.seq (.reg [.r 2 (.mv (.c (.d (.int .i64 1))))])
   .ret)
   .skip))
  (.seq (.seq (.reg [.r 27 (.fld 2 (.t 4)),
    .o 28 (.ld1 (.t 27)),
    .r 29 (.len (.t 28)),
    .r 30 (.bin .eql (.t 29) (.c (.d (.int .i64 0))))])
  (.cond (.t 30)
   (.seq (.reg [.r 2 (.mv (.c (.d (.int .i64 9))))])
   .ret)
   .skip))
  (.seq (.seq (.reg [.r 31 (.fld 2 (.t 4)),
    .o 32 (.ld1 (.t 31)),
    .r 33 (.len (.t 32)),
    .r 34 (.bin .gtr (.t 33) (.c (.d (.int .i64 20))))])
  (.cond (.t 34)
   (.seq (.reg [.r 2 (.mv (.c (.d (.int .i64 2))))])
   .ret)
   .skip))
  (.seq (.reg [.r 5 (.mv (.c (.d (.int .i64 0))))])
  fL))))))
 (.reg [.r 16 (.mv (.t 3)),
   .r 17 (.bin .add (.t 16) (.c (.d (.int .i64 1)))),
   .r 3 (.mv (.t 17))])))
def fM:SC:= .block 0 (.loop dp)
def gW:SC:=
 (.seq (.reg [.r 1 (.boxI (.t 0)),
   .r 2 (.mv (.c (.d (.int .i64 0))))])
 (.seq (.seq (.reg [.r 7 (.fld 1 (.t 1)),
   .o 8 (.ld1 (.t 7)),
   .r 9 (.len (.t 8)),
   .r 10 (.bin .gtr (.t 9) (.c (.d (.int .i64 50))))])
 (.cond (.t 10)
  (.seq (.reg [.r 2 (.mv (.c (.d (.int .i64 2))))])
  .ret)
  .skip))
 (.seq (.seq (.reg [.r 3 (.mv (.c (.d (.int .i64 0))))])
 fM)
 (.seq (.reg [.r 2 (.mv (.c (.d (.int .i64 0))))])
 .ret))))
theorem mA:fits Tryz.prog 41 Tryz.f41 gW [.t 2] 1=true:=oK
set_option maxRecDepth 100000 in
set_option maxHeartbeats 40000000 in
noncomputable def rE:(∀ (x0:aw),{m:Option (Int)//∀ r,m=some r->aa Tryz.prog 41 [.agg (au x0)] (.int .i64 r)}):=by
 (intro x0;apply Subtype.mk;intro r hm;apply af Tryz.func41 mA;unfold gW)
 repeat'(first|with_reducible refine bu ?_|with_reducible refine bt ?_|with_reducible refine bf ?_|with_reducible refine be ?_|with_reducible refine bB ?_|with_reducible refine cg ?_|with_reducible refine bw ?_|with_reducible refine bv ?_|with_reducible refine ck ?_|with_reducible refine bD ?_|with_reducible refine bo ?_|with_reducible refine bE ?_|with_reducible refine du ?_|((with_reducible apply cD hm);(iterate 2 (simp only[push_cast,seval];rfl));(intro _;rfl);intro e hm)|((with_reducible apply iN);(simp only[push_cast,seval];rfl);(first|exact trivial))|((with_reducible apply dJ hm);(simp only[push_cast,seval];rfl);(first|apply cB _ _ _|apply lC _);(any_goals((repeat'(first|rfl));done));intro x hm)|((with_reducible apply tQ);(simp only[push_cast,seval];rfl);(first|exact trivial))|((with_reducible apply aQ hm);(simp only[push_cast,seval];rfl);intro hm;rotate_left;intro hm)|((with_reducible apply bF hm);(focus(simp only[a8,cj,RV.get,push_cast,seval];rfl));(focus((repeat'(first|rfl));done)))|((with_reducible apply bH hm);intro r hm)|((with_reducible apply cy hm);intro r hm)|((apply aF (b:=2) (X:=fL) (x:=dm) rfl (fun(c:SV×SV×Ch) (s:Int)=>st [(1,c.1),(3,c.2.1),(4,.ref 4 0),(5,.d (.int .i64 s))] [(4,c.2.2)]) (c:=(_,_,_)) (s0:=_) hm);(focus(first|(dsimp only;done)));(with_reducible refine cz.mk ?_ ?_))|((apply aF (b:=0) (X:=fM) (x:=dp) rfl (fun(c:SV) (s:Int)=>st [(1,c),(3,.d (.int .i64 s))] []) (c:=_) (s0:=_) hm);(focus(first|(dsimp only;done)));(with_reducible refine cz.mk ?_ ?_))|((apply bN (s':=_) hm);(focus(first|(dsimp only;done))))|((apply cJ (s':=_) hm);(focus(first|(dsimp only;done))))|(((with_reducible apply fD hm);intro r hm))|(((with_reducible apply dz.of);(focus(first|(dsimp only;done)));(focus((intro _;repeat'(first|with_reducible exact bp|with_reducible refine ba ?_|with_reducible refine dP ?_|((with_reducible refine ii ?_);intro _)|((with_reducible refine ij ?_);intro _)))));(intro s o hm;first|unfold dm|unfold dp);rotate_left;intro s hm))|(((apply bI;(repeat'(first|with_reducible exact aS|with_reducible exact aT|with_reducible apply aL|with_reducible apply ca|((with_reducible apply a_);(focus(first|(simp only[push_cast,seval];rfl)));(focus((repeat'(first|rfl));done)))|((with_reducible apply fx);(focus(first|(simp only[push_cast,seval];rfl)));(first|with_reducible exact cK rfl))));done))))
noncomputable def eu (x0:aw):Option (Int):=(rE x0).1
theorem lZ (x0:aw):∀ r,eu x0=some r->aa Tryz.prog 41 [.agg (au x0)] (.int .i64 r):=(rE x0).2
def c6:SC:=
 (.seq (.seq (.reg [.r 8 (.mv (.t 3)),
   .r 9 (.mv (.t 0)),
   .r 10 (.len (.t 9)),
   .r 11 (.bin .lss (.t 8) (.t 10))])
 (.cond (.t 11)
  .skip
  (.exit 0)))
 (.seq (.block 1 (.seq (.seq (.reg [.r 14 (.mv (.t 0)),
    .r 15 (.mv (.t 3)),
    .r 16 (.idx 2 (.t 14) (.t 15)),
    .r 17 (.fld 0 (.t 16)),
    .o 18 (.ld1 (.t 17)),
    .c 19 (.f 40) [.t 18],
    .r 20 (.not (.t 19))])
  (.cond (.t 20)
   (.seq (.reg [.r 2 (.mv (.c (.d (.int .i64 5))))])
   .ret)
   .skip))
  (.seq (.seq (.regD (.r 21 (.mv (.t 3)):: .r 22 (.bin .gtr (.t 21) (.c (.d (.int .i64 0)))):: .r 23 (.mv (.t 22))::aK [24,25,26,27,28,29,30,31,32,33,34,35] 23 true (.r 24 (.mv (.t 0)):: .r 25 (.mv (.t 3)):: .r 26 (.idx 2 (.t 24) (.t 25)):: .r 27 (.fld 0 (.t 26)):: .r 28 (.ld1 (.t 27)):: .r 29 (.mv (.t 0)):: .r 30 (.mv (.t 3)):: .r 31 (.bin .sub (.t 30) (.c (.d (.int .i64 1)))):: .r 32 (.idx 2 (.t 29) (.t 31)):: .r 33 (.fld 0 (.t 32)):: .r 34 (.ld1 (.t 33)):: .r 35 (.bin .leq (.t 28) (.t 34))::[]) (.r 36 (.pick (.t 23) (.t 35) (.c (.d (.bool false))))::[])))
  (.cond (.t 36)
   (.seq (.reg [.r 2 (.mv (.c (.d (.int .i64 8))))])
   .ret)
   .skip))
  (.seq (.reg [.r 37 (.mv (.t 0)),
    .r 38 (.mv (.t 3)),
    .r 39 (.idx 2 (.t 37) (.t 38)),
    .o 40 (.ldA 2 (.t 39)),
    .c 41 (.f 41) [.t 40],
    .r 4 (.mv (.t 41))])
  (.seq (.reg [.r 42 (.mv (.t 4)),
    .r 43 (.bin .neq (.t 42) (.c (.d (.int .i64 0))))])
  (.cond (.t 43)
   (.seq (.reg [.r 44 (.mv (.t 4)),
     .r 2 (.mv (.t 44))])
   .ret)
   .skip))))))
 (.reg [.r 12 (.mv (.t 3)),
   .r 13 (.bin .add (.t 12) (.c (.d (.int .i64 1)))),
   .r 3 (.mv (.t 13))])))
def fp:SC:= .block 0 (.loop c6)
def gv:SC:=
 (.seq (.reg [.r 2 (.mv (.c (.d (.int .i64 0))))])
 (.seq (.seq (.reg [.r 5 (.mv (.t 0)),
   .r 6 (.len (.t 5)),
   .r 7 (.bin .gtr (.t 6) (.c (.d (.int .i64 100))))])
 (.cond (.t 7)
  (.seq (.reg [.r 2 (.mv (.c (.d (.int .i64 2))))])
  .ret)
  .skip))
 (.seq (.seq (.reg [.r 3 (.mv (.c (.d (.int .i64 0))))])
 fp)
 (.seq (.reg [.r 2 (.mv (.c (.d (.int .i64 0))))])
 .ret))))
theorem l5:fits Tryz.prog 26 Tryz.f26 gv [.t 2] 1=true:=oK
set_option maxRecDepth 100000 in
set_option maxHeartbeats 40000000 in
noncomputable def rF:(∀ (x0:List aw),{m:Option (Int)//∀ r,m=some r->aa Tryz.prog 26 [.slice (List.map au x0)] (.int .i64 r)}):=by
 (intro x0;apply Subtype.mk;intro r hm;apply af Tryz.func26 l5;unfold gv)
 repeat'(first|with_reducible refine bu ?_|with_reducible refine bt ?_|with_reducible refine pW ?_|with_reducible refine bf ?_|with_reducible refine be ?_|with_reducible refine bB ?_|with_reducible refine cg ?_|with_reducible refine bw ?_|with_reducible refine bv ?_|with_reducible refine ck ?_|with_reducible refine bD ?_|with_reducible refine bo ?_|with_reducible refine bE ?_|with_reducible refine du ?_|((with_reducible apply cD hm);(iterate 2 (simp only[push_cast,seval];rfl));(intro _;rfl);intro e hm)|((with_reducible apply iN);(simp only[push_cast,seval];rfl);(first|exact trivial))|((with_reducible apply eE hm);(simp only[push_cast,seval];rfl);rfl;intro v hm;rotate_left;intro v g hm)|((with_reducible apply dJ hm);(simp only[push_cast,seval];rfl);(first|apply iD _|apply lZ _);(any_goals((repeat'(first|rfl));done));intro x hm)|((with_reducible apply aQ hm);(simp only[push_cast,seval];rfl);intro hm;rotate_left;intro hm)|((with_reducible apply bF hm);(focus(simp only[a8,cj,RV.get,push_cast,seval];rfl));(focus((repeat'(first|rfl));done)))|((with_reducible apply bO hm);(simp only[push_cast,seval];rfl))|((with_reducible apply bH hm);intro r hm)|((with_reducible apply cy hm);intro r hm)|((apply aF (b:=0) (X:=fp) (x:=c6) rfl (fun(c:SV) (s:Int)=>st [(0,c),(3,.d (.int .i64 s))] []) (c:=_) (s0:=_) hm);(focus(first|(dsimp only;done)));(with_reducible refine cz.mk ?_ ?_))|((apply bN (s':=_) hm);(focus(first|(dsimp only;done))))|((apply cJ (s':=_) hm);(focus(first|(dsimp only;done))))|(((with_reducible apply fD hm);intro r hm))|(((with_reducible apply dz.of);(focus(first|(dsimp only;done)));(focus((intro _;repeat'(first|with_reducible exact bp|with_reducible refine ba ?_))));(intro s o hm;first|unfold c6);rotate_left;intro s hm))|(((apply bI;(repeat'(first|with_reducible exact aS|with_reducible exact aT|with_reducible apply aL|((with_reducible apply a_);(focus(first|(simp only[push_cast,seval];rfl)));(focus((repeat'(first|rfl));done)))));done))))
noncomputable def d_ (x0:List aw):Option (Int):=(rF x0).1
theorem lD (x0:List aw):∀ r,d_ x0=some r->aa Tryz.prog 26 [.slice (List.map au x0)] (.int .i64 r):=(rF x0).2
def fN:SC:=
 (.seq (.reg [.r 1 (.boxI (.t 0)),
   .r 2 (.mv (.c (.d (.int .i64 0))))])
 (.seq (.seq (.reg (.r 6 (.fld 0 (.t 1)):: .o 7 (.ld1 (.t 6)):: .c 8 (.f 25) [.t 7]:: .r 9 (.not (.t 8)):: .r 10 (.mv (.t 9))::aK [11,12,13,14] 10 false (.r 11 (.fld 1 (.t 1)):: .r 12 (.ld1 (.t 11)):: .c 13 (.f 25) [.t 12]:: .r 14 (.not (.t 13))::[]) (.r 15 (.pick (.t 10) (.c (.d (.bool true))) (.t 14))::[])))
 (.cond (.t 15)
  (.seq (.reg [.r 2 (.mv (.c (.d (.int .i64 5))))])
  .ret)
  .skip))
 (.seq (.seq (.reg [.r 16 (.fld 2 (.t 1)),
   .o 17 (.ld1 (.t 16)),
   .c 18 (.f 26) [.t 17],
   .r 3 (.mv (.t 18))])
 (.seq (.reg [.r 19 (.mv (.t 3)),
   .r 20 (.bin .neq (.t 19) (.c (.d (.int .i64 0))))])
 (.cond (.t 20)
  (.seq (.reg [.r 21 (.mv (.t 3)),
    .r 2 (.mv (.t 21))])
  .ret)
  .skip)))
 (.seq (.seq (.reg [.o 23 (.ldA 4 (.t 1)),
   .r 24 (.fld 3 (.t 1)),
   .o 25 (.ld1 (.t 24)),
   .c 26 (.f 27) [.t 23,.t 25,.c (.d (.int .i64 0)),.c (.d (.int .i64 0))],
   .r 22 (.mv (.t 26)),
   .r 27 (.ext (.t 22) 0),
   .r 28 (.ext (.t 22) 1),
   .r 4 (.mv (.t 27)),
   .r 5 (.mv (.t 28))])
 (.seq (.reg [.r 29 (.mv (.t 5)),
   .r 30 (.bin .neq (.t 29) (.c (.d (.int .i64 0))))])
 (.cond (.t 30)
  (.seq (.reg [.r 31 (.mv (.t 5)),
    .r 2 (.mv (.t 31))])
  .ret)
  .skip)))
 (.seq (.seq (.reg [.r 32 (.fld 3 (.t 1)),
   .o 33 (.ld1 (.t 32)),
   .c 34 (.f 29) [.t 33],
   .c 35 (.f 28) [.t 34]])
 (.cond (.t 35)
  (.seq (.reg [.r 2 (.mv (.c (.d (.int .i64 7))))])
  .ret)
  .skip))
 (.seq (.seq (.reg [.r 36 (.fld 3 (.t 1)),
   .o 37 (.ld1 (.t 36)),
   .c 38 (.f 30) [.t 37,.c (.nils),.c (.d (.bool false))]])
 (.cond (.t 38)
  (.seq (.reg [.r 2 (.mv (.c (.d (.int .i64 12))))])
  .ret)
  .skip))
 (.seq (.reg [.r 2 (.mv (.c (.d (.int .i64 0))))])
 .ret)))))))
theorem kZ:fits Tryz.prog 7 Tryz.f7 fN [.t 2] 1=true:=oK
set_option maxRecDepth 100000 in
set_option maxHeartbeats 40000000 in
noncomputable def rG:(∀ (x0:ah),{m:Option (Int)//∀ r,m=some r->aa Tryz.prog 7 [.agg (aC x0)] (.int .i64 r)}):=by
 (intro x0;apply Subtype.mk;intro r hm;apply af Tryz.func7 kZ;unfold fN)
 repeat'(first|with_reducible refine bu ?_|with_reducible refine bt ?_|with_reducible refine be ?_|with_reducible refine bB ?_|with_reducible refine bw ?_|with_reducible refine bv ?_|with_reducible refine bD ?_|with_reducible refine du ?_|((with_reducible apply iN);(simp only[push_cast,seval];rfl);(first|exact trivial))|((with_reducible apply mV hm);(simp only[push_cast,seval];rfl);rfl;intro v hm;rotate_left;intro v g hm)|((with_reducible apply dJ hm);(simp only[push_cast,seval];rfl);(first|apply g9 _|apply lD _|apply cY FU _ _ _ _|apply et FU _|apply iv _|apply dQ FU _ _ _);(any_goals((repeat'(first|rfl|(with_reducible first|apply c9|apply dB|apply dA)));done));intro x hm)|((with_reducible apply aQ hm);(simp only[push_cast,seval];rfl);intro hm;rotate_left;intro hm)|((with_reducible apply bF hm);(focus(simp only[a8,cj,RV.get,push_cast,seval];rfl));(focus((repeat'(first|rfl));done)))|((with_reducible apply bO hm);(simp only[push_cast,seval];rfl)))
noncomputable def dF (x0:ah):Option (Int):=(rG x0).1
theorem eS (x0:ah):∀ r,dF x0=some r->aa Tryz.prog 7 [.agg (aC x0)] (.int .i64 r):=(rG x0).2
def ga:SC:=
 (.seq (.reg [.r 2 (.mv (.c (.d (.str []))))])
 (.seq (.seq (.reg [.r 3 (.mv (.t 0))])
 (.cond (.t 3)
  (.seq (.reg [.r 2 (.mv (.c (.d (.str [110,101,101,100,101,100]))))])
  .ret)
  .skip))
 (.seq (.reg [.r 2 (.mv (.c (.d (.str [102,114,101,101]))))])
 .ret)))
theorem lE:fits Tryz.prog 17 Tryz.f17 ga [.t 2] 1=true:=oK
def gX:SC:=
 (.seq (.reg [.r 2 (.mv (.c (.d (.str []))))])
 (.seq (.seq (.reg [.r 3 (.mv (.t 0))])
 (.block 0 (.seq (.reg [.r 5 (.bin .eql (.t 3) (.c (.d (.int .i64 1)))),
    .r 4 (.mv (.t 5))])
  (.cond (.t 4)
   (.seq (.reg [.r 2 (.mv (.c (.d (.str [116,101,120,116]))))])
   .ret)
   (.seq (.reg [.r 7 (.bin .eql (.t 3) (.c (.d (.int .i64 2)))),
     .r 6 (.mv (.t 7))])
   (.cond (.t 6)
    (.seq (.reg [.r 2 (.mv (.c (.d (.str [97,108,112,104,97]))))])
    .ret)
    (.seq (.reg [.r 9 (.bin .eql (.t 3) (.c (.d (.int .i64 3)))),
      .r 8 (.mv (.t 9))])
    (.cond (.t 8)
     (.seq (.reg [.r 2 (.mv (.c (.d (.str [100,105,103,105,116,115]))))])
     .ret)
     (.seq (.reg [.r 11 (.bin .eql (.t 3) (.c (.d (.int .i64 4)))),
       .r 10 (.mv (.t 11))])
     (.cond (.t 10)
      (.seq (.reg [.r 2 (.mv (.c (.d (.str [110,117,109,98,101,114]))))])
      .ret)
      .skip))))))))))
 (.seq (.reg [.r 2 (.mv (.c (.d (.str [100,97,121]))))])
 .ret)))
theorem mB:fits Tryz.prog 18 Tryz.f18 gX [.t 2] 1=true:=oK
set_option maxRecDepth 100000 in
set_option maxHeartbeats 40000000 in
noncomputable def j4:(∀ (x0:Bool),{m:Option ((List UInt8))//∀ r,m=some r->aa Tryz.prog 17 [.bool x0] (.str r)})×(∀ (x0:Int),{m:Option ((List UInt8))//∀ r,m=some r->aa Tryz.prog 18 [.int .i64 x0] (.str r)}):=by
 refine⟨?g0, ?g1⟩
 case' g0=>(intro x0;apply Subtype.mk;intro r hm;apply af Tryz.func17 lE;unfold ga)
 case' g1=>(intro x0;apply Subtype.mk;intro r hm;apply af Tryz.func18 mB;unfold gX)
 all_goals(repeat'(first|with_reducible refine bu ?_|with_reducible refine bt ?_|with_reducible refine bf ?_|with_reducible refine be ?_|with_reducible refine bB ?_|with_reducible refine bw ?_|with_reducible refine bv ?_|with_reducible refine bD ?_|with_reducible refine bo ?_|with_reducible refine bE ?_|((with_reducible apply iN);(simp only[push_cast,seval];rfl);(first|exact trivial))|((with_reducible apply aQ hm);(simp only[push_cast,seval];rfl);intro hm;rotate_left;intro hm)|((with_reducible apply bF hm);(focus(simp only[a8,cj,RV.get,push_cast,seval];rfl));(focus((repeat'(first|rfl));done)))))
noncomputable def dS (x0:Bool):Option ((List UInt8)):=(j4.1 x0).1
theorem k0 (x0:Bool):∀ r,dS x0=some r->aa Tryz.prog 17 [.bool x0] (.str r):=(j4.1 x0).2
noncomputable def ew (x0:Int):Option ((List UInt8)):=(j4.2 x0).1
theorem l8 (x0:Int):∀ r,ew x0=some r->aa Tryz.prog 18 [.int .i64 x0] (.str r):=(j4.2 x0).2
def c7:SC:=
 (.seq (.seq (.reg [.r 8 (.mv (.t 6)),
   .r 9 (.mv (.t 0)),
   .r 10 (.len (.t 9)),
   .r 11 (.bin .lss (.t 8) (.t 10))])
 (.cond (.t 11)
  .skip
  (.exit 0)))
 (.seq (.block 1 (.seq (.reg [.r 14 (.mv (.t 0)),
    .r 15 (.mv (.t 6)),
    .r 16 (.idx 5 (.t 14) (.t 15)),
    .r 17 (.fld 0 (.t 16)),
    .o 18 (.ld1 (.t 17)),
    .r 7 (.mv (.t 18))])
  (.seq (.seq (.reg [.r 19 (.mv (.t 0)),
    .r 20 (.mv (.t 6)),
    .r 21 (.idx 5 (.t 19) (.t 20)),
    .r 22 (.fld 1 (.t 21)),
    .o 23 (.ld1 (.t 22)),
    .r 24 (.bin .neq (.t 23) (.c (.d (.str []))))])
  (.cond (.t 24)
   (.reg [.r 25 (.mv (.t 0)),
     .r 26 (.mv (.t 6)),
     .r 27 (.idx 5 (.t 25) (.t 26)),
     .r 28 (.fld 1 (.t 27)),
     .o 29 (.ld1 (.t 28)),
     .r 30 (.bin .add (.c (.d (.str [103,114,111,117,112,32]))) (.t 29)),
     .r 7 (.mv (.t 30))])
   .skip))
  (.seq (.regD [.r 31 (.mv (.t 5)),
    .r 32 (.mv (.t 1)),
    .r 33 (.mv (.t 7)),
    .r 34 (.bin .add (.t 32) (.t 33)),
    .r 35 (.bin .add (.t 34) (.c (.d (.str [32])))),
    .r 36 (.mv (.t 0)),
    .r 37 (.mv (.t 6)),
    .r 38 (.idx 5 (.t 36) (.t 37)),
    .r 39 (.fld 2 (.t 38)),
    .r 40 (.ld1 (.t 39)),
    .c 41 (.f 12) [.t 40],
    .r 42 (.bin .add (.t 35) (.t 41)),
    .r 43 (.bin .add (.t 42) (.c (.d (.str [32])))),
    .r 44 (.mv (.t 0)),
    .r 45 (.mv (.t 6)),
    .r 46 (.idx 5 (.t 44) (.t 45)),
    .r 47 (.fld 3 (.t 46)),
    .r 48 (.ld1 (.t 47)),
    .c 49 (.f 12) [.t 48],
    .r 50 (.bin .add (.t 43) (.t 49)),
    .r 51 (.bin .add (.t 50) (.c (.d (.str [10])))),
    .r 52 (.bin .add (.t 31) (.t 51)),
    .r 5 (.mv (.t 52))])
  (.reg [.r 53 (.mv (.t 5)),
    .r 54 (.mv (.t 0)),
    .r 55 (.mv (.t 6)),
    .r 56 (.idx 5 (.t 54) (.t 55)),
    .r 57 (.fld 4 (.t 56)),
    .o 58 (.ld1 (.t 57)),
    .r 59 (.mv (.t 1)),
    .r 60 (.bin .add (.t 59) (.c (.d (.str [32,32])))),
    .c 61 (.f 19) [.t 58,.t 60],
    .r 62 (.bin .add (.t 53) (.t 61)),
    .r 5 (.mv (.t 62))])))))
 (.reg [.r 12 (.mv (.t 6)),
   .r 13 (.bin .add (.t 12) (.c (.d (.int .i64 1)))),
   .r 6 (.mv (.t 13))])))
def fq:SC:= .block 0 (.loop c7)
def gx:SC:=
 (.seq (.reg [.r 4 (.mv (.c (.d (.str []))))])
 (.seq (.reg [.r 5 (.mv (.c (.d (.str []))))])
 (.seq (.seq (.reg [.r 6 (.mv (.c (.d (.int .i64 0))))])
 fq)
 (.seq (.reg [.r 63 (.mv (.t 5)),
   .r 4 (.mv (.t 63))])
 .ret))))
theorem l9:fits Tryz.prog 19 Tryz.f19 gx [.t 4] 2=true:=oK
set_option maxRecDepth 100000 in
set_option maxHeartbeats 40000000 in
noncomputable def oQ:((∀ (x0:List ab) (x1:List UInt8),{m:Option ((List UInt8))//∀ r,m=some r->aa Tryz.prog 19 [.slice (List.map ac x0),.str x1] (.str r)}))->((∀ (x0:List ab) (x1:List UInt8),{m:Option ((List UInt8))//∀ r,m=some r->aa Tryz.prog 19 [.slice (List.map ac x0),.str x1] (.str r)})):=by
 intro ih
 have dq:∀ (x0:List ab) (x1:List UInt8),∀ r,(ih x0 x1).1=some r->aa Tryz.prog 19 [.slice (List.map ac x0),.str x1] (.str r):=fun x0 x1=>(ih x0 x1).2
 (intro x0 x1;apply Subtype.mk;intro r hm;apply af Tryz.func19 l9;unfold gx)
 repeat'(first|with_reducible refine bu ?_|with_reducible refine bt ?_|with_reducible refine pW ?_|with_reducible refine bf ?_|with_reducible refine be ?_|with_reducible refine bB ?_|with_reducible refine cg ?_|with_reducible refine bw ?_|with_reducible refine bv ?_|with_reducible refine ck ?_|with_reducible refine bo ?_|with_reducible refine du ?_|((with_reducible apply cD hm);(iterate 2 (simp only[push_cast,seval];rfl));(intro _;rfl);intro e hm)|((with_reducible apply iN);(simp only[push_cast,seval];rfl);(first|exact trivial))|((with_reducible apply tx hm);(iterate 2 (simp only[push_cast,seval];rfl));intro hm)|((with_reducible apply dJ hm);(simp only[push_cast,seval];rfl);(first|apply g_ _|apply dq _ _);(any_goals((repeat'(first|rfl));done));intro x hm)|((with_reducible apply aQ hm);(simp only[push_cast,seval];rfl);intro hm;rotate_left;intro hm)|((with_reducible apply bF hm);(focus(simp only[a8,cj,RV.get,push_cast,seval];rfl));(focus((repeat'(first|rfl));done)))|((with_reducible apply bH hm);intro r hm)|((apply aF (b:=0) (X:=fq) (x:=c7) rfl (fun(c:SV×SV) (s:(List UInt8)×Int)=>st [(0,c.1),(1,c.2),(5,.d (.str s.1)),(6,.d (.int .i64 s.2))] []) (c:=(_,_)) (s0:=(_,_)) hm);(focus(first|(dsimp only;done)));(with_reducible refine cz.mk ?_ ?_))|((apply bN (s':=(_,_)) hm);(focus(first|(dsimp only;done))))|((apply cJ (s':=(_,_)) hm);(focus(first|(dsimp only;done))))|(((with_reducible apply dz.of);(focus(first|(dsimp only;done)));(focus((intro _;repeat'(first|with_reducible exact bp|with_reducible refine ba ?_))));(intro s o hm;first|unfold c7);rotate_left;intro s hm))|(((apply bI;(repeat'(first|with_reducible exact aS|with_reducible exact aT|with_reducible apply aL|((with_reducible apply a_);(focus(first|(simp only[push_cast,seval];rfl)));(focus((repeat'(first|rfl));done)))));done))))
noncomputable def oR (fu:Nat):(∀ (x0:List ab) (x1:List UInt8),{m:Option ((List UInt8))//∀ r,m=some r->aa Tryz.prog 19 [.slice (List.map ac x0),.str x1] (.str r)}):=Nat.rec (fun x0 x1=>⟨none,fun r h=>by cases h⟩) (fun _ ih=>oQ ih) fu
noncomputable def bR (fu:Nat) (x0:List ab) (x1:List UInt8):Option ((List UInt8)):=((oR fu) x0 x1).1
theorem eU (fu:Nat) (x0:List ab) (x1:List UInt8):((oR fu) x0 x1).1=bR fu x0 x1:=rfl
theorem eV (fu:Nat) (x0:List ab) (x1:List UInt8):bR (fu+1) x0 x1=((oQ (oR fu)) x0 x1).1:=rfl
theorem dq (fu:Nat) (x0:List ab) (x1:List UInt8):∀ r,bR fu x0 x1=some r->aa Tryz.prog 19 [.slice (List.map ac x0),.str x1] (.str r):=((oR fu) x0 x1).2
def ex:SC:=
 (.seq (.seq (.reg [.r 107 (.mv (.t 11)),
   .r 108 (.fld 4 (.t 10)),
   .o 109 (.ld1 (.t 108)),
   .r 110 (.len (.t 109)),
   .r 111 (.bin .lss (.t 107) (.t 110))])
 (.cond (.t 111)
  .skip
  (.exit 6)))
 (.seq (.block 7 (.reg [.r 114 (.mv (.t 5)),
    .r 115 (.fld 4 (.t 10)),
    .o 116 (.ld1 (.t 115)),
    .r 117 (.mv (.t 11)),
    .r 118 (.idx 1 (.t 116) (.t 117)),
    .o 119 (.ld1 (.t 118)),
    .r 120 (.bin .add (.c (.d (.str [32]))) (.t 119)),
    .r 121 (.bin .add (.t 114) (.t 120)),
    .r 5 (.mv (.t 121))]))
 (.reg [.r 112 (.mv (.t 11)),
   .r 113 (.bin .add (.t 112) (.c (.d (.int .i64 1)))),
   .r 11 (.mv (.t 113))])))
def ix:SC:= .block 6 (.loop ex)
def ey:SC:=
 (.seq (.seq (.reg [.r 74 (.mv (.t 9)),
   .r 75 (.fld 2 (.t 8)),
   .o 76 (.ld1 (.t 75)),
   .r 77 (.len (.t 76)),
   .r 78 (.bin .lss (.t 74) (.t 77))])
 (.cond (.t 78)
  .skip
  (.exit 4)))
 (.seq (.block 5 (.seq (.reg [.r 81 (.fld 2 (.t 8)),
    .o 82 (.ld1 (.t 81)),
    .r 83 (.mv (.t 9)),
    .r 84 (.idx 5 (.t 82) (.t 83)),
    .o 85 (.ldA 5 (.t 84)),
    .w 10 (.boxM (.c (.agg [.d (.bool false),.d (.int .i64 0),.d (.int .i64 0),.d (.int .i64 0),.nils]))),
    .w 0 (.st 5 (.t 10) (.t 85))])
  (.seq (.regD [.r 86 (.mv (.t 5)),
    .r 87 (.fld 0 (.t 10)),
    .r 88 (.ld1 (.t 87)),
    .c 89 (.f 17) [.t 88],
    .r 90 (.bin .add (.c (.d (.str [32,32,32,32]))) (.t 89)),
    .r 91 (.bin .add (.t 90) (.c (.d (.str [32])))),
    .r 92 (.fld 1 (.t 10)),
    .r 93 (.ld1 (.t 92)),
    .c 94 (.f 18) [.t 93],
    .r 95 (.bin .add (.t 91) (.t 94)),
    .r 96 (.bin .add (.t 95) (.c (.d (.str [32])))),
    .r 97 (.fld 2 (.t 10)),
    .r 98 (.ld1 (.t 97)),
    .c 99 (.f 12) [.t 98],
    .r 100 (.bin .add (.t 96) (.t 99)),
    .r 101 (.bin .add (.t 100) (.c (.d (.str [32])))),
    .r 102 (.fld 3 (.t 10)),
    .r 103 (.ld1 (.t 102)),
    .c 104 (.f 12) [.t 103],
    .r 105 (.bin .add (.t 101) (.t 104)),
    .r 106 (.bin .add (.t 86) (.t 105)),
    .r 5 (.mv (.t 106))])
  (.seq (.seq (.reg [.r 11 (.mv (.c (.d (.int .i64 0))))])
  ix)
  (.reg [.r 122 (.mv (.t 5)),
    .r 123 (.bin .add (.t 122) (.c (.d (.str [10])))),
    .r 5 (.mv (.t 123))])))))
 (.reg [.r 79 (.mv (.t 9)),
   .r 80 (.bin .add (.t 79) (.c (.d (.int .i64 1)))),
   .r 9 (.mv (.t 80))])))
def iy:SC:= .block 4 (.loop ey)
def ez:SC:=
 (.seq (.seq (.reg [.r 42 (.mv (.t 7)),
   .r 43 (.fld 2 (.t 1)),
   .o 44 (.ld1 (.t 43)),
   .r 45 (.mv (.t 6)),
   .r 46 (.idx 2 (.t 44) (.t 45)),
   .r 47 (.fld 1 (.t 46)),
   .o 48 (.ld1 (.t 47)),
   .r 49 (.len (.t 48)),
   .r 50 (.bin .lss (.t 42) (.t 49))])
 (.cond (.t 50)
  .skip
  (.exit 2)))
 (.seq (.block 3 (.seq (.reg [.r 53 (.fld 2 (.t 1)),
    .o 54 (.ld1 (.t 53)),
    .r 55 (.mv (.t 6)),
    .r 56 (.idx 2 (.t 54) (.t 55)),
    .r 57 (.fld 1 (.t 56)),
    .o 58 (.ld1 (.t 57)),
    .r 59 (.mv (.t 7)),
    .r 60 (.idx 3 (.t 58) (.t 59)),
    .o 61 (.ldA 3 (.t 60)),
    .w 8 (.boxM (.c (.agg [.d (.bool false),.d (.int .i64 0),.nils]))),
    .w 0 (.st 3 (.t 8) (.t 61))])
  (.seq (.regD [.r 62 (.mv (.t 5)),
    .r 63 (.fld 0 (.t 8)),
    .r 64 (.ld1 (.t 63)),
    .c 65 (.f 17) [.t 64],
    .r 66 (.bin .add (.c (.d (.str [32,32]))) (.t 65)),
    .r 67 (.bin .add (.t 66) (.c (.d (.str [32])))),
    .r 68 (.fld 1 (.t 8)),
    .r 69 (.ld1 (.t 68)),
    .c 70 (.f 12) [.t 69],
    .r 71 (.bin .add (.t 67) (.t 70)),
    .r 72 (.bin .add (.t 71) (.c (.d (.str [10])))),
    .r 73 (.bin .add (.t 62) (.t 72)),
    .r 5 (.mv (.t 73))])
  (.seq (.reg [.r 9 (.mv (.c (.d (.int .i64 0))))])
  iy))))
 (.reg [.r 51 (.mv (.t 7)),
   .r 52 (.bin .add (.t 51) (.c (.d (.int .i64 1)))),
   .r 7 (.mv (.t 52))])))
def iz:SC:= .block 2 (.loop ez)
def eA:SC:=
 (.seq (.seq (.reg [.r 25 (.mv (.t 6)),
   .r 26 (.fld 2 (.t 1)),
   .o 27 (.ld1 (.t 26)),
   .r 28 (.len (.t 27)),
   .r 29 (.bin .lss (.t 25) (.t 28))])
 (.cond (.t 29)
  .skip
  (.exit 0)))
 (.seq (.block 1 (.seq (.reg [.r 32 (.mv (.t 5)),
    .r 33 (.fld 2 (.t 1)),
    .o 34 (.ld1 (.t 33)),
    .r 35 (.mv (.t 6)),
    .r 36 (.idx 2 (.t 34) (.t 35)),
    .r 37 (.fld 0 (.t 36)),
    .o 38 (.ld1 (.t 37)),
    .r 39 (.bin .add (.c (.d (.str [115,101,103,109,101,110,116,32]))) (.t 38)),
    .r 40 (.bin .add (.t 39) (.c (.d (.str [10])))),
    .r 41 (.bin .add (.t 32) (.t 40)),
    .r 5 (.mv (.t 41))])
  (.seq (.reg [.r 7 (.mv (.c (.d (.int .i64 0))))])
  iz)))
 (.reg [.r 30 (.mv (.t 6)),
   .r 31 (.bin .add (.t 30) (.c (.d (.int .i64 1)))),
   .r 6 (.mv (.t 31))])))
def iA:SC:= .block 0 (.loop eA)
def j5:SC:=
 (.seq (.reg [.r 1 (.boxI (.t 0)),
   .r 2 (.mv (.c (.d (.str [])))),
   .r 3 (.mv (.c (.d (.int .i64 0))))])
 (.seq (.seq (.reg [.o 12 (.ldA 4 (.t 1)),
   .c 13 (.f 7) [.t 12],
   .r 4 (.mv (.t 13))])
 (.seq (.reg [.r 14 (.mv (.t 4)),
   .r 15 (.bin .neq (.t 14) (.c (.d (.int .i64 0))))])
 (.cond (.t 15)
  (.seq (.reg [.r 16 (.mv (.t 4)),
    .r 2 (.mv (.c (.d (.str [])))),
    .r 3 (.mv (.t 16))])
  .ret)
  .skip)))
 (.seq (.reg [.r 17 (.fld 0 (.t 1)),
   .o 18 (.ld1 (.t 17)),
   .r 19 (.bin .add (.c (.d (.str [115,99,104,101,109,101,32]))) (.t 18)),
   .r 20 (.bin .add (.t 19) (.c (.d (.str [32])))),
   .r 21 (.fld 1 (.t 1)),
   .o 22 (.ld1 (.t 21)),
   .r 23 (.bin .add (.t 20) (.t 22)),
   .r 24 (.bin .add (.t 23) (.c (.d (.str [10])))),
   .r 5 (.mv (.t 24))])
 (.seq (.seq (.reg [.r 6 (.mv (.c (.d (.int .i64 0))))])
 iA)
 (.seq (.reg [.r 124 (.mv (.t 5)),
   .r 125 (.fld 3 (.t 1)),
   .o 126 (.ld1 (.t 125)),
   .c 127 (.f 19) [.t 126,.c (.d (.str [32,32]))],
   .r 128 (.bin .add (.c (.d (.str [105,116,101,109,115,10]))) (.t 127)),
   .r 129 (.bin .add (.t 124) (.t 128)),
   .r 5 (.mv (.t 129))])
 (.seq (.seq (.reg [.r 130 (.mv (.t 5)),
   .r 131 (.lenT (.t 130)),
   .r 132 (.bin .gtr (.t 131) (.c (.d (.int .i64 100000))))])
 (.cond (.t 132)
  (.seq (.reg [.r 2 (.mv (.c (.d (.str [])))),
    .r 3 (.mv (.c (.d (.int .i64 2))))])
  .ret)
  .skip))
 (.seq (.reg [.r 133 (.mv (.t 5)),
   .r 2 (.mv (.t 133)),
   .r 3 (.mv (.c (.d (.int .i64 0))))])
 .ret)))))))
theorem pf:fits Tryz.prog 5 Tryz.f5 j5 [.t 2,.t 3] 1=true:=oK
set_option maxRecDepth 100000 in
set_option maxHeartbeats 40000000 in
noncomputable def rL:(∀ (x0:ah),{m:Option ((List UInt8)×Int)//∀ r,m=some r->aa Tryz.prog 5 [.agg (aC x0)] (.tup [.str r.1,.int .i64 r.2])}):=by
 (intro x0;apply Subtype.mk;intro r hm;apply af Tryz.func5 pf;unfold j5)
 repeat'(first|with_reducible refine bu ?_|with_reducible refine bt ?_|with_reducible refine pW ?_|with_reducible refine bf ?_|with_reducible refine be ?_|with_reducible refine bB ?_|with_reducible refine cg ?_|with_reducible refine bw ?_|with_reducible refine bv ?_|with_reducible refine ck ?_|with_reducible refine bD ?_|with_reducible refine bo ?_|with_reducible refine du ?_|((with_reducible apply cD hm);(iterate 2 (simp only[push_cast,seval];rfl));(intro _;rfl);intro e hm)|((with_reducible apply iN);(simp only[push_cast,seval];rfl);(first|exact trivial))|((with_reducible apply tx hm);(iterate 2 (simp only[push_cast,seval];rfl));intro hm)|((with_reducible apply dJ hm);(simp only[push_cast,seval];rfl);(first|apply eS _|apply k0 _|apply g_ _|apply l8 _|apply dq FU _ _);(any_goals((repeat'(first|rfl));done));intro x hm)|((with_reducible apply tQ);(simp only[push_cast,seval];rfl);(first|exact trivial))|((with_reducible apply aQ hm);(simp only[push_cast,seval];rfl);intro hm;rotate_left;intro hm)|((with_reducible apply ge hm);(focus(simp only[a8,cj,RV.get,push_cast,seval];rfl));(focus(first|(dsimp only;done)));(focus((repeat'(first|rfl));done)))|((with_reducible apply bH hm);intro r hm)|((apply aF (b:=6) (X:=ix) (x:=ex) rfl (fun(c:SV×SV×SV×Ch×SV×Ch) (s:(List UInt8)×Int)=>st [(1,c.1),(5,.d (.str s.1)),(6,c.2.1),(7,c.2.2.1),(8,.ref 8 0),(9,c.2.2.2.2.1),(10,.ref 10 0),(11,.d (.int .i64 s.2))] [(8,c.2.2.2.1),(10,c.2.2.2.2.2)]) (c:=(_,_,_,_,_,_)) (s0:=(_,_)) hm);(focus(first|(dsimp only;done)));(with_reducible refine cz.mk ?_ ?_))|((apply aF (b:=4) (X:=iy) (x:=ey) rfl (fun(c:SV×SV×SV×Ch) (s:(List UInt8)×Int)=>st [(1,c.1),(5,.d (.str s.1)),(6,c.2.1),(7,c.2.2.1),(8,.ref 8 0),(9,.d (.int .i64 s.2))] [(8,c.2.2.2)]) (c:=(_,_,_,_)) (s0:=(_,_)) hm);(focus(first|(dsimp only;done)));(with_reducible refine cz.mk ?_ ?_))|((apply aF (b:=2) (X:=iz) (x:=ez) rfl (fun(c:SV×SV) (s:(List UInt8)×Int)=>st [(1,c.1),(5,.d (.str s.1)),(6,c.2),(7,.d (.int .i64 s.2))] []) (c:=(_,_)) (s0:=(_,_)) hm);(focus(first|(dsimp only;done)));(with_reducible refine cz.mk ?_ ?_))|((apply aF (b:=0) (X:=iA) (x:=eA) rfl (fun(c:SV) (s:(List UInt8)×Int)=>st [(1,c),(5,.d (.str s.1)),(6,.d (.int .i64 s.2))] []) (c:=_) (s0:=(_,_)) hm);(focus(first|(dsimp only;done)));(with_reducible refine cz.mk ?_ ?_))|((apply bN (s':=(_,_)) hm);(focus(first|(dsimp only;done))))|((apply cJ (s':=(_,_)) hm);(focus(first|(dsimp only;done))))|(((with_reducible apply dz.of);(focus(first|(dsimp only;done)));(focus((intro _;repeat'(first|with_reducible exact bp|with_reducible refine ba ?_|with_reducible refine dP ?_|((with_reducible refine ii ?_);intro _)|((with_reducible refine ij ?_);intro _)))));(intro s o hm;first|unfold ex|unfold ey|unfold ez|unfold eA);rotate_left;intro s hm))|(((apply bI;(repeat'(first|with_reducible exact aS|with_reducible exact aT|with_reducible apply aL|with_reducible apply ca|((with_reducible apply a_);(focus(first|(simp only[push_cast,seval];rfl)));(focus((repeat'(first|rfl));done)))|((with_reducible apply fx);(focus(first|(simp only[push_cast,seval];rfl)));(first|with_reducible exact cK rfl))));done))))
noncomputable def gj (x0:ah):Option ((List UInt8)×Int):=(rL x0).1
theorem oc (x0:ah):∀ r,gj x0=some r->aa Tryz.prog 5 [.agg (aC x0)] (.tup [.str r.1,.int .i64 r.2]):=(rL x0).2
end Go.Proofs.YtgocgdgknpdknaaGreatDoor
