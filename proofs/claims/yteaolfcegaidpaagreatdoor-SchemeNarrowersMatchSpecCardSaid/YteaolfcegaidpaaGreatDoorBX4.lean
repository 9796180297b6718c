/-
  Laws on the way to the theorem.
-/
import Derived.Test.YteaolfcegaidpaaGreatDoorBX2
import Derived.Test.YteaolfcegaidpaaGreatDoorBX3
namespace Go.Proofs.YteaolfcegaidpaaGreatDoor
open Go.RowKit
set_option linter.unusedSimpArgs false
set_option linter.unusedVariables false
structure bh where
 fPath:List UInt8
 fKind:Int
 deriving DecidableEq
def aE (x:bh):List DV:=[.str x.fPath,.int .i64 x.fKind]
attribute [push_cast] aE
theorem vq {d0 d1:DV} {v0:List UInt8} {v1:Int} (h0:d0= .str v0) (h1:d1= .int .i64 v1):[d0,d1]=aE ⟨v0,v1⟩:=by unfold aE;simp only[h0,h1,Mn,Mq,Mz,Mw]
structure aA where
 fa:ae
 fb:ae
 fbreaks:List bh
def aF (x:aA):List DV:=ai x.fa++ai x.fb++[.slice (List.map aE x.fbreaks)]
attribute [push_cast] aF
theorem fC {d0 d1 d2 d3 d4 d5 d6 d7 d8:SV} {v0:ae} {v1:ae} {v2:List bh} {m2:List b8} (h0:aN [d0,d1,d2,d3] (dR (ai v0))) (h1:aN [d4,d5,d6,d7] (dR (ai v1))) (h2:LK d8 (.own (.sl 48 m2) (.slice (List.map aE v2)))):aN [d0,d1,d2,d3,d4,d5,d6,d7,d8] (fB [.sh,.sh,.sh,.sh,.sh,.sh,.sh,.sh,.sl 48 m2] (aF ⟨v0,v1,v2⟩)):=by have h:=(aN.append h0 (aN.append h1 (aN.cons h2 aN.nil)));simp only[push_cast,seval,dR] at h⊢;exact h
def fD (p0:ae) (p1:ae) (p2:Nat):List SV:=dR (ai p0)++(dR (ai p1)++([.vec p2]))
attribute [push_cast] fD
def rv:SC:=
 (.seq (.reg [.r 1 (.boxI (.t 0)),
   .r 2 (.mv (.c (.d (.str []))))])
 (.seq (.seq (.reg [.r 3 (.fld 1 (.t 1)),
   .o 4 (.ld1 (.t 3)),
   .r 5 (.bin .neq (.t 4) (.c (.d (.str []))))])
 (.cond (.t 5)
  (.seq (.reg [.r 6 (.fld 1 (.t 1)),
    .o 7 (.ld1 (.t 6)),
    .r 2 (.mv (.t 7))])
  .ret)
  .skip))
 (.seq (.reg [.r 8 (.fld 0 (.t 1)),
   .o 9 (.ld1 (.t 8)),
   .r 2 (.mv (.t 9))])
 .ret)))
theorem wX:fits Tryz.prog 70 Tryz.f70 rv [.t 2] 1=true:=oK
def fT:SC:=
 (.seq (.reg [.r 2 (.boxI (.t 0)),
   .r 3 (.mv (.c (.d (.bool false))))])
 (.seq (.reg (.r 4 (.fld 0 (.t 2)):: .o 5 (.ld1 (.t 4)):: .r 6 (.fld 0 (.t 1)):: .o 7 (.ld1 (.t 6)):: .r 8 (.bin .eql (.t 5) (.t 7)):: .r 9 (.mv (.t 8))::aI [10,11,12,13,14] 9 true (.r 10 (.fld 1 (.t 2)):: .r 11 (.ld1 (.t 10)):: .r 12 (.fld 1 (.t 1)):: .r 13 (.ld1 (.t 12)):: .r 14 (.bin .eql (.t 11) (.t 13))::[]) (.r 15 (.pick (.t 9) (.t 14) (.c (.d (.bool false)))):: .r 3 (.mv (.t 15))::[])))
 .ret))
theorem k8:fits Tryz.prog 72 Tryz.f72 fT [.t 3] 2=true:=oK
def bd:SC:=
 (.seq (.reg [.r 9 (.bin .lss (.t 8) (.t 7))])
 (.seq (.cond (.t 9)
  .skip
  (.exit 0))
 (.seq (.block 1 (.seq (.reg [.r 10 (.mv (.t 8)),
    .r 5 (.mv (.t 10))])
  (.seq (.reg [.r 11 (.mv (.t 1)),
    .r 12 (.mv (.t 0)),
    .r 13 (.mv (.t 5)),
    .r 14 (.idx 5 (.t 12) (.t 13)),
    .o 15 (.ldA 5 (.t 14)),
    .c 16 (.t 11) [.t 15]])
  (.cond (.t 16)
   (.seq (.reg [.r 17 (.mv (.t 5)),
     .r 4 (.mv (.t 17))])
   .ret)
   .skip))))
 (.reg [.r 18 (.bin .add (.t 8) (.c (.d (.int .i64 1)))),
   .r 8 (.mv (.t 18))]))))
def bM:SC:= .block 0 (.loop bd)
def bT:SC:=
 (.seq (.reg [.r 4 (.mv (.c (.d (.int .i64 0))))])
 (.seq (.seq (.reg [.r 6 (.mv (.t 0)),
   .r 7 (.len (.t 6)),
   .r 8 (.mv (.c (.d (.int .i64 0))))])
 bM)
 (.seq (.reg [.r 4 (.mv (.c (.d (.int .i64 (-1)))))])
 .ret)))
theorem dJ:fits Tryz.prog 71 Tryz.f71 bT [.t 4] 2=true:=oK
def dK:SC:=
 (.seq (.reg [.r 9 (.bin .lss (.t 8) (.t 7))])
 (.seq (.cond (.t 9)
  .skip
  (.exit 0))
 (.seq (.block 1 (.seq (.reg [.r 10 (.mv (.t 8)),
    .r 5 (.mv (.t 10))])
  (.seq (.reg [.r 11 (.mv (.t 1)),
    .r 12 (.mv (.t 0)),
    .r 13 (.mv (.t 5)),
    .r 14 (.idx 1 (.t 12) (.t 13)),
    .o 15 (.ld1 (.t 14)),
    .r 16 (.bin .eql (.t 11) (.t 15))])
  (.cond (.t 16)
   (.seq (.reg [.r 17 (.mv (.t 5)),
     .r 4 (.mv (.t 17))])
   .ret)
   .skip))))
 (.reg [.r 18 (.bin .add (.t 8) (.c (.d (.int .i64 1)))),
   .r 8 (.mv (.t 18))]))))
def gp:SC:= .block 0 (.loop dK)
def iz:SC:=
 (.seq (.reg [.r 4 (.mv (.c (.d (.int .i64 0))))])
 (.seq (.seq (.reg [.r 6 (.mv (.t 0)),
   .r 7 (.len (.t 6)),
   .r 8 (.mv (.c (.d (.int .i64 0))))])
 gp)
 (.seq (.reg [.r 4 (.mv (.c (.d (.int .i64 (-1)))))])
 .ret)))
theorem nI:fits Tryz.prog 181 Tryz.f181 iz [.t 4] 2=true:=oK
def cD:SC:=
 (.seq (.reg [.r 9 (.bin .lss (.t 8) (.t 7))])
 (.seq (.cond (.t 9)
  .skip
  (.exit 0))
 (.seq (.block 1 (.seq (.reg [.r 10 (.mv (.t 8)),
    .r 5 (.mv (.t 10))])
  (.seq (.reg [.r 11 (.mv (.t 1)),
    .r 12 (.mv (.t 0)),
    .r 13 (.mv (.t 5)),
    .r 14 (.idx 1 (.t 12) (.t 13)),
    .o 15 (.ld1 (.t 14)),
    .c 16 (.t 11) [.t 15]])
  (.cond (.t 16)
   (.seq (.reg [.r 17 (.mv (.t 5)),
     .r 4 (.mv (.t 17))])
   .ret)
   .skip))))
 (.reg [.r 18 (.bin .add (.t 8) (.c (.d (.int .i64 1)))),
   .r 8 (.mv (.t 18))]))))
def eL:SC:= .block 0 (.loop cD)
def fU:SC:=
 (.seq (.reg [.r 4 (.mv (.c (.d (.int .i64 0))))])
 (.seq (.seq (.reg [.r 6 (.mv (.t 0)),
   .r 7 (.len (.t 6)),
   .r 8 (.mv (.c (.d (.int .i64 0))))])
 eL)
 (.seq (.reg [.r 4 (.mv (.c (.d (.int .i64 (-1)))))])
 .ret)))
theorem k9:fits Tryz.prog 142 Tryz.f142 fU [.t 4] 2=true:=oK
set_option maxRecDepth 100000 in
set_option maxHeartbeats 40000000 in
noncomputable def cw:(∀ (x0:ac),{m:Option ((List UInt8))//∀ r,m=some r->aa Tryz.prog 70 [.agg (ab x0)] (.str r)})×(∀ (x0:ac) (y0:ac),{m:Option (Bool)//∀ r,m=some r->aa Tryz.prog 72 [.agg (ab x0),.ptr (ab y0)] (.bool r)})×(∀ (x0:List ac) (f1:FuncId) (c1:List DV) (p1:ac->Option (Bool)) (h1:∀ a0 r,p1 a0=some r->aa Tryz.prog f1 ([.agg (ab a0)]++c1) (.bool r)),{m:Option (Int)//∀ r,m=some r->aa Tryz.prog 71 [.slice (List.map ab x0),.fn f1 c1] (.int .i64 r)})×(∀ (x0:List (List UInt8)) (x1:List UInt8),{m:Option (Int)//∀ r,m=some r->aa Tryz.prog 181 [.slice (List.map fG x0),.str x1] (.int .i64 r)})×(∀ (x0:List (List UInt8)) (f1:FuncId) (c1:List DV) (p1:(List UInt8)->Option (Bool)) (h1:∀ a0 r,p1 a0=some r->aa Tryz.prog f1 ([.str a0]++c1) (.bool r)),{m:Option (Int)//∀ r,m=some r->aa Tryz.prog 142 [.slice (List.map fG x0),.fn f1 c1] (.int .i64 r)}):=by
 refine⟨?g0, ?g1, ?g2, ?g3, ?g4⟩
 case' g0=>(intro x0;apply Subtype.mk;intro r hm;apply ag Tryz.func70 wX;unfold rv)
 case' g1=>(intro x0 y0;apply Subtype.mk;intro r hm;apply ag Tryz.func72 k8;unfold fT)
 case' g2=>(intro x0 f1 c1 p1 h1;apply Subtype.mk;intro r hm;apply ag Tryz.func71 dJ;unfold bT)
 case' g3=>(intro x0 x1;apply Subtype.mk;intro r hm;apply ag Tryz.func181 nI;unfold iz)
 case' g4=>(intro x0 f1 c1 p1 h1;apply Subtype.mk;intro r hm;apply ag Tryz.func142 k9;unfold fU)
 all_goals(repeat'(first|with_reducible refine bF ?_|with_reducible refine bu ?_|with_reducible refine bo ?_|with_reducible refine bl ?_|with_reducible refine bE ?_|with_reducible refine cg ?_|with_reducible refine bw ?_|with_reducible refine bG ?_|with_reducible refine cj ?_|with_reducible refine bA ?_|with_reducible refine br ?_|with_reducible refine bv ?_|with_reducible refine cF ?_|((with_reducible apply cu hm);(iterate 2 (simp only[push_cast,seval];rfl));(intro _;rfl);intro e hm)|((with_reducible apply iE);(simp only[push_cast,seval];rfl);(first|exact trivial))|((with_reducible apply ed hm);(simp only[push_cast,seval];rfl);rfl;intro v hm;rotate_left;intro v g hm)|((with_reducible apply HZ hm);(iterate 2 (simp only[push_cast,seval];rfl));(focus(first|exact h1 _));intro x hm)|((with_reducible apply Ld hm);(simp only[push_cast,seval];rfl);(simp only[push_cast,seval];rfl);(first|apply h1 _);(any_goals((repeat'(first|rfl|(with_reducible first|apply et|apply na|apply dm)));done));intro x hm)|((with_reducible apply aM hm);(simp only[push_cast,seval];rfl);intro hm;rotate_left;intro hm)|((with_reducible apply bC hm);(focus(simp only[bk,cn,RV.get,push_cast,seval];rfl));(focus((repeat'(first|rfl));done)))|((with_reducible apply bR hm);(simp only[push_cast,seval];rfl))|((with_reducible apply bH hm);intro r hm)|((with_reducible apply cb hm);intro r hm)|((apply aH (b:=0) (X:=bM) (x:=bd) rfl (fun(c:SV×SV×SV) (s:Int)=>st [(0,c.1),(1,c.2.1),(7,c.2.2),(8,.d (.int .i64 s))] []) (c:=(_,_,_)) (s0:=_) hm);(focus(first|(dsimp only;done)));(with_reducible refine cA.mk ?_ ?_))|((apply aH (b:=0) (X:=gp) (x:=dK) rfl (fun(c:SV×SV×SV) (s:Int)=>st [(0,c.1),(1,c.2.1),(7,c.2.2),(8,.d (.int .i64 s))] []) (c:=(_,_,_)) (s0:=_) hm);(focus(first|(dsimp only;done)));(with_reducible refine cA.mk ?_ ?_))|((apply aH (b:=0) (X:=eL) (x:=cD) rfl (fun(c:SV×SV×SV) (s:Int)=>st [(0,c.1),(1,c.2.1),(7,c.2.2),(8,.d (.int .i64 s))] []) (c:=(_,_,_)) (s0:=_) hm);(focus(first|(dsimp only;done)));(with_reducible refine cA.mk ?_ ?_))|((apply bB (s':=_) hm);(focus(first|(dsimp only;done))))|((apply ct (s':=_) hm);(focus(first|(dsimp only;done))))|(((with_reducible apply ew hm);intro r hm))|(((with_reducible apply dw.of);(focus(first|(dsimp only;done)));(focus((intro _;repeat'(first|with_reducible exact bg|with_reducible refine aR ?_))));(intro s o hm;first|unfold bd|unfold dK|unfold cD);rotate_left;intro s hm))|(((apply bI;(repeat'(first|with_reducible exact aT|with_reducible exact aU|with_reducible apply aJ|((with_reducible apply aZ);(focus(first|(simp only[push_cast,seval];rfl)));(focus((repeat'(first|rfl));done)))));done)))))
noncomputable def oR (x0:ac):Option ((List UInt8)):=(cw.1 x0).1
theorem wa (x0:ac):∀ r,oR x0=some r->aa Tryz.prog 70 [.agg (ab x0)] (.str r):=(cw.1 x0).2
noncomputable def f_ (x0:ac) (y0:ac):Option (Bool):=(cw.2.1 x0 y0).1
theorem kI (x0:ac) (y0:ac):∀ r,f_ x0 y0=some r->aa Tryz.prog 72 [.agg (ab x0),.ptr (ab y0)] (.bool r):=(cw.2.1 x0 y0).2
noncomputable def bi (x0:List ac) (f1:FuncId) (c1:List DV) (p1:ac->Option (Bool)) (h1:∀ a0 r,p1 a0=some r->aa Tryz.prog f1 ([.agg (ab a0)]++c1) (.bool r)):Option (Int):=(cw.2.2.1 x0 f1 c1 p1 h1).1
theorem dz (x0:List ac) (f1:FuncId) (c1:List DV) (p1:ac->Option (Bool)) (h1:∀ a0 r,p1 a0=some r->aa Tryz.prog f1 ([.agg (ab a0)]++c1) (.bool r)):∀ r,bi x0 f1 c1 p1 h1=some r->aa Tryz.prog 71 [.slice (List.map ab x0),.fn f1 c1] (.int .i64 r):=(cw.2.2.1 x0 f1 c1 p1 h1).2
noncomputable def iZ (x0:List (List UInt8)) (x1:List UInt8):Option (Int):=(cw.2.2.2.1 x0 x1).1
theorem m_ (x0:List (List UInt8)) (x1:List UInt8):∀ r,iZ x0 x1=some r->aa Tryz.prog 181 [.slice (List.map fG x0),.str x1] (.int .i64 r):=(cw.2.2.2.1 x0 x1).2
noncomputable def gc (x0:List (List UInt8)) (f1:FuncId) (c1:List DV) (p1:(List UInt8)->Option (Bool)) (h1:∀ a0 r,p1 a0=some r->aa Tryz.prog f1 ([.str a0]++c1) (.bool r)):Option (Int):=(cw.2.2.2.2 x0 f1 c1 p1 h1).1
theorem kJ (x0:List (List UInt8)) (f1:FuncId) (c1:List DV) (p1:(List UInt8)->Option (Bool)) (h1:∀ a0 r,p1 a0=some r->aa Tryz.prog f1 ([.str a0]++c1) (.bool r)):∀ r,gc x0 f1 c1 p1 h1=some r->aa Tryz.prog 142 [.slice (List.map fG x0),.fn f1 c1] (.int .i64 r):=(cw.2.2.2.2 x0 f1 c1 p1 h1).2
def gS:SC:=
 (.reg [.r 6 (.mv (.t 0)),
   .r 7 (.mv (.t 0)),
   .r 8 (.nilc (.t 7)),
   .r 9 (.fld 8 (.t 8)),
   .o 10 (.ld1 (.t 9)),
   .r 11 (.mv (.t 1)),
   .r 12 (.mv (.t 2)),
   .r 13 (.build [.d (.str []),.d (.int .i64 0)] [(0,1,.t 11),(1,1,.t 12)]),
   .r 14 (.bslice 2 [.t 13]),
   .w 15 (.app 48 2 (.t 10) (.t 14)),
   .r 16 (.nilc (.t 6)),
   .r 17 (.fld 8 (.t 16)),
   .w 0 (.st 1 (.t 17) (.t 15))])
theorem mM:fits Tryz.prog 73 Tryz.f73 gS [] 3=true:=oK
set_option maxRecDepth 100000 in
set_option maxHeartbeats 40000000 in
noncomputable def uf:(∀ (x0:aA) (x1:List UInt8) (x2:Int),{m:Option ((Unit)×aA)//∀ r,m=some r->cQ Tryz.prog 73 (.own (.pt [.sh,.sh,.sh,.sh,.sh,.sh,.sh,.sh,.sl 48 (List.replicate 2 .sh)]) (.ptr (aF x0))::List.map SV.d ([.str x1,.int .i64 x2]:List DV)) (.tup []) (.own (.pt [.sh,.sh,.sh,.sh,.sh,.sh,.sh,.sh,.sl 48 (List.replicate 2 .sh)]) (.ptr (aF r.2))::List.map SV.d ([.str x1,.int .i64 x2]:List DV))}):=by
 (intro x0 x1 x2;apply Subtype.mk;intro r hm;apply jJ (N:=18) (k:=3) Tryz.func73 mM oK rfl rfl oD;unfold gS)
 repeat'(first|((with_reducible apply Af (id:=0) (cid:=1008) (off:=8) (n:=2) (e:=48));(focus(simp only[push_cast,seval];(try rfl);done));(focus(simp only[push_cast,seval];(try rfl);done));(focus decide);(focus rfl);(focus(intro _;rfl));(focus(simp only[push_cast,seval];(try rfl);done)))|with_reducible refine bu ?_|with_reducible refine bw ?_|with_reducible refine cF ?_|((with_reducible apply iE);(simp only[push_cast,seval];rfl);(first|exact trivial))|((with_reducible apply uU);(simp only[push_cast,seval];rfl);(first|exact trivial))|((with_reducible apply vO hm);(iterate 4 (simp only[push_cast,seval];rfl));(focus((repeat'(first|rfl|(with_reducible first|apply vq|apply dh|apply di|apply gi)));done));decide;(intro _;rfl);intro hm)|(((with_reducible apply Fz (a:=()) hm (ms:=[.sh,.sh,.sh,.sh,.sh,.sh,.sh,.sh,.sl 48 (List.replicate 2 .sh)]));(focus((try((apply f0.trans);(focus((apply lT (id:=0) (cid:=1008) (off:=8) (n:=2) (e:=48) (row:=aE));(focus(simp only[push_cast,seval];(try rfl);done));(focus(simp only[push_cast,seval];(try rfl);done));(focus decide);(focus(simp only[push_cast,seval];(try rfl);done));(focus((repeat'(first|(with_reducible first|apply DN)));done));(focus(intro _;rfl));(focus(simp only[push_cast,seval];(try rfl);done))))));exact f0.refl _));(focus(simp only[push_cast,seval];(try rfl);done));(focus((repeat'(first|(with_reducible first|apply fC|apply dL)|((with_reducible apply aZ);(focus(first|rfl));(focus((repeat'(first|rfl));done)))|((with_reducible apply uO);(focus rfl);(focus((repeat'(first|rfl));done)))));done));(focus(intro _;rfl));(focus(simp only[push_cast,seval];(try rfl);done));(focus(simp only[push_cast,seval];(try rfl);done));(focus(simp only[push_cast,seval];(try rfl);done));(focus(simp only[push_cast,seval];(try rfl);done));(focus(first|exact KA)))))
noncomputable def cE (x0:aA) (x1:List UInt8) (x2:Int):Option ((Unit)×aA):=(uf x0 x1 x2).1
theorem mf (x0:aA) (x1:List UInt8) (x2:Int):∀ r,cE x0 x1 x2=some r->cQ Tryz.prog 73 (.own (.pt [.sh,.sh,.sh,.sh,.sh,.sh,.sh,.sh,.sl 48 (List.replicate 2 .sh)]) (.ptr (aF x0))::List.map SV.d ([.str x1,.int .i64 x2]:List DV)) (.tup []) (.own (.pt [.sh,.sh,.sh,.sh,.sh,.sh,.sh,.sh,.sl 48 (List.replicate 2 .sh)]) (.ptr (aF r.2))::List.map SV.d ([.str x1,.int .i64 x2]:List DV)):=(uf x0 x1 x2).2
def gq:SC:=
 (.seq (.reg [.r 4 (.mv (.c (.d (.bool false))))])
 (.seq (.reg [.r 5 (.mv (.t 0)),
   .r 6 (.mv (.t 1)),
   .c 7 (.f 181) [.t 5,.t 6],
   .r 8 (.bin .geq (.t 7) (.c (.d (.int .i64 0)))),
   .r 4 (.mv (.t 8))])
 .ret))
theorem mg:fits Tryz.prog 165 Tryz.f165 gq [.t 4] 2=true:=oK
def eM:SC:=
 (.seq (.reg [.r 4 (.mv (.c (.d (.bool false))))])
 (.seq (.reg [.r 5 (.mv (.t 0)),
   .r 6 (.mv (.t 1)),
   .c 7 (.f 142) [.t 5,.t 6],
   .r 8 (.bin .geq (.t 7) (.c (.d (.int .i64 0)))),
   .r 4 (.mv (.t 8))])
 .ret))
theorem jV:fits Tryz.prog 102 Tryz.f102 eM [.t 4] 2=true:=oK
set_option maxRecDepth 100000 in
set_option maxHeartbeats 40000000 in
noncomputable def l7:(∀ (x0:List (List UInt8)) (x1:List UInt8),{m:Option (Bool)//∀ r,m=some r->aa Tryz.prog 165 [.slice (List.map fG x0),.str x1] (.bool r)})×(∀ (x0:List (List UInt8)) (f1:FuncId) (c1:List DV) (p1:(List UInt8)->Option (Bool)) (h1:∀ a0 r,p1 a0=some r->aa Tryz.prog f1 ([.str a0]++c1) (.bool r)),{m:Option (Bool)//∀ r,m=some r->aa Tryz.prog 102 [.slice (List.map fG x0),.fn f1 c1] (.bool r)}):=by
 refine⟨?g0, ?g1⟩
 case' g0=>(intro x0 x1;apply Subtype.mk;intro r hm;apply ag Tryz.func165 mg;unfold gq)
 case' g1=>(intro x0 f1 c1 p1 h1;apply Subtype.mk;intro r hm;apply ag Tryz.func102 jV;unfold eM)
 all_goals(repeat'(first|with_reducible refine bF ?_|with_reducible refine bu ?_|with_reducible refine bE ?_|with_reducible refine bw ?_|with_reducible refine bG ?_|((with_reducible apply iE);(simp only[push_cast,seval];rfl);(first|exact trivial))|((with_reducible apply ee hm);(simp only[push_cast,seval];rfl);(first|apply m_ _ _|apply kJ _ _ _ _ h1);(any_goals((repeat'(first|rfl));done));intro x hm)|((with_reducible apply bC hm);(focus(simp only[bk,cn,RV.get,push_cast,seval];rfl));(focus((repeat'(first|rfl));done)))))
noncomputable def d_ (x0:List (List UInt8)) (x1:List UInt8):Option (Bool):=(l7.1 x0 x1).1
theorem lI (x0:List (List UInt8)) (x1:List UInt8):∀ r,d_ x0 x1=some r->aa Tryz.prog 165 [.slice (List.map fG x0),.str x1] (.bool r):=(l7.1 x0 x1).2
noncomputable def cK (x0:List (List UInt8)) (f1:FuncId) (c1:List DV) (p1:(List UInt8)->Option (Bool)) (h1:∀ a0 r,p1 a0=some r->aa Tryz.prog f1 ([.str a0]++c1) (.bool r)):Option (Bool):=(l7.2 x0 f1 c1 p1 h1).1
theorem jC (x0:List (List UInt8)) (f1:FuncId) (c1:List DV) (p1:(List UInt8)->Option (Bool)) (h1:∀ a0 r,p1 a0=some r->aa Tryz.prog f1 ([.str a0]++c1) (.bool r)):∀ r,cK x0 f1 c1 p1 h1=some r->aa Tryz.prog 102 [.slice (List.map fG x0),.fn f1 c1] (.bool r):=(l7.2 x0 f1 c1 p1 h1).2
def mN:SC:=
 (.seq (.reg [.r 3 (.mv (.c (.d (.bool false))))])
 (.seq (.reg [.r 4 (.fld 4 (.t 1)),
   .o 5 (.ld1 (.t 4)),
   .r 6 (.mv (.t 0)),
   .c 7 (.f 165) [.t 5,.t 6],
   .r 8 (.not (.t 7)),
   .r 3 (.mv (.t 8))])
 .ret))
theorem rx:fits Tryz.prog 199 Tryz.f199 mN [.t 3] 2=true:=oK
set_option maxRecDepth 100000 in
set_option maxHeartbeats 40000000 in
noncomputable def ug:(∀ (x0:List UInt8) (y0:ap),{m:Option (Bool)//∀ r,m=some r->aa Tryz.prog 199 [.str x0,.ptr (aW y0)] (.bool r)}):=by
 (intro x0 y0;apply Subtype.mk;intro r hm;apply ag Tryz.func199 rx;unfold mN)
 repeat'(first|with_reducible refine bF ?_|with_reducible refine bu ?_|with_reducible refine bE ?_|with_reducible refine bw ?_|with_reducible refine bG ?_|with_reducible refine cF ?_|((with_reducible apply iE);(simp only[push_cast,seval];rfl);(first|exact trivial))|((with_reducible apply Li hm);(simp only[push_cast,seval];rfl);(focus(first|exact lI _ _));intro x hm)|((with_reducible apply bC hm);(focus(simp only[bk,cn,RV.get,push_cast,seval];rfl));(focus((repeat'(first|rfl));done))))
noncomputable def ng (x0:List UInt8) (y0:ap):Option (Bool):=(ug x0 y0).1
theorem qZ (x0:List UInt8) (y0:ap):∀ r,ng x0 y0=some r->aa Tryz.prog 199 [.str x0,.ptr (aW y0)] (.bool r):=(ug x0 y0).2
def oi:SC:=
 (.seq (.reg [.r 2 (.boxI (.t 0)),
   .r 3 (.boxI (.t 1)),
   .r 4 (.mv (.c (.d (.bool false))))])
 (.seq (.seq (.reg (.r 5 (.fld 0 (.t 3)):: .o 6 (.ld1 (.t 5)):: .r 7 (.mv (.t 6))::aI [8,9,10] 7 true (.r 8 (.fld 0 (.t 2)):: .r 9 (.ld1 (.t 8)):: .r 10 (.not (.t 9))::[]) (.r 11 (.pick (.t 7) (.t 10) (.c (.d (.bool false)))):: .r 12 (.mv (.t 11))::aI [13,14,15,16,17,18,19,20,21,22] 12 false (.r 13 (.fld 1 (.t 2)):: .r 14 (.ld1 (.t 13)):: .r 15 (.fld 1 (.t 3)):: .r 16 (.ld1 (.t 15)):: .r 17 (.bin .neq (.t 14) (.t 16)):: .r 18 (.mv (.t 17))::aI [19,20,21] 18 true (.r 19 (.fld 1 (.t 3)):: .r 20 (.ld1 (.t 19)):: .r 21 (.bin .neq (.t 20) (.c (.d (.int .i64 1))))::[]) (.r 22 (.pick (.t 18) (.t 21) (.c (.d (.bool false))))::[])) (.r 23 (.pick (.t 12) (.c (.d (.bool true))) (.t 22)):: .r 24 (.mv (.t 23))::aI [25,26,27,28,29] 24 false (.r 25 (.fld 2 (.t 2)):: .r 26 (.ld1 (.t 25)):: .r 27 (.fld 2 (.t 3)):: .r 28 (.ld1 (.t 27)):: .r 29 (.bin .lss (.t 26) (.t 28))::[]) (.r 30 (.pick (.t 24) (.c (.d (.bool true))) (.t 29)):: .r 31 (.mv (.t 30))::aI [32,33,34,35,36] 31 false (.r 32 (.fld 3 (.t 2)):: .r 33 (.ld1 (.t 32)):: .r 34 (.fld 3 (.t 3)):: .r 35 (.ld1 (.t 34)):: .r 36 (.bin .gtr (.t 33) (.t 35))::[]) (.r 37 (.pick (.t 31) (.c (.d (.bool true))) (.t 36))::[]))))))
 (.cond (.t 37)
  (.seq (.reg [.r 4 (.mv (.c (.d (.bool false))))])
  .ret)
  .skip))
 (.seq (.seq (.reg [.r 38 (.fld 4 (.t 3)),
   .o 39 (.ld1 (.t 38)),
   .r 40 (.len (.t 39)),
   .r 41 (.bin .eql (.t 40) (.c (.d (.int .i64 0))))])
 (.cond (.t 41)
  (.seq (.reg [.r 4 (.mv (.c (.d (.bool true))))])
  .ret)
  .skip))
 (.seq (.reg (.r 42 (.fld 4 (.t 2)):: .o 43 (.ld1 (.t 42)):: .r 44 (.len (.t 43)):: .r 45 (.bin .gtr (.t 44) (.c (.d (.int .i64 0)))):: .r 46 (.mv (.t 45))::aI [47,48,49,50,51] 46 true (.r 47 (.fld 4 (.t 2)):: .r 48 (.ld1 (.t 47)):: .r 49 (.mkfn 199 [.t 3]):: .c 50 (.f 102) [.t 48,.t 49]:: .r 51 (.not (.t 50))::[]) (.r 52 (.pick (.t 46) (.t 51) (.c (.d (.bool false)))):: .r 4 (.mv (.t 52))::[])))
 .ret))))
theorem sW:fits Tryz.prog 174 Tryz.f174 oi [.t 4] 2=true:=oK
set_option maxRecDepth 100000 in
set_option maxHeartbeats 40000000 in
noncomputable def uh:(∀ (x0:ap) (x1:ap),{m:Option (Bool)//∀ r,m=some r->aa Tryz.prog 174 [.agg (aW x0),.agg (aW x1)] (.bool r)}):=by
 (intro x0 x1;apply Subtype.mk;intro r hm;apply ag Tryz.func174 sW;unfold oi)
 repeat'(first|with_reducible refine bF ?_|with_reducible refine bu ?_|with_reducible refine bl ?_|with_reducible refine bE ?_|with_reducible refine bw ?_|with_reducible refine bG ?_|with_reducible refine bA ?_|with_reducible refine cF ?_|((with_reducible apply iE);(simp only[push_cast,seval];rfl);(first|exact trivial))|((with_reducible apply ed hm);(simp only[push_cast,seval];rfl);rfl;intro v hm;rotate_left;intro v g hm)|((with_reducible apply np hm);(simp only[push_cast,seval];rfl);rfl;intro v hm;rotate_left;intro v g hm)|((with_reducible apply ee hm);(simp only[push_cast,seval];rfl);(first|apply jC _ _ _ _ (fun a0 r h=>qZ a0 _ r h));(any_goals((repeat'(first|rfl));done));intro x hm)|((with_reducible apply aM hm);(simp only[push_cast,seval];rfl);intro hm;rotate_left;intro hm)|((with_reducible apply bC hm);(focus(simp only[bk,cn,RV.get,push_cast,seval];rfl));(focus((repeat'(first|rfl));done)))|((with_reducible apply bR hm);(simp only[push_cast,seval];rfl)))
noncomputable def kK (x0:ap) (x1:ap):Option (Bool):=(uh x0 x1).1
theorem sj (x0:ap) (x1:ap):∀ r,kK x0 x1=some r->aa Tryz.prog 174 [.agg (aW x0),.agg (aW x1)] (.bool r):=(uh x0 x1).2
def fV:SC:=
 (.seq (.reg [.r 34 (.bin .lss (.t 33) (.t 32))])
 (.seq (.cond (.t 34)
  .skip
  (.exit 0))
 (.seq (.block 1 (.seq (.reg [.r 35 (.mv (.t 33)),
    .r 36 (.idx 5 (.t 31) (.t 33)),
    .o 37 (.ldA 5 (.t 36)),
    .w 6 (.boxM (.c (.agg [.d (.bool false),.d (.int .i64 0),.d (.int .i64 0),.d (.int .i64 0),.nils]))),
    .r 5 (.mv (.t 35)),
    .w 0 (.st 5 (.t 6) (.t 37))])
  (.seq (.reg [.r 38 (.mv (.t 5)),
    .r 39 (.fld 2 (.t 2)),
    .o 40 (.ld1 (.t 39)),
    .r 41 (.len (.t 40)),
    .r 42 (.bin .geq (.t 38) (.t 41))])
  (.cond (.t 42)
   (.seq (.reg [.r 43 (.fld 0 (.t 6)),
     .o 44 (.ld1 (.t 43))])
   (.cond (.t 44)
    (.seq (.reg [.r 4 (.mv (.c (.d (.bool false))))])
    .ret)
    .skip))
   (.seq (.regD [.r 45 (.fld 2 (.t 2)),
     .r 46 (.ld1 (.t 45)),
     .r 47 (.mv (.t 5)),
     .r 48 (.idx 5 (.t 46) (.t 47)),
     .r 49 (.ldA 5 (.t 48)),
     .r 50 (.ldA 5 (.t 6)),
     .c 51 (.f 174) [.t 49,.t 50],
     .r 52 (.not (.t 51))])
   (.cond (.t 52)
    (.seq (.reg [.r 4 (.mv (.c (.d (.bool false))))])
    .ret)
    .skip))))))
 (.reg [.r 53 (.bin .add (.t 33) (.c (.d (.int .i64 1)))),
   .r 33 (.mv (.t 53))]))))
def jW:SC:= .block 0 (.loop fV)
def l8:SC:=
 (.seq (.reg [.r 2 (.boxI (.t 0)),
   .r 3 (.boxI (.t 1)),
   .r 4 (.mv (.c (.d (.bool false))))])
 (.seq (.seq (.reg (.r 7 (.fld 0 (.t 3)):: .o 8 (.ld1 (.t 7)):: .r 9 (.mv (.t 8))::aI [10,11,12] 9 true (.r 10 (.fld 0 (.t 2)):: .r 11 (.ld1 (.t 10)):: .r 12 (.not (.t 11))::[]) (.r 13 (.pick (.t 9) (.t 12) (.c (.d (.bool false)))):: .r 14 (.mv (.t 13))::aI [15,16,17,18,19] 14 false (.r 15 (.fld 1 (.t 2)):: .r 16 (.ld1 (.t 15)):: .r 17 (.fld 1 (.t 3)):: .r 18 (.ld1 (.t 17)):: .r 19 (.bin .gtr (.t 16) (.t 18))::[]) (.r 20 (.pick (.t 14) (.c (.d (.bool true))) (.t 19)):: .r 21 (.mv (.t 20))::aI [22,23,24,25,26,27,28] 21 false (.r 22 (.fld 2 (.t 2)):: .r 23 (.ld1 (.t 22)):: .r 24 (.len (.t 23)):: .r 25 (.fld 2 (.t 3)):: .r 26 (.ld1 (.t 25)):: .r 27 (.len (.t 26)):: .r 28 (.bin .gtr (.t 24) (.t 27))::[]) (.r 29 (.pick (.t 21) (.c (.d (.bool true))) (.t 28))::[])))))
 (.cond (.t 29)
  (.seq (.reg [.r 4 (.mv (.c (.d (.bool false))))])
  .ret)
  .skip))
 (.seq (.seq (.reg [.r 30 (.fld 2 (.t 3)),
   .o 31 (.ld1 (.t 30)),
   .r 32 (.len (.t 31)),
   .r 33 (.mv (.c (.d (.int .i64 0))))])
 jW)
 (.seq (.reg [.r 4 (.mv (.c (.d (.bool true))))])
 .ret))))
theorem q0:fits Tryz.prog 153 Tryz.f153 l8 [.t 4] 2=true:=oK
set_option maxRecDepth 100000 in
set_option maxHeartbeats 40000000 in
noncomputable def ui:(∀ (x0:aD) (x1:aD),{m:Option (Bool)//∀ r,m=some r->aa Tryz.prog 153 [.agg (bf x0),.agg (bf x1)] (.bool r)}):=by
 (intro x0 x1;apply Subtype.mk;intro r hm;apply ag Tryz.func153 q0;unfold l8)
 repeat'(first|with_reducible refine bF ?_|with_reducible refine bu ?_|with_reducible refine ou ?_|with_reducible refine bo ?_|with_reducible refine bl ?_|with_reducible refine bE ?_|with_reducible refine cg ?_|with_reducible refine bw ?_|with_reducible refine bG ?_|with_reducible refine cj ?_|with_reducible refine bA ?_|with_reducible refine br ?_|with_reducible refine bv ?_|with_reducible refine cF ?_|((with_reducible apply cu hm);(iterate 2 (simp only[push_cast,seval];rfl));(intro _;rfl);intro e hm)|((with_reducible apply iE);(simp only[push_cast,seval];rfl);(first|exact trivial))|((with_reducible apply ed hm);(simp only[push_cast,seval];rfl);rfl;intro v hm;rotate_left;intro v g hm)|((with_reducible apply np hm);(simp only[push_cast,seval];rfl);rfl;intro v hm;rotate_left;intro v g hm)|((with_reducible apply ee hm);(simp only[push_cast,seval];rfl);(first|apply sj _ _);(any_goals((repeat'(first|rfl));done));intro x hm)|((with_reducible apply uU);(simp only[push_cast,seval];rfl);(first|exact trivial))|((with_reducible apply aM hm);(simp only[push_cast,seval];rfl);intro hm;rotate_left;intro hm)|((with_reducible apply bC hm);(focus(simp only[bk,cn,RV.get,push_cast,seval];rfl));(focus((repeat'(first|rfl));done)))|((with_reducible apply bR hm);(simp only[push_cast,seval];rfl))|((with_reducible apply bH hm);intro r hm)|((with_reducible apply cb hm);intro r hm)|((apply aH (b:=0) (X:=jW) (x:=fV) rfl (fun(c:SV×SV×SV) (s:Int)=>st [(2,c.1),(31,c.2.1),(32,c.2.2),(33,.d (.int .i64 s))] []) (c:=(_,_,_)) (s0:=_) hm);(focus(first|(dsimp only;done)));(with_reducible refine cA.mk ?_ ?_))|((apply bB (s':=_) hm);(focus(first|(dsimp only;done))))|((apply ct (s':=_) hm);(focus(first|(dsimp only;done))))|(((with_reducible apply ew hm);intro r hm))|(((with_reducible apply dw.of);(focus(first|(dsimp only;done)));(focus((intro _;repeat'(first|with_reducible exact bg|with_reducible refine aR ?_))));(intro s o hm;first|unfold fV);rotate_left;intro s hm))|(((apply bI;(repeat'(first|with_reducible exact aT|with_reducible exact aU|with_reducible apply aJ|((with_reducible apply aZ);(focus(first|(simp only[push_cast,seval];rfl)));(focus((repeat'(first|rfl));done)))));done))))
noncomputable def iL (x0:aD) (x1:aD):Option (Bool):=(ui x0 x1).1
theorem qn (x0:aD) (x1:aD):∀ r,iL x0 x1=some r->aa Tryz.prog 153 [.agg (bf x0),.agg (bf x1)] (.bool r):=(ui x0 x1).2
def iM:SC:=
 (.seq (.reg [.r 18 (.bin .lss (.t 17) (.t 16))])
 (.seq (.cond (.t 18)
  .skip
  (.exit 0))
 (.seq (.block 1 (.seq (.reg [.r 19 (.mv (.t 17)),
    .r 20 (.idx 3 (.t 15) (.t 17)),
    .o 21 (.ldA 3 (.t 20)),
    .w 6 (.boxM (.c (.agg [.d (.bool false),.d (.int .i64 0),.nils]))),
    .r 5 (.mv (.t 19)),
    .w 0 (.st 3 (.t 6) (.t 21))])
  (.seq (.reg [.r 22 (.mv (.t 5)),
    .r 23 (.fld 1 (.t 2)),
    .o 24 (.ld1 (.t 23)),
    .r 25 (.len (.t 24)),
    .r 26 (.bin .geq (.t 22) (.t 25))])
  (.cond (.t 26)
   (.seq (.reg [.r 27 (.fld 0 (.t 6)),
     .o 28 (.ld1 (.t 27))])
   (.cond (.t 28)
    (.seq (.reg [.r 4 (.mv (.c (.d (.bool false))))])
    .ret)
    .skip))
   (.seq (.regD [.r 29 (.fld 1 (.t 2)),
     .r 30 (.ld1 (.t 29)),
     .r 31 (.mv (.t 5)),
     .r 32 (.idx 3 (.t 30) (.t 31)),
     .r 33 (.ldA 3 (.t 32)),
     .r 34 (.ldA 3 (.t 6)),
     .c 35 (.f 153) [.t 33,.t 34],
     .r 36 (.not (.t 35))])
   (.cond (.t 36)
    (.seq (.reg [.r 4 (.mv (.c (.d (.bool false))))])
    .ret)
    .skip))))))
 (.reg [.r 37 (.bin .add (.t 17) (.c (.d (.int .i64 1)))),
   .r 17 (.mv (.t 37))]))))
def mO:SC:= .block 0 (.loop iM)
def o9:SC:=
 (.seq (.reg [.r 2 (.boxI (.t 0)),
   .r 3 (.boxI (.t 1)),
   .r 4 (.mv (.c (.d (.bool false))))])
 (.seq (.seq (.reg [.r 7 (.fld 1 (.t 2)),
   .o 8 (.ld1 (.t 7)),
   .r 9 (.len (.t 8)),
   .r 10 (.fld 1 (.t 3)),
   .o 11 (.ld1 (.t 10)),
   .r 12 (.len (.t 11)),
   .r 13 (.bin .gtr (.t 9) (.t 12))])
 (.cond (.t 13)
  (.seq (.reg [.r 4 (.mv (.c (.d (.bool false))))])
  .ret)
  .skip))
 (.seq (.seq (.reg [.r 14 (.fld 1 (.t 3)),
   .o 15 (.ld1 (.t 14)),
   .r 16 (.len (.t 15)),
   .r 17 (.mv (.c (.d (.int .i64 0))))])
 mO)
 (.seq (.reg [.r 4 (.mv (.c (.d (.bool true))))])
 .ret))))
theorem uj:fits Tryz.prog 117 Tryz.f117 o9 [.t 4] 2=true:=oK
set_option maxRecDepth 100000 in
set_option maxHeartbeats 40000000 in
noncomputable def uk:(∀ (x0:ak) (x1:ak),{m:Option (Bool)//∀ r,m=some r->aa Tryz.prog 117 [.agg (am x0),.agg (am x1)] (.bool r)}):=by
 (intro x0 x1;apply Subtype.mk;intro r hm;apply ag Tryz.func117 uj;unfold o9)
 repeat'(first|with_reducible refine bF ?_|with_reducible refine bu ?_|with_reducible refine ou ?_|with_reducible refine bo ?_|with_reducible refine bl ?_|with_reducible refine bE ?_|with_reducible refine cg ?_|with_reducible refine bw ?_|with_reducible refine bG ?_|with_reducible refine cj ?_|with_reducible refine bA ?_|with_reducible refine br ?_|with_reducible refine bv ?_|with_reducible refine cF ?_|((with_reducible apply cu hm);(iterate 2 (simp only[push_cast,seval];rfl));(intro _;rfl);intro e hm)|((with_reducible apply iE);(simp only[push_cast,seval];rfl);(first|exact trivial))|((with_reducible apply ee hm);(simp only[push_cast,seval];rfl);(first|apply qn _ _);(any_goals((repeat'(first|rfl));done));intro x hm)|((with_reducible apply uU);(simp only[push_cast,seval];rfl);(first|exact trivial))|((with_reducible apply aM hm);(simp only[push_cast,seval];rfl);intro hm;rotate_left;intro hm)|((with_reducible apply bC hm);(focus(simp only[bk,cn,RV.get,push_cast,seval];rfl));(focus((repeat'(first|rfl));done)))|((with_reducible apply bH hm);intro r hm)|((with_reducible apply cb hm);intro r hm)|((apply aH (b:=0) (X:=mO) (x:=iM) rfl (fun(c:SV×SV×SV) (s:Int)=>st [(2,c.1),(15,c.2.1),(16,c.2.2),(17,.d (.int .i64 s))] []) (c:=(_,_,_)) (s0:=_) hm);(focus(first|(dsimp only;done)));(with_reducible refine cA.mk ?_ ?_))|((apply bB (s':=_) hm);(focus(first|(dsimp only;done))))|((apply ct (s':=_) hm);(focus(first|(dsimp only;done))))|(((with_reducible apply ew hm);intro r hm))|(((with_reducible apply dw.of);(focus(first|(dsimp only;done)));(focus((intro _;repeat'(first|with_reducible exact bg|with_reducible refine aR ?_))));(intro s o hm;first|unfold iM);rotate_left;intro s hm))|(((apply bI;(repeat'(first|with_reducible exact aT|with_reducible exact aU|with_reducible apply aJ|((with_reducible apply aZ);(focus(first|(simp only[push_cast,seval];rfl)));(focus((repeat'(first|rfl));done)))));done))))
noncomputable def iN (x0:ak) (x1:ak):Option (Bool):=(uk x0 x1).1
theorem sX (x0:ak) (x1:ak):∀ r,iN x0 x1=some r->aa Tryz.prog 117 [.agg (am x0),.agg (am x1)] (.bool r):=(uk x0 x1).2
def cV:SC:=(.reg [.r 27 (.mv (.t 2)),
    .r 28 (.mkfn 72 [.t 11]),
    .c 29 (.f 71) [.t 27,.t 28],
    .r 13 (.mv (.t 29))])
def eX:SC:= .cond (.t 37)
  (.reg [.r 38 (.mv (.t 0)),
   .r 39 (.mv (.t 12)),
   .p (some 40) (.f 73) [.t 38,.t 39,.c (.d (.int .i64 2))]])
  .skip
def cL:SC:=(.regE [.r 44 (.mv (.t 0)),
    .r 45 (.ldA 5 (.t 11)),
    .r 46 (.mv (.t 2)),
    .r 47 (.mv (.t 13)),
    .r 48 (.idx 5 (.t 46) (.t 47)),
    .r 49 (.ldA 5 (.t 48)),
    .r 50 (.mv (.t 12)),
    .q 51 (.f 74) [.t 44,.t 45,.t 49,.t 50] []])
def cW:SC:=
 (.seq (.reg [.r 20 (.bin .lss (.t 19) (.t 18))])
 (.seq (.cond (.t 20)
  .skip
  (.exit 0))
 (.seq (.block 1 (.seq (.reg [.r 21 (.idx 5 (.t 17) (.t 19)),
    .o 22 (.ldA 5 (.t 21)),
    .w 11 (.boxM (.c (.agg [.d (.str []),.d (.str []),.d (.int .i64 0),.d (.int .i64 0),.nils]))),
    .w 0 (.st 5 (.t 11) (.t 22))])
  (.seq (.reg [.r 23 (.mv (.t 3)),
    .o 24 (.ldA 5 (.t 11)),
    .c 25 (.f 70) [.t 24],
    .r 26 (.bin .add (.t 23) (.t 25)),
    .r 12 (.mv (.t 26))])
  (.seq cV
  (.seq (.seq (.reg [.r 30 (.mv (.t 13)),
    .r 31 (.bin .lss (.t 30) (.c (.d (.int .i64 0))))])
  (.cond (.t 31)
   (.seq (.reg [.r 32 (.mv (.t 0)),
     .r 33 (.mv (.t 12)),
     .p (some 34) (.f 73) [.t 32,.t 33,.c (.d (.int .i64 1))]])
   (.exit 1))
   .skip))
  (.seq (.seq (.reg [.r 35 (.mv (.t 13)),
    .r 36 (.mv (.t 8)),
    .r 37 (.bin .leq (.t 35) (.t 36))])
  eX)
  (.seq (.reg [.r 41 (.mv (.t 13)),
    .r 8 (.mv (.t 41))])
  (.seq (.reg [.r 42 (.mv (.t 9)),
    .r 43 (.mv (.t 13)),
    .w 0 (.mset (.int .i64) (.t 42) (.t 43) (.c (.d (.bool true))))])
  cL))))))))
 (.reg [.r 52 (.bin .add (.t 19) (.c (.d (.int .i64 1)))),
   .r 19 (.mv (.t 52))]))))
def fx:SC:= .block 0 (.loop cW)
def cX:SC:=
 (.seq (.reg [.r 56 (.bin .lss (.t 55) (.t 54))])
 (.seq (.cond (.t 56)
  .skip
  (.exit 2))
 (.seq (.block 3 (.seq (.reg [.r 57 (.mv (.t 55)),
    .r 58 (.idx 5 (.t 53) (.t 55)),
    .o 59 (.ldA 5 (.t 58)),
    .w 15 (.boxM (.c (.agg [.d (.str []),.d (.str []),.d (.int .i64 0),.d (.int .i64 0),.nils]))),
    .r 14 (.mv (.t 57)),
    .w 0 (.st 5 (.t 15) (.t 59))])
  (.seq (.reg (.r 60 (.mv (.t 9)):: .r 61 (.mv (.t 14)):: .o 62 (.look (.int .i64) (.d (.bool false)) false (.t 60) (.t 61)):: .r 63 (.not (.t 62)):: .r 64 (.mv (.t 63))::aI [65,66,67] 64 true (.r 65 (.fld 2 (.t 15)):: .r 66 (.ld1 (.t 65)):: .r 67 (.bin .gtr (.t 66) (.c (.d (.int .i64 0))))::[]) (.r 68 (.pick (.t 64) (.t 67) (.c (.d (.bool false))))::[])))
  (.cond (.t 68)
   (.reg [.r 69 (.mv (.t 0)),
     .r 70 (.mv (.t 3)),
     .o 71 (.ldA 5 (.t 15)),
     .c 72 (.f 70) [.t 71],
     .r 73 (.bin .add (.t 70) (.t 72)),
     .p (some 74) (.f 73) [.t 69,.t 73,.c (.d (.int .i64 3))]])
   .skip))))
 (.reg [.r 75 (.bin .add (.t 55) (.c (.d (.int .i64 1)))),
   .r 55 (.mv (.t 75))]))))
def fy:SC:= .block 2 (.loop cX)
def gu:SC:=
 (.seq (.reg [.r 8 (.mv (.c (.d (.int .i64 (-1)))))])
 (.seq (.reg [.w 16 (.mkmap (.int .i64)),
   .r 9 (.mv (.t 16))])
 (.seq (.seq (.reg [.r 17 (.mv (.t 1)),
   .r 18 (.len (.t 17)),
   .r 19 (.mv (.c (.d (.int .i64 0))))])
 fx)
 (.seq (.reg [.r 53 (.mv (.t 2)),
   .r 54 (.len (.t 53)),
   .r 55 (.mv (.c (.d (.int .i64 0))))])
 fy))))
theorem mh:fits Tryz.prog 32 Tryz.f32 gu [] 4=true:=oK
def eY:SC:= .cond (.t 16)
  (.reg [.r 17 (.mv (.t 0)),
   .r 18 (.mv (.t 3)),
   .p (some 19) (.f 73) [.t 17,.t 18,.c (.d (.int .i64 3))]])
  .skip
def eZ:SC:= .cond (.t 24)
  (.reg [.r 25 (.mv (.t 0)),
   .r 26 (.mv (.t 3)),
   .p (some 27) (.f 73) [.t 25,.t 26,.c (.d (.int .i64 4))]])
  .skip
def gv:SC:=
 (.seq (.reg [.r 5 (.boxI (.t 1)),
   .r 6 (.boxI (.t 2))])
 (.seq (.seq (.reg [.r 12 (.fld 2 (.t 5)),
   .o 13 (.ld1 (.t 12)),
   .r 14 (.fld 2 (.t 6)),
   .o 15 (.ld1 (.t 14)),
   .r 16 (.bin .lss (.t 13) (.t 15))])
 eY)
 (.seq (.seq (.reg [.r 20 (.fld 3 (.t 5)),
   .o 21 (.ld1 (.t 20)),
   .r 22 (.fld 3 (.t 6)),
   .o 23 (.ld1 (.t 22)),
   .r 24 (.bin .gtr (.t 21) (.t 23))])
 eZ)
 (.seq (.seq (.reg [.r 28 (.fld 1 (.t 5)),
   .o 29 (.ld1 (.t 28)),
   .r 30 (.bin .neq (.t 29) (.c (.d (.str []))))])
 (.cond (.t 30)
  (.seq (.reg [.r 31 (.mv (.t 0)),
    .r 32 (.fld 4 (.t 5)),
    .o 33 (.ld1 (.t 32)),
    .r 34 (.fld 4 (.t 6)),
    .o 35 (.ld1 (.t 34)),
    .r 36 (.mv (.t 3)),
    .r 37 (.bin .add (.t 36) (.c (.d (.str [47])))),
    .p (some 38) (.f 32) [.t 31,.t 33,.t 35,.t 37]])
  .ret)
  .skip))
 (.seq (.regE [.r 40 (.mv (.t 0)),
   .r 41 (.nilc (.t 40)),
   .r 42 (.fld 0 (.t 41)),
   .r 43 (.ldA 4 (.t 42)),
   .r 44 (.fld 0 (.t 5)),
   .r 45 (.ld1 (.t 44)),
   .c 46 (.f 84) [.t 43,.t 45],
   .r 39 (.mv (.t 46)),
   .r 47 (.ext (.t 39) 0),
   .r 48 (.ext (.t 39) 1),
   .x 8 (.boxM (.c (.agg [.d (.str []),.nils]))) [(0,40,.mv (.t 0)),(1,41,.nilc (.t 40)),(2,42,.fld 0 (.t 41)),(3,43,.ldA 4 (.t 42)),(4,44,.fld 0 (.t 5)),(5,45,.ld1 (.t 44)),(6,46,.cl 46 [43,45]),(7,39,.mv (.t 46)),(8,47,.ext (.t 39) 0),(9,48,.ext (.t 39) 1)],
   .x 0 (.st 2 (.t 8) (.t 47)) [(9,48,.ext (.t 39) 1)],
   .r 9 (.mv (.t 48))])
 (.seq (.regE [.r 50 (.mv (.t 0)),
   .r 51 (.nilc (.t 50)),
   .r 52 (.fld 4 (.t 51)),
   .r 53 (.ldA 4 (.t 52)),
   .r 54 (.fld 0 (.t 5)),
   .r 55 (.ld1 (.t 54)),
   .c 56 (.f 84) [.t 53,.t 55],
   .r 49 (.mv (.t 56)),
   .r 57 (.ext (.t 49) 0),
   .r 58 (.ext (.t 49) 1),
   .x 10 (.boxM (.c (.agg [.d (.str []),.nils]))) [(0,50,.mv (.t 0)),(1,51,.nilc (.t 50)),(2,52,.fld 4 (.t 51)),(3,53,.ldA 4 (.t 52)),(4,54,.fld 0 (.t 5)),(5,55,.ld1 (.t 54)),(6,56,.cl 56 [53,55]),(7,49,.mv (.t 56)),(8,57,.ext (.t 49) 0),(9,58,.ext (.t 49) 1)],
   .x 0 (.st 2 (.t 10) (.t 57)) [(9,58,.ext (.t 49) 1)],
   .r 11 (.mv (.t 58))])
 (.seq (.reg [.o 59 (.ldA 2 (.t 8)),
   .o 60 (.ldA 2 (.t 10)),
   .c 61 (.f 117) [.t 59,.t 60],
   .r 62 (.not (.t 61))])
 (.cond (.t 62)
  (.reg [.r 63 (.mv (.t 0)),
    .r 64 (.mv (.t 3)),
    .p (some 65) (.f 73) [.t 63,.t 64,.c (.d (.int .i64 5))]])
  .skip))))))))
theorem mi:fits Tryz.prog 74 Tryz.f74 gv [] 4=true:=oK
set_option maxRecDepth 100000 in
set_option maxHeartbeats 40000000 in
noncomputable def oj:((∀ (x0:aA) (x1:List ac) (x2:List ac) (x3:List UInt8),{m:Option ((Unit)×aA)//∀ r,m=some r->cQ Tryz.prog 32 (.own (.pt [.sh,.sh,.sh,.sh,.sh,.sh,.sh,.sh,.sl 48 (List.replicate 2 .sh)]) (.ptr (aF x0))::List.map SV.d ([.slice (List.map ab x1),.slice (List.map ab x2),.str x3]:List DV)) (.tup []) (.own (.pt [.sh,.sh,.sh,.sh,.sh,.sh,.sh,.sh,.sl 48 (List.replicate 2 .sh)]) (.ptr (aF r.2))::List.map SV.d ([.slice (List.map ab x1),.slice (List.map ab x2),.str x3]:List DV))})×(∀ (x0:aA) (x1:ac) (x2:ac) (x3:List UInt8),{m:Option ((Unit)×aA)//∀ r,m=some r->cQ Tryz.prog 74 (.own (.pt [.sh,.sh,.sh,.sh,.sh,.sh,.sh,.sh,.sl 48 (List.replicate 2 .sh)]) (.ptr (aF x0))::List.map SV.d ([.agg (ab x1),.agg (ab x2),.str x3]:List DV)) (.tup []) (.own (.pt [.sh,.sh,.sh,.sh,.sh,.sh,.sh,.sh,.sl 48 (List.replicate 2 .sh)]) (.ptr (aF r.2))::List.map SV.d ([.agg (ab x1),.agg (ab x2),.str x3]:List DV))}))->((∀ (x0:aA) (x1:List ac) (x2:List ac) (x3:List UInt8),{m:Option ((Unit)×aA)//∀ r,m=some r->cQ Tryz.prog 32 (.own (.pt [.sh,.sh,.sh,.sh,.sh,.sh,.sh,.sh,.sl 48 (List.replicate 2 .sh)]) (.ptr (aF x0))::List.map SV.d ([.slice (List.map ab x1),.slice (List.map ab x2),.str x3]:List DV)) (.tup []) (.own (.pt [.sh,.sh,.sh,.sh,.sh,.sh,.sh,.sh,.sl 48 (List.replicate 2 .sh)]) (.ptr (aF r.2))::List.map SV.d ([.slice (List.map ab x1),.slice (List.map ab x2),.str x3]:List DV))})×(∀ (x0:aA) (x1:ac) (x2:ac) (x3:List UInt8),{m:Option ((Unit)×aA)//∀ r,m=some r->cQ Tryz.prog 74 (.own (.pt [.sh,.sh,.sh,.sh,.sh,.sh,.sh,.sh,.sl 48 (List.replicate 2 .sh)]) (.ptr (aF x0))::List.map SV.d ([.agg (ab x1),.agg (ab x2),.str x3]:List DV)) (.tup []) (.own (.pt [.sh,.sh,.sh,.sh,.sh,.sh,.sh,.sh,.sl 48 (List.replicate 2 .sh)]) (.ptr (aF r.2))::List.map SV.d ([.agg (ab x1),.agg (ab x2),.str x3]:List DV))})):=by
 intro ih
 have dc:∀ (x0:aA) (x1:List ac) (x2:List ac) (x3:List UInt8),∀ r,(ih.1 x0 x1 x2 x3).1=some r->cQ Tryz.prog 32 (.own (.pt [.sh,.sh,.sh,.sh,.sh,.sh,.sh,.sh,.sl 48 (List.replicate 2 .sh)]) (.ptr (aF x0))::List.map SV.d ([.slice (List.map ab x1),.slice (List.map ab x2),.str x3]:List DV)) (.tup []) (.own (.pt [.sh,.sh,.sh,.sh,.sh,.sh,.sh,.sh,.sl 48 (List.replicate 2 .sh)]) (.ptr (aF r.2))::List.map SV.d ([.slice (List.map ab x1),.slice (List.map ab x2),.str x3]:List DV)):=fun x0 x1 x2 x3=>(ih.1 x0 x1 x2 x3).2
 have fW:∀ (x0:aA) (x1:ac) (x2:ac) (x3:List UInt8),∀ r,(ih.2 x0 x1 x2 x3).1=some r->cQ Tryz.prog 74 (.own (.pt [.sh,.sh,.sh,.sh,.sh,.sh,.sh,.sh,.sl 48 (List.replicate 2 .sh)]) (.ptr (aF x0))::List.map SV.d ([.agg (ab x1),.agg (ab x2),.str x3]:List DV)) (.tup []) (.own (.pt [.sh,.sh,.sh,.sh,.sh,.sh,.sh,.sh,.sl 48 (List.replicate 2 .sh)]) (.ptr (aF r.2))::List.map SV.d ([.agg (ab x1),.agg (ab x2),.str x3]:List DV)):=fun x0 x1 x2 x3=>(ih.2 x0 x1 x2 x3).2
 refine⟨?g0, ?g1⟩
 case' g0=>(intro x0 x1 x2 x3;apply Subtype.mk;intro r hm;apply jJ (N:=76) (k:=4) Tryz.func32 mh oK rfl rfl oD;unfold gu)
 case' g1=>(intro x0 x1 x2 x3;apply Subtype.mk;intro r hm;apply jJ (N:=66) (k:=4) Tryz.func74 mi oK rfl rfl oD;unfold gv)
 all_goals(repeat'(first|((with_reducible apply Af (id:=0) (cid:=1008) (off:=8) (n:=2) (e:=48));(focus(simp only[push_cast,seval, -List.reduceReplicate];(try rfl);done));(focus(simp only[push_cast,seval, -List.reduceReplicate];(try rfl);done));(focus decide);(focus rfl);(focus(intro _;rfl));(focus(simp only[push_cast,seval, -List.reduceReplicate];(try rfl);done)))|((apply Km (x:=cV) (id:=11) (slot:=11));(focus(simp only[push_cast,seval, -List.reduceReplicate];(try rfl);done));(focus(simp only[push_cast,seval, -List.reduceReplicate];(try rfl);done));(focus(simp only[push_cast,seval, -List.reduceReplicate];(try rfl);done));unfold cV)|((with_reducible apply I1 cL);(focus((try((apply f0.trans);(focus((apply lT (id:=0) (cid:=1008) (off:=8) (n:=2) (e:=48) (row:=aE));(focus(simp only[push_cast,seval, -List.reduceReplicate];(try rfl);done));(focus(simp only[push_cast,seval, -List.reduceReplicate];(try rfl);done));(focus decide);(focus(simp only[push_cast,seval, -List.reduceReplicate];(try rfl);done));(focus((repeat'(first|(with_reducible first|apply DN)));done));(focus(intro _;rfl));(focus(simp only[push_cast,seval, -List.reduceReplicate];(try rfl);done))))));(apply y2 (id:=0) (cs':=fB [.sh,.sh,.sh,.sh,.sh,.sh,.sh,.sh,.sl 48 (List.replicate 2 .sh)] _));(focus(simp only[push_cast,seval, -List.reduceReplicate];(try rfl);done));(focus((repeat'(first|(with_reducible first|apply fC|apply dL)|((with_reducible apply aZ);(focus(first|rfl));(focus((repeat'(first|rfl));done)))|((with_reducible apply uO);(focus rfl);(focus((repeat'(first|rfl));done)))));done))));unfold cL;first|with_reducible refine xB ?_)|with_reducible refine bF ?_|with_reducible refine bu ?_|with_reducible refine xB ?_|with_reducible refine bo ?_|with_reducible refine bl ?_|with_reducible refine bE ?_|with_reducible refine cg ?_|with_reducible refine bw ?_|with_reducible refine bG ?_|with_reducible refine cj ?_|with_reducible refine bA ?_|with_reducible refine br ?_|with_reducible refine nW ?_|with_reducible refine cF ?_|((with_reducible apply cu hm);(iterate 2 (simp only[push_cast,seval, -List.reduceReplicate];rfl));(intro _;rfl);intro e hm)|((with_reducible apply iE);(simp only[push_cast,seval, -List.reduceReplicate];rfl);(first|exact trivial))|((with_reducible apply Cz hm);(iterate 2 (simp only[push_cast,seval, -List.reduceReplicate];rfl));intro hm)|((with_reducible apply ed hm);(simp only[push_cast,seval, -List.reduceReplicate];rfl);rfl;intro v hm;rotate_left;intro v g hm)|((with_reducible apply ee hm);(simp only[push_cast,seval, -List.reduceReplicate];rfl);(first|apply wa _|apply dz _ _ _ _ (fun a0 r h=>kI a0 _ r h)|apply qE _ _|apply sX _ _);(any_goals((repeat'(first|rfl|(with_reducible first|apply et|apply na|apply Lk|apply LT|apply dm)));done));intro x hm)|((with_reducible apply uU);(simp only[push_cast,seval, -List.reduceReplicate];rfl);(first|exact trivial))|((with_reducible apply K_);(simp only[push_cast,seval, -List.reduceReplicate];rfl);(first|exact trivial);(focus((repeat'(first|exact uI|((with_reducible apply Dg);(focus(simp only[push_cast,seval, -List.reduceReplicate];rfl));(focus(first|exact trivial));(focus(simp only[push_cast,seval, -List.reduceReplicate])))));done)))|((with_reducible apply I3);(iterate 3 (simp only[push_cast,seval, -List.reduceReplicate];rfl));(iterate 2 rfl))|((with_reducible apply aM hm);(simp only[push_cast,seval, -List.reduceReplicate];rfl);intro hm;rotate_left;intro hm)|((with_reducible apply bR hm);(simp only[push_cast,seval, -List.reduceReplicate];rfl))|((with_reducible apply bH hm);intro r hm)|((apply aH (b:=0) (X:=fx) (x:=cW) rfl (fun(c:SV×SV×SV×SV×SV×SV×SV) (s:ae×ae×(List bh)×Int×(List (Int×Bool))×Int)=>st [(0,.ref 0 0),(2,c.1),(3,c.2.1),(8,.d (.int .i64 s.2.2.2.1)),(9,.mp 16),(17,c.2.2.1),(18,c.2.2.2.1),(19,.d (.int .i64 s.2.2.2.2.2)),(76,.ref 0 0),(77,c.2.2.2.2.1),(78,c.2.2.2.2.2.1),(79,c.2.2.2.2.2.2)] [(1008,.vec 48 2 (cm aE s.2.2.1)),(0,.box (fD s.1 s.2.1 1008)),(16,.map (.int .i64) (ex (fun k=> .int .i64 k) (fun v=> .d (.bool v)) s.2.2.2.2.1))]) (c:=(_,_,_,_,_,_,_)) (s0:=(_,_,_,_,_,_)) hm);(focus(first|(dsimp only;done)));(with_reducible refine cA.mk ?_ ?_))|((apply aH (b:=2) (X:=fy) (x:=cX) rfl (fun(c:SV×Ch×SV×SV×SV×SV×SV) (s:ae×ae×(List bh)×Int)=>st [(0,.ref 0 0),(3,c.1),(9,.mp 16),(53,c.2.2.1),(54,c.2.2.2.1),(55,.d (.int .i64 s.2.2.2)),(76,.ref 0 0),(77,c.2.2.2.2.1),(78,c.2.2.2.2.2.1),(79,c.2.2.2.2.2.2)] [(1008,.vec 48 2 (cm aE s.2.2.1)),(0,.box (fD s.1 s.2.1 1008)),(16,c.2.1)]) (c:=(_,_,_,_,_,_,_)) (s0:=(_,_,_,_)) hm);(focus(first|(dsimp only;done)));(with_reducible refine cA.mk ?_ ?_))|(((apply rO (X:=eX) rfl (fun(c:SV×SV×Ch×SV×SV×SV×SV×SV×SV×SV×SV×SV) (s:ae×ae×(List bh))=>st [(0,.ref 0 0),(2,c.1),(3,c.2.1),(9,.mp 16),(11,c.2.2.2.1),(12,c.2.2.2.2.1),(13,c.2.2.2.2.2.1),(17,c.2.2.2.2.2.2.1),(18,c.2.2.2.2.2.2.2.1),(19,c.2.2.2.2.2.2.2.2.1),(76,.ref 0 0),(77,c.2.2.2.2.2.2.2.2.2.1),(78,c.2.2.2.2.2.2.2.2.2.2.1),(79,c.2.2.2.2.2.2.2.2.2.2.2)] [(1008,.vec 48 2 (cm aE s.2.2)),(0,.box (fD s.1 s.2.1 1008)),(16,c.2.2.1)]) (c:=(_,_,_,_,_,_,_,_,_,_,_,_)) hm);(intro o hm);rotate_left;(focus((intro _;repeat'(first|with_reducible exact nq|with_reducible refine aR ?_|with_reducible refine cr ?_|((with_reducible refine eT ?_);intro _)|((with_reducible refine eU ?_);intro _)))));(intro s hm);rotate_left))|(((apply rO (X:=eY) rfl (fun(c:SV×SV×SV×SV×SV×SV) (s:ae×ae×(List bh))=>st [(0,.ref 0 0),(3,c.1),(5,c.2.1),(6,c.2.2.1),(66,.ref 0 0),(67,c.2.2.2.1),(68,c.2.2.2.2.1),(69,c.2.2.2.2.2)] [(1008,.vec 48 2 (cm aE s.2.2)),(0,.box (fD s.1 s.2.1 1008))]) (c:=(_,_,_,_,_,_)) hm);(intro o hm);rotate_left;(focus((intro _;repeat'(first|with_reducible exact nq|with_reducible refine aR ?_))));(intro s hm);rotate_left))|(((apply rO (X:=eZ) rfl (fun(c:SV×SV×SV×SV×SV×SV) (s:ae×ae×(List bh))=>st [(0,.ref 0 0),(3,c.1),(5,c.2.1),(6,c.2.2.1),(66,.ref 0 0),(67,c.2.2.2.1),(68,c.2.2.2.2.1),(69,c.2.2.2.2.2)] [(1008,.vec 48 2 (cm aE s.2.2)),(0,.box (fD s.1 s.2.1 1008))]) (c:=(_,_,_,_,_,_)) hm);(intro o hm);rotate_left;(focus((intro _;repeat'(first|with_reducible exact nq|with_reducible refine aR ?_))));(intro s hm);rotate_left))|((apply bB (s':=(_,_,_,_,_,_)) hm);(focus(first|(dsimp only;done))))|((apply ct (s':=(_,_,_,_,_,_)) hm);(focus(first|(dsimp only;done))))|((apply bB (s':=(_,_,_,_)) hm);(focus(first|(dsimp only;done))))|((apply ct (s':=(_,_,_,_)) hm);(focus(first|(dsimp only;done))))|((apply bB (s':=(_,_,_)) hm);(focus(first|(dsimp only;done))))|(((with_reducible apply GB hm (id:=0) (ms:=[.sh,.sh,.sh,.sh,.sh,.sh,.sh,.sh,.sl 48 (List.replicate 2 .sh)]));(focus((try((apply f0.trans);(focus((apply lT (id:=0) (cid:=1008) (off:=8) (n:=2) (e:=48) (row:=aE));(focus(simp only[push_cast,seval, -List.reduceReplicate];(try rfl);done));(focus(simp only[push_cast,seval, -List.reduceReplicate];(try rfl);done));(focus decide);(focus(simp only[push_cast,seval, -List.reduceReplicate];(try rfl);done));(focus((repeat'(first|(with_reducible first|apply DN)));done));(focus(intro _;rfl));(focus(simp only[push_cast,seval, -List.reduceReplicate];(try rfl);done))))));exact f0.refl _));(focus(simp only[push_cast,seval, -List.reduceReplicate];(try rfl);done));(focus(simp only[push_cast,seval, -List.reduceReplicate];(try rfl);done));(focus(simp only[push_cast,seval, -List.reduceReplicate];(try rfl);done));(focus((repeat'(first|(with_reducible first|apply fC|apply dL)|((with_reducible apply aZ);(focus(first|rfl));(focus((repeat'(first|rfl));done)))|((with_reducible apply uO);(focus rfl);(focus((repeat'(first|rfl));done)))));done));(focus rfl);(first|apply mf _ _ _|apply dc _ _ _ _);(any_goals(focus((repeat'(first|rfl));done)));(focus(intro _;exact⟨rfl,rfl,rfl⟩));intro y hm))|(((with_reducible apply LR hm (id:=0) (ms:=[.sh,.sh,.sh,.sh,.sh,.sh,.sh,.sh,.sl 48 (List.replicate 2 .sh)]));(focus(simp only[push_cast,seval, -List.reduceReplicate];(try rfl);done));(focus(simp only[push_cast,seval, -List.reduceReplicate];(try rfl);done));(focus rfl);(focus rfl);(first|apply fW _ _ _ _);(any_goals(focus((repeat'(first|rfl|(with_reducible first|apply et|apply na|apply dm)));done)));(focus(intro _;exact⟨rfl,rfl,rfl⟩));(focus(intro _;(repeat'(first|exact uI))));intro y hm))|(((with_reducible apply Fz (a:=()) hm (ms:=[.sh,.sh,.sh,.sh,.sh,.sh,.sh,.sh,.sl 48 (List.replicate 2 .sh)]));(focus((try((apply f0.trans);(focus((apply lT (id:=0) (cid:=1008) (off:=8) (n:=2) (e:=48) (row:=aE));(focus(simp only[push_cast,seval, -List.reduceReplicate];(try rfl);done));(focus(simp only[push_cast,seval, -List.reduceReplicate];(try rfl);done));(focus decide);(focus(simp only[push_cast,seval, -List.reduceReplicate];(try rfl);done));(focus((repeat'(first|(with_reducible first|apply DN)));done));(focus(intro _;rfl));(focus(simp only[push_cast,seval, -List.reduceReplicate];(try rfl);done))))));exact f0.refl _));(focus(simp only[push_cast,seval, -List.reduceReplicate];(try rfl);done));(focus((repeat'(first|(with_reducible first|apply fC|apply dL)|((with_reducible apply aZ);(focus(first|rfl));(focus((repeat'(first|rfl));done)))|((with_reducible apply uO);(focus rfl);(focus((repeat'(first|rfl));done)))));done));(focus(intro _;rfl));(focus(simp only[push_cast,seval, -List.reduceReplicate];(try rfl);done));(focus(simp only[push_cast,seval, -List.reduceReplicate];(try rfl);done));(focus(simp only[push_cast,seval, -List.reduceReplicate];(try rfl);done));(focus(simp only[push_cast,seval, -List.reduceReplicate];(try rfl);done));(focus(first|exact KA))))|(((with_reducible apply CB (a:=()) hm (ms:=[.sh,.sh,.sh,.sh,.sh,.sh,.sh,.sh,.sl 48 (List.replicate 2 .sh)]));(focus((try((apply f0.trans);(focus((apply lT (id:=0) (cid:=1008) (off:=8) (n:=2) (e:=48) (row:=aE));(focus(simp only[push_cast,seval, -List.reduceReplicate];(try rfl);done));(focus(simp only[push_cast,seval, -List.reduceReplicate];(try rfl);done));(focus decide);(focus(simp only[push_cast,seval, -List.reduceReplicate];(try rfl);done));(focus((repeat'(first|(with_reducible first|apply DN)));done));(focus(intro _;rfl));(focus(simp only[push_cast,seval, -List.reduceReplicate];(try rfl);done))))));exact f0.refl _));(focus(simp only[push_cast,seval, -List.reduceReplicate];(try rfl);done));(focus((repeat'(first|(with_reducible first|apply fC|apply dL)|((with_reducible apply aZ);(focus(first|rfl));(focus((repeat'(first|rfl));done)))|((with_reducible apply uO);(focus rfl);(focus((repeat'(first|rfl));done)))));done));(focus(intro _;rfl));(focus(simp only[push_cast,seval, -List.reduceReplicate];(try rfl);done));(focus(simp only[push_cast,seval, -List.reduceReplicate];(try rfl);done));(focus(simp only[push_cast,seval, -List.reduceReplicate];(try rfl);done));(focus(simp only[push_cast,seval, -List.reduceReplicate];(try rfl);done));(focus(first|exact KA))))|(((with_reducible apply dw.of);(focus(first|(dsimp only;done)));(focus((intro _;repeat'(first|with_reducible exact nq|with_reducible refine aR ?_))));(intro s o hm;first|unfold cW|unfold cX);rotate_left;intro s hm))|(((with_reducible apply f0.trans);(focus((apply vP (id:=0) (cid:=1008) (off:=8) (n:=2) (e:=48));(focus(simp only[push_cast,seval, -List.reduceReplicate];(try rfl);done));(focus(simp only[push_cast,seval, -List.reduceReplicate];(try rfl);done));(focus decide);(focus rfl);(focus(intro _;rfl));(focus(simp only[push_cast,seval, -List.reduceReplicate];(try rfl);done))))))|(((apply bI;(repeat'(first|with_reducible exact aT|with_reducible exact aU|with_reducible apply aJ|with_reducible apply c7|((with_reducible apply aZ);(focus(first|(simp only[push_cast,seval];rfl)));(focus((repeat'(first|rfl));done)))|((with_reducible apply iG);(focus(first|(simp only[push_cast,seval];rfl)));(first|with_reducible exact cT rfl|with_reducible exact BK|(apply Gs;rfl)))));done)))))
noncomputable def iA (fu:Nat):(∀ (x0:aA) (x1:List ac) (x2:List ac) (x3:List UInt8),{m:Option ((Unit)×aA)//∀ r,m=some r->cQ Tryz.prog 32 (.own (.pt [.sh,.sh,.sh,.sh,.sh,.sh,.sh,.sh,.sl 48 (List.replicate 2 .sh)]) (.ptr (aF x0))::List.map SV.d ([.slice (List.map ab x1),.slice (List.map ab x2),.str x3]:List DV)) (.tup []) (.own (.pt [.sh,.sh,.sh,.sh,.sh,.sh,.sh,.sh,.sl 48 (List.replicate 2 .sh)]) (.ptr (aF r.2))::List.map SV.d ([.slice (List.map ab x1),.slice (List.map ab x2),.str x3]:List DV))})×(∀ (x0:aA) (x1:ac) (x2:ac) (x3:List UInt8),{m:Option ((Unit)×aA)//∀ r,m=some r->cQ Tryz.prog 74 (.own (.pt [.sh,.sh,.sh,.sh,.sh,.sh,.sh,.sh,.sl 48 (List.replicate 2 .sh)]) (.ptr (aF x0))::List.map SV.d ([.agg (ab x1),.agg (ab x2),.str x3]:List DV)) (.tup []) (.own (.pt [.sh,.sh,.sh,.sh,.sh,.sh,.sh,.sh,.sl 48 (List.replicate 2 .sh)]) (.ptr (aF r.2))::List.map SV.d ([.agg (ab x1),.agg (ab x2),.str x3]:List DV))}):=Nat.rec ⟨(fun x0 x1 x2 x3=>⟨none,fun r h=>by cases h⟩),(fun x0 x1 x2 x3=>⟨none,fun r h=>by cases h⟩)⟩ (fun _ ih=>oj ih) fu
noncomputable def bX (fu:Nat) (x0:aA) (x1:List ac) (x2:List ac) (x3:List UInt8):Option ((Unit)×aA):=((iA fu).1 x0 x1 x2 x3).1
theorem e9 (fu:Nat) (x0:aA) (x1:List ac) (x2:List ac) (x3:List UInt8):((iA fu).1 x0 x1 x2 x3).1=bX fu x0 x1 x2 x3:=rfl
theorem kL (fu:Nat) (x0:aA) (x1:List ac) (x2:List ac) (x3:List UInt8):bX (fu+1) x0 x1 x2 x3=((oj (iA fu)).1 x0 x1 x2 x3).1:=rfl
theorem dc (fu:Nat) (x0:aA) (x1:List ac) (x2:List ac) (x3:List UInt8):∀ r,bX fu x0 x1 x2 x3=some r->cQ Tryz.prog 32 (.own (.pt [.sh,.sh,.sh,.sh,.sh,.sh,.sh,.sh,.sl 48 (List.replicate 2 .sh)]) (.ptr (aF x0))::List.map SV.d ([.slice (List.map ab x1),.slice (List.map ab x2),.str x3]:List DV)) (.tup []) (.own (.pt [.sh,.sh,.sh,.sh,.sh,.sh,.sh,.sh,.sl 48 (List.replicate 2 .sh)]) (.ptr (aF r.2))::List.map SV.d ([.slice (List.map ab x1),.slice (List.map ab x2),.str x3]:List DV)):=((iA fu).1 x0 x1 x2 x3).2
noncomputable def co (fu:Nat) (x0:aA) (x1:ac) (x2:ac) (x3:List UInt8):Option ((Unit)×aA):=((iA fu).2 x0 x1 x2 x3).1
theorem e_ (fu:Nat) (x0:aA) (x1:ac) (x2:ac) (x3:List UInt8):((iA fu).2 x0 x1 x2 x3).1=co fu x0 x1 x2 x3:=rfl
theorem kM (fu:Nat) (x0:aA) (x1:ac) (x2:ac) (x3:List UInt8):co (fu+1) x0 x1 x2 x3=((oj (iA fu)).2 x0 x1 x2 x3).1:=rfl
theorem fW (fu:Nat) (x0:aA) (x1:ac) (x2:ac) (x3:List UInt8):∀ r,co fu x0 x1 x2 x3=some r->cQ Tryz.prog 74 (.own (.pt [.sh,.sh,.sh,.sh,.sh,.sh,.sh,.sh,.sl 48 (List.replicate 2 .sh)]) (.ptr (aF x0))::List.map SV.d ([.agg (ab x1),.agg (ab x2),.str x3]:List DV)) (.tup []) (.own (.pt [.sh,.sh,.sh,.sh,.sh,.sh,.sh,.sh,.sl 48 (List.replicate 2 .sh)]) (.ptr (aF r.2))::List.map SV.d ([.agg (ab x1),.agg (ab x2),.str x3]:List DV)):=((iA fu).2 x0 x1 x2 x3).2
def jd:SC:=
 (.seq (.reg [.r 14 (.bin .lss (.t 13) (.c (.d (.int .i64 2))))])
 (.seq (.cond (.t 14)
  .skip
  (.exit 0))
 (.seq (.block 1 (.seq (.reg [.r 15 (.vidxA 2 4 (.t 12) (.t 13)),
    .w 7 (.boxM (.c (.agg [.d (.str []),.d (.str []),.nils,.nils]))),
    .w 0 (.st 4 (.t 7) (.t 15))])
  (.seq (.reg [.o 16 (.ldA 4 (.t 7)),
    .c 17 (.f 24) [.t 16],
    .r 8 (.mv (.t 17))])
  (.seq (.reg [.r 18 (.mv (.t 8)),
    .r 19 (.bin .neq (.t 18) (.c (.d (.int .i64 0))))])
  (.cond (.t 19)
   (.seq (.reg [.r 20 (.mv (.t 8)),
     .r 4 (.mv (.c (.nils))),
     .r 5 (.mv (.t 20))])
   .ret)
   .skip)))))
 (.reg [.r 21 (.bin .add (.t 13) (.c (.d (.int .i64 1)))),
   .r 13 (.mv (.t 21))]))))
def nh:SC:= .block 0 (.loop jd)
def p_:SC:=
 (.seq (.reg [.r 2 (.boxI (.t 0)),
   .r 3 (.boxI (.t 1)),
   .r 4 (.mv (.c (.nils))),
   .r 5 (.mv (.c (.d (.int .i64 0))))])
 (.seq (.seq (.reg [.o 10 (.ldA 4 (.t 2)),
   .o 11 (.ldA 4 (.t 3)),
   .r 12 (.build [.d (.str []),.d (.str []),.nils,.nils,.d (.str []),.d (.str []),.nils,.nils] [(0,4,.t 10),(4,4,.t 11)]),
   .r 13 (.mv (.c (.d (.int .i64 0))))])
 nh)
 (.seq (.seq (.reg [.r 22 (.fld 0 (.t 2)),
   .o 23 (.ld1 (.t 22)),
   .r 24 (.fld 0 (.t 3)),
   .o 25 (.ld1 (.t 24)),
   .r 26 (.bin .neq (.t 23) (.t 25))])
 (.cond (.t 26)
  (.seq (.reg [.r 4 (.mv (.c (.nils))),
    .r 5 (.mv (.c (.d (.int .i64 6))))])
  .ret)
  .skip))
 (.seq (.reg [.o 27 (.ldA 4 (.t 2)),
   .o 28 (.ldA 4 (.t 3)),
   .r 29 (.build [.d (.str []),.d (.str []),.nils,.nils,.d (.str []),.d (.str []),.nils,.nils,.nils] [(0,4,.t 27),(4,4,.t 28)]),
   .w 30 (.boxM (.t 29)),
   .r 9 (.mv (.t 30))])
 (.seq (.reg [.r 31 (.mv (.t 9)),
   .r 32 (.fld 3 (.t 2)),
   .o 33 (.ld1 (.t 32)),
   .r 34 (.fld 3 (.t 3)),
   .o 35 (.ld1 (.t 34)),
   .p (some 36) (.f 32) [.t 31,.t 33,.t 35,.c (.d (.str []))]])
 (.seq (.reg [.r 37 (.mv (.t 9)),
   .r 38 (.nilc (.t 37)),
   .r 39 (.fld 8 (.t 38)),
   .o 40 (.ld1 (.t 39)),
   .r 4 (.mv (.t 40)),
   .r 5 (.mv (.c (.d (.int .i64 0))))])
 .ret))))))
theorem vf:fits Tryz.prog 11 Tryz.f11 p_ [.t 4,.t 5] 2=true:=oK
set_option maxRecDepth 100000 in
set_option maxHeartbeats 40000000 in
noncomputable def ul:(∀ (x0:ae) (x1:ae),{m:Option ((List bh)×Int)//∀ r,m=some r->aa Tryz.prog 11 [.agg (ai x0),.agg (ai x1)] (.tup [.slice (List.map aE r.1),.int .i64 r.2])}):=by
 (intro x0 x1;apply Subtype.mk;intro r hm;apply ag Tryz.func11 vf;unfold p_)
 repeat'(first|((with_reducible apply Af (id:=30) (cid:=1968) (off:=8) (n:=2) (e:=48));(focus(simp only[push_cast,seval];(try rfl);done));(focus(simp only[push_cast,seval];(try rfl);done));(focus decide);(focus rfl);(focus(intro _;rfl));(focus(simp only[push_cast,seval];(try rfl);done)))|((with_reducible apply KB (id:=30) (cid:=1968) (off:=8) (n:=2) (e:=48));(focus(simp only[push_cast,seval];(try rfl);done));(focus(simp only[push_cast,seval];(try rfl);done));(focus decide);(focus(simp only[push_cast,seval];(try rfl);done)))|with_reducible refine bF ?_|with_reducible refine bu ?_|with_reducible refine bo ?_|with_reducible refine bl ?_|with_reducible refine bE ?_|with_reducible refine cg ?_|with_reducible refine bw ?_|with_reducible refine bG ?_|with_reducible refine cj ?_|with_reducible refine bA ?_|with_reducible refine br ?_|with_reducible refine bv ?_|with_reducible refine cF ?_|((with_reducible apply I4 hm (row:=ai) (l:=[_,_]));(simp only[push_cast,seval];rfl);(iterate 2 rfl);(intro _;rfl);(simp only[push_cast,seval];rfl);intro e hm)|((with_reducible apply iE);(simp only[push_cast,seval];rfl);(first|exact trivial))|((with_reducible apply ee hm);(simp only[push_cast,seval];rfl);(first|apply rq _);(any_goals((repeat'(first|rfl));done));intro x hm)|((with_reducible apply uU);(simp only[push_cast,seval];rfl);(first|exact trivial))|((with_reducible apply aM hm);(simp only[push_cast,seval];rfl);intro hm;rotate_left;intro hm)|((with_reducible apply iF hm);(focus(simp only[bk,cn,RV.get,push_cast,seval];rfl));(focus(first|(dsimp only;done)));(focus((repeat'(first|rfl|(with_reducible first|apply vn|apply dh|apply dm|apply di)));done)))|((with_reducible apply bH hm);intro r hm)|((with_reducible apply cb hm);intro r hm)|((apply aH (b:=0) (X:=nh) (x:=jd) rfl (fun(c:SV×SV×SV) (s:Int)=>st [(2,c.1),(3,c.2.1),(12,c.2.2),(13,.d (.int .i64 s))] []) (c:=(_,_,_)) (s0:=_) hm);(focus(first|(dsimp only;done)));(with_reducible refine cA.mk ?_ ?_))|((apply bB (s':=_) hm);(focus(first|(dsimp only;done))))|((apply ct (s':=_) hm);(focus(first|(dsimp only;done))))|(((with_reducible apply ew hm);intro r hm))|(((with_reducible apply GB hm (id:=30) (ms:=[.sh,.sh,.sh,.sh,.sh,.sh,.sh,.sh,.sl 48 (List.replicate 2 .sh)]));(focus((try((apply f0.trans);(focus((apply lT (id:=30) (cid:=1968) (off:=8) (n:=2) (e:=48) (row:=aE));(focus(simp only[push_cast,seval];(try rfl);done));(focus(simp only[push_cast,seval];(try rfl);done));(focus decide);(focus(simp only[push_cast,seval];(try rfl);done));(focus((repeat'(first|(with_reducible first|apply BH)));done));(focus(intro _;rfl));(focus(simp only[push_cast,seval];(try rfl);done))))));exact f0.refl _));(focus(simp only[push_cast,seval];(try rfl);done));(focus(simp only[push_cast,seval];(try rfl);done));(focus(simp only[push_cast,seval];(try rfl);done));(focus((repeat'(first|(with_reducible first|apply fC|apply dL)|((with_reducible apply aZ);(focus(first|rfl));(focus((repeat'(first|rfl));done)))|((with_reducible apply uO);(focus rfl);(focus((repeat'(first|(with_reducible first|apply dh|apply di)));done)))));done));(focus rfl);(first|apply dc FU _ _ _ _);(any_goals(focus((repeat'(first|rfl));done)));(focus(intro _;exact⟨rfl,rfl,rfl⟩));intro y hm))|(((with_reducible apply dw.of);(focus(first|(dsimp only;done)));(focus((intro _;repeat'(first|with_reducible exact bg|with_reducible refine aR ?_))));(intro s o hm;first|unfold jd);rotate_left;intro s hm))|(((apply bI;(repeat'(first|with_reducible exact aT|with_reducible exact aU|with_reducible apply aJ|((with_reducible apply aZ);(focus(first|(simp only[push_cast,seval];rfl)));(focus((repeat'(first|rfl));done)))));done))))
noncomputable def mP (x0:ae) (x1:ae):Option ((List bh)×Int):=(ul x0 x1).1
theorem um (x0:ae) (x1:ae):∀ r,mP x0 x1=some r->aa Tryz.prog 11 [.agg (ai x0),.agg (ai x1)] (.tup [.slice (List.map aE r.1),.int .i64 r.2]):=(ul x0 x1).2
def kq:SC:=
 (.seq (.reg [.r 1 (.boxI (.t 0)),
   .r 2 (.mv (.c (.d (.str []))))])
 (.seq (.seq (.reg [.r 3 (.fld 1 (.t 1)),
   .o 4 (.ld1 (.t 3)),
   .r 5 (.bin .neq (.t 4) (.c (.d (.str []))))])
 (.cond (.t 5)
  (.seq (.reg [.r 6 (.fld 1 (.t 1)),
    .o 7 (.ld1 (.t 6)),
    .r 2 (.mv (.t 7))])
  .ret)
  .skip))
 (.seq (.reg [.r 8 (.fld 0 (.t 1)),
   .o 9 (.ld1 (.t 8)),
   .r 2 (.mv (.t 9))])
 .ret)))
theorem p8:fits Tryz.prog 80 Tryz.f80 kq [.t 2] 1=true:=oK
def c9:SC:=
 (.seq (.seq (.reg [.r 52 (.mv (.t 7)),
   .r 53 (.fld 4 (.t 3)),
   .o 54 (.ld1 (.t 53)),
   .r 55 (.len (.t 54)),
   .r 56 (.bin .lss (.t 52) (.t 55))])
 (.cond (.t 56)
  .skip
  (.exit 2)))
 (.seq (.block 3 (.regD (.r 59 (.mv (.t 6)):: .r 60 (.mv (.t 59))::aI [61,62,63,64,65,66,67,68,69,70,71] 60 false (.r 61 (.fld 4 (.t 2)):: .r 62 (.ld1 (.t 61)):: .r 63 (.mv (.t 5)):: .r 64 (.idx 1 (.t 62) (.t 63)):: .r 65 (.ld1 (.t 64)):: .r 66 (.fld 4 (.t 3)):: .r 67 (.ld1 (.t 66)):: .r 68 (.mv (.t 7)):: .r 69 (.idx 1 (.t 67) (.t 68)):: .r 70 (.ld1 (.t 69)):: .r 71 (.bin .eql (.t 65) (.t 70))::[]) (.r 72 (.pick (.t 60) (.c (.d (.bool true))) (.t 71)):: .r 6 (.mv (.t 72))::[]))))
 (.reg [.r 57 (.mv (.t 7)),
   .r 58 (.bin .add (.t 57) (.c (.d (.int .i64 1)))),
   .r 7 (.mv (.t 58))])))
def fP:SC:= .block 2 (.loop c9)
def c_:SC:=
 (.seq (.seq (.reg [.r 45 (.mv (.t 5)),
   .r 46 (.fld 4 (.t 2)),
   .o 47 (.ld1 (.t 46)),
   .r 48 (.len (.t 47)),
   .r 49 (.bin .lss (.t 45) (.t 48))])
 (.cond (.t 49)
  .skip
  (.exit 0)))
 (.seq (.block 1 (.seq (.reg [.r 6 (.mv (.c (.d (.bool false))))])
  (.seq (.seq (.reg [.r 7 (.mv (.c (.d (.int .i64 0))))])
  fP)
  (.seq (.reg [.r 73 (.mv (.t 6)),
    .r 74 (.not (.t 73))])
  (.cond (.t 74)
   (.seq (.reg [.r 4 (.mv (.c (.d (.bool false))))])
   .ret)
   .skip)))))
 (.reg [.r 50 (.mv (.t 5)),
   .r 51 (.bin .add (.t 50) (.c (.d (.int .i64 1)))),
   .r 5 (.mv (.t 51))])))
def fQ:SC:= .block 0 (.loop c_)
def gR:SC:=
 (.seq (.reg [.r 2 (.boxI (.t 0)),
   .r 3 (.boxI (.t 1)),
   .r 4 (.mv (.c (.d (.bool false))))])
 (.seq (.seq (.reg (.r 8 (.fld 0 (.t 3)):: .o 9 (.ld1 (.t 8)):: .r 10 (.mv (.t 9))::aI [11,12,13] 10 true (.r 11 (.fld 0 (.t 2)):: .r 12 (.ld1 (.t 11)):: .r 13 (.not (.t 12))::[]) (.r 14 (.pick (.t 10) (.t 13) (.c (.d (.bool false)))):: .r 15 (.mv (.t 14))::aI [16,17,18,19,20,21,22,23,24,25] 15 false (.r 16 (.fld 1 (.t 2)):: .r 17 (.ld1 (.t 16)):: .r 18 (.fld 1 (.t 3)):: .r 19 (.ld1 (.t 18)):: .r 20 (.bin .neq (.t 17) (.t 19)):: .r 21 (.mv (.t 20))::aI [22,23,24] 21 true (.r 22 (.fld 1 (.t 3)):: .r 23 (.ld1 (.t 22)):: .r 24 (.bin .neq (.t 23) (.c (.d (.int .i64 1))))::[]) (.r 25 (.pick (.t 21) (.t 24) (.c (.d (.bool false))))::[])) (.r 26 (.pick (.t 15) (.c (.d (.bool true))) (.t 25)):: .r 27 (.mv (.t 26))::aI [28,29,30,31,32] 27 false (.r 28 (.fld 2 (.t 2)):: .r 29 (.ld1 (.t 28)):: .r 30 (.fld 2 (.t 3)):: .r 31 (.ld1 (.t 30)):: .r 32 (.bin .lss (.t 29) (.t 31))::[]) (.r 33 (.pick (.t 27) (.c (.d (.bool true))) (.t 32)):: .r 34 (.mv (.t 33))::aI [35,36,37,38,39] 34 false (.r 35 (.fld 3 (.t 2)):: .r 36 (.ld1 (.t 35)):: .r 37 (.fld 3 (.t 3)):: .r 38 (.ld1 (.t 37)):: .r 39 (.bin .gtr (.t 36) (.t 38))::[]) (.r 40 (.pick (.t 34) (.c (.d (.bool true))) (.t 39))::[]))))))
 (.cond (.t 40)
  (.seq (.reg [.r 4 (.mv (.c (.d (.bool false))))])
  .ret)
  .skip))
 (.seq (.seq (.reg [.r 41 (.fld 4 (.t 3)),
   .o 42 (.ld1 (.t 41)),
   .r 43 (.len (.t 42)),
   .r 44 (.bin .eql (.t 43) (.c (.d (.int .i64 0))))])
 (.cond (.t 44)
  (.seq (.reg [.r 4 (.mv (.c (.d (.bool true))))])
  .ret)
  .skip))
 (.seq (.seq (.reg [.r 5 (.mv (.c (.d (.int .i64 0))))])
 fQ)
 (.seq (.reg [.r 75 (.fld 4 (.t 2)),
   .o 76 (.ld1 (.t 75)),
   .r 77 (.len (.t 76)),
   .r 78 (.bin .gtr (.t 77) (.c (.d (.int .i64 0)))),
   .r 4 (.mv (.t 78))])
 .ret)))))
theorem mK:fits Tryz.prog 154 Tryz.f154 gR [.t 4] 2=true:=oK
set_option maxRecDepth 100000 in
set_option maxHeartbeats 40000000 in
noncomputable def l6:(∀ (x0:ac),{m:Option ((List UInt8))//∀ r,m=some r->aa Tryz.prog 80 [.agg (ab x0)] (.str r)})×(∀ (x0:ap) (x1:ap),{m:Option (Bool)//∀ r,m=some r->aa Tryz.prog 154 [.agg (aW x0),.agg (aW x1)] (.bool r)}):=by
 refine⟨?g0, ?g1⟩
 case' g0=>(intro x0;apply Subtype.mk;intro r hm;apply ag Tryz.func80 p8;unfold kq)
 case' g1=>(intro x0 x1;apply Subtype.mk;intro r hm;apply ag Tryz.func154 mK;unfold gR)
 all_goals(repeat'(first|with_reducible refine bF ?_|with_reducible refine bu ?_|with_reducible refine ou ?_|with_reducible refine bo ?_|with_reducible refine bl ?_|with_reducible refine bE ?_|with_reducible refine cg ?_|with_reducible refine bw ?_|with_reducible refine bG ?_|with_reducible refine cj ?_|with_reducible refine bA ?_|with_reducible refine br ?_|with_reducible refine bv ?_|with_reducible refine cF ?_|((with_reducible apply cu hm);(iterate 2 (simp only[push_cast,seval];rfl));(intro _;rfl);intro e hm)|((with_reducible apply iE);(simp only[push_cast,seval];rfl);(first|exact trivial))|((with_reducible apply ed hm);(simp only[push_cast,seval];rfl);rfl;intro v hm;rotate_left;intro v g hm)|((with_reducible apply np hm);(simp only[push_cast,seval];rfl);rfl;intro v hm;rotate_left;intro v g hm)|((with_reducible apply aM hm);(simp only[push_cast,seval];rfl);intro hm;rotate_left;intro hm)|((with_reducible apply bC hm);(focus(simp only[bk,cn,RV.get,push_cast,seval];rfl));(focus((repeat'(first|rfl));done)))|((with_reducible apply bR hm);(simp only[push_cast,seval];rfl))|((with_reducible apply bH hm);intro r hm)|((with_reducible apply cb hm);intro r hm)|((apply aH (b:=2) (X:=fP) (x:=c9) rfl (fun(c:SV×SV×SV) (s:Bool×Int)=>st [(2,c.1),(3,c.2.1),(5,c.2.2),(6,.d (.bool s.1)),(7,.d (.int .i64 s.2))] []) (c:=(_,_,_)) (s0:=(_,_)) hm);(focus(first|(dsimp only;done)));(with_reducible refine cA.mk ?_ ?_))|((apply aH (b:=0) (X:=fQ) (x:=c_) rfl (fun(c:SV×SV) (s:Int)=>st [(2,c.1),(3,c.2),(5,.d (.int .i64 s))] []) (c:=(_,_)) (s0:=_) hm);(focus(first|(dsimp only;done)));(with_reducible refine cA.mk ?_ ?_))|((apply bB (s':=(_,_)) hm);(focus(first|(dsimp only;done))))|((apply ct (s':=(_,_)) hm);(focus(first|(dsimp only;done))))|((apply bB (s':=_) hm);(focus(first|(dsimp only;done))))|((apply ct (s':=_) hm);(focus(first|(dsimp only;done))))|(((with_reducible apply ew hm);intro r hm))|(((with_reducible apply dw.of);(focus(first|(dsimp only;done)));(focus((intro _;repeat'(first|with_reducible exact bg|with_reducible refine aR ?_|with_reducible refine cr ?_|((with_reducible refine eT ?_);intro _)|((with_reducible refine eU ?_);intro _)))));(intro s o hm;first|unfold c9|unfold c_);rotate_left;intro s hm))|(((apply bI;(repeat'(first|with_reducible exact aT|with_reducible exact aU|with_reducible apply aJ|((with_reducible apply aZ);(focus(first|(simp only[push_cast,seval];rfl)));(focus((repeat'(first|rfl));done)))));done)))))
noncomputable def gK (x0:ac):Option ((List UInt8)):=(l6.1 x0).1
theorem po (x0:ac):∀ r,gK x0=some r->aa Tryz.prog 80 [.agg (ab x0)] (.str r):=(l6.1 x0).2
noncomputable def eo (x0:ap) (x1:ap):Option (Bool):=(l6.2 x0 x1).1
theorem me (x0:ap) (x1:ap):∀ r,eo x0 x1=some r->aa Tryz.prog 154 [.agg (aW x0),.agg (aW x1)] (.bool r):=(l6.2 x0 x1).2
def cC:SC:=
 (.seq (.seq (.reg [.r 29 (.mv (.t 5)),
   .r 30 (.fld 2 (.t 3)),
   .o 31 (.ld1 (.t 30)),
   .r 32 (.len (.t 31)),
   .r 33 (.bin .lss (.t 29) (.t 32))])
 (.cond (.t 33)
  .skip
  (.exit 0)))
 (.seq (.block 1 (.seq (.reg [.r 36 (.mv (.t 5)),
    .r 37 (.fld 2 (.t 2)),
    .o 38 (.ld1 (.t 37)),
    .r 39 (.len (.t 38)),
    .r 40 (.bin .geq (.t 36) (.t 39))])
  (.cond (.t 40)
   (.seq (.reg [.r 41 (.fld 2 (.t 3)),
     .o 42 (.ld1 (.t 41)),
     .r 43 (.mv (.t 5)),
     .r 44 (.idx 5 (.t 42) (.t 43)),
     .r 45 (.fld 0 (.t 44)),
     .o 46 (.ld1 (.t 45))])
   (.cond (.t 46)
    (.seq (.reg [.r 4 (.mv (.c (.d (.bool false))))])
    .ret)
    .skip))
   (.seq (.regD [.r 47 (.fld 2 (.t 2)),
     .r 48 (.ld1 (.t 47)),
     .r 49 (.mv (.t 5)),
     .r 50 (.idx 5 (.t 48) (.t 49)),
     .r 51 (.ldA 5 (.t 50)),
     .r 52 (.fld 2 (.t 3)),
     .r 53 (.ld1 (.t 52)),
     .r 54 (.mv (.t 5)),
     .r 55 (.idx 5 (.t 53) (.t 54)),
     .r 56 (.ldA 5 (.t 55)),
     .c 57 (.f 154) [.t 51,.t 56],
     .r 58 (.not (.t 57))])
   (.cond (.t 58)
    (.seq (.reg [.r 4 (.mv (.c (.d (.bool false))))])
    .ret)
    .skip)))))
 (.reg [.r 34 (.mv (.t 5)),
   .r 35 (.bin .add (.t 34) (.c (.d (.int .i64 1)))),
   .r 5 (.mv (.t 35))])))
def eK:SC:= .block 0 (.loop cC)
def fR:SC:=
 (.seq (.reg [.r 2 (.boxI (.t 0)),
   .r 3 (.boxI (.t 1)),
   .r 4 (.mv (.c (.d (.bool false))))])
 (.seq (.seq (.reg (.r 6 (.fld 0 (.t 3)):: .o 7 (.ld1 (.t 6)):: .r 8 (.mv (.t 7))::aI [9,10,11] 8 true (.r 9 (.fld 0 (.t 2)):: .r 10 (.ld1 (.t 9)):: .r 11 (.not (.t 10))::[]) (.r 12 (.pick (.t 8) (.t 11) (.c (.d (.bool false)))):: .r 13 (.mv (.t 12))::aI [14,15,16,17,18] 13 false (.r 14 (.fld 1 (.t 2)):: .r 15 (.ld1 (.t 14)):: .r 16 (.fld 1 (.t 3)):: .r 17 (.ld1 (.t 16)):: .r 18 (.bin .gtr (.t 15) (.t 17))::[]) (.r 19 (.pick (.t 13) (.c (.d (.bool true))) (.t 18)):: .r 20 (.mv (.t 19))::aI [21,22,23,24,25,26,27] 20 false (.r 21 (.fld 2 (.t 2)):: .r 22 (.ld1 (.t 21)):: .r 23 (.len (.t 22)):: .r 24 (.fld 2 (.t 3)):: .r 25 (.ld1 (.t 24)):: .r 26 (.len (.t 25)):: .r 27 (.bin .gtr (.t 23) (.t 26))::[]) (.r 28 (.pick (.t 20) (.c (.d (.bool true))) (.t 27))::[])))))
 (.cond (.t 28)
  (.seq (.reg [.r 4 (.mv (.c (.d (.bool false))))])
  .ret)
  .skip))
 (.seq (.seq (.reg [.r 5 (.mv (.c (.d (.int .i64 0))))])
 eK)
 (.seq (.reg [.r 4 (.mv (.c (.d (.bool true))))])
 .ret))))
theorem k0:fits Tryz.prog 121 Tryz.f121 fR [.t 4] 2=true:=oK
set_option maxRecDepth 100000 in
set_option maxHeartbeats 40000000 in
noncomputable def ub:(∀ (x0:aD) (x1:aD),{m:Option (Bool)//∀ r,m=some r->aa Tryz.prog 121 [.agg (bf x0),.agg (bf x1)] (.bool r)}):=by
 (intro x0 x1;apply Subtype.mk;intro r hm;apply ag Tryz.func121 k0;unfold fR)
 repeat'(first|with_reducible refine bF ?_|with_reducible refine bu ?_|with_reducible refine ou ?_|with_reducible refine bo ?_|with_reducible refine bl ?_|with_reducible refine bE ?_|with_reducible refine cg ?_|with_reducible refine bw ?_|with_reducible refine bG ?_|with_reducible refine cj ?_|with_reducible refine bA ?_|with_reducible refine br ?_|with_reducible refine bv ?_|with_reducible refine cF ?_|((with_reducible apply cu hm);(iterate 2 (simp only[push_cast,seval];rfl));(intro _;rfl);intro e hm)|((with_reducible apply iE);(simp only[push_cast,seval];rfl);(first|exact trivial))|((with_reducible apply ed hm);(simp only[push_cast,seval];rfl);rfl;intro v hm;rotate_left;intro v g hm)|((with_reducible apply np hm);(simp only[push_cast,seval];rfl);rfl;intro v hm;rotate_left;intro v g hm)|((with_reducible apply ee hm);(simp only[push_cast,seval];rfl);(first|apply me _ _);(any_goals((repeat'(first|rfl));done));intro x hm)|((with_reducible apply aM hm);(simp only[push_cast,seval];rfl);intro hm;rotate_left;intro hm)|((with_reducible apply bC hm);(focus(simp only[bk,cn,RV.get,push_cast,seval];rfl));(focus((repeat'(first|rfl));done)))|((with_reducible apply bR hm);(simp only[push_cast,seval];rfl))|((with_reducible apply bH hm);intro r hm)|((with_reducible apply cb hm);intro r hm)|((apply aH (b:=0) (X:=eK) (x:=cC) rfl (fun(c:SV×SV) (s:Int)=>st [(2,c.1),(3,c.2),(5,.d (.int .i64 s))] []) (c:=(_,_)) (s0:=_) hm);(focus(first|(dsimp only;done)));(with_reducible refine cA.mk ?_ ?_))|((apply bB (s':=_) hm);(focus(first|(dsimp only;done))))|((apply ct (s':=_) hm);(focus(first|(dsimp only;done))))|(((with_reducible apply ew hm);intro r hm))|(((with_reducible apply dw.of);(focus(first|(dsimp only;done)));(focus((intro _;repeat'(first|with_reducible exact bg|with_reducible refine aR ?_))));(intro s o hm;first|unfold cC);rotate_left;intro s hm))|(((apply bI;(repeat'(first|with_reducible exact aT|with_reducible exact aU|with_reducible apply aJ|((with_reducible apply aZ);(focus(first|(simp only[push_cast,seval];rfl)));(focus((repeat'(first|rfl));done)))));done))))
noncomputable def dr (x0:aD) (x1:aD):Option (Bool):=(ub x0 x1).1
theorem kH (x0:aD) (x1:aD):∀ r,dr x0 x1=some r->aa Tryz.prog 121 [.agg (bf x0),.agg (bf x1)] (.bool r):=(ub x0 x1).2
def dt:SC:=
 (.seq (.seq (.reg [.r 13 (.mv (.t 5)),
   .r 14 (.fld 1 (.t 3)),
   .o 15 (.ld1 (.t 14)),
   .r 16 (.len (.t 15)),
   .r 17 (.bin .lss (.t 13) (.t 16))])
 (.cond (.t 17)
  .skip
  (.exit 0)))
 (.seq (.block 1 (.seq (.reg [.r 20 (.mv (.t 5)),
    .r 21 (.fld 1 (.t 2)),
    .o 22 (.ld1 (.t 21)),
    .r 23 (.len (.t 22)),
    .r 24 (.bin .geq (.t 20) (.t 23))])
  (.cond (.t 24)
   (.seq (.reg [.r 25 (.fld 1 (.t 3)),
     .o 26 (.ld1 (.t 25)),
     .r 27 (.mv (.t 5)),
     .r 28 (.idx 3 (.t 26) (.t 27)),
     .r 29 (.fld 0 (.t 28)),
     .o 30 (.ld1 (.t 29))])
   (.cond (.t 30)
    (.seq (.reg [.r 4 (.mv (.c (.d (.bool false))))])
    .ret)
    .skip))
   (.seq (.regD [.r 31 (.fld 1 (.t 2)),
     .r 32 (.ld1 (.t 31)),
     .r 33 (.mv (.t 5)),
     .r 34 (.idx 3 (.t 32) (.t 33)),
     .r 35 (.ldA 3 (.t 34)),
     .r 36 (.fld 1 (.t 3)),
     .r 37 (.ld1 (.t 36)),
     .r 38 (.mv (.t 5)),
     .r 39 (.idx 3 (.t 37) (.t 38)),
     .r 40 (.ldA 3 (.t 39)),
     .c 41 (.f 121) [.t 35,.t 40],
     .r 42 (.not (.t 41))])
   (.cond (.t 42)
    (.seq (.reg [.r 4 (.mv (.c (.d (.bool false))))])
    .ret)
    .skip)))))
 (.reg [.r 18 (.mv (.t 5)),
   .r 19 (.bin .add (.t 18) (.c (.d (.int .i64 1)))),
   .r 5 (.mv (.t 19))])))
def f9:SC:= .block 0 (.loop dt)
def ic:SC:=
 (.seq (.reg [.r 2 (.boxI (.t 0)),
   .r 3 (.boxI (.t 1)),
   .r 4 (.mv (.c (.d (.bool false))))])
 (.seq (.seq (.reg [.r 6 (.fld 1 (.t 2)),
   .o 7 (.ld1 (.t 6)),
   .r 8 (.len (.t 7)),
   .r 9 (.fld 1 (.t 3)),
   .o 10 (.ld1 (.t 9)),
   .r 11 (.len (.t 10)),
   .r 12 (.bin .gtr (.t 8) (.t 11))])
 (.cond (.t 12)
  (.seq (.reg [.r 4 (.mv (.c (.d (.bool false))))])
  .ret)
  .skip))
 (.seq (.seq (.reg [.r 5 (.mv (.c (.d (.int .i64 0))))])
 f9)
 (.seq (.reg [.r 4 (.mv (.c (.d (.bool true))))])
 .ret))))
theorem m9:fits Tryz.prog 81 Tryz.f81 ic [.t 4] 2=true:=oK
set_option maxRecDepth 100000 in
set_option maxHeartbeats 40000000 in
noncomputable def uc:(∀ (x0:ak) (x1:ak),{m:Option (Bool)//∀ r,m=some r->aa Tryz.prog 81 [.agg (am x0),.agg (am x1)] (.bool r)}):=by
 (intro x0 x1;apply Subtype.mk;intro r hm;apply ag Tryz.func81 m9;unfold ic)
 repeat'(first|with_reducible refine bF ?_|with_reducible refine bu ?_|with_reducible refine ou ?_|with_reducible refine bo ?_|with_reducible refine bl ?_|with_reducible refine bE ?_|with_reducible refine cg ?_|with_reducible refine bw ?_|with_reducible refine bG ?_|with_reducible refine cj ?_|with_reducible refine bA ?_|with_reducible refine br ?_|with_reducible refine bv ?_|with_reducible refine cF ?_|((with_reducible apply cu hm);(iterate 2 (simp only[push_cast,seval];rfl));(intro _;rfl);intro e hm)|((with_reducible apply iE);(simp only[push_cast,seval];rfl);(first|exact trivial))|((with_reducible apply ee hm);(simp only[push_cast,seval];rfl);(first|apply kH _ _);(any_goals((repeat'(first|rfl));done));intro x hm)|((with_reducible apply aM hm);(simp only[push_cast,seval];rfl);intro hm;rotate_left;intro hm)|((with_reducible apply bC hm);(focus(simp only[bk,cn,RV.get,push_cast,seval];rfl));(focus((repeat'(first|rfl));done)))|((with_reducible apply bH hm);intro r hm)|((with_reducible apply cb hm);intro r hm)|((apply aH (b:=0) (X:=f9) (x:=dt) rfl (fun(c:SV×SV) (s:Int)=>st [(2,c.1),(3,c.2),(5,.d (.int .i64 s))] []) (c:=(_,_)) (s0:=_) hm);(focus(first|(dsimp only;done)));(with_reducible refine cA.mk ?_ ?_))|((apply bB (s':=_) hm);(focus(first|(dsimp only;done))))|((apply ct (s':=_) hm);(focus(first|(dsimp only;done))))|(((with_reducible apply ew hm);intro r hm))|(((with_reducible apply dw.of);(focus(first|(dsimp only;done)));(focus((intro _;repeat'(first|with_reducible exact bg|with_reducible refine aR ?_))));(intro s o hm;first|unfold dt);rotate_left;intro s hm))|(((apply bI;(repeat'(first|with_reducible exact aT|with_reducible exact aU|with_reducible apply aJ|((with_reducible apply aZ);(focus(first|(simp only[push_cast,seval];rfl)));(focus((repeat'(first|rfl));done)))));done))))
noncomputable def cO (x0:ak) (x1:ak):Option (Bool):=(uc x0 x1).1
theorem mL (x0:ak) (x1:ak):∀ r,cO x0 x1=some r->aa Tryz.prog 81 [.agg (am x0),.agg (am x1)] (.bool r):=(uc x0 x1).2
def ix:SC:= .cond (.t 60)
  (.reg [.r 61 (.mv (.t 18)),
   .r 17 (.mv (.t 61))])
  .skip
def eO:SC:=
 (.seq (.seq (.reg [.r 37 (.mv (.t 18)),
   .r 38 (.mv (.t 3)),
   .r 39 (.len (.t 38)),
   .r 40 (.bin .lss (.t 37) (.t 39))])
 (.cond (.t 40)
  .skip
  (.exit 2)))
 (.seq (.block 3 (.seq (.regD (.r 43 (.mv (.t 3)):: .r 44 (.mv (.t 18)):: .r 45 (.idx 5 (.t 43) (.t 44)):: .r 46 (.fld 0 (.t 45)):: .r 47 (.ld1 (.t 46)):: .r 48 (.fld 0 (.t 15)):: .r 49 (.ld1 (.t 48)):: .r 50 (.bin .eql (.t 47) (.t 49)):: .r 51 (.mv (.t 50))::aI [52,53,54,55,56,57,58,59] 51 true (.r 52 (.mv (.t 3)):: .r 53 (.mv (.t 18)):: .r 54 (.idx 5 (.t 52) (.t 53)):: .r 55 (.fld 1 (.t 54)):: .r 56 (.ld1 (.t 55)):: .r 57 (.fld 1 (.t 15)):: .r 58 (.ld1 (.t 57)):: .r 59 (.bin .eql (.t 56) (.t 58))::[]) (.r 60 (.pick (.t 51) (.t 59) (.c (.d (.bool false))))::[])))
  ix))
 (.reg [.r 41 (.mv (.t 18)),
   .r 42 (.bin .add (.t 41) (.c (.d (.int .i64 1)))),
   .r 18 (.mv (.t 42))])))
def iW:SC:= .block 2 (.loop eO)
def eD:SC:= .cond (.t 71)
  (.reg [.r 72 (.mv (.t 11)),
   .r 73 (.mv (.t 16)),
   .r 74 (.build [.d (.str []),.d (.int .i64 0)] [(0,1,.t 73),(1,1,.c (.d (.int .i64 2)))]),
   .r 75 (.bslice 2 [.t 74]),
   .w 76 (.app 48 2 (.t 72) (.t 75)),
   .r 11 (.mv (.t 76))])
  .skip
def iy:SC:= .cond (.t 88)
  (.reg [.r 89 (.mv (.t 11)),
   .r 90 (.mv (.t 16)),
   .r 91 (.build [.d (.str []),.d (.int .i64 0)] [(0,1,.t 90),(1,1,.c (.d (.int .i64 3)))]),
   .r 92 (.bslice 2 [.t 91]),
   .w 93 (.app 48 2 (.t 89) (.t 92)),
   .r 11 (.mv (.t 93))])
  .skip
def ig:SC:= .cond (.t 101)
  (.reg [.r 102 (.mv (.t 11)),
   .r 103 (.mv (.t 16)),
   .r 104 (.build [.d (.str []),.d (.int .i64 0)] [(0,1,.t 103),(1,1,.c (.d (.int .i64 4)))]),
   .r 105 (.bslice 2 [.t 104]),
   .w 106 (.app 48 2 (.t 102) (.t 105)),
   .r 11 (.mv (.t 106))])
  .skip
def eP:SC:=
 (.seq (.seq (.reg [.r 23 (.mv (.t 14)),
   .r 24 (.mv (.t 2)),
   .r 25 (.len (.t 24)),
   .r 26 (.bin .lss (.t 23) (.t 25))])
 (.cond (.t 26)
  .skip
  (.exit 0)))
 (.seq (.block 1 (.seq (.reg [.r 29 (.mv (.t 2)),
    .r 30 (.mv (.t 14)),
    .r 31 (.idx 5 (.t 29) (.t 30)),
    .o 32 (.ldA 5 (.t 31)),
    .w 15 (.boxM (.c (.agg [.d (.str []),.d (.str []),.d (.int .i64 0),.d (.int .i64 0),.nils]))),
    .w 0 (.st 5 (.t 15) (.t 32))])
  (.seq (.reg [.r 33 (.mv (.t 4)),
    .o 34 (.ldA 5 (.t 15)),
    .c 35 (.f 80) [.t 34],
    .r 36 (.bin .add (.t 33) (.t 35)),
    .r 16 (.mv (.t 36))])
  (.seq (.reg [.r 17 (.mv (.c (.d (.int .i64 (-1)))))])
  (.seq (.seq (.reg [.r 18 (.mv (.c (.d (.int .i64 0))))])
  iW)
  (.seq (.seq (.reg [.r 62 (.mv (.t 17)),
    .r 63 (.bin .lss (.t 62) (.c (.d (.int .i64 0))))])
  (.cond (.t 63)
   (.seq (.reg [.r 64 (.mv (.t 11)),
     .r 65 (.mv (.t 16)),
     .r 66 (.build [.d (.str []),.d (.int .i64 0)] [(0,1,.t 65),(1,1,.c (.d (.int .i64 1)))]),
     .r 67 (.bslice 2 [.t 66]),
     .w 68 (.app 48 2 (.t 64) (.t 67)),
     .r 11 (.mv (.t 68))])
   (.exit 1))
   .skip))
  (.seq (.seq (.reg [.r 69 (.mv (.t 17)),
    .r 70 (.mv (.t 13)),
    .r 71 (.bin .leq (.t 69) (.t 70))])
  eD)
  (.seq (.reg [.r 77 (.mv (.t 12)),
    .r 78 (.mv (.t 17)),
    .r 79 (.mv (.t 17)),
    .r 13 (.mv (.t 79)),
    .r 80 (.idx 1 (.t 77) (.t 78)),
    .w 0 (.st 1 (.t 80) (.c (.d (.bool true))))])
  (.seq (.seq (.regD [.r 81 (.fld 2 (.t 15)),
    .r 82 (.ld1 (.t 81)),
    .r 83 (.mv (.t 3)),
    .r 84 (.mv (.t 17)),
    .r 85 (.idx 5 (.t 83) (.t 84)),
    .r 86 (.fld 2 (.t 85)),
    .r 87 (.ld1 (.t 86)),
    .r 88 (.bin .lss (.t 82) (.t 87))])
  iy)
  (.seq (.seq (.regD [.r 94 (.fld 3 (.t 15)),
    .r 95 (.ld1 (.t 94)),
    .r 96 (.mv (.t 3)),
    .r 97 (.mv (.t 17)),
    .r 98 (.idx 5 (.t 96) (.t 97)),
    .r 99 (.fld 3 (.t 98)),
    .r 100 (.ld1 (.t 99)),
    .r 101 (.bin .gtr (.t 95) (.t 100))])
  ig)
  (.seq (.reg [.r 107 (.fld 1 (.t 15)),
    .o 108 (.ld1 (.t 107)),
    .r 109 (.bin .neq (.t 108) (.c (.d (.str []))))])
  (.cond (.t 109)
   (.regE [.r 110 (.mv (.t 11)),
     .r 111 (.ldA 4 (.t 5)),
     .r 112 (.ldA 4 (.t 6)),
     .r 113 (.fld 4 (.t 15)),
     .r 114 (.ld1 (.t 113)),
     .r 115 (.mv (.t 3)),
     .r 116 (.mv (.t 17)),
     .r 117 (.idx 5 (.t 115) (.t 116)),
     .r 118 (.fld 4 (.t 117)),
     .r 119 (.ld1 (.t 118)),
     .r 120 (.mv (.t 16)),
     .r 121 (.bin .add (.t 120) (.c (.d (.str [47])))),
     .c 122 (.f 34) [.t 111,.t 112,.t 114,.t 119,.t 121],
     .x 123 (.app 48 2 (.t 110) (.t 122)) [],
     .r 11 (.mv (.t 123))])
   (.seq (.regD [.r 124 (.fld 2 (.t 5)),
     .r 125 (.ld1 (.t 124)),
     .r 126 (.ldA 4 (.t 5)),
     .r 127 (.fld 0 (.t 15)),
     .r 128 (.ld1 (.t 127)),
     .c 129 (.f 82) [.t 126,.t 128],
     .r 130 (.idx 2 (.t 125) (.t 129)),
     .r 131 (.ldA 2 (.t 130)),
     .r 132 (.fld 2 (.t 6)),
     .r 133 (.ld1 (.t 132)),
     .r 134 (.ldA 4 (.t 6)),
     .r 135 (.fld 0 (.t 15)),
     .r 136 (.ld1 (.t 135)),
     .c 137 (.f 82) [.t 134,.t 136],
     .r 138 (.idx 2 (.t 133) (.t 137)),
     .r 139 (.ldA 2 (.t 138)),
     .c 140 (.f 81) [.t 131,.t 139],
     .r 141 (.not (.t 140))])
   (.cond (.t 141)
    (.reg [.r 142 (.mv (.t 11)),
      .r 143 (.mv (.t 16)),
      .r 144 (.build [.d (.str []),.d (.int .i64 0)] [(0,1,.t 143),(1,1,.c (.d (.int .i64 5)))]),
      .r 145 (.bslice 2 [.t 144]),
      .w 146 (.app 48 2 (.t 142) (.t 145)),
      .r 11 (.mv (.t 146))])
    .skip))))))))))))))
 (.reg [.r 27 (.mv (.t 14)),
   .r 28 (.bin .add (.t 27) (.c (.d (.int .i64 1)))),
   .r 14 (.mv (.t 28))])))
def iX:SC:= .block 0 (.loop eP)
def eQ:SC:=
 (.seq (.seq (.reg [.r 147 (.mv (.t 19)),
   .r 148 (.mv (.t 3)),
   .r 149 (.len (.t 148)),
   .r 150 (.bin .lss (.t 147) (.t 149))])
 (.cond (.t 150)
  .skip
  (.exit 4)))
 (.seq (.block 5 (.seq (.reg (.r 153 (.mv (.t 12)):: .r 154 (.mv (.t 19)):: .r 155 (.idx 1 (.t 153) (.t 154)):: .o 156 (.ld1 (.t 155)):: .r 157 (.not (.t 156)):: .r 158 (.mv (.t 157))::aI [159,160,161,162,163,164] 158 true (.r 159 (.mv (.t 3)):: .r 160 (.mv (.t 19)):: .r 161 (.idx 5 (.t 159) (.t 160)):: .r 162 (.fld 2 (.t 161)):: .r 163 (.ld1 (.t 162)):: .r 164 (.bin .gtr (.t 163) (.c (.d (.int .i64 0))))::[]) (.r 165 (.pick (.t 158) (.t 164) (.c (.d (.bool false))))::[])))
  (.cond (.t 165)
   (.reg [.r 166 (.mv (.t 11)),
     .r 167 (.mv (.t 4)),
     .r 168 (.mv (.t 3)),
     .r 169 (.mv (.t 19)),
     .r 170 (.idx 5 (.t 168) (.t 169)),
     .o 171 (.ldA 5 (.t 170)),
     .c 172 (.f 80) [.t 171],
     .r 173 (.bin .add (.t 167) (.t 172)),
     .r 174 (.build [.d (.str []),.d (.int .i64 0)] [(0,1,.t 173),(1,1,.c (.d (.int .i64 3)))]),
     .r 175 (.bslice 2 [.t 174]),
     .w 176 (.app 48 2 (.t 166) (.t 175)),
     .r 11 (.mv (.t 176))])
   .skip)))
 (.reg [.r 151 (.mv (.t 19)),
   .r 152 (.bin .add (.t 151) (.c (.d (.int .i64 1)))),
   .r 19 (.mv (.t 152))])))
def iY:SC:= .block 4 (.loop eQ)
def kr:SC:=
 (.seq (.reg [.r 5 (.boxI (.t 0)),
   .r 6 (.boxI (.t 1)),
   .r 10 (.mv (.c (.nils)))])
 (.seq (.reg [.r 11 (.mv (.c (.nils)))])
 (.seq (.reg [.r 20 (.mv (.t 3)),
   .r 21 (.len (.t 20)),
   .w 22 (.mkS 4 1 (.d (.bool false)) (.t 21) (.t 21)),
   .r 12 (.mv (.t 22))])
 (.seq (.reg [.r 13 (.mv (.c (.d (.int .i64 (-1)))))])
 (.seq (.seq (.reg [.r 14 (.mv (.c (.d (.int .i64 0))))])
 iX)
 (.seq (.seq (.reg [.r 19 (.mv (.c (.d (.int .i64 0))))])
 iY)
 (.seq (.reg [.r 177 (.mv (.t 11)),
   .r 10 (.mv (.t 177))])
 .ret)))))))
theorem p9:fits Tryz.prog 34 Tryz.f34 kr [.t 10] 5=true:=oK
set_option maxRecDepth 100000 in
set_option maxHeartbeats 40000000 in
noncomputable def ud:((∀ (x0:ae) (x1:ae) (x2:List ac) (x3:List ac) (x4:List UInt8),{m:Option ((List bh))//∀ r,m=some r->aa Tryz.prog 34 [.agg (ai x0),.agg (ai x1),.slice (List.map ab x2),.slice (List.map ab x3),.str x4] (.slice (List.map aE r))}))->((∀ (x0:ae) (x1:ae) (x2:List ac) (x3:List ac) (x4:List UInt8),{m:Option ((List bh))//∀ r,m=some r->aa Tryz.prog 34 [.agg (ai x0),.agg (ai x1),.slice (List.map ab x2),.slice (List.map ab x3),.str x4] (.slice (List.map aE r))})):=by
 intro ih
 have fm:∀ (x0:ae) (x1:ae) (x2:List ac) (x3:List ac) (x4:List UInt8),∀ r,(ih x0 x1 x2 x3 x4).1=some r->aa Tryz.prog 34 [.agg (ai x0),.agg (ai x1),.slice (List.map ab x2),.slice (List.map ab x3),.str x4] (.slice (List.map aE r)):=fun x0 x1 x2 x3 x4=>(ih x0 x1 x2 x3 x4).2
 (intro x0 x1 x2 x3 x4;apply Subtype.mk;intro r hm;apply ag Tryz.func34 p9;unfold kr)
 repeat'(first|with_reducible refine bF ?_|with_reducible refine bu ?_|with_reducible refine ou ?_|with_reducible refine xB ?_|with_reducible refine bo ?_|with_reducible refine bl ?_|with_reducible refine bE ?_|with_reducible refine cg ?_|with_reducible refine bw ?_|with_reducible refine bG ?_|with_reducible refine cj ?_|with_reducible refine br ?_|with_reducible refine nW ?_|with_reducible refine cF ?_|((with_reducible apply cu hm);(iterate 2 (simp only[push_cast,seval];rfl));(intro _;rfl);intro e hm)|((with_reducible apply Fu hm);(iterate 3 (simp only[push_cast,seval];rfl));intro e hm)|((with_reducible apply iE);(simp only[push_cast,seval];rfl);(first|exact trivial))|((with_reducible apply Fv hm);(iterate 2 (simp only[push_cast,seval];rfl));(intro _;rfl);intro e hm)|((with_reducible apply Cz hm);(iterate 2 (simp only[push_cast,seval];rfl));intro hm)|((with_reducible apply ed hm);(simp only[push_cast,seval];rfl);rfl;intro v hm;rotate_left;intro v g hm)|((with_reducible apply ee hm);(simp only[push_cast,seval];rfl);(first|apply po _|apply fm _ _ _ _ _|apply jY _ _|apply mL _ _);(any_goals((repeat'(first|rfl|(with_reducible first|apply et|apply na|apply dm)));done));intro x hm)|((with_reducible apply uU);(simp only[push_cast,seval];rfl);(first|exact trivial))|((with_reducible apply vO hm);(iterate 4 (simp only[push_cast,seval];rfl));(focus((repeat'(first|rfl|(with_reducible first|apply vq|apply dh|apply di|apply gi)));done));decide;(intro _;rfl);intro hm)|((with_reducible apply JP hm);(iterate 3 (simp only[push_cast,seval];rfl));rfl;(intro _;rfl);rfl;(focus(intro a;simp only[push_cast,seval];rfl));(focus(intro a;(repeat'(first|rfl));done));intro e hm)|((with_reducible apply Jd hm);(iterate 2 (simp only[push_cast,seval];rfl));(focus((repeat'(first|rfl));done));(simp only[push_cast,seval];rfl);(focus((repeat'(first|rfl));done));(intro _;rfl);(focus((repeat'(first|exact uI));done));intro hm)|((with_reducible apply aM hm);(simp only[push_cast,seval];rfl);intro hm;rotate_left;intro hm)|((with_reducible apply bC hm);(focus(simp only[bk,cn,RV.get,push_cast,seval];rfl));(focus((repeat'(first|rfl));done)))|((with_reducible apply bR hm);(simp only[push_cast,seval];rfl))|((with_reducible apply bH hm);intro r hm)|((apply aH (b:=2) (X:=iW) (x:=eO) rfl (fun(c:SV×SV×SV×SV×SV×Ch×Ch×SV×SV×Ch×SV) (s:Int×Int)=>st [(2,c.1),(3,c.2.1),(4,c.2.2.1),(5,c.2.2.2.1),(6,c.2.2.2.2.1),(11,.vec 11),(12,.vec 22),(13,c.2.2.2.2.2.2.2.1),(14,c.2.2.2.2.2.2.2.2.1),(15,.ref 15 0),(16,c.2.2.2.2.2.2.2.2.2.2),(17,.d (.int .i64 s.1)),(18,.d (.int .i64 s.2))] [(11,c.2.2.2.2.2.1),(22,c.2.2.2.2.2.2.1),(15,c.2.2.2.2.2.2.2.2.2.1)]) (c:=(_,_,_,_,_,_,_,_,_,_,_)) (s0:=(_,_)) hm);(focus(first|(dsimp only;done)));(with_reducible refine cA.mk ?_ ?_))|((apply aH (b:=0) (X:=iX) (x:=eP) rfl (fun(c:SV×SV×SV×SV×SV) (s:(List bh)×(List Bool)×Int×Int)=>st [(2,c.1),(3,c.2.1),(4,c.2.2.1),(5,c.2.2.2.1),(6,c.2.2.2.2),(11,.vec 11),(12,.vec 22),(13,.d (.int .i64 s.2.2.1)),(14,.d (.int .i64 s.2.2.2))] [(11,.vec 48 2 (cm aE s.1)),(22,.vec 4 1 (cm AR s.2.1))]) (c:=(_,_,_,_,_)) (s0:=(_,_,_,_)) hm);(focus(first|(dsimp only;done)));(with_reducible refine cA.mk ?_ ?_);apply f0.trans;(focus(apply nm (slot:=11) (id:=11) (e:=48) (sz:=2);(focus(simp only[push_cast,seval];done)))))|((apply aH (b:=4) (X:=iY) (x:=eQ) rfl (fun(c:SV×SV×Ch) (s:(List bh)×Int)=>st [(3,c.1),(4,c.2.1),(11,.vec 11),(12,.vec 22),(19,.d (.int .i64 s.2))] [(11,.vec 48 2 (cm aE s.1)),(22,c.2.2)]) (c:=(_,_,_)) (s0:=(_,_)) hm);(focus(first|(dsimp only;done)));(with_reducible refine cA.mk ?_ ?_))|(((apply rO (X:=ix) rfl (fun(c:SV×SV×SV×SV×SV×Ch×Ch×SV×SV×Ch×SV×SV) (s:Int)=>st [(2,c.1),(3,c.2.1),(4,c.2.2.1),(5,c.2.2.2.1),(6,c.2.2.2.2.1),(11,.vec 11),(12,.vec 22),(13,c.2.2.2.2.2.2.2.1),(14,c.2.2.2.2.2.2.2.2.1),(15,.ref 15 0),(16,c.2.2.2.2.2.2.2.2.2.2.1),(17,.d (.int .i64 s)),(18,c.2.2.2.2.2.2.2.2.2.2.2)] [(11,c.2.2.2.2.2.1),(22,c.2.2.2.2.2.2.1),(15,c.2.2.2.2.2.2.2.2.2.1)]) (c:=(_,_,_,_,_,_,_,_,_,_,_,_)) hm);(intro o hm);rotate_left;(focus((intro _;repeat'(first|with_reducible exact bg|with_reducible refine aR ?_|with_reducible refine cr ?_|((with_reducible refine eT ?_);intro _)|((with_reducible refine eU ?_);intro _)))));(intro s hm);rotate_left))|(((try((with_reducible apply Le (X:=eD) (slot:=11) (id:=11) (e:=48) (sz:=2) (row:=aE));(focus(simp only[push_cast,seval];done))));(apply rO (X:=eD) rfl (fun(c:SV×SV×SV×SV×SV×Ch×SV×Ch×SV×SV) (s:(List bh))=>st [(2,c.1),(3,c.2.1),(4,c.2.2.1),(5,c.2.2.2.1),(6,c.2.2.2.2.1),(11,.vec 11),(12,.vec 22),(14,c.2.2.2.2.2.2.1),(15,.ref 15 0),(16,c.2.2.2.2.2.2.2.2.1),(17,c.2.2.2.2.2.2.2.2.2)] [(11,.vec 48 2 (cm aE s)),(22,c.2.2.2.2.2.1),(15,c.2.2.2.2.2.2.2.1)]) (c:=(_,_,_,_,_,_,_,_,_,_)) hm);(intro o hm);rotate_left;(focus((intro _;repeat'(first|with_reducible exact bg|with_reducible refine aR ?_|with_reducible refine cr ?_|((with_reducible refine eT ?_);intro _)|((with_reducible refine eU ?_);intro _)))));(intro s hm);rotate_left))|(((apply rO (X:=iy) rfl (fun(c:SV×SV×SV×SV×SV×Ch×SV×SV×Ch×SV×SV) (s:(List bh))=>st [(2,c.1),(3,c.2.1),(4,c.2.2.1),(5,c.2.2.2.1),(6,c.2.2.2.2.1),(11,.vec 11),(12,.vec 22),(13,c.2.2.2.2.2.2.1),(14,c.2.2.2.2.2.2.2.1),(15,.ref 15 0),(16,c.2.2.2.2.2.2.2.2.2.1),(17,c.2.2.2.2.2.2.2.2.2.2)] [(11,.vec 48 2 (cm aE s)),(22,c.2.2.2.2.2.1),(15,c.2.2.2.2.2.2.2.2.1)]) (c:=(_,_,_,_,_,_,_,_,_,_,_)) hm);(intro o hm);rotate_left;(focus((intro _;repeat'(first|with_reducible exact bg|with_reducible refine aR ?_|with_reducible refine cr ?_|((with_reducible refine eT ?_);intro _)|((with_reducible refine eU ?_);intro _)))));(intro s hm);rotate_left))|(((apply rO (X:=ig) rfl (fun(c:SV×SV×SV×SV×SV×Ch×SV×SV×Ch×SV×SV) (s:(List bh))=>st [(2,c.1),(3,c.2.1),(4,c.2.2.1),(5,c.2.2.2.1),(6,c.2.2.2.2.1),(11,.vec 11),(12,.vec 22),(13,c.2.2.2.2.2.2.1),(14,c.2.2.2.2.2.2.2.1),(15,.ref 15 0),(16,c.2.2.2.2.2.2.2.2.2.1),(17,c.2.2.2.2.2.2.2.2.2.2)] [(11,.vec 48 2 (cm aE s)),(22,c.2.2.2.2.2.1),(15,c.2.2.2.2.2.2.2.2.1)]) (c:=(_,_,_,_,_,_,_,_,_,_,_)) hm);(intro o hm);rotate_left;(focus((intro _;repeat'(first|with_reducible exact bg|with_reducible refine aR ?_|with_reducible refine cr ?_|((with_reducible refine eT ?_);intro _)|((with_reducible refine eU ?_);intro _)))));(intro s hm);rotate_left))|(((with_reducible apply HL (row:=AR) (z:=false) hm);(focus(simp only[push_cast,seval];rfl));(focus(simp only[push_cast,seval];rfl));(focus rfl);(focus rfl);intro hm))|((apply bB (s':=(_,_,_,_)) hm);(focus(first|(dsimp only;done))))|((apply ct (s':=(_,_,_,_)) hm);(focus(first|(dsimp only;done))))|((apply bB (s':=(_,_)) hm);(focus(first|(dsimp only;done))))|((apply ct (s':=(_,_)) hm);(focus(first|(dsimp only;done))))|((apply bB (s':=_) hm);(focus(first|(dsimp only;done))))|(((with_reducible apply dw.of);(focus(first|(dsimp only;done)));(focus((intro _;repeat'(first|with_reducible exact bg|with_reducible refine aR ?_|with_reducible refine cr ?_|((with_reducible refine eT ?_);intro _)|((with_reducible refine eU ?_);intro _)))));(intro s o hm;first|unfold eO|unfold eP|unfold eQ);rotate_left;intro s hm))|(((apply bI;(repeat'(first|with_reducible exact aT|with_reducible exact aU|with_reducible apply aJ|with_reducible apply c7|((with_reducible apply aZ);(focus(first|(simp only[push_cast,seval];rfl)));(focus((repeat'(first|rfl));done)))|((with_reducible apply iG);(focus(first|(simp only[push_cast,seval];rfl)));(first|with_reducible exact cT rfl|with_reducible apply ri))|(with_reducible first|apply BH)));done))))
noncomputable def qL (fu:Nat):(∀ (x0:ae) (x1:ae) (x2:List ac) (x3:List ac) (x4:List UInt8),{m:Option ((List bh))//∀ r,m=some r->aa Tryz.prog 34 [.agg (ai x0),.agg (ai x1),.slice (List.map ab x2),.slice (List.map ab x3),.str x4] (.slice (List.map aE r))}):=Nat.rec (fun x0 x1 x2 x3 x4=>⟨none,fun r h=>by cases h⟩) (fun _ ih=>ud ih) fu
noncomputable def er (fu:Nat) (x0:ae) (x1:ae) (x2:List ac) (x3:List ac) (x4:List UInt8):Option ((List bh)):=((qL fu) x0 x1 x2 x3 x4).1
theorem od (fu:Nat) (x0:ae) (x1:ae) (x2:List ac) (x3:List ac) (x4:List UInt8):((qL fu) x0 x1 x2 x3 x4).1=er fu x0 x1 x2 x3 x4:=rfl
theorem og (fu:Nat) (x0:ae) (x1:ae) (x2:List ac) (x3:List ac) (x4:List UInt8):er (fu+1) x0 x1 x2 x3 x4=((ud (qL fu)) x0 x1 x2 x3 x4).1:=rfl
theorem fm (fu:Nat) (x0:ae) (x1:ae) (x2:List ac) (x3:List ac) (x4:List UInt8):∀ r,er fu x0 x1 x2 x3 x4=some r->aa Tryz.prog 34 [.agg (ai x0),.agg (ai x1),.slice (List.map ab x2),.slice (List.map ab x3),.str x4] (.slice (List.map aE r)):=((qL fu) x0 x1 x2 x3 x4).2
def jt:SC:=
 (.seq (.reg [.r 2 (.boxI (.t 0)),
   .r 3 (.boxI (.t 1)),
   .r 4 (.mv (.c (.nils))),
   .r 5 (.mv (.c (.d (.int .i64 0))))])
 (.seq (.seq (.reg [.o 8 (.ldA 4 (.t 2)),
   .c 9 (.f 33) [.t 8],
   .r 6 (.mv (.t 9))])
 (.seq (.reg [.r 10 (.mv (.t 6)),
   .r 11 (.bin .neq (.t 10) (.c (.d (.int .i64 0))))])
 (.cond (.t 11)
  (.seq (.reg [.r 12 (.mv (.t 6)),
    .r 4 (.mv (.c (.nils))),
    .r 5 (.mv (.t 12))])
  .ret)
  .skip)))
 (.seq (.seq (.reg [.o 13 (.ldA 4 (.t 3)),
   .c 14 (.f 33) [.t 13],
   .r 7 (.mv (.t 14))])
 (.seq (.reg [.r 15 (.mv (.t 7)),
   .r 16 (.bin .neq (.t 15) (.c (.d (.int .i64 0))))])
 (.cond (.t 16)
  (.seq (.reg [.r 17 (.mv (.t 7)),
    .r 4 (.mv (.c (.nils))),
    .r 5 (.mv (.t 17))])
  .ret)
  .skip)))
 (.seq (.seq (.reg [.r 18 (.fld 0 (.t 2)),
   .o 19 (.ld1 (.t 18)),
   .r 20 (.fld 0 (.t 3)),
   .o 21 (.ld1 (.t 20)),
   .r 22 (.bin .neq (.t 19) (.t 21))])
 (.cond (.t 22)
  (.seq (.reg [.r 4 (.mv (.c (.nils))),
    .r 5 (.mv (.c (.d (.int .i64 6))))])
  .ret)
  .skip))
 (.seq (.reg [.o 23 (.ldA 4 (.t 2)),
   .o 24 (.ldA 4 (.t 3)),
   .r 25 (.fld 3 (.t 2)),
   .o 26 (.ld1 (.t 25)),
   .r 27 (.fld 3 (.t 3)),
   .o 28 (.ld1 (.t 27)),
   .c 29 (.f 34) [.t 23,.t 24,.t 26,.t 28,.c (.d (.str []))],
   .r 4 (.mv (.t 29)),
   .r 5 (.mv (.c (.d (.int .i64 0))))])
 .ret)))))
theorem oQ:fits Tryz.prog 12 Tryz.f12 jt [.t 4,.t 5] 2=true:=oK
set_option maxRecDepth 100000 in
set_option maxHeartbeats 40000000 in
noncomputable def ue:(∀ (x0:ae) (x1:ae),{m:Option ((List bh)×Int)//∀ r,m=some r->aa Tryz.prog 12 [.agg (ai x0),.agg (ai x1)] (.tup [.slice (List.map aE r.1),.int .i64 r.2])}):=by
 (intro x0 x1;apply Subtype.mk;intro r hm;apply ag Tryz.func12 oQ;unfold jt)
 repeat'(first|with_reducible refine bF ?_|with_reducible refine bu ?_|with_reducible refine bl ?_|with_reducible refine bE ?_|with_reducible refine bw ?_|with_reducible refine bG ?_|with_reducible refine bA ?_|with_reducible refine cF ?_|((with_reducible apply iE);(simp only[push_cast,seval];rfl);(first|exact trivial))|((with_reducible apply ee hm);(simp only[push_cast,seval];rfl);(first|apply mI _|apply fm FU _ _ _ _ _);(any_goals((repeat'(first|rfl));done));intro x hm)|((with_reducible apply aM hm);(simp only[push_cast,seval];rfl);intro hm;rotate_left;intro hm)|((with_reducible apply iF hm);(focus(simp only[bk,cn,RV.get,push_cast,seval];rfl));(focus(first|(dsimp only;done)));(focus((repeat'(first|rfl|(with_reducible first|apply vn|apply dh|apply dm|apply di)));done))))
noncomputable def fS (x0:ae) (x1:ae):Option ((List bh)×Int):=(ue x0 x1).1
theorem oh (x0:ae) (x1:ae):∀ r,fS x0 x1=some r->aa Tryz.prog 12 [.agg (ai x0),.agg (ai x1)] (.tup [.slice (List.map aE r.1),.int .i64 r.2]):=(ue x0 x1).2
end Go.Proofs.YteaolfcegaidpaaGreatDoor
