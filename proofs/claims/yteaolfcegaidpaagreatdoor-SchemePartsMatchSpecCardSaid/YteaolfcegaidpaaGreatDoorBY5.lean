/-
  Laws on the way to the theorem.
-/
import Derived.Test.YteaolfcegaidpaaGreatDoorBY3
import Derived.Test.YteaolfcegaidpaaGreatDoorBY4
namespace Go.Proofs.YteaolfcegaidpaaGreatDoor
open Go.RowKit
set_option linter.unusedSimpArgs false
set_option linter.unusedVariables false
structure aL where
 fflaws:List ac
 deriving DecidableEq
def bi (x:aL):List DV:=[.slice (List.map ab x.fflaws)]
attribute [push_cast] bi
theorem bK {d0:SV} {v0:List ac} {m0:List cB} (h0:N7 d0 (.own (.sl 36 m0) (.slice (List.map ab v0)))):ba [d0] (iP [.sl 36 m0] (bi ⟨v0⟩)):=by have h:=(ba.cons h0 ba.nil);simp only[push_cast,seval,dR] at h⊢;exact h
def bL (p0:Nat):List SV:=[.vec p0]
attribute [push_cast] bL
def c8:SC:=
 (.seq (.reg [.r 9 (.bin .lss (.t 8) (.t 7))])
 (.seq (.cond (.t 9)
  .skip
  (.exit 0))
 (.seq (.block 1 (.seq (.reg [.r 10 (.mv (.t 8)),
    .r 5 (.mv (.t 10))])
  (.seq (.reg [.r 11 (.mv (.t 1)),
    .r 12 (.mv (.t 0)),
    .r 13 (.mv (.t 5)),
    .r 14 (.idx 1 (.t 12) (.t 13)),
    .o 15 (.ld1 (.t 14)),
    .c 16 (.t 11) [.t 15]])
  (.cond (.t 16)
   (.seq (.reg [.r 17 (.mv (.t 5)),
     .r 4 (.mv (.t 17))])
   .ret)
   .skip))))
 (.reg [.r 18 (.bin .add (.t 8) (.c (.d (.int .i64 1)))),
   .r 8 (.mv (.t 18))]))))
def fc:SC:= .block 0 (.loop c8)
def fK:SC:=
 (.seq (.reg [.r 4 (.mv (.c (.d (.int .i64 0))))])
 (.seq (.seq (.reg [.r 6 (.mv (.t 0)),
   .r 7 (.len (.t 6)),
   .r 8 (.mv (.c (.d (.int .i64 0))))])
 fc)
 (.seq (.reg [.r 4 (.mv (.c (.d (.int .i64 (-1)))))])
 .ret)))
theorem k0:fits Tryz.prog 101 Tryz.f101 fK [.t 4] 2=true:=oK
def k8:SC:=
 (.seq (.reg [.r 9 (.bin .lss (.t 8) (.t 7))])
 (.seq (.cond (.t 9)
  .skip
  (.exit 0))
 (.seq (.block 1 (.seq (.reg [.r 10 (.mv (.t 8)),
    .r 5 (.mv (.t 10))])
  (.seq (.reg [.r 11 (.mv (.t 1)),
    .r 12 (.mv (.t 0)),
    .r 13 (.mv (.t 5)),
    .r 14 (.idx 1 (.t 12) (.t 13)),
    .o 15 (.ld1 (.t 14)),
    .c 16 (.t 11) [.t 15]])
  (.cond (.t 16)
   (.seq (.reg [.r 17 (.mv (.t 5)),
     .r 4 (.mv (.t 17))])
   .ret)
   .skip))))
 (.reg [.r 18 (.bin .add (.t 8) (.c (.d (.int .i64 1)))),
   .r 8 (.mv (.t 18))]))))
def k9:SC:= .block 0 (.loop k8)
def gB:SC:=
 (.seq (.reg [.r 4 (.mv (.c (.d (.int .i64 0))))])
 (.seq (.seq (.reg [.r 6 (.mv (.t 0)),
   .r 7 (.len (.t 6)),
   .r 8 (.mv (.c (.d (.int .i64 0))))])
 k9)
 (.seq (.reg [.r 4 (.mv (.c (.d (.int .i64 (-1)))))])
 .ret)))
theorem l5:fits Tryz.prog 142 Tryz.f142 gB [.t 4] 2=true:=oK
def qb:SC:=
 (.seq (.reg [.r 2 (.mv (.c (.d (.bool false))))])
 (.seq (.reg [.r 3 (.mv (.t 0)),
   .r 4 (.bin .neq (.t 3) (.c (.d (.str [])))),
   .r 2 (.mv (.t 4))])
 .ret))
theorem vI:fits Tryz.prog 103 Tryz.f103 qb [.t 2] 1=true:=oK
def et:SC:=
 (.seq (.reg [.r 9 (.bin .lss (.t 8) (.t 7))])
 (.seq (.cond (.t 9)
  .skip
  (.exit 0))
 (.seq (.block 1 (.seq (.reg [.r 10 (.mv (.t 8)),
    .r 5 (.mv (.t 10))])
  (.seq (.reg [.r 11 (.mv (.t 1)),
    .r 12 (.mv (.t 0)),
    .r 13 (.mv (.t 5)),
    .r 14 (.idx 1 (.t 12) (.t 13)),
    .o 15 (.ld1 (.t 14)),
    .r 16 (.bin .eql (.t 11) (.t 15))])
  (.cond (.t 16)
   (.seq (.reg [.r 17 (.mv (.t 5)),
     .r 4 (.mv (.t 17))])
   .ret)
   .skip))))
 (.reg [.r 18 (.bin .add (.t 8) (.c (.d (.int .i64 1)))),
   .r 8 (.mv (.t 18))]))))
def hZ:SC:= .block 0 (.loop et)
def jl:SC:=
 (.seq (.reg [.r 4 (.mv (.c (.d (.int .i64 0))))])
 (.seq (.seq (.reg [.r 6 (.mv (.t 0)),
   .r 7 (.len (.t 6)),
   .r 8 (.mv (.c (.d (.int .i64 0))))])
 hZ)
 (.seq (.reg [.r 4 (.mv (.c (.d (.int .i64 (-1)))))])
 .ret)))
theorem oG:fits Tryz.prog 181 Tryz.f181 jl [.t 4] 2=true:=oK
def gW:SC:=
 (.seq (.reg [.r 36 (.bin .lss (.t 35) (.t 34))])
 (.seq (.cond (.t 36)
  .skip
  (.exit 0))
 (.seq (.block 1 (.seq (.reg [.r 37 (.idx 1 (.t 33) (.t 35)),
    .o 38 (.ld1 (.t 37)),
    .r 6 (.mv (.t 38))])
  (.seq (.reg [.r 39 (.mv (.t 6)),
    .r 40 (.bin .neq (.t 39) (.c (.d (.int .i64 0))))])
  (.cond (.t 40)
   (.seq (.reg [.r 41 (.mv (.t 6)),
     .r 4 (.mv (.t 41))])
   .ret)
   .skip))))
 (.reg [.r 42 (.bin .add (.t 35) (.c (.d (.int .i64 1)))),
   .r 35 (.mv (.t 42))]))))
def ls:SC:= .block 0 (.loop gW)
def nN:SC:=
 (.seq (.reg [.r 2 (.boxI (.t 0)),
   .r 3 (.boxI (.t 1)),
   .r 4 (.mv (.c (.d (.int .i64 0))))])
 (.seq (.seq (.reg [.r 7 (.fld 2 (.t 2)),
   .r 8 (.fld 0 (.t 7)),
   .o 9 (.ld1 (.t 8)),
   .r 10 (.fld 2 (.t 3)),
   .r 11 (.fld 0 (.t 10)),
   .o 12 (.ld1 (.t 11)),
   .r 13 (.bin .sub (.t 9) (.t 12)),
   .r 14 (.fld 2 (.t 2)),
   .r 15 (.fld 1 (.t 14)),
   .o 16 (.ld1 (.t 15)),
   .r 17 (.fld 2 (.t 3)),
   .r 18 (.fld 1 (.t 17)),
   .o 19 (.ld1 (.t 18)),
   .r 20 (.bin .sub (.t 16) (.t 19)),
   .r 21 (.fld 2 (.t 2)),
   .r 22 (.fld 2 (.t 21)),
   .o 23 (.ld1 (.t 22)),
   .r 24 (.fld 2 (.t 3)),
   .r 25 (.fld 2 (.t 24)),
   .o 26 (.ld1 (.t 25)),
   .r 27 (.bin .sub (.t 23) (.t 26)),
   .r 28 (.fld 0 (.t 2)),
   .o 29 (.ld1 (.t 28)),
   .r 30 (.fld 0 (.t 3)),
   .o 31 (.ld1 (.t 30)),
   .r 32 (.bin .sub (.t 29) (.t 31)),
   .r 33 (.bslice 1 [.t 13,.t 20,.t 27,.t 32]),
   .r 34 (.len (.t 33)),
   .r 35 (.mv (.c (.d (.int .i64 0))))])
 ls)
 (.seq (.reg [.r 4 (.mv (.c (.d (.int .i64 0))))])
 .ret)))
theorem sW:fits Tryz.prog 60 Tryz.f60 nN [.t 4] 2=true:=oK
set_option maxRecDepth 100000 in
set_option maxHeartbeats 40000000 in
noncomputable def cQ:(∀ (x0:List (List (List UInt8))) (f1:FuncId) (c1:List DV) (p1:(List (List UInt8))->Option (Bool)) (h1:∀ a0 r,p1 a0=some r->aa Tryz.prog f1 ([.slice (List.map en a0)]++c1) (.bool r)),{m:Option (Int)//∀ r,m=some r->aa Tryz.prog 101 [.slice (List.map (rz en) x0),.fn f1 c1] (.int .i64 r)})×(∀ (x0:List (List UInt8)) (f1:FuncId) (c1:List DV) (p1:(List UInt8)->Option (Bool)) (h1:∀ a0 r,p1 a0=some r->aa Tryz.prog f1 ([.str a0]++c1) (.bool r)),{m:Option (Int)//∀ r,m=some r->aa Tryz.prog 142 [.slice (List.map en x0),.fn f1 c1] (.int .i64 r)})×(∀ (x0:List UInt8),{m:Option (Bool)//∀ r,m=some r->aa Tryz.prog 103 [.str x0] (.bool r)})×(∀ (x0:List (List UInt8)) (x1:List UInt8),{m:Option (Int)//∀ r,m=some r->aa Tryz.prog 181 [.slice (List.map en x0),.str x1] (.int .i64 r)})×(∀ (x0:ac) (x1:ac),{m:Option (Int)//∀ r,m=some r->aa Tryz.prog 60 [.agg (ab x0),.agg (ab x1)] (.int .i64 r)}):=by
 refine⟨?g0, ?g1, ?g2, ?g3, ?g4⟩
 case' g0=>(intro x0 f1 c1 p1 h1;apply Subtype.mk;intro r hm;apply af Tryz.func101 k0;unfold fK)
 case' g1=>(intro x0 f1 c1 p1 h1;apply Subtype.mk;intro r hm;apply af Tryz.func142 l5;unfold gB)
 case' g2=>(intro x0;apply Subtype.mk;intro r hm;apply af Tryz.func103 vI;unfold qb)
 case' g3=>(intro x0 x1;apply Subtype.mk;intro r hm;apply af Tryz.func181 oG;unfold jl)
 case' g4=>(intro x0 x1;apply Subtype.mk;intro r hm;apply af Tryz.func60 sW;unfold nN)
 all_goals(repeat'(first|with_reducible refine bA ?_|with_reducible refine bt ?_|with_reducible refine bm ?_|with_reducible refine bl ?_|with_reducible refine bR ?_|with_reducible refine cw ?_|with_reducible refine bv ?_|with_reducible refine bB ?_|with_reducible refine cx ?_|with_reducible refine cb ?_|with_reducible refine bq ?_|with_reducible refine cg ?_|with_reducible refine dI ?_|((with_reducible apply dz hm);(iterate 2 (simp only[push_cast,seval];rfl));(intro _;rfl);intro e hm)|((with_reducible apply Lt hm (row:=yp));(iterate 2 (simp only[push_cast,seval];rfl));(focus((repeat'(first|rfl|(with_reducible first|apply cT|apply cU|apply ez)));done));(simp only[push_cast,seval];rfl);(intro _;rfl);intro e hm)|((with_reducible apply im);(simp only[push_cast,seval];rfl);(first|exact trivial))|((with_reducible apply Hd hm);(iterate 2 (simp only[push_cast,seval];rfl));(focus(first|exact h1 _));intro x hm)|((with_reducible apply aO hm);(simp only[push_cast,seval];rfl);intro hm;rotate_left;intro hm)|((with_reducible apply bQ hm);(focus(simp only[bu,dc,RV.get,push_cast,seval];rfl));(focus((repeat'(first|rfl));done)))|((with_reducible apply bE hm);intro r hm)|((with_reducible apply di hm);intro r hm)|((apply az (b:=0) (X:=fc) (x:=c8) rfl (fun(c:SV×SV×SV) (s:Int)=>st [(0,c.1),(1,c.2.1),(7,c.2.2),(8,.d (.int .i64 s))] []) (c:=(_,_,_)) (s0:=_) hm);(focus(first|(dsimp only;done)));(with_reducible refine cN.mk ?_ ?_))|((apply az (b:=0) (X:=hZ) (x:=et) rfl (fun(c:SV×SV×SV) (s:Int)=>st [(0,c.1),(1,c.2.1),(7,c.2.2),(8,.d (.int .i64 s))] []) (c:=(_,_,_)) (s0:=_) hm);(focus(first|(dsimp only;done)));(with_reducible refine cN.mk ?_ ?_))|((apply az (b:=0) (X:=ls) (x:=gW) rfl (fun(c:SV×SV) (s:Int)=>st [(33,c.1),(34,c.2),(35,.d (.int .i64 s))] []) (c:=(_,_)) (s0:=_) hm);(focus(first|(dsimp only;done)));(with_reducible refine cN.mk ?_ ?_))|((apply bG (s':=_) hm);(focus(first|(dsimp only;done))))|((apply cZ (s':=_) hm);(focus(first|(dsimp only;done))))|(((with_reducible apply gq hm);intro r hm))|(((with_reducible apply dC.of);(focus(first|(dsimp only;done)));(focus((intro _;repeat'(first|with_reducible exact bo|with_reducible refine aG ?_))));(intro s o hm;first|unfold c8|unfold et|unfold gW);rotate_left;intro s hm))|(((apply aW;(repeat'(first|with_reducible exact aw|with_reducible exact ax|with_reducible apply ap|((with_reducible apply aP);(focus(first|(simp only[push_cast,seval];rfl)));(focus((repeat'(first|rfl));done)))));done)))))
noncomputable def gj (x0:List (List (List UInt8))) (f1:FuncId) (c1:List DV) (p1:(List (List UInt8))->Option (Bool)) (h1:∀ a0 r,p1 a0=some r->aa Tryz.prog f1 ([.slice (List.map en a0)]++c1) (.bool r)):Option (Int):=(cQ.1 x0 f1 c1 p1 h1).1
theorem kJ (x0:List (List (List UInt8))) (f1:FuncId) (c1:List DV) (p1:(List (List UInt8))->Option (Bool)) (h1:∀ a0 r,p1 a0=some r->aa Tryz.prog f1 ([.slice (List.map en a0)]++c1) (.bool r)):∀ r,gj x0 f1 c1 p1 h1=some r->aa Tryz.prog 101 [.slice (List.map (rz en) x0),.fn f1 c1] (.int .i64 r):=(cQ.1 x0 f1 c1 p1 h1).2
noncomputable def gR (x0:List (List UInt8)) (f1:FuncId) (c1:List DV) (p1:(List UInt8)->Option (Bool)) (h1:∀ a0 r,p1 a0=some r->aa Tryz.prog f1 ([.str a0]++c1) (.bool r)):Option (Int):=(cQ.2.1 x0 f1 c1 p1 h1).1
theorem lH (x0:List (List UInt8)) (f1:FuncId) (c1:List DV) (p1:(List UInt8)->Option (Bool)) (h1:∀ a0 r,p1 a0=some r->aa Tryz.prog f1 ([.str a0]++c1) (.bool r)):∀ r,gR x0 f1 c1 p1 h1=some r->aa Tryz.prog 142 [.slice (List.map en x0),.fn f1 c1] (.int .i64 r):=(cQ.2.1 x0 f1 c1 p1 h1).2
noncomputable def rg (x0:List UInt8):Option (Bool):=(cQ.2.2.1 x0).1
theorem ut (x0:List UInt8):∀ r,rg x0=some r->aa Tryz.prog 103 [.str x0] (.bool r):=(cQ.2.2.1 x0).2
noncomputable def jF (x0:List (List UInt8)) (x1:List UInt8):Option (Int):=(cQ.2.2.2.1 x0 x1).1
theorem n8 (x0:List (List UInt8)) (x1:List UInt8):∀ r,jF x0 x1=some r->aa Tryz.prog 181 [.slice (List.map en x0),.str x1] (.int .i64 r):=(cQ.2.2.2.1 x0 x1).2
noncomputable def dQ (x0:ac) (x1:ac):Option (Int):=(cQ.2.2.2.2 x0 x1).1
theorem su (x0:ac) (x1:ac):∀ r,dQ x0 x1=some r->aa Tryz.prog 60 [.agg (ab x0),.agg (ab x1)] (.int .i64 r):=(cQ.2.2.2.2 x0 x1).2
def h_:SC:=
 (.reg [.r 10 (.mv (.t 0)),
   .r 11 (.mv (.t 0)),
   .r 12 (.nilc (.t 11)),
   .r 13 (.fld 0 (.t 12)),
   .o 14 (.ld1 (.t 13)),
   .r 15 (.mv (.t 1)),
   .r 16 (.mv (.t 2)),
   .r 17 (.mv (.t 3)),
   .r 18 (.mv (.t 4)),
   .r 19 (.build [.d (.int .i64 0),.d (.int .i64 0),.d (.int .i64 0)] [(0,1,.t 16),(1,1,.t 17),(2,1,.t 18)]),
   .r 20 (.build [.d (.int .i64 0),.d (.int .i64 0),.d (.int .i64 0),.d (.int .i64 0),.d (.int .i64 0),.d (.str [])] [(0,1,.t 15),(2,3,.t 19)]),
   .r 21 (.bslice 6 [.t 20]),
   .w 22 (.app 36 6 (.t 14) (.t 21)),
   .r 23 (.nilc (.t 10)),
   .r 24 (.fld 0 (.t 23)),
   .w 0 (.st 1 (.t 24) (.t 22))])
theorem ni:fits Tryz.prog 57 Tryz.f57 h_ [] 5=true:=oK
set_option maxRecDepth 100000 in
set_option maxHeartbeats 40000000 in
noncomputable def tD:(∀ (x0:aL) (x1:Int) (x2:Int) (x3:Int) (x4:Int),{m:Option ((Unit)×aL)//∀ r,m=some r->cF Tryz.prog 57 (.own (.pt [.sl 36 (List.replicate 6 .sh)]) (.ptr (bi x0))::List.map SV.d ([.int .i64 x1,.int .i64 x2,.int .i64 x3,.int .i64 x4]:List DV)) (.tup []) (.own (.pt [.sl 36 (List.replicate 6 .sh)]) (.ptr (bi r.2))::List.map SV.d ([.int .i64 x1,.int .i64 x2,.int .i64 x3,.int .i64 x4]:List DV))}):=by
 (intro x0 x1 x2 x3 x4;apply Subtype.mk;intro r hm;apply je (N:=25) (k:=5) Tryz.func57 ni oK rfl rfl oD;unfold h_)
 repeat'(first|((with_reducible apply uO (id:=0) (cid:=1000) (off:=0) (n:=6) (e:=36));(focus(simp only[push_cast,seval];(try rfl);done));(focus(simp only[push_cast,seval];(try rfl);done));(focus decide);(focus rfl);(focus(intro _;rfl));(focus(simp only[push_cast,seval];(try rfl);done)))|with_reducible refine bt ?_|with_reducible refine bv ?_|with_reducible refine dI ?_|((with_reducible apply im);(simp only[push_cast,seval];rfl);(first|exact trivial))|((with_reducible apply wM);(simp only[push_cast,seval];rfl);(first|exact trivial))|((with_reducible apply xt hm);(iterate 4 (simp only[push_cast,seval];rfl));(focus((repeat'(first|rfl|(with_reducible first|apply yJ|apply tN|apply cT|apply cU|apply ez)));done));decide;(intro _;rfl);intro hm)|(((with_reducible apply AL (a:=()) hm (ms:=[.sl 36 (List.replicate 6 .sh)]));(focus((try((apply dB.trans);(focus((apply ed (id:=0) (cid:=1000) (off:=0) (n:=6) (e:=36) (row:=ab));(focus(simp only[push_cast,seval];(try rfl);done));(focus(simp only[push_cast,seval];(try rfl);done));(focus decide);(focus(simp only[push_cast,seval];(try rfl);done));(focus((repeat'(first|(with_reducible first|apply mP)));done));(focus(intro _;rfl));(focus(simp only[push_cast,seval];(try rfl);done))))));exact dB.refl _));(focus(simp only[push_cast,seval];(try rfl);done));(focus((repeat'(first|(with_reducible first|apply bK)|((with_reducible apply kY);(focus rfl);(focus((repeat'(first|rfl));done)))));done));(focus(intro _;rfl));(focus(simp only[push_cast,seval];(try rfl);done));(focus(simp only[push_cast,seval];(try rfl);done));(focus(simp only[push_cast,seval];(try rfl);done));(focus(simp only[push_cast,seval];(try rfl);done));(focus(first|exact Au)))))
noncomputable def a_ (x0:aL) (x1:Int) (x2:Int) (x3:Int) (x4:Int):Option ((Unit)×aL):=(tD x0 x1 x2 x3 x4).1
theorem aR (x0:aL) (x1:Int) (x2:Int) (x3:Int) (x4:Int):∀ r,a_ x0 x1 x2 x3 x4=some r->cF Tryz.prog 57 (.own (.pt [.sl 36 (List.replicate 6 .sh)]) (.ptr (bi x0))::List.map SV.d ([.int .i64 x1,.int .i64 x2,.int .i64 x3,.int .i64 x4]:List DV)) (.tup []) (.own (.pt [.sl 36 (List.replicate 6 .sh)]) (.ptr (bi r.2))::List.map SV.d ([.int .i64 x1,.int .i64 x2,.int .i64 x3,.int .i64 x4]:List DV)):=(tD x0 x1 x2 x3 x4).2
def aD:SC:=
 (.reg [.o 4 (.ld1 (.t 1)),
   .r 5 (.mv (.t 0)),
   .r 6 (.fld 0 (.t 2)),
   .o 7 (.ld1 (.t 6)),
   .r 8 (.fld 1 (.t 2)),
   .o 9 (.ld1 (.t 8)),
   .r 10 (.fld 2 (.t 2)),
   .o 11 (.ld1 (.t 10)),
   .p (some 12) (.f 57) [.t 4,.t 5,.t 7,.t 9,.t 11]])
def fd:SC:=
 (.seq (.reg [.r 4 (.mv (.c (.d (.bool false))))])
 (.seq (.reg [.r 5 (.mv (.t 0)),
   .r 6 (.mv (.t 1)),
   .c 7 (.f 101) [.t 5,.t 6],
   .r 8 (.bin .geq (.t 7) (.c (.d (.int .i64 0)))),
   .r 4 (.mv (.t 8))])
 .ret))
theorem jT:fits Tryz.prog 54 Tryz.f54 fd [.t 4] 2=true:=oK
def fq:SC:=
 (.seq (.reg [.r 4 (.mv (.c (.d (.bool false))))])
 (.seq (.reg [.r 5 (.mv (.t 0)),
   .r 6 (.mv (.t 1)),
   .c 7 (.f 142) [.t 5,.t 6],
   .r 8 (.bin .geq (.t 7) (.c (.d (.int .i64 0)))),
   .r 4 (.mv (.t 8))])
 .ret))
theorem kK:fits Tryz.prog 102 Tryz.f102 fq [.t 4] 2=true:=oK
def ia:SC:=
 (.seq (.reg [.r 4 (.mv (.c (.d (.bool false))))])
 (.seq (.reg [.r 5 (.mv (.t 0)),
   .r 6 (.mv (.t 1)),
   .c 7 (.f 181) [.t 5,.t 6],
   .r 8 (.bin .geq (.t 7) (.c (.d (.int .i64 0)))),
   .r 4 (.mv (.t 8))])
 .ret))
theorem nj:fits Tryz.prog 165 Tryz.f165 ia [.t 4] 2=true:=oK
set_option maxRecDepth 100000 in
set_option maxHeartbeats 40000000 in
noncomputable def f0:(∀ (x0:List (List (List UInt8))) (f1:FuncId) (c1:List DV) (p1:(List (List UInt8))->Option (Bool)) (h1:∀ a0 r,p1 a0=some r->aa Tryz.prog f1 ([.slice (List.map en a0)]++c1) (.bool r)),{m:Option (Bool)//∀ r,m=some r->aa Tryz.prog 54 [.slice (List.map (rz en) x0),.fn f1 c1] (.bool r)})×(∀ (x0:List (List UInt8)) (f1:FuncId) (c1:List DV) (p1:(List UInt8)->Option (Bool)) (h1:∀ a0 r,p1 a0=some r->aa Tryz.prog f1 ([.str a0]++c1) (.bool r)),{m:Option (Bool)//∀ r,m=some r->aa Tryz.prog 102 [.slice (List.map en x0),.fn f1 c1] (.bool r)})×(∀ (x0:List (List UInt8)) (x1:List UInt8),{m:Option (Bool)//∀ r,m=some r->aa Tryz.prog 165 [.slice (List.map en x0),.str x1] (.bool r)}):=by
 refine⟨?g0, ?g1, ?g2⟩
 case' g0=>(intro x0 f1 c1 p1 h1;apply Subtype.mk;intro r hm;apply af Tryz.func54 jT;unfold fd)
 case' g1=>(intro x0 f1 c1 p1 h1;apply Subtype.mk;intro r hm;apply af Tryz.func102 kK;unfold fq)
 case' g2=>(intro x0 x1;apply Subtype.mk;intro r hm;apply af Tryz.func165 nj;unfold ia)
 all_goals(repeat'(first|with_reducible refine bA ?_|with_reducible refine bt ?_|with_reducible refine bR ?_|with_reducible refine bv ?_|with_reducible refine bB ?_|((with_reducible apply im);(simp only[push_cast,seval];rfl);(first|exact trivial))|((with_reducible apply fg hm);(simp only[push_cast,seval];rfl);(first|apply kJ _ _ _ _ h1|apply lH _ _ _ _ h1|apply n8 _ _);(any_goals((repeat'(first|rfl));done));intro x hm)|((with_reducible apply bQ hm);(focus(simp only[bu,dc,RV.get,push_cast,seval];rfl));(focus((repeat'(first|rfl));done)))))
noncomputable def bD (x0:List (List (List UInt8))) (f1:FuncId) (c1:List DV) (p1:(List (List UInt8))->Option (Bool)) (h1:∀ a0 r,p1 a0=some r->aa Tryz.prog f1 ([.slice (List.map en a0)]++c1) (.bool r)):Option (Bool):=(f0.1 x0 f1 c1 p1 h1).1
theorem jG (x0:List (List (List UInt8))) (f1:FuncId) (c1:List DV) (p1:(List (List UInt8))->Option (Bool)) (h1:∀ a0 r,p1 a0=some r->aa Tryz.prog f1 ([.slice (List.map en a0)]++c1) (.bool r)):∀ r,bD x0 f1 c1 p1 h1=some r->aa Tryz.prog 54 [.slice (List.map (rz en) x0),.fn f1 c1] (.bool r):=(f0.1 x0 f1 c1 p1 h1).2
noncomputable def dG (x0:List (List UInt8)) (f1:FuncId) (c1:List DV) (p1:(List UInt8)->Option (Bool)) (h1:∀ a0 r,p1 a0=some r->aa Tryz.prog f1 ([.str a0]++c1) (.bool r)):Option (Bool):=(f0.2.1 x0 f1 c1 p1 h1).1
theorem ko (x0:List (List UInt8)) (f1:FuncId) (c1:List DV) (p1:(List UInt8)->Option (Bool)) (h1:∀ a0 r,p1 a0=some r->aa Tryz.prog f1 ([.str a0]++c1) (.bool r)):∀ r,dG x0 f1 c1 p1 h1=some r->aa Tryz.prog 102 [.slice (List.map en x0),.fn f1 c1] (.bool r):=(f0.2.1 x0 f1 c1 p1 h1).2
noncomputable def eL (x0:List (List UInt8)) (x1:List UInt8):Option (Bool):=(f0.2.2 x0 x1).1
theorem mE (x0:List (List UInt8)) (x1:List UInt8):∀ r,eL x0 x1=some r->aa Tryz.prog 165 [.slice (List.map en x0),.str x1] (.bool r):=(f0.2.2 x0 x1).2
def sb:SC:=
 (.seq (.reg [.r 2 (.mv (.c (.d (.bool false))))])
 (.seq (.reg [.r 3 (.mv (.t 0)),
   .c 4 (.f 102) [.t 3,.f 103],
   .r 5 (.not (.t 4)),
   .r 2 (.mv (.t 5))])
 .ret))
theorem xG:fits Tryz.prog 56 Tryz.f56 sb [.t 2] 1=true:=oK
set_option maxRecDepth 100000 in
set_option maxHeartbeats 40000000 in
noncomputable def tE:(∀ (x0:List (List UInt8)),{m:Option (Bool)//∀ r,m=some r->aa Tryz.prog 56 [.slice (List.map en x0)] (.bool r)}):=by
 (intro x0;apply Subtype.mk;intro r hm;apply af Tryz.func56 xG;unfold sb)
 repeat'(first|with_reducible refine bA ?_|with_reducible refine bt ?_|with_reducible refine bR ?_|with_reducible refine bv ?_|with_reducible refine bB ?_|((with_reducible apply im);(simp only[push_cast,seval];rfl);(first|exact trivial))|((with_reducible apply MV hm);(simp only[push_cast,seval];rfl);(focus(first|exact ko _ _ _ _ (fun a0 r h=>ut a0 r h)));intro x hm)|((with_reducible apply bQ hm);(focus(simp only[bu,dc,RV.get,push_cast,seval];rfl));(focus((repeat'(first|rfl));done))))
noncomputable def oH (x0:List (List UInt8)):Option (Bool):=(tE x0).1
theorem qc (x0:List (List UInt8)):∀ r,oH x0=some r->aa Tryz.prog 56 [.slice (List.map en x0)] (.bool r):=(tE x0).2
def fL:SC:= .inlC 163 2 1 [.r 14 (.mv (.t 8)),
  .p (some 15) (.t 14) [.c (.d (.int .i64 8))]] 13 aD []
def fM:SC:= .inlC 163 2 1 [.r 21 (.mv (.t 8)),
  .p (some 22) (.t 21) [.c (.d (.int .i64 9))]] 13 aD []
def fr:SC:= .cond (.t 20)
  fM
  .skip
def fN:SC:= .inlC 163 2 1 [.r 28 (.mv (.t 8)),
  .p (some 29) (.t 28) [.c (.d (.int .i64 10))]] 13 aD []
def ft:SC:= .cond (.t 27)
  fN
  .skip
def fx:SC:= .inlC 163 2 1 [.r 35 (.mv (.t 8)),
  .p (some 36) (.t 35) [.c (.d (.int .i64 11))]] 13 aD []
def fy:SC:= .cond (.t 34)
  fx
  .skip
def fA:SC:= .inlC 163 2 1 [.r 48 (.mv (.t 8)),
  .p (some 49) (.t 48) [.c (.d (.int .i64 12))]] 13 aD []
def gS:SC:=
 (.seq (.reg [.w 4 (.boxM (.t 0)),
   .r 5 (.boxI (.t 1)),
   .w 7 (.boxM (.t 3))])
 (.seq (.reg [.r 9 (.mkfn 163 [.t 4,.t 7]),
   .r 8 (.mv (.t 9))])
 (.seq (.seq (.reg [.r 10 (.mv (.t 2)),
   .r 11 (.bin .eql (.t 10) (.c (.d (.str []))))])
 (.cond (.t 11)
  (.seq (.seq (.reg [.r 12 (.fld 0 (.t 5)),
    .o 13 (.ld1 (.t 12))])
  (.cond (.t 13)
   fL
   .skip))
  .ret)
  .skip))
 (.seq (.seq (.reg [.r 16 (.mv (.t 2)),
   .r 17 (.lenT (.t 16)),
   .r 18 (.fld 2 (.t 5)),
   .o 19 (.ld1 (.t 18)),
   .r 20 (.bin .lss (.t 17) (.t 19))])
 fr)
 (.seq (.seq (.reg [.r 23 (.mv (.t 2)),
   .r 24 (.lenT (.t 23)),
   .r 25 (.fld 3 (.t 5)),
   .o 26 (.ld1 (.t 25)),
   .r 27 (.bin .gtr (.t 24) (.t 26))])
 ft)
 (.seq (.seq (.reg [.r 30 (.mv (.t 2)),
   .r 31 (.fld 1 (.t 5)),
   .o 32 (.ld1 (.t 31)),
   .c 33 (.f 164) [.t 30,.t 32],
   .r 34 (.not (.t 33))])
 fy)
 (.seq (.reg (.r 37 (.fld 4 (.t 5)):: .o 38 (.ld1 (.t 37)):: .r 39 (.len (.t 38)):: .r 40 (.bin .gtr (.t 39) (.c (.d (.int .i64 0)))):: .r 41 (.mv (.t 40))::aV [42,43,44,45,46] 41 true (.r 42 (.fld 4 (.t 5)):: .r 43 (.ld1 (.t 42)):: .r 44 (.mv (.t 2)):: .c 45 (.f 165) [.t 43,.t 44]:: .r 46 (.not (.t 45))::[]) (.r 47 (.pick (.t 41) (.t 46) (.c (.d (.bool false))))::[])))
 (.cond (.t 47)
  fA
  .skip))))))))
theorem mF:fits Tryz.prog 143 Tryz.f143 gS [] 4=true:=oK
set_option maxRecDepth 100000 in
set_option maxHeartbeats 40000000 in
noncomputable def tF:(∀ (x0:aL) (x1:aE) (x2:List UInt8) (x3:oJ),{m:Option ((Unit)×aL)//∀ r,m=some r->cF Tryz.prog 143 (.own (.pt [.sl 36 (List.replicate 6 .sh)]) (.ptr (bi x0))::List.map SV.d ([.agg (bw x1),.str x2,.agg (jv x3)]:List DV)) (.tup []) (.own (.pt [.sl 36 (List.replicate 6 .sh)]) (.ptr (bi r.2))::List.map SV.d ([.agg (bw x1),.str x2,.agg (jv x3)]:List DV))}):=by
 (intro x0 x1 x2 x3;apply Subtype.mk;intro r hm;apply je (N:=50) (k:=4) Tryz.func143 mF oK rfl rfl oD;unfold gS)
 repeat'(first|((with_reducible apply uO (id:=0) (cid:=1000) (off:=0) (n:=6) (e:=36));(focus(simp only[push_cast,seval];(try rfl);done));(focus(simp only[push_cast,seval];(try rfl);done));(focus decide);(focus rfl);(focus(intro _;rfl));(focus(simp only[push_cast,seval];(try rfl);done)))|with_reducible refine bA ?_|with_reducible refine bt ?_|with_reducible refine bl ?_|with_reducible refine bR ?_|with_reducible refine bv ?_|with_reducible refine bB ?_|with_reducible refine cb ?_|with_reducible refine dI ?_|((with_reducible apply im);(simp only[push_cast,seval];rfl);(first|exact trivial))|((with_reducible apply fG hm);(simp only[push_cast,seval];rfl);rfl;intro v hm;rotate_left;intro v g hm)|((with_reducible apply fg hm);(simp only[push_cast,seval];rfl);(first|apply ph _ _|apply mE _ _);(any_goals((repeat'(first|rfl));done));intro x hm)|((with_reducible apply wM);(simp only[push_cast,seval];rfl);(first|exact trivial))|((with_reducible apply aO hm);(simp only[push_cast,seval];rfl);intro hm;rotate_left;intro hm)|((with_reducible apply cJ hm);(simp only[push_cast,seval];rfl))|(((apply o5 (X:=fr) rfl (fun(c:SV×SV×Ch×Ch×SV×SV×SV) (s:(List ac))=>st [(2,c.1),(5,c.2.1),(8,.clo 163 [4,7]),(50,.ref 0 0),(51,c.2.2.2.2.1),(52,c.2.2.2.2.2.1),(53,c.2.2.2.2.2.2)] [(1000,.vec 36 6 (bF ab s)),(0,.box (bL 1000)),(4,c.2.2.1),(7,c.2.2.2.1)]) (c:=(_,_,_,_,_,_,_)) hm);(intro o hm);rotate_left;(focus((intro _;repeat'(first|with_reducible exact dy|with_reducible refine aG ?_))));(intro s hm);rotate_left))|(((apply o5 (X:=ft) rfl (fun(c:SV×SV×Ch×Ch×SV×SV×SV) (s:(List ac))=>st [(2,c.1),(5,c.2.1),(8,.clo 163 [4,7]),(50,.ref 0 0),(51,c.2.2.2.2.1),(52,c.2.2.2.2.2.1),(53,c.2.2.2.2.2.2)] [(1000,.vec 36 6 (bF ab s)),(0,.box (bL 1000)),(4,c.2.2.1),(7,c.2.2.2.1)]) (c:=(_,_,_,_,_,_,_)) hm);(intro o hm);rotate_left;(focus((intro _;repeat'(first|with_reducible exact dy|with_reducible refine aG ?_))));(intro s hm);rotate_left))|(((apply o5 (X:=fy) rfl (fun(c:SV×SV×Ch×Ch×SV×SV×SV) (s:(List ac))=>st [(2,c.1),(5,c.2.1),(8,.clo 163 [4,7]),(50,.ref 0 0),(51,c.2.2.2.2.1),(52,c.2.2.2.2.2.1),(53,c.2.2.2.2.2.2)] [(1000,.vec 36 6 (bF ab s)),(0,.box (bL 1000)),(4,c.2.2.1),(7,c.2.2.2.1)]) (c:=(_,_,_,_,_,_,_)) hm);(intro o hm);rotate_left;(focus((intro _;repeat'(first|with_reducible exact dy|with_reducible refine aG ?_))));(intro s hm);rotate_left))|(((apply BJ (site:=100000) (X:=fL) rfl (fun(c:SV×SV×SV) (s:(List ac))=>st [(50,.ref 0 0),(51,c.1),(52,c.2.1),(53,c.2.2)] [(1000,.vec 36 6 (bF ab s)),(0,.box (bL 1000))]) (c:=(_,_,_)) hm);(focus rfl);(focus(simp only[push_cast,seval];rfl));(focus(simp only[push_cast,seval];rfl));(focus decide);(intro o hm);rotate_left;(focus((intro _;repeat'(first|with_reducible exact dy|with_reducible refine aG ?_))));(intro s hm);rotate_left))|(((apply uK (site:=100000) (M:=st [(0,_),(1,_),(2,_),(63,_),(64,_),(65,_),(66,_)] [(100000,_),(100004,_),(100007,_),(101000,_)]));(focus(simp only[push_cast,seval];rfl));(focus rfl);(focus((apply aW;(repeat'(first|with_reducible exact aw|with_reducible exact ax|with_reducible apply ap|with_reducible apply aU|((with_reducible apply aP);(focus(first|(simp only[push_cast,seval];rfl)));(focus((repeat'(first|rfl));done)))|((with_reducible apply cC);(focus(first|(simp only[push_cast,seval];rfl)));(first|with_reducible exact bj rfl))));done)));unfold aD))|(((apply BD (site:=100000) (M:=st [(15,_),(50,_),(51,_),(52,_),(53,_)] [(0,_),(4,_),(7,_),(1000,_)]));(focus(simp only[push_cast,seval];rfl));(focus((apply aW;(repeat'(first|with_reducible exact aw|with_reducible exact ax|with_reducible apply ap|with_reducible apply aU|((with_reducible apply aP);(focus(first|(simp only[push_cast,seval];rfl)));(focus((repeat'(first|rfl));done)))|((with_reducible apply cC);(focus(first|(simp only[push_cast,seval];rfl)));(first|with_reducible exact bj rfl))));done)))))|(((apply BJ (site:=200000) (X:=fM) rfl (fun(c:SV×SV×Ch×Ch×SV×SV×SV) (s:(List ac))=>st [(2,c.1),(5,c.2.1),(8,.clo 163 [4,7]),(50,.ref 0 0),(51,c.2.2.2.2.1),(52,c.2.2.2.2.2.1),(53,c.2.2.2.2.2.2)] [(1000,.vec 36 6 (bF ab s)),(0,.box (bL 1000)),(4,c.2.2.1),(7,c.2.2.2.1)]) (c:=(_,_,_,_,_,_,_)) hm);(focus rfl);(focus(simp only[push_cast,seval];rfl));(focus(simp only[push_cast,seval];rfl));(focus decide);(intro o hm);rotate_left;(focus((intro _;repeat'(first|with_reducible exact dy|with_reducible refine aG ?_|((with_reducible refine ec ?_);intro _)))));(intro s hm);rotate_left))|(((apply uK (site:=200000) (M:=st [(0,_),(1,_),(2,_),(15,_),(18,_),(21,_),(63,_),(64,_),(65,_),(66,_)] [(200000,_),(200004,_),(200007,_),(201000,_)]));(focus(simp only[push_cast,seval];rfl));(focus rfl);(focus((apply aW;(repeat'(first|with_reducible exact aw|with_reducible exact ax|with_reducible apply ap|with_reducible apply aU|((with_reducible apply aP);(focus(first|(simp only[push_cast,seval];rfl)));(focus((repeat'(first|rfl));done)))|((with_reducible apply cC);(focus(first|(simp only[push_cast,seval];rfl)));(first|with_reducible exact bj rfl))));done)));unfold aD))|(((apply BD (site:=200000) (M:=st [(2,_),(5,_),(8,_),(22,_),(50,_),(51,_),(52,_),(53,_)] [(0,_),(4,_),(7,_),(1000,_)]));(focus(simp only[push_cast,seval];rfl));(focus((apply aW;(repeat'(first|with_reducible exact aw|with_reducible exact ax|with_reducible apply ap|with_reducible apply aU|((with_reducible apply aP);(focus(first|(simp only[push_cast,seval];rfl)));(focus((repeat'(first|rfl));done)))|((with_reducible apply cC);(focus(first|(simp only[push_cast,seval];rfl)));(first|with_reducible exact bj rfl))));done)))))|(((apply BJ (site:=300000) (X:=fN) rfl (fun(c:SV×SV×Ch×Ch×SV×SV×SV) (s:(List ac))=>st [(2,c.1),(5,c.2.1),(8,.clo 163 [4,7]),(50,.ref 0 0),(51,c.2.2.2.2.1),(52,c.2.2.2.2.2.1),(53,c.2.2.2.2.2.2)] [(1000,.vec 36 6 (bF ab s)),(0,.box (bL 1000)),(4,c.2.2.1),(7,c.2.2.2.1)]) (c:=(_,_,_,_,_,_,_)) hm);(focus rfl);(focus(simp only[push_cast,seval];rfl));(focus(simp only[push_cast,seval];rfl));(focus decide);(intro o hm);rotate_left;(focus((intro _;repeat'(first|with_reducible exact dy|with_reducible refine aG ?_|((with_reducible refine ec ?_);intro _)))));(intro s hm);rotate_left))|(((apply uK (site:=300000) (M:=st [(0,_),(1,_),(2,_),(15,_),(18,_),(21,_),(63,_),(64,_),(65,_),(66,_)] [(300000,_),(300004,_),(300007,_),(301000,_)]));(focus(simp only[push_cast,seval];rfl));(focus rfl);(focus((apply aW;(repeat'(first|with_reducible exact aw|with_reducible exact ax|with_reducible apply ap|with_reducible apply aU|((with_reducible apply aP);(focus(first|(simp only[push_cast,seval];rfl)));(focus((repeat'(first|rfl));done)))|((with_reducible apply cC);(focus(first|(simp only[push_cast,seval];rfl)));(first|with_reducible exact bj rfl))));done)));unfold aD))|(((apply BD (site:=300000) (M:=st [(2,_),(5,_),(8,_),(29,_),(50,_),(51,_),(52,_),(53,_)] [(0,_),(4,_),(7,_),(1000,_)]));(focus(simp only[push_cast,seval];rfl));(focus((apply aW;(repeat'(first|with_reducible exact aw|with_reducible exact ax|with_reducible apply ap|with_reducible apply aU|((with_reducible apply aP);(focus(first|(simp only[push_cast,seval];rfl)));(focus((repeat'(first|rfl));done)))|((with_reducible apply cC);(focus(first|(simp only[push_cast,seval];rfl)));(first|with_reducible exact bj rfl))));done)))))|(((apply BJ (site:=400000) (X:=fx) rfl (fun(c:SV×SV×Ch×Ch×SV×SV×SV) (s:(List ac))=>st [(2,c.1),(5,c.2.1),(8,.clo 163 [4,7]),(50,.ref 0 0),(51,c.2.2.2.2.1),(52,c.2.2.2.2.2.1),(53,c.2.2.2.2.2.2)] [(1000,.vec 36 6 (bF ab s)),(0,.box (bL 1000)),(4,c.2.2.1),(7,c.2.2.2.1)]) (c:=(_,_,_,_,_,_,_)) hm);(focus rfl);(focus(simp only[push_cast,seval];rfl));(focus(simp only[push_cast,seval];rfl));(focus decide);(intro o hm);rotate_left;(focus((intro _;repeat'(first|with_reducible exact dy|with_reducible refine aG ?_|((with_reducible refine ec ?_);intro _)))));(intro s hm);rotate_left))|(((apply uK (site:=400000) (M:=st [(0,_),(1,_),(2,_),(15,_),(18,_),(21,_),(63,_),(64,_),(65,_),(66,_)] [(400000,_),(400004,_),(400007,_),(401000,_)]));(focus(simp only[push_cast,seval];rfl));(focus rfl);(focus((apply aW;(repeat'(first|with_reducible exact aw|with_reducible exact ax|with_reducible apply ap|with_reducible apply aU|((with_reducible apply aP);(focus(first|(simp only[push_cast,seval];rfl)));(focus((repeat'(first|rfl));done)))|((with_reducible apply cC);(focus(first|(simp only[push_cast,seval];rfl)));(first|with_reducible exact bj rfl))));done)));unfold aD))|(((apply BD (site:=400000) (M:=st [(2,_),(5,_),(8,_),(36,_),(50,_),(51,_),(52,_),(53,_)] [(0,_),(4,_),(7,_),(1000,_)]));(focus(simp only[push_cast,seval];rfl));(focus((apply aW;(repeat'(first|with_reducible exact aw|with_reducible exact ax|with_reducible apply ap|with_reducible apply aU|((with_reducible apply aP);(focus(first|(simp only[push_cast,seval];rfl)));(focus((repeat'(first|rfl));done)))|((with_reducible apply cC);(focus(first|(simp only[push_cast,seval];rfl)));(first|with_reducible exact bj rfl))));done)))))|(((apply BJ (site:=500000) (X:=fA) rfl (fun(c:SV×SV×SV) (s:(List ac))=>st [(50,.ref 0 0),(51,c.1),(52,c.2.1),(53,c.2.2)] [(1000,.vec 36 6 (bF ab s)),(0,.box (bL 1000))]) (c:=(_,_,_)) hm);(focus rfl);(focus(simp only[push_cast,seval];rfl));(focus(simp only[push_cast,seval];rfl));(focus decide);(intro o hm);rotate_left;(focus((intro _;repeat'(first|with_reducible exact dy))));(intro s hm);rotate_left))|(((apply uK (site:=500000) (M:=st [(0,_),(1,_),(2,_),(63,_),(64,_),(65,_),(66,_)] [(500000,_),(500004,_),(500007,_),(501000,_)]));(focus(simp only[push_cast,seval];rfl));(focus rfl);(focus((apply aW;(repeat'(first|with_reducible exact aw|with_reducible exact ax|with_reducible apply ap|with_reducible apply aU|((with_reducible apply aP);(focus(first|(simp only[push_cast,seval];rfl)));(focus((repeat'(first|rfl));done)))|((with_reducible apply cC);(focus(first|(simp only[push_cast,seval];rfl)));(first|with_reducible exact bj rfl))));done)));unfold aD))|(((apply BD (site:=500000) (M:=st [(49,_),(50,_),(51,_),(52,_),(53,_)] [(0,_),(4,_),(7,_),(1000,_)]));(focus(simp only[push_cast,seval];rfl));(focus((apply aW;(repeat'(first|with_reducible exact aw|with_reducible exact ax|with_reducible apply ap|with_reducible apply aU|((with_reducible apply aP);(focus(first|(simp only[push_cast,seval];rfl)));(focus((repeat'(first|rfl));done)))|((with_reducible apply cC);(focus(first|(simp only[push_cast,seval];rfl)));(first|with_reducible exact bj rfl))));done)))))|((apply bG (s':=_) hm);(focus(first|(dsimp only;done))))|(((with_reducible apply At hm (id:=100000) (ms:=[.sl 36 (List.replicate 6 .sh)]));(focus((try((apply dB.trans);(focus((apply ed (id:=100000) (cid:=101000) (off:=0) (n:=6) (e:=36) (row:=ab));(focus(simp only[push_cast,seval];(try rfl);done));(focus(simp only[push_cast,seval];(try rfl);done));(focus decide);(focus(simp only[push_cast,seval];(try rfl);done));(focus((repeat'(first|(with_reducible first|apply mP)));done));(focus(intro _;rfl));(focus(simp only[push_cast,seval];(try rfl);done))))));exact dB.refl _));(focus(simp only[push_cast,seval];(try rfl);done));(focus(simp only[push_cast,seval];(try rfl);done));(focus(simp only[push_cast,seval];(try rfl);done));(focus((repeat'(first|(with_reducible first|apply bK)|((with_reducible apply kY);(focus rfl);(focus((repeat'(first|rfl));done)))));done));(focus rfl);(first|apply aR _ _ _ _ _);(any_goals(focus((repeat'(first|rfl));done)));(focus(intro _;exact⟨rfl,rfl,rfl⟩));intro y hm))|(((with_reducible apply At hm (id:=200000) (ms:=[.sl 36 (List.replicate 6 .sh)]));(focus((try((apply dB.trans);(focus((apply ed (id:=200000) (cid:=201000) (off:=0) (n:=6) (e:=36) (row:=ab));(focus(simp only[push_cast,seval];(try rfl);done));(focus(simp only[push_cast,seval];(try rfl);done));(focus decide);(focus(simp only[push_cast,seval];(try rfl);done));(focus((repeat'(first|(with_reducible first|apply mP)));done));(focus(intro _;rfl));(focus(simp only[push_cast,seval];(try rfl);done))))));exact dB.refl _));(focus(simp only[push_cast,seval];(try rfl);done));(focus(simp only[push_cast,seval];(try rfl);done));(focus(simp only[push_cast,seval];(try rfl);done));(focus((repeat'(first|(with_reducible first|apply bK)|((with_reducible apply kY);(focus rfl);(focus((repeat'(first|rfl));done)))));done));(focus rfl);(first|apply aR _ _ _ _ _);(any_goals(focus((repeat'(first|rfl));done)));(focus(intro _;exact⟨rfl,rfl,rfl⟩));intro y hm))|(((with_reducible apply At hm (id:=300000) (ms:=[.sl 36 (List.replicate 6 .sh)]));(focus((try((apply dB.trans);(focus((apply ed (id:=300000) (cid:=301000) (off:=0) (n:=6) (e:=36) (row:=ab));(focus(simp only[push_cast,seval];(try rfl);done));(focus(simp only[push_cast,seval];(try rfl);done));(focus decide);(focus(simp only[push_cast,seval];(try rfl);done));(focus((repeat'(first|(with_reducible first|apply mP)));done));(focus(intro _;rfl));(focus(simp only[push_cast,seval];(try rfl);done))))));exact dB.refl _));(focus(simp only[push_cast,seval];(try rfl);done));(focus(simp only[push_cast,seval];(try rfl);done));(focus(simp only[push_cast,seval];(try rfl);done));(focus((repeat'(first|(with_reducible first|apply bK)|((with_reducible apply kY);(focus rfl);(focus((repeat'(first|rfl));done)))));done));(focus rfl);(first|apply aR _ _ _ _ _);(any_goals(focus((repeat'(first|rfl));done)));(focus(intro _;exact⟨rfl,rfl,rfl⟩));intro y hm))|(((with_reducible apply At hm (id:=400000) (ms:=[.sl 36 (List.replicate 6 .sh)]));(focus((try((apply dB.trans);(focus((apply ed (id:=400000) (cid:=401000) (off:=0) (n:=6) (e:=36) (row:=ab));(focus(simp only[push_cast,seval];(try rfl);done));(focus(simp only[push_cast,seval];(try rfl);done));(focus decide);(focus(simp only[push_cast,seval];(try rfl);done));(focus((repeat'(first|(with_reducible first|apply mP)));done));(focus(intro _;rfl));(focus(simp only[push_cast,seval];(try rfl);done))))));exact dB.refl _));(focus(simp only[push_cast,seval];(try rfl);done));(focus(simp only[push_cast,seval];(try rfl);done));(focus(simp only[push_cast,seval];(try rfl);done));(focus((repeat'(first|(with_reducible first|apply bK)|((with_reducible apply kY);(focus rfl);(focus((repeat'(first|rfl));done)))));done));(focus rfl);(first|apply aR _ _ _ _ _);(any_goals(focus((repeat'(first|rfl));done)));(focus(intro _;exact⟨rfl,rfl,rfl⟩));intro y hm))|(((with_reducible apply At hm (id:=500000) (ms:=[.sl 36 (List.replicate 6 .sh)]));(focus((try((apply dB.trans);(focus((apply ed (id:=500000) (cid:=501000) (off:=0) (n:=6) (e:=36) (row:=ab));(focus(simp only[push_cast,seval];(try rfl);done));(focus(simp only[push_cast,seval];(try rfl);done));(focus decide);(focus(simp only[push_cast,seval];(try rfl);done));(focus((repeat'(first|(with_reducible first|apply mP)));done));(focus(intro _;rfl));(focus(simp only[push_cast,seval];(try rfl);done))))));exact dB.refl _));(focus(simp only[push_cast,seval];(try rfl);done));(focus(simp only[push_cast,seval];(try rfl);done));(focus(simp only[push_cast,seval];(try rfl);done));(focus((repeat'(first|(with_reducible first|apply bK)|((with_reducible apply kY);(focus rfl);(focus((repeat'(first|rfl));done)))));done));(focus rfl);(first|apply aR _ _ _ _ _);(any_goals(focus((repeat'(first|rfl));done)));(focus(intro _;exact⟨rfl,rfl,rfl⟩));intro y hm))|(((with_reducible apply Ej (a:=()) hm (ms:=[.sl 36 (List.replicate 6 .sh)]));(focus((try((apply dB.trans);(focus((apply gp (id:=101000));(focus(simp only[push_cast,seval];(try rfl);done));(focus(simp only[push_cast,seval];(try rfl);done))))));(try((apply dB.trans);(focus((apply gp (id:=201000));(focus(simp only[push_cast,seval];(try rfl);done));(focus(simp only[push_cast,seval];(try rfl);done))))));(try((apply dB.trans);(focus((apply gp (id:=301000));(focus(simp only[push_cast,seval];(try rfl);done));(focus(simp only[push_cast,seval];(try rfl);done))))));(try((apply dB.trans);(focus((apply gp (id:=401000));(focus(simp only[push_cast,seval];(try rfl);done));(focus(simp only[push_cast,seval];(try rfl);done))))));(try((apply dB.trans);(focus((apply gp (id:=501000));(focus(simp only[push_cast,seval];(try rfl);done));(focus(simp only[push_cast,seval];(try rfl);done))))));(try((apply dB.trans);(focus((apply ed (id:=0) (cid:=1000) (off:=0) (n:=6) (e:=36) (row:=ab));(focus(simp only[push_cast,seval];(try rfl);done));(focus(simp only[push_cast,seval];(try rfl);done));(focus decide);(focus(simp only[push_cast,seval];(try rfl);done));(focus((repeat'(first|(with_reducible first|apply mP)));done));(focus(intro _;rfl));(focus(simp only[push_cast,seval];(try rfl);done))))));exact dB.refl _));(focus(simp only[push_cast,seval];(try rfl);done));(focus((repeat'(first|(with_reducible first|apply bK)|((with_reducible apply kY);(focus rfl);(focus((repeat'(first|rfl));done)))));done));(focus(intro _;rfl));(focus(simp only[push_cast,seval];(try rfl);done));(focus(simp only[push_cast,seval];(try rfl);done));(focus(simp only[push_cast,seval];(try rfl);done));(focus(simp only[push_cast,seval];(try rfl);done));(focus(first|exact Au))))|(((with_reducible apply AL (a:=()) hm (ms:=[.sl 36 (List.replicate 6 .sh)]));(focus((try((apply dB.trans);(focus((apply gp (id:=101000));(focus(simp only[push_cast,seval];(try rfl);done));(focus(simp only[push_cast,seval];(try rfl);done))))));(try((apply dB.trans);(focus((apply gp (id:=201000));(focus(simp only[push_cast,seval];(try rfl);done));(focus(simp only[push_cast,seval];(try rfl);done))))));(try((apply dB.trans);(focus((apply gp (id:=301000));(focus(simp only[push_cast,seval];(try rfl);done));(focus(simp only[push_cast,seval];(try rfl);done))))));(try((apply dB.trans);(focus((apply gp (id:=401000));(focus(simp only[push_cast,seval];(try rfl);done));(focus(simp only[push_cast,seval];(try rfl);done))))));(try((apply dB.trans);(focus((apply gp (id:=501000));(focus(simp only[push_cast,seval];(try rfl);done));(focus(simp only[push_cast,seval];(try rfl);done))))));(try((apply dB.trans);(focus((apply ed (id:=0) (cid:=1000) (off:=0) (n:=6) (e:=36) (row:=ab));(focus(simp only[push_cast,seval];(try rfl);done));(focus(simp only[push_cast,seval];(try rfl);done));(focus decide);(focus(simp only[push_cast,seval];(try rfl);done));(focus((repeat'(first|(with_reducible first|apply mP)));done));(focus(intro _;rfl));(focus(simp only[push_cast,seval];(try rfl);done))))));exact dB.refl _));(focus(simp only[push_cast,seval];(try rfl);done));(focus((repeat'(first|(with_reducible first|apply bK)|((with_reducible apply kY);(focus rfl);(focus((repeat'(first|rfl));done)))));done));(focus(intro _;rfl));(focus(simp only[push_cast,seval];(try rfl);done));(focus(simp only[push_cast,seval];(try rfl);done));(focus(simp only[push_cast,seval];(try rfl);done));(focus(simp only[push_cast,seval];(try rfl);done));(focus(first|exact Au))))|(((with_reducible apply dB.trans);(focus((apply xu (id:=0) (cid:=1000) (off:=0) (n:=6) (e:=36));(focus(simp only[push_cast,seval];(try rfl);done));(focus(simp only[push_cast,seval];(try rfl);done));(focus decide);(focus rfl);(focus(intro _;rfl));(focus(simp only[push_cast,seval];(try rfl);done))))))|(((apply aW;(repeat'(first|with_reducible exact aw|with_reducible exact ax|with_reducible apply ap|with_reducible apply aU|((with_reducible apply aP);(focus(first|(simp only[push_cast,seval];rfl)));(focus((repeat'(first|rfl));done)))|((with_reducible apply cC);(focus(first|(simp only[push_cast,seval];rfl)));(first|with_reducible exact bj rfl))));done))))
noncomputable def eu (x0:aL) (x1:aE) (x2:List UInt8) (x3:oJ):Option ((Unit)×aL):=(tF x0 x1 x2 x3).1
theorem l6 (x0:aL) (x1:aE) (x2:List UInt8) (x3:oJ):∀ r,eu x0 x1 x2 x3=some r->cF Tryz.prog 143 (.own (.pt [.sl 36 (List.replicate 6 .sh)]) (.ptr (bi x0))::List.map SV.d ([.agg (bw x1),.str x2,.agg (jv x3)]:List DV)) (.tup []) (.own (.pt [.sl 36 (List.replicate 6 .sh)]) (.ptr (bi r.2))::List.map SV.d ([.agg (bw x1),.str x2,.agg (jv x3)]:List DV)):=(tF x0 x1 x2 x3).2
def sc:SC:=
 (.seq (.reg [.r 2 (.mv (.c (.d (.bool false))))])
 (.seq (.reg [.r 3 (.mv (.t 0)),
   .c 4 (.f 56) [.t 3],
   .r 5 (.not (.t 4)),
   .r 2 (.mv (.t 5))])
 .ret))
theorem xH:fits Tryz.prog 55 Tryz.f55 sc [.t 2] 1=true:=oK
set_option maxRecDepth 100000 in
set_option maxHeartbeats 40000000 in
noncomputable def tG:(∀ (x0:List (List UInt8)),{m:Option (Bool)//∀ r,m=some r->aa Tryz.prog 55 [.slice (List.map en x0)] (.bool r)}):=by
 (intro x0;apply Subtype.mk;intro r hm;apply af Tryz.func55 xH;unfold sc)
 repeat'(first|with_reducible refine bA ?_|with_reducible refine bt ?_|with_reducible refine bR ?_|with_reducible refine bv ?_|with_reducible refine bB ?_|((with_reducible apply im);(simp only[push_cast,seval];rfl);(first|exact trivial))|((with_reducible apply MV hm);(simp only[push_cast,seval];rfl);(focus(first|exact qc _));intro x hm)|((with_reducible apply bQ hm);(focus(simp only[bu,dc,RV.get,push_cast,seval];rfl));(focus((repeat'(first|rfl));done))))
noncomputable def k_ (x0:List (List UInt8)):Option (Bool):=(tG x0).1
theorem wI (x0:List (List UInt8)):∀ r,k_ x0=some r->aa Tryz.prog 55 [.slice (List.map en x0)] (.bool r):=(tG x0).2
def fe:SC:= .cond (.t 30)
  (.reg [.r 31 (.mv (.t 2)),
   .r 32 (.mv (.t 10)),
   .r 33 (.idx 1 (.t 31) (.t 32)),
   .o 34 (.ld1 (.t 33)),
   .r 12 (.mv (.t 34))])
  .skip
def dm:SC:=
 (.seq (.reg [.r 23 (.bin .lss (.t 22) (.t 21))])
 (.seq (.cond (.t 23)
  .skip
  (.exit 0))
 (.seq (.block 1 (.seq (.reg [.r 24 (.mv (.t 22)),
    .r 25 (.idx 5 (.t 20) (.t 22)),
    .o 26 (.ldA 5 (.t 25)),
    .w 11 (.boxM (.c (.agg [.d (.bool false),.d (.int .i64 0),.d (.int .i64 0),.d (.int .i64 0),.nils]))),
    .r 10 (.mv (.t 24)),
    .w 0 (.st 5 (.t 11) (.t 26))])
  (.seq (.reg [.r 12 (.mv (.c (.d (.str []))))])
  (.seq (.seq (.reg [.r 27 (.mv (.t 10)),
    .r 28 (.mv (.t 2)),
    .r 29 (.len (.t 28)),
    .r 30 (.bin .lss (.t 27) (.t 29))])
  fe)
  (.reg [.r 35 (.mv (.t 0)),
    .o 36 (.ldA 5 (.t 11)),
    .r 37 (.mv (.t 12)),
    .r 38 (.mv (.t 3)),
    .r 39 (.mv (.t 4)),
    .r 40 (.mv (.t 10)),
    .r 41 (.bin .add (.t 40) (.c (.d (.int .i64 1)))),
    .r 42 (.build [.d (.int .i64 0),.d (.int .i64 0),.d (.int .i64 0)] [(0,1,.t 38),(1,1,.t 39),(2,1,.t 41)]),
    .p (some 43) (.f 143) [.t 35,.t 36,.t 37,.t 42]])))))
 (.reg [.r 44 (.bin .add (.t 22) (.c (.d (.int .i64 1)))),
   .r 22 (.mv (.t 44))]))))
def fj:SC:= .block 0 (.loop dm)
def gk:SC:=
 (.seq (.reg [.r 6 (.boxI (.t 1))])
 (.seq (.seq (.reg [.r 13 (.mv (.t 2)),
   .c 14 (.f 56) [.t 13]])
 (.cond (.t 14)
  (.reg [.r 15 (.mv (.t 0)),
    .r 16 (.mv (.t 3)),
    .r 17 (.mv (.t 4)),
    .p (some 18) (.f 57) [.t 15,.c (.d (.int .i64 8)),.t 16,.t 17,.c (.d (.int .i64 0))]])
  (.seq (.reg [.r 19 (.fld 2 (.t 6)),
    .o 20 (.ld1 (.t 19)),
    .r 21 (.len (.t 20)),
    .r 22 (.mv (.c (.d (.int .i64 0))))])
  fj)))
 (.seq (.reg [.r 45 (.mv (.t 2)),
   .r 46 (.len (.t 45)),
   .r 47 (.fld 2 (.t 6)),
   .o 48 (.ld1 (.t 47)),
   .r 49 (.len (.t 48)),
   .r 50 (.bin .gtr (.t 46) (.t 49))])
 (.cond (.t 50)
  (.reg [.r 51 (.mv (.t 0)),
    .r 52 (.mv (.t 3)),
    .r 53 (.mv (.t 4)),
    .r 54 (.fld 2 (.t 6)),
    .o 55 (.ld1 (.t 54)),
    .r 56 (.len (.t 55)),
    .r 57 (.bin .add (.t 56) (.c (.d (.int .i64 1)))),
    .p (some 58) (.f 57) [.t 51,.c (.d (.int .i64 7)),.t 52,.t 53,.t 57]])
  .skip))))
theorem lI:fits Tryz.prog 104 Tryz.f104 gk [] 5=true:=oK
set_option maxRecDepth 100000 in
set_option maxHeartbeats 40000000 in
noncomputable def tH:(∀ (x0:aL) (x1:aq) (x2:List (List UInt8)) (x3:Int) (x4:Int),{m:Option ((Unit)×aL)//∀ r,m=some r->cF Tryz.prog 104 (.own (.pt [.sl 36 (List.replicate 6 .sh)]) (.ptr (bi x0))::List.map SV.d ([.agg (aX x1),.slice (List.map en x2),.int .i64 x3,.int .i64 x4]:List DV)) (.tup []) (.own (.pt [.sl 36 (List.replicate 6 .sh)]) (.ptr (bi r.2))::List.map SV.d ([.agg (aX x1),.slice (List.map en x2),.int .i64 x3,.int .i64 x4]:List DV))}):=by
 (intro x0 x1 x2 x3 x4;apply Subtype.mk;intro r hm;apply je (N:=59) (k:=5) Tryz.func104 lI oK rfl rfl oD;unfold gk)
 repeat'(first|((with_reducible apply uO (id:=0) (cid:=1000) (off:=0) (n:=6) (e:=36));(focus(simp only[push_cast,seval];(try rfl);done));(focus(simp only[push_cast,seval];(try rfl);done));(focus decide);(focus rfl);(focus(intro _;rfl));(focus(simp only[push_cast,seval];(try rfl);done)))|with_reducible refine bA ?_|with_reducible refine bt ?_|with_reducible refine bm ?_|with_reducible refine bl ?_|with_reducible refine cw ?_|with_reducible refine bv ?_|with_reducible refine bB ?_|with_reducible refine cx ?_|with_reducible refine bq ?_|with_reducible refine dI ?_|((with_reducible apply dz hm);(iterate 2 (simp only[push_cast,seval];rfl));(intro _;rfl);intro e hm)|((with_reducible apply im);(simp only[push_cast,seval];rfl);(first|exact trivial))|((with_reducible apply fg hm);(simp only[push_cast,seval];rfl);(first|apply qc _);(any_goals((repeat'(first|rfl));done));intro x hm)|((with_reducible apply wM);(simp only[push_cast,seval];rfl);(first|exact trivial))|((with_reducible apply aO hm);(simp only[push_cast,seval];rfl);intro hm;rotate_left;intro hm)|((with_reducible apply bE hm);intro r hm)|((apply az (b:=0) (X:=fj) (x:=dm) rfl (fun(c:SV×SV×SV×SV×SV×SV×SV×SV×SV×SV) (s:(List ac)×Int)=>st [(0,.ref 0 0),(2,c.1),(3,c.2.1),(4,c.2.2.1),(6,c.2.2.2.1),(20,c.2.2.2.2.1),(21,c.2.2.2.2.2.1),(22,.d (.int .i64 s.2)),(59,.ref 0 0),(60,c.2.2.2.2.2.2.1),(61,c.2.2.2.2.2.2.2.1),(62,c.2.2.2.2.2.2.2.2.1),(63,c.2.2.2.2.2.2.2.2.2)] [(1000,.vec 36 6 (bF ab s.1)),(0,.box (bL 1000))]) (c:=(_,_,_,_,_,_,_,_,_,_)) (s0:=(_,_)) hm);(focus(first|(dsimp only;done)));(with_reducible refine cN.mk ?_ ?_))|(((apply o5 (X:=fe) rfl (fun(c:SV×SV×SV×SV×SV×Ch×SV×SV×SV×SV×SV×SV×SV) (s:(List ac)×(List UInt8))=>st [(0,.ref 0 0),(2,c.1),(3,c.2.1),(4,c.2.2.1),(6,c.2.2.2.1),(10,c.2.2.2.2.1),(11,.ref 11 0),(12,.d (.str s.2)),(20,c.2.2.2.2.2.2.1),(21,c.2.2.2.2.2.2.2.1),(22,c.2.2.2.2.2.2.2.2.1),(59,.ref 0 0),(60,c.2.2.2.2.2.2.2.2.2.1),(61,c.2.2.2.2.2.2.2.2.2.2.1),(62,c.2.2.2.2.2.2.2.2.2.2.2.1),(63,c.2.2.2.2.2.2.2.2.2.2.2.2)] [(1000,.vec 36 6 (bF ab s.1)),(0,.box (bL 1000)),(11,c.2.2.2.2.2.1)]) (c:=(_,_,_,_,_,_,_,_,_,_,_,_,_)) hm);(intro o hm);rotate_left;(focus((intro _;repeat'(first|with_reducible exact dy|with_reducible refine aG ?_|with_reducible refine dj ?_|((with_reducible refine ec ?_);intro _)|((with_reducible refine fH ?_);intro _)))));(intro s hm);rotate_left))|((apply bG (s':=(_,_)) hm);(focus(first|(dsimp only;done))))|((apply cZ (s':=(_,_)) hm);(focus(first|(dsimp only;done))))|(((with_reducible apply At hm (id:=0) (ms:=[.sl 36 (List.replicate 6 .sh)]));(focus((try((apply dB.trans);(focus((apply ed (id:=0) (cid:=1000) (off:=0) (n:=6) (e:=36) (row:=ab));(focus(simp only[push_cast,seval];(try rfl);done));(focus(simp only[push_cast,seval];(try rfl);done));(focus decide);(focus(simp only[push_cast,seval];(try rfl);done));(focus((repeat'(first|(with_reducible first|apply mP)));done));(focus(intro _;rfl));(focus(simp only[push_cast,seval];(try rfl);done))))));exact dB.refl _));(focus(simp only[push_cast,seval];(try rfl);done));(focus(simp only[push_cast,seval];(try rfl);done));(focus(simp only[push_cast,seval];(try rfl);done));(focus((repeat'(first|(with_reducible first|apply bK)|((with_reducible apply kY);(focus rfl);(focus((repeat'(first|rfl));done)))));done));(focus rfl);(first|apply aR _ _ _ _ _|apply l6 _ _ _ _);(any_goals(focus((repeat'(first|rfl|(with_reducible first|apply tN|apply p5|apply eo)));done)));(focus(intro _;exact⟨rfl,rfl,rfl⟩));intro y hm))|(((with_reducible apply AL (a:=()) hm (ms:=[.sl 36 (List.replicate 6 .sh)]));(focus((try((apply dB.trans);(focus((apply ed (id:=0) (cid:=1000) (off:=0) (n:=6) (e:=36) (row:=ab));(focus(simp only[push_cast,seval];(try rfl);done));(focus(simp only[push_cast,seval];(try rfl);done));(focus decide);(focus(simp only[push_cast,seval];(try rfl);done));(focus((repeat'(first|(with_reducible first|apply mP)));done));(focus(intro _;rfl));(focus(simp only[push_cast,seval];(try rfl);done))))));exact dB.refl _));(focus(simp only[push_cast,seval];(try rfl);done));(focus((repeat'(first|(with_reducible first|apply bK)|((with_reducible apply kY);(focus rfl);(focus((repeat'(first|rfl));done)))));done));(focus(intro _;rfl));(focus(simp only[push_cast,seval];(try rfl);done));(focus(simp only[push_cast,seval];(try rfl);done));(focus(simp only[push_cast,seval];(try rfl);done));(focus(simp only[push_cast,seval];(try rfl);done));(focus(first|exact Au))))|(((with_reducible apply dC.of);(focus(first|(dsimp only;done)));(focus((intro _;repeat'(first|with_reducible exact dy|with_reducible refine aG ?_))));(intro s o hm;first|unfold dm);rotate_left;intro s hm))|(((apply aW;(repeat'(first|with_reducible exact aw|with_reducible exact ax|with_reducible apply ap|with_reducible apply aU|((with_reducible apply aP);(focus(first|(simp only[push_cast,seval];rfl)));(focus((repeat'(first|rfl));done)))|((with_reducible apply cC);(focus(first|(simp only[push_cast,seval];rfl)));(first|with_reducible exact bj rfl))));done))))
noncomputable def d9 (x0:aL) (x1:aq) (x2:List (List UInt8)) (x3:Int) (x4:Int):Option ((Unit)×aL):=(tH x0 x1 x2 x3 x4).1
theorem lb (x0:aL) (x1:aq) (x2:List (List UInt8)) (x3:Int) (x4:Int):∀ r,d9 x0 x1 x2 x3 x4=some r->cF Tryz.prog 104 (.own (.pt [.sl 36 (List.replicate 6 .sh)]) (.ptr (bi x0))::List.map SV.d ([.agg (aX x1),.slice (List.map en x2),.int .i64 x3,.int .i64 x4]:List DV)) (.tup []) (.own (.pt [.sl 36 (List.replicate 6 .sh)]) (.ptr (bi r.2))::List.map SV.d ([.agg (aX x1),.slice (List.map en x2),.int .i64 x3,.int .i64 x4]:List DV)):=(tH x0 x1 x2 x3 x4).2
def c9:SC:=
 (.seq (.reg [.r 21 (.bin .lss (.t 20) (.t 19))])
 (.seq (.cond (.t 21)
  .skip
  (.exit 0))
 (.seq (.block 1 (.seq (.reg [.r 22 (.mv (.t 20)),
    .r 23 (.idx 1 (.t 18) (.t 20)),
    .o 24 (.ld1 (.t 23)),
    .r 8 (.mv (.t 22)),
    .r 9 (.mv (.t 24))])
  (.reg [.r 25 (.mv (.t 0)),
    .o 26 (.ldA 3 (.t 5)),
    .r 27 (.mv (.t 9)),
    .r 28 (.mv (.t 3)),
    .r 29 (.mv (.t 8)),
    .r 30 (.bin .add (.t 29) (.c (.d (.int .i64 1)))),
    .p (some 31) (.f 104) [.t 25,.t 26,.t 27,.t 28,.t 30]])))
 (.reg [.r 32 (.bin .add (.t 20) (.c (.d (.int .i64 1)))),
   .r 20 (.mv (.t 32))]))))
def ff:SC:= .block 0 (.loop c9)
def fO:SC:=
 (.seq (.reg [.r 5 (.boxI (.t 1)),
   .r 6 (.boxI (.t 2))])
 (.seq (.seq (.reg [.r 10 (.fld 0 (.t 6)),
   .o 11 (.ld1 (.t 10)),
   .r 12 (.fld 1 (.t 5)),
   .o 13 (.ld1 (.t 12)),
   .r 14 (.fld 0 (.t 6)),
   .o 15 (.ld1 (.t 14)),
   .r 16 (.len (.t 15)),
   .r 17 (.mins (.t 13) [.t 16]),
   .r 18 (.slc 1 (.t 11) none (some (.t 17))),
   .r 19 (.len (.t 18)),
   .r 20 (.mv (.c (.d (.int .i64 0))))])
 ff)
 (.seq (.reg [.r 33 (.fld 0 (.t 6)),
   .o 34 (.ld1 (.t 33)),
   .r 35 (.len (.t 34)),
   .r 36 (.fld 1 (.t 5)),
   .o 37 (.ld1 (.t 36)),
   .r 38 (.bin .gtr (.t 35) (.t 37))])
 (.cond (.t 38)
  (.reg [.r 39 (.mv (.t 0)),
    .r 40 (.mv (.t 3)),
    .r 41 (.fld 1 (.t 5)),
    .o 42 (.ld1 (.t 41)),
    .r 43 (.bin .add (.t 42) (.c (.d (.int .i64 1)))),
    .p (some 44) (.f 57) [.t 39,.c (.d (.int .i64 6)),.t 40,.t 43,.c (.d (.int .i64 0))]])
  .skip))))
theorem lc:fits Tryz.prog 58 Tryz.f58 fO [] 4=true:=oK
set_option maxRecDepth 100000 in
set_option maxHeartbeats 40000000 in
noncomputable def tI:(∀ (x0:aL) (x1:aq) (x2:bV) (x3:Int),{m:Option ((Unit)×aL)//∀ r,m=some r->cF Tryz.prog 58 (.own (.pt [.sl 36 (List.replicate 6 .sh)]) (.ptr (bi x0))::List.map SV.d ([.agg (aX x1),.agg (b_ x2),.int .i64 x3]:List DV)) (.tup []) (.own (.pt [.sl 36 (List.replicate 6 .sh)]) (.ptr (bi r.2))::List.map SV.d ([.agg (aX x1),.agg (b_ x2),.int .i64 x3]:List DV))}):=by
 (intro x0 x1 x2 x3;apply Subtype.mk;intro r hm;apply je (N:=45) (k:=4) Tryz.func58 lc oK rfl rfl oD;unfold fO)
 repeat'(first|((with_reducible apply uO (id:=0) (cid:=1000) (off:=0) (n:=6) (e:=36));(focus(simp only[push_cast,seval];(try rfl);done));(focus(simp only[push_cast,seval];(try rfl);done));(focus decide);(focus rfl);(focus(intro _;rfl));(focus(simp only[push_cast,seval];(try rfl);done)))|with_reducible refine bA ?_|with_reducible refine bt ?_|with_reducible refine bm ?_|with_reducible refine bl ?_|with_reducible refine cw ?_|with_reducible refine bv ?_|with_reducible refine bB ?_|with_reducible refine cx ?_|with_reducible refine bq ?_|with_reducible refine dI ?_|((with_reducible apply dz hm);(iterate 2 (simp only[push_cast,seval];rfl));(intro _;rfl);intro e hm)|((with_reducible apply Ee hm);(iterate 3 (simp only[push_cast,seval];rfl));(intro _;rfl);intro e hm)|((with_reducible apply im);(simp only[push_cast,seval];rfl);(first|exact trivial))|((with_reducible apply aO hm);(simp only[push_cast,seval];rfl);intro hm;rotate_left;intro hm)|((with_reducible apply bE hm);intro r hm)|((apply az (b:=0) (X:=ff) (x:=c9) rfl (fun(c:SV×SV×SV×SV×SV×SV×SV×SV) (s:(List ac)×Int)=>st [(0,.ref 0 0),(3,c.1),(5,c.2.1),(6,c.2.2.1),(18,c.2.2.2.1),(19,c.2.2.2.2.1),(20,.d (.int .i64 s.2)),(45,.ref 0 0),(46,c.2.2.2.2.2.1),(47,c.2.2.2.2.2.2.1),(48,c.2.2.2.2.2.2.2)] [(1000,.vec 36 6 (bF ab s.1)),(0,.box (bL 1000))]) (c:=(_,_,_,_,_,_,_,_)) (s0:=(_,_)) hm);(focus(first|(dsimp only;done)));(with_reducible refine cN.mk ?_ ?_))|((apply bG (s':=(_,_)) hm);(focus(first|(dsimp only;done))))|((apply cZ (s':=(_,_)) hm);(focus(first|(dsimp only;done))))|(((with_reducible apply At hm (id:=0) (ms:=[.sl 36 (List.replicate 6 .sh)]));(focus((try((apply dB.trans);(focus((apply ed (id:=0) (cid:=1000) (off:=0) (n:=6) (e:=36) (row:=ab));(focus(simp only[push_cast,seval];(try rfl);done));(focus(simp only[push_cast,seval];(try rfl);done));(focus decide);(focus(simp only[push_cast,seval];(try rfl);done));(focus((repeat'(first|(with_reducible first|apply mP)));done));(focus(intro _;rfl));(focus(simp only[push_cast,seval];(try rfl);done))))));exact dB.refl _));(focus(simp only[push_cast,seval];(try rfl);done));(focus(simp only[push_cast,seval];(try rfl);done));(focus(simp only[push_cast,seval];(try rfl);done));(focus((repeat'(first|(with_reducible first|apply bK)|((with_reducible apply kY);(focus rfl);(focus((repeat'(first|rfl));done)))));done));(focus rfl);(first|apply lb _ _ _ _ _|apply aR _ _ _ _ _);(any_goals(focus((repeat'(first|rfl));done)));(focus(intro _;exact⟨rfl,rfl,rfl⟩));intro y hm))|(((with_reducible apply AL (a:=()) hm (ms:=[.sl 36 (List.replicate 6 .sh)]));(focus((try((apply dB.trans);(focus((apply ed (id:=0) (cid:=1000) (off:=0) (n:=6) (e:=36) (row:=ab));(focus(simp only[push_cast,seval];(try rfl);done));(focus(simp only[push_cast,seval];(try rfl);done));(focus decide);(focus(simp only[push_cast,seval];(try rfl);done));(focus((repeat'(first|(with_reducible first|apply mP)));done));(focus(intro _;rfl));(focus(simp only[push_cast,seval];(try rfl);done))))));exact dB.refl _));(focus(simp only[push_cast,seval];(try rfl);done));(focus((repeat'(first|(with_reducible first|apply bK)|((with_reducible apply kY);(focus rfl);(focus((repeat'(first|rfl));done)))));done));(focus(intro _;rfl));(focus(simp only[push_cast,seval];(try rfl);done));(focus(simp only[push_cast,seval];(try rfl);done));(focus(simp only[push_cast,seval];(try rfl);done));(focus(simp only[push_cast,seval];(try rfl);done));(focus(first|exact Au))))|(((with_reducible apply dC.of);(focus(first|(dsimp only;done)));(focus((intro _;repeat'(first|with_reducible exact dy|with_reducible refine aG ?_))));(intro s o hm;first|unfold c9);rotate_left;intro s hm))|(((apply aW;(repeat'(first|with_reducible exact aw|with_reducible exact ax|with_reducible apply ap|with_reducible apply aU|((with_reducible apply aP);(focus(first|(simp only[push_cast,seval];rfl)));(focus((repeat'(first|rfl));done)))|((with_reducible apply cC);(focus(first|(simp only[push_cast,seval];rfl)));(first|with_reducible exact bj rfl))));done))))
noncomputable def cI (x0:aL) (x1:aq) (x2:bV) (x3:Int):Option ((Unit)×aL):=(tI x0 x1 x2 x3).1
theorem kL (x0:aL) (x1:aq) (x2:bV) (x3:Int):∀ r,cI x0 x1 x2 x3=some r->cF Tryz.prog 58 (.own (.pt [.sl 36 (List.replicate 6 .sh)]) (.ptr (bi x0))::List.map SV.d ([.agg (aX x1),.agg (b_ x2),.int .i64 x3]:List DV)) (.tup []) (.own (.pt [.sl 36 (List.replicate 6 .sh)]) (.ptr (bi r.2))::List.map SV.d ([.agg (aX x1),.agg (b_ x2),.int .i64 x3]:List DV)):=(tI x0 x1 x2 x3).2
def mG:SC:=
 (.seq (.reg [.r 16 (.bin .lss (.t 15) (.t 14))])
 (.seq (.cond (.t 16)
  .skip
  (.exit 0))
 (.seq (.block 1 (.seq (.reg [.r 17 (.mv (.t 15)),
    .r 18 (.idx 3 (.t 13) (.t 15)),
    .o 19 (.ldA 3 (.t 18)),
    .w 7 (.boxM (.c (.agg [.d (.bool false),.d (.int .i64 0),.nils]))),
    .r 6 (.mv (.t 17)),
    .w 0 (.st 3 (.t 7) (.t 19))])
  (.seq (.reg [.w 8 (.boxM (.c (.agg [.nils])))])
  (.seq (.seq (.reg [.r 20 (.mv (.t 6)),
    .r 21 (.fld 1 (.t 3)),
    .o 22 (.ld1 (.t 21)),
    .r 23 (.len (.t 22)),
    .r 24 (.bin .lss (.t 20) (.t 23))])
  (.cond (.t 24)
   (.reg [.r 25 (.fld 1 (.t 3)),
     .o 26 (.ld1 (.t 25)),
     .r 27 (.mv (.t 6)),
     .r 28 (.idx 1 (.t 26) (.t 27)),
     .o 29 (.ldA 1 (.t 28)),
     .w 0 (.st 1 (.t 8) (.t 29))])
   .skip))
  (.seq (.seq (.reg [.r 30 (.fld 0 (.t 8)),
    .o 31 (.ld1 (.t 30)),
    .c 32 (.f 54) [.t 31,.f 55],
    .r 33 (.not (.t 32))])
  (.cond (.t 33)
   (.seq (.seq (.reg [.r 34 (.fld 0 (.t 7)),
     .o 35 (.ld1 (.t 34))])
   (.cond (.t 35)
    (.reg [.r 36 (.mv (.t 5)),
      .r 37 (.mv (.t 6)),
      .r 38 (.bin .add (.t 37) (.c (.d (.int .i64 1)))),
      .p (some 39) (.f 57) [.t 36,.c (.d (.int .i64 8)),.t 38,.c (.d (.int .i64 0)),.c (.d (.int .i64 0))]])
    .skip))
   (.exit 1))
   .skip))
  (.reg [.r 40 (.mv (.t 5)),
    .o 41 (.ldA 3 (.t 7)),
    .o 42 (.ldA 1 (.t 8)),
    .r 43 (.mv (.t 6)),
    .r 44 (.bin .add (.t 43) (.c (.d (.int .i64 1)))),
    .p (some 45) (.f 58) [.t 40,.t 41,.t 42,.t 44]]))))))
 (.reg [.r 46 (.bin .add (.t 15) (.c (.d (.int .i64 1)))),
   .r 15 (.mv (.t 46))]))))
def rh:SC:= .block 0 (.loop mG)
def ui:SC:=
 (.seq (.reg [.r 2 (.boxI (.t 0)),
   .r 3 (.boxI (.t 1)),
   .r 4 (.mv (.c (.nils)))])
 (.seq (.reg [.r 10 (.build [.nils] []),
   .w 11 (.boxM (.t 10)),
   .r 5 (.mv (.t 11))])
 (.seq (.seq (.reg [.r 12 (.fld 1 (.t 2)),
   .o 13 (.ld1 (.t 12)),
   .r 14 (.len (.t 13)),
   .r 15 (.mv (.c (.d (.int .i64 0))))])
 rh)
 (.seq (.seq (.reg [.r 47 (.fld 1 (.t 2)),
   .o 48 (.ld1 (.t 47)),
   .r 49 (.len (.t 48)),
   .r 9 (.mv (.t 49))])
 (.seq (.reg [.r 50 (.fld 1 (.t 3)),
   .o 51 (.ld1 (.t 50)),
   .r 52 (.len (.t 51)),
   .r 53 (.mv (.t 9)),
   .r 54 (.bin .gtr (.t 52) (.t 53))])
 (.cond (.t 54)
  (.reg [.r 55 (.mv (.t 5)),
    .r 56 (.mv (.t 9)),
    .r 57 (.bin .add (.t 56) (.c (.d (.int .i64 1)))),
    .p (some 58) (.f 57) [.t 55,.c (.d (.int .i64 5)),.t 57,.c (.d (.int .i64 0)),.c (.d (.int .i64 0))]])
  .skip)))
 (.seq (.reg [.r 59 (.mv (.t 5)),
   .r 60 (.nilc (.t 59)),
   .r 61 (.fld 0 (.t 60)),
   .o 62 (.ld1 (.t 61)),
   .p (some 63) (.f 59) [.t 62,.f 60]])
 (.seq (.reg [.r 64 (.mv (.t 5)),
   .r 65 (.nilc (.t 64)),
   .r 66 (.fld 0 (.t 65)),
   .o 67 (.ld1 (.t 66)),
   .r 4 (.mv (.t 67))])
 .ret))))))
theorem zD:fits Tryz.prog 27 Tryz.f27 ui [.t 4] 2=true:=oK
set_option maxRecDepth 100000 in
set_option maxHeartbeats 40000000 in
noncomputable def tJ:(∀ (x0:ah) (x1:aj),{m:Option ((List ac))//∀ r,m=some r->aa Tryz.prog 27 [.agg (ak x0),.agg (aN x1)] (.slice (List.map ab r))}):=by
 (intro x0 x1;apply Subtype.mk;intro r hm;apply af Tryz.func27 zD;unfold ui)
 repeat'(first|((with_reducible apply uO (id:=11) (cid:=1352) (off:=0) (n:=6) (e:=36));(focus(simp only[push_cast,seval];(try rfl);done));(focus(simp only[push_cast,seval];(try rfl);done));(focus decide);(focus rfl);(focus(intro _;rfl));(focus(simp only[push_cast,seval];(try rfl);done)))|((with_reducible apply MW (id:=11) (cid:=1352) (off:=0) (n:=6) (e:=36));(focus(simp only[push_cast,seval];(try rfl);done));(focus(simp only[push_cast,seval];(try rfl);done));(focus decide);(focus(simp only[push_cast,seval];(try rfl);done)))|with_reducible refine bA ?_|with_reducible refine bt ?_|with_reducible refine bm ?_|with_reducible refine bl ?_|with_reducible refine bR ?_|with_reducible refine cw ?_|with_reducible refine bv ?_|with_reducible refine bB ?_|with_reducible refine cx ?_|with_reducible refine bq ?_|with_reducible refine sI ?_|with_reducible refine dI ?_|((with_reducible apply dz hm);(iterate 2 (simp only[push_cast,seval];rfl));(intro _;rfl);intro e hm)|((with_reducible apply im);(simp only[push_cast,seval];rfl);(first|exact trivial))|((with_reducible apply fg hm);(simp only[push_cast,seval];rfl);(first|apply jG _ _ _ _ (fun a0 r h=>wI a0 r h));(any_goals((repeat'(first|rfl|(with_reducible first|apply cT|apply eo|apply cU)));done));intro x hm)|((with_reducible apply wM);(simp only[push_cast,seval];rfl);(first|exact trivial))|((with_reducible apply aO hm);(simp only[push_cast,seval];rfl);intro hm;rotate_left;intro hm)|((with_reducible apply bQ hm);(focus(simp only[bu,dc,RV.get,push_cast,seval];rfl));(focus((repeat'(first|rfl));done)))|((with_reducible apply bE hm);intro r hm)|((apply az (b:=0) (X:=rh) (x:=mG) rfl (fun(c:SV×SV×SV×SV) (s:(List ac)×Int)=>st [(2,c.1),(3,c.2.1),(5,.ref 11 0),(13,c.2.2.1),(14,c.2.2.2),(15,.d (.int .i64 s.2))] [(1352,.vec 36 6 (bF ab s.1)),(11,.box (bL 1352))]) (c:=(_,_,_,_)) (s0:=(_,_)) hm);(focus(first|(dsimp only;done)));(with_reducible refine cN.mk ?_ ?_))|((apply bG (s':=(_,_)) hm);(focus(first|(dsimp only;done))))|((apply cZ (s':=(_,_)) hm);(focus(first|(dsimp only;done))))|(((with_reducible apply At hm (id:=11) (ms:=[.sl 36 (List.replicate 6 .sh)]));(focus((try((apply dB.trans);(focus((apply ed (id:=11) (cid:=1352) (off:=0) (n:=6) (e:=36) (row:=ab));(focus(simp only[push_cast,seval];(try rfl);done));(focus(simp only[push_cast,seval];(try rfl);done));(focus decide);(focus(simp only[push_cast,seval];(try rfl);done));(focus((repeat'(first|(with_reducible first|apply mP)));done));(focus(intro _;rfl));(focus(simp only[push_cast,seval];(try rfl);done))))));exact dB.refl _));(focus(simp only[push_cast,seval];(try rfl);done));(focus(simp only[push_cast,seval];(try rfl);done));(focus(simp only[push_cast,seval];(try rfl);done));(focus((repeat'(first|(with_reducible first|apply bK)|((with_reducible apply kY);(focus rfl);(focus((repeat'(first|rfl));done)))));done));(focus rfl);(first|apply aR _ _ _ _ _|apply kL _ _ _ _);(any_goals(focus((repeat'(first|rfl|(with_reducible first|apply AC|apply p5|apply cT|apply eo|apply cU)));done)));(focus(intro _;exact⟨rfl,rfl,rfl⟩));intro y hm))|(((with_reducible apply xj hm);(focus(simp only[push_cast,seval];(try rfl);done));(focus(simp only[push_cast,seval];(try rfl);done));(focus(simp only[push_cast,seval];(try rfl);done));(focus(intro _;rfl));(focus(first|apply dW _ _ _ _ (fun a0 a1 r h=>su a0 a1 r h)));(any_goals(focus((repeat'(first|rfl));done)));(focus(intro _;exact⟨rfl,rfl⟩));intro y hm))|(((with_reducible apply dC.of);(focus(first|(dsimp only;done)));(focus((intro _;repeat'(first|with_reducible exact bo|with_reducible refine aG ?_))));(intro s o hm;first|unfold mG);rotate_left;intro s hm))|(((apply aW;(repeat'(first|with_reducible exact aw|with_reducible exact ax|with_reducible apply ap|with_reducible apply aU|((with_reducible apply aP);(focus(first|(simp only[push_cast,seval];rfl)));(focus((repeat'(first|rfl));done)))|((with_reducible apply cC);(focus(first|(simp only[push_cast,seval];rfl)));(first|with_reducible exact bj rfl|with_reducible apply qD))|(with_reducible first|apply Hg)));done))))
noncomputable def ri (x0:ah) (x1:aj):Option ((List ac)):=(tJ x0 x1).1
theorem yI (x0:ah) (x1:aj):∀ r,ri x0 x1=some r->aa Tryz.prog 27 [.agg (ak x0),.agg (aN x1)] (.slice (List.map ab r)):=(tJ x0 x1).2
def ug:SC:=
 (.seq (.reg [.r 1 (.boxI (.t 0)),
   .w 2 (.boxM (.c (.agg [.d (.str []),.d (.str []),.nils,.nils])))])
 (.seq (.reg [.o 3 (.ldA 2 (.t 1)),
   .r 4 (.bslice 2 [.t 3]),
   .r 5 (.fld 0 (.t 1)),
   .o 6 (.ld1 (.t 5)),
   .r 7 (.build [.d (.str []),.d (.str []),.d (.int .i64 0),.d (.int .i64 0),.nils] [(0,1,.t 6),(2,1,.c (.d (.int .i64 1))),(3,1,.c (.d (.int .i64 1)))]),
   .r 8 (.bslice 5 [.t 7]),
   .r 9 (.build [.d (.str []),.d (.str []),.nils,.nils] [(0,1,.c (.d (.str [97]))),(1,1,.c (.d (.str [97]))),(2,1,.t 4),(3,1,.t 8)]),
   .w 0 (.st 4 (.t 2) (.t 9))])
 .ret))
theorem zB:fits Tryz.prog 25 Tryz.f25 ug [.cell 2 4] 1=true:=oK
set_option maxRecDepth 100000 in
set_option maxHeartbeats 40000000 in
noncomputable def vG:(∀ (x0:ah),{m:Option (br)//∀ r,m=some r->aa Tryz.prog 25 [.agg (ak x0)] (.agg (cR r))}):=by
 (intro x0;apply Subtype.mk;intro r hm;apply af Tryz.func25 zB;unfold ug)
 repeat'(first|with_reducible refine bA ?_|with_reducible refine bt ?_|with_reducible refine bR ?_|with_reducible refine bv ?_|with_reducible refine bB ?_|with_reducible refine dI ?_|((with_reducible apply im);(simp only[push_cast,seval];rfl);(first|exact trivial))|((with_reducible apply wM);(simp only[push_cast,seval];rfl);(first|exact trivial))|((with_reducible apply bQ hm);(focus(simp only[bu,dc,RV.get,push_cast,seval];rfl));(focus((repeat'(first|rfl|(with_reducible first|apply B5|apply nP|apply p5|apply cT|apply cU|apply ez)));done))))
noncomputable def re (x0:ah):Option (br):=(vG x0).1
theorem yG (x0:ah):∀ r,re x0=some r->aa Tryz.prog 25 [.agg (ak x0)] (.agg (cR r)):=(vG x0).2
def uh:SC:=
 (.seq (.reg [.r 2 (.boxI (.t 0)),
   .r 3 (.boxI (.t 1)),
   .r 4 (.mv (.c (.nils))),
   .r 5 (.mv (.c (.d (.int .i64 0))))])
 (.seq (.seq (.reg [.r 8 (.fld 0 (.t 2)),
   .o 9 (.ld1 (.t 8)),
   .r 10 (.fld 0 (.t 3)),
   .o 11 (.ld1 (.t 10)),
   .r 12 (.bin .neq (.t 9) (.t 11))])
 (.cond (.t 12)
  (.seq (.reg [.r 4 (.mv (.c (.nils))),
    .r 5 (.mv (.c (.d (.int .i64 3))))])
  .ret)
  .skip))
 (.seq (.seq (.reg [.o 13 (.ldA 2 (.t 2)),
   .c 14 (.f 25) [.t 13],
   .c 15 (.f 24) [.t 14],
   .r 6 (.mv (.t 15))])
 (.seq (.reg [.r 16 (.mv (.t 6)),
   .r 17 (.bin .neq (.t 16) (.c (.d (.int .i64 0))))])
 (.cond (.t 17)
  (.seq (.reg [.r 18 (.mv (.t 6)),
    .r 4 (.mv (.c (.nils))),
    .r 5 (.mv (.t 18))])
  .ret)
  .skip)))
 (.seq (.seq (.reg [.o 19 (.ldA 2 (.t 3)),
   .r 20 (.bslice 2 [.t 19]),
   .c 21 (.f 26) [.t 20],
   .r 7 (.mv (.t 21))])
 (.seq (.reg [.r 22 (.mv (.t 7)),
   .r 23 (.bin .neq (.t 22) (.c (.d (.int .i64 0))))])
 (.cond (.t 23)
  (.seq (.reg [.r 24 (.mv (.t 7)),
    .r 4 (.mv (.c (.nils))),
    .r 5 (.mv (.t 24))])
  .ret)
  .skip)))
 (.seq (.reg [.o 25 (.ldA 2 (.t 2)),
   .o 26 (.ldA 2 (.t 3)),
   .c 27 (.f 27) [.t 25,.t 26],
   .r 4 (.mv (.t 27)),
   .r 5 (.mv (.c (.d (.int .i64 0))))])
 .ret)))))
theorem zC:fits Tryz.prog 7 Tryz.f7 uh [.t 4,.t 5] 2=true:=oK
set_option maxRecDepth 100000 in
set_option maxHeartbeats 40000000 in
noncomputable def vH:(∀ (x0:ah) (x1:aj),{m:Option ((List ac)×Int)//∀ r,m=some r->aa Tryz.prog 7 [.agg (ak x0),.agg (aN x1)] (.tup [.slice (List.map ab r.1),.int .i64 r.2])}):=by
 (intro x0 x1;apply Subtype.mk;intro r hm;apply af Tryz.func7 zC;unfold uh)
 repeat'(first|with_reducible refine bA ?_|with_reducible refine bt ?_|with_reducible refine bl ?_|with_reducible refine bR ?_|with_reducible refine bv ?_|with_reducible refine bB ?_|with_reducible refine cb ?_|with_reducible refine dI ?_|((with_reducible apply im);(simp only[push_cast,seval];rfl);(first|exact trivial))|((with_reducible apply fg hm);(simp only[push_cast,seval];rfl);(first|apply yG _|apply sR _|apply nf _|apply yI _ _);(any_goals((repeat'(first|rfl|(with_reducible first|apply cT|apply eo|apply cU|apply ez)));done));intro x hm)|((with_reducible apply aO hm);(simp only[push_cast,seval];rfl);intro hm;rotate_left;intro hm)|((with_reducible apply jO hm);(focus(simp only[bu,dc,RV.get,push_cast,seval];rfl));(focus(first|(dsimp only;done)));(focus((repeat'(first|rfl|(with_reducible first|apply wP|apply cT|apply eo|apply cU)));done))))
noncomputable def rf (x0:ah) (x1:aj):Option ((List ac)×Int):=(vH x0 x1).1
theorem yH (x0:ah) (x1:aj):∀ r,rf x0 x1=some r->aa Tryz.prog 7 [.agg (ak x0),.agg (aN x1)] (.tup [.slice (List.map ab r.1),.int .i64 r.2]):=(vH x0 x1).2
def eR:SC:=
 (.seq (.reg [.r 9 (.bin .lss (.t 8) (.t 7))])
 (.seq (.cond (.t 9)
  .skip
  (.exit 0))
 (.seq (.block 1 (.seq (.reg [.r 10 (.mv (.t 8)),
    .r 3 (.mv (.t 10))])
  (.seq (.reg (.r 11 (.mv (.t 0)):: .r 12 (.mv (.t 3)):: .r 13 (.sidx (.t 11) (.t 12)):: .r 14 (.bin .lss (.t 13) (.c (.d (.int .u8 48)))):: .r 15 (.mv (.t 14))::aV [16,17,18,19] 15 false (.r 16 (.mv (.t 0)):: .r 17 (.mv (.t 3)):: .r 18 (.sidx (.t 16) (.t 17)):: .r 19 (.bin .gtr (.t 18) (.c (.d (.int .u8 57))))::[]) (.r 20 (.pick (.t 15) (.c (.d (.bool true))) (.t 19))::[])))
  (.cond (.t 20)
   (.seq (.reg [.r 2 (.mv (.c (.d (.bool false))))])
   .ret)
   .skip))))
 (.reg [.r 21 (.bin .add (.t 8) (.c (.d (.int .i64 1)))),
   .r 8 (.mv (.t 21))]))))
def iS:SC:= .block 0 (.loop eR)
def jY:SC:=
 (.seq (.reg [.r 2 (.mv (.c (.d (.bool false))))])
 (.seq (.seq (.reg [.r 4 (.mv (.t 0)),
   .r 5 (.bin .eql (.t 4) (.c (.d (.str []))))])
 (.cond (.t 5)
  (.seq (.reg [.r 2 (.mv (.c (.d (.bool false))))])
  .ret)
  .skip))
 (.seq (.seq (.reg [.r 6 (.mv (.t 0)),
   .r 7 (.lenT (.t 6)),
   .r 8 (.mv (.c (.d (.int .i64 0))))])
 iS)
 (.seq (.reg [.r 2 (.mv (.c (.d (.bool true))))])
 .ret))))
theorem pK:fits Tryz.prog 185 Tryz.f185 jY [.t 2] 1=true:=oK
def eS:SC:=
 (.seq (.reg [.r 9 (.bin .lss (.t 8) (.t 7))])
 (.seq (.cond (.t 9)
  .skip
  (.exit 0))
 (.seq (.block 1 (.seq (.reg [.r 10 (.mv (.t 8)),
    .r 5 (.mv (.t 10))])
  (.seq (.reg [.r 11 (.mv (.t 4)),
    .r 12 (.bin .mul (.c (.d (.int .i64 10))) (.t 11)),
    .r 13 (.mv (.t 0)),
    .r 14 (.mv (.t 5)),
    .r 15 (.sidx (.t 13) (.t 14)),
    .r 16 (.bin .sub (.t 15) (.c (.d (.int .u8 48)))),
    .r 17 (.cvi .i64 (.t 16)),
    .r 18 (.bin .add (.t 12) (.t 17)),
    .r 4 (.mv (.t 18))])
  (.seq (.reg [.r 19 (.mv (.t 4)),
    .r 20 (.bin .gtr (.t 19) (.c (.d (.int .i64 1000000000000000))))])
  (.cond (.t 20)
   (.seq (.reg [.r 2 (.mv (.c (.d (.int .i64 0)))),
     .r 3 (.mv (.c (.d (.bool false))))])
   .ret)
   .skip)))))
 (.reg [.r 21 (.bin .add (.t 8) (.c (.d (.int .i64 1)))),
   .r 8 (.mv (.t 21))]))))
def iT:SC:= .block 0 (.loop eS)
def jZ:SC:=
 (.seq (.reg [.r 2 (.mv (.c (.d (.int .i64 0)))),
   .r 3 (.mv (.c (.d (.bool false))))])
 (.seq (.reg [.r 4 (.mv (.c (.d (.int .i64 0))))])
 (.seq (.seq (.reg [.r 6 (.mv (.t 0)),
   .r 7 (.lenT (.t 6)),
   .r 8 (.mv (.c (.d (.int .i64 0))))])
 iT)
 (.seq (.reg [.r 22 (.mv (.t 4)),
   .r 2 (.mv (.t 22)),
   .r 3 (.mv (.c (.d (.bool true))))])
 .ret))))
theorem pL:fits Tryz.prog 186 Tryz.f186 jZ [.t 2,.t 3] 1=true:=oK
set_option maxRecDepth 100000 in
set_option maxHeartbeats 40000000 in
noncomputable def mS:(∀ (x0:List UInt8),{m:Option (Bool)//∀ r,m=some r->aa Tryz.prog 185 [.str x0] (.bool r)})×(∀ (x0:List UInt8),{m:Option (Int×Bool)//∀ r,m=some r->aa Tryz.prog 186 [.str x0] (.tup [.int .i64 r.1,.bool r.2])}):=by
 refine⟨?g0, ?g1⟩
 case' g0=>(intro x0;apply Subtype.mk;intro r hm;apply af Tryz.func185 pK;unfold jY)
 case' g1=>(intro x0;apply Subtype.mk;intro r hm;apply af Tryz.func186 pL;unfold jZ)
 all_goals(repeat'(first|with_reducible refine bA ?_|with_reducible refine bt ?_|with_reducible refine bm ?_|with_reducible refine bl ?_|with_reducible refine bR ?_|with_reducible refine cw ?_|with_reducible refine bv ?_|with_reducible refine bB ?_|with_reducible refine cx ?_|with_reducible refine cb ?_|with_reducible refine bq ?_|with_reducible refine cg ?_|((with_reducible apply nA hm);(iterate 2 (simp only[push_cast,seval];rfl));intro e hm)|((with_reducible apply im);(simp only[push_cast,seval];rfl);(first|exact trivial))|((with_reducible apply qC hm);(simp only[push_cast,seval];rfl);rfl;intro v hm;rotate_left;intro v g hm)|((with_reducible apply aO hm);(simp only[push_cast,seval];rfl);intro hm;rotate_left;intro hm)|((with_reducible apply jO hm);(focus(simp only[bu,dc,RV.get,push_cast,seval];rfl));(focus(first|(dsimp only;done)));(focus((repeat'(first|rfl));done)))|((with_reducible apply bQ hm);(focus(simp only[bu,dc,RV.get,push_cast,seval];rfl));(focus((repeat'(first|rfl));done)))|((with_reducible apply cJ hm);(simp only[push_cast,seval];rfl))|((with_reducible apply bE hm);intro r hm)|((with_reducible apply di hm);intro r hm)|((apply az (b:=0) (X:=iS) (x:=eR) rfl (fun(c:SV×SV) (s:Int)=>st [(0,c.1),(7,c.2),(8,.d (.int .i64 s))] []) (c:=(_,_)) (s0:=_) hm);(focus(first|(dsimp only;done)));(with_reducible refine cN.mk ?_ ?_))|((apply az (b:=0) (X:=iT) (x:=eS) rfl (fun(c:SV×SV) (s:Int×Int)=>st [(0,c.1),(4,.d (.int .i64 s.1)),(7,c.2),(8,.d (.int .i64 s.2))] []) (c:=(_,_)) (s0:=(_,_)) hm);(focus(first|(dsimp only;done)));(with_reducible refine cN.mk ?_ ?_))|((apply bG (s':=(_,_)) hm);(focus(first|(dsimp only;done))))|((apply cZ (s':=(_,_)) hm);(focus(first|(dsimp only;done))))|((apply bG (s':=_) hm);(focus(first|(dsimp only;done))))|((apply cZ (s':=_) hm);(focus(first|(dsimp only;done))))|(((with_reducible apply gq hm);intro r hm))|(((with_reducible apply dC.of);(focus(first|(dsimp only;done)));(focus((intro _;repeat'(first|with_reducible exact bo|with_reducible refine aG ?_))));(intro s o hm;first|unfold eR|unfold eS);rotate_left;intro s hm))|(((apply aW;(repeat'(first|with_reducible exact aw|with_reducible exact ax|with_reducible apply ap|((with_reducible apply aP);(focus(first|(simp only[push_cast,seval];rfl)));(focus((repeat'(first|rfl));done)))));done)))))
noncomputable def gu (x0:List UInt8):Option (Bool):=(mS.1 x0).1
theorem jh (x0:List UInt8):∀ r,gu x0=some r->aa Tryz.prog 185 [.str x0] (.bool r):=(mS.1 x0).2
noncomputable def ep (x0:List UInt8):Option (Int×Bool):=(mS.2 x0).1
theorem ji (x0:List UInt8):∀ r,ep x0=some r->aa Tryz.prog 186 [.str x0] (.tup [.int .i64 r.1,.bool r.2]):=(mS.2 x0).2
def j0:SC:=
 (.seq (.reg [.w 2 (.boxM (.c (.agg [.d (.int .i64 0),.d (.int .i64 0)]))),
   .r 3 (.mv (.c (.d (.int .i64 0))))])
 (.seq (.seq (.reg [.r 11 (.mv (.t 0)),
   .r 12 (.lenT (.t 11)),
   .r 13 (.bin .gtr (.t 12) (.c (.d (.int .i64 40))))])
 (.cond (.t 13)
  (.seq (.reg [.r 14 (.build [.d (.int .i64 0),.d (.int .i64 0)] []),
    .w 0 (.st 2 (.t 2) (.t 14)),
    .r 3 (.mv (.c (.d (.int .i64 10))))])
  .ret)
  .skip))
 (.seq (.reg [.r 16 (.mv (.t 0)),
   .c 17 (.f 183) [.t 16,.c (.d (.str [45]))],
   .r 15 (.mv (.t 17)),
   .r 18 (.ext (.t 15) 0),
   .r 19 (.ext (.t 15) 1),
   .r 4 (.mv (.t 18)),
   .r 5 (.mv (.t 19))])
 (.seq (.reg [.r 21 (.mv (.t 4)),
   .c 22 (.f 184) [.t 21,.c (.d (.str [46]))],
   .r 20 (.mv (.t 22)),
   .r 23 (.ext (.t 20) 0),
   .r 24 (.ext (.t 20) 1),
   .r 25 (.ext (.t 20) 2),
   .r 6 (.mv (.t 23)),
   .r 7 (.mv (.t 24)),
   .r 8 (.mv (.t 25))])
 (.seq (.seq (.reg (.r 26 (.mv (.t 6)):: .c 27 (.f 185) [.t 26]:: .r 28 (.not (.t 27)):: .r 29 (.mv (.t 28))::aV [30,31,32,33,34,35,36,37] 29 false (.r 30 (.mv (.t 6)):: .r 31 (.lenT (.t 30)):: .r 32 (.bin .gtr (.t 31) (.c (.d (.int .i64 1)))):: .r 33 (.mv (.t 32))::aV [34,35,36] 33 true (.r 34 (.mv (.t 6)):: .r 35 (.sidx (.t 34) (.c (.d (.int .i64 0)))):: .r 36 (.bin .eql (.t 35) (.c (.d (.int .u8 48))))::[]) (.r 37 (.pick (.t 33) (.t 36) (.c (.d (.bool false))))::[])) (.r 38 (.pick (.t 29) (.c (.d (.bool true))) (.t 37)):: .r 39 (.mv (.t 38))::aV [40,41,42,43,44,45] 39 false (.r 40 (.mv (.t 8)):: .r 41 (.mv (.t 40))::aV [42,43,44] 41 true (.r 42 (.mv (.t 7)):: .c 43 (.f 185) [.t 42]:: .r 44 (.not (.t 43))::[]) (.r 45 (.pick (.t 41) (.t 44) (.c (.d (.bool false))))::[])) (.r 46 (.pick (.t 39) (.c (.d (.bool true))) (.t 45)):: .r 47 (.mv (.t 46))::aV [48,49,50] 47 false (.r 48 (.mv (.t 7)):: .r 49 (.lenT (.t 48)):: .r 50 (.bin .gtr (.t 49) (.c (.d (.int .i64 9))))::[]) (.r 51 (.pick (.t 47) (.c (.d (.bool true))) (.t 50))::[])))))
 (.cond (.t 51)
  (.seq (.reg [.r 52 (.build [.d (.int .i64 0),.d (.int .i64 0)] []),
    .w 0 (.st 2 (.t 2) (.t 52)),
    .r 3 (.mv (.c (.d (.int .i64 10))))])
  .ret)
  .skip))
 (.seq (.seq (.reg (.r 53 (.mv (.t 5)):: .r 54 (.mv (.t 53))::aV [55,56,57,58,59] 54 true (.r 55 (.mv (.t 6)):: .r 56 (.mv (.t 7)):: .r 57 (.bin .add (.t 55) (.t 56)):: .c 58 (.f 94) [.t 57,.c (.d (.str [48]))]:: .r 59 (.bin .eql (.t 58) (.c (.d (.str []))))::[]) (.r 60 (.pick (.t 54) (.t 59) (.c (.d (.bool false))))::[])))
 (.cond (.t 60)
  (.seq (.reg [.r 61 (.build [.d (.int .i64 0),.d (.int .i64 0)] []),
    .w 0 (.st 2 (.t 2) (.t 61)),
    .r 3 (.mv (.c (.d (.int .i64 10))))])
  .ret)
  .skip))
 (.seq (.reg [.r 63 (.mv (.t 6)),
   .r 64 (.mv (.t 7)),
   .r 65 (.bin .add (.t 63) (.t 64)),
   .c 66 (.f 186) [.t 65],
   .r 62 (.mv (.t 66)),
   .r 67 (.ext (.t 62) 0),
   .r 68 (.ext (.t 62) 1),
   .r 9 (.mv (.t 67)),
   .r 10 (.mv (.t 68))])
 (.seq (.seq (.reg [.r 69 (.mv (.t 10)),
   .r 70 (.not (.t 69))])
 (.cond (.t 70)
  (.seq (.reg [.r 71 (.build [.d (.int .i64 0),.d (.int .i64 0)] []),
    .w 0 (.st 2 (.t 2) (.t 71)),
    .r 3 (.mv (.c (.d (.int .i64 1))))])
  .ret)
  .skip))
 (.seq (.seq (.reg [.r 72 (.mv (.t 5))])
 (.cond (.t 72)
  (.reg [.r 73 (.mv (.t 9)),
    .r 74 (.neg (.t 73)),
    .r 9 (.mv (.t 74))])
  .skip))
 (.seq (.reg [.r 75 (.mv (.t 9)),
   .r 76 (.mv (.t 7)),
   .r 77 (.lenT (.t 76)),
   .r 78 (.build [.d (.int .i64 0),.d (.int .i64 0)] [(0,1,.t 75),(1,1,.t 77)]),
   .w 0 (.st 2 (.t 2) (.t 78)),
   .r 3 (.mv (.c (.d (.int .i64 0))))])
 .ret))))))))))
theorem pM:fits Tryz.prog 167 Tryz.f167 j0 [.cell 2 2,.t 3] 1=true:=oK
set_option maxRecDepth 100000 in
set_option maxHeartbeats 40000000 in
noncomputable def rT:(∀ (x0:List UInt8),{m:Option (cD×Int)//∀ r,m=some r->aa Tryz.prog 167 [.str x0] (.tup [.agg (dU r.1),.int .i64 r.2])}):=by
 (intro x0;apply Subtype.mk;intro r hm;apply af Tryz.func167 pM;unfold j0)
 repeat'(first|with_reducible refine bA ?_|with_reducible refine bt ?_|with_reducible refine bl ?_|with_reducible refine bR ?_|with_reducible refine bv ?_|with_reducible refine bB ?_|with_reducible refine cb ?_|((with_reducible apply nA hm);(iterate 2 (simp only[push_cast,seval];rfl));intro e hm)|((with_reducible apply im);(simp only[push_cast,seval];rfl);(first|exact trivial))|((with_reducible apply JX hm);(iterate 2 (simp only[push_cast,seval];rfl));intro hm)|((with_reducible apply fG hm);(simp only[push_cast,seval];rfl);rfl;intro v hm;rotate_left;intro v g hm)|((with_reducible apply qC hm);(simp only[push_cast,seval];rfl);rfl;intro v hm;rotate_left;intro v g hm)|((with_reducible apply fg hm);(simp only[push_cast,seval];rfl);(first|apply nT _ _|apply sY _ _|apply jh _|apply sk _ _|apply ji _);(any_goals((repeat'(first|rfl));done));intro x hm)|((with_reducible apply wM);(simp only[push_cast,seval];rfl);(first|exact trivial))|((with_reducible apply aO hm);(simp only[push_cast,seval];rfl);intro hm;rotate_left;intro hm)|((with_reducible apply jO hm);(focus(simp only[bu,dc,RV.get,push_cast,seval];rfl));(focus(first|(dsimp only;done)));(focus((repeat'(first|rfl|(with_reducible first|apply mf|apply wP|apply p5|apply eo)));done)))|((with_reducible apply cJ hm);(simp only[push_cast,seval];rfl)))
noncomputable def eq (x0:List UInt8):Option (cD×Int):=(rT x0).1
theorem pg (x0:List UInt8):∀ r,eq x0=some r->aa Tryz.prog 167 [.str x0] (.tup [.agg (dU r.1),.int .i64 r.2]):=(rT x0).2
end Go.Proofs.YteaolfcegaidpaaGreatDoor
