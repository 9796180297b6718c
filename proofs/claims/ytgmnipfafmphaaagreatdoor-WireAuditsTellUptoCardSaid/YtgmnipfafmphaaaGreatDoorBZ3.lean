/-
  Texts of mine, one behind the other (SZGB).
-/
import Derived.Test.YtgmnipfafmphaaaGreatDoorBZ1
import Derived.Test.YtgmnipfafmphaaaGreatDoorBZ2
import Derived.Test.YtgmnipfafmphaaaGreatDoorSZEngZz
import Derived.Test.YtgmnipfafmphaaaGreatDoorProg
import Derived.Test.YtgmnipfafmphaaaGreatDoorSZEngRq
namespace Go.Proofs.YtgmnipfafmphaaaGreatDoor
open Go.RowKit
set_option linter.unusedSimpArgs false
set_option linter.unusedVariables false
structure iQ where
 fknown:Bool
 fref:List UInt8
 fat:Int
 fmany:Int
 frefs:List ((List UInt8)×Bool)
 deriving DecidableEq
def ar (x:iQ):List DV:=[.bool x.fknown,.str x.fref,.int .i64 x.fat,.int .i64 x.fmany,(Dw .str (fun v=> .bool v) x.frefs)]
attribute [push_cast] ar
theorem ky {d0 d1 d2 d3 d4:SV} {v0:Bool} {v1:List UInt8} {v2:Int} {v3:Int} {v4:List ((List UInt8)×Bool)} (h0:ou d0 (.d (.bool v0))) (h1:ou d1 (.d (.str v1))) (h2:ou d2 (.d (.int .i64 v2))) (h3:ou d3 (.d (.int .i64 v3))) (h4:Js d4 (.own (.mp .str .sh) (Dw .str (fun v=> .bool v) v4))):aC [d0,d1,d2,d3,d4] (bW [.sh,.sh,.sh,.sh,.mp .str .sh] (ar ⟨v0,v1,v2,v3,v4⟩)):=by have h:=(aC.append (aC.consS h0 aC.nil) (aC.append (aC.consS h1 aC.nil) (aC.append (aC.consS h2 aC.nil) (aC.append (aC.consS h3 aC.nil) (aC.cons h4 aC.nil)))));simp only[push_cast,seval,dR] at h⊢;exact h
def xJ (p0:Bool) (p1:List UInt8) (p2:Int) (p3:Int) (p4:Nat):List SV:=[.d (.bool p0)]++([.d (.str p1)]++([.d (.int .i64 p2)]++([.d (.int .i64 p3)]++([.mp p4]))))
attribute [push_cast] xJ
structure aO where
 flevels:List iQ
 fnotes:List ac
 deriving DecidableEq
def aV (x:aO):List DV:=[.slice (List.map (fS ar) x.flevels),.slice (List.map ab x.fnotes)]
attribute [push_cast] aV
theorem cB {d0 d1:SV} {v0:List iQ} {v1:List ac} {m0:List aL} {m1:List aL} (h0:Js d0 (.own (.sl 148 m0) (.slice (List.map (fS ar) v0)))) (h1:Js d1 (.own (.sl 69 m1) (.slice (List.map ab v1)))):aC [d0,d1] (bW [.sl 148 m0,.sl 69 m1] (aV ⟨v0,v1⟩)):=by have h:=(aC.append (aC.cons h0 aC.nil) (aC.cons h1 aC.nil));simp only[push_cast,seval,dR] at h⊢;exact h
def h_ (p0:Nat) (p1:Nat):List SV:=[.vec p0]++([.vec p1])
attribute [push_cast] h_
def dG:SC:=
 (.seq (.reg [.r 9 (.bin .lss (.t 8) (.t 7))])
 (.seq (.cond (.t 9)
  .skip
  (.exit 0))
 (.seq (.block 1 (.seq (.reg [.r 10 (.mv (.t 8)),
    .r 5 (.mv (.t 10))])
  (.seq (.reg [.r 11 (.mv (.t 1)),
    .r 12 (.mv (.t 0)),
    .r 13 (.mv (.t 5)),
    .r 14 (.idx 1 (.t 12) (.t 13)),
    .o 15 (.ld1 (.t 14)),
    .r 16 (.bin .eql (.t 11) (.t 15))])
  (.cond (.t 16)
   (.seq (.reg [.r 17 (.mv (.t 5)),
     .r 4 (.mv (.t 17))])
   .ret)
   .skip))))
 (.reg [.r 18 (.bin .add (.t 8) (.c (.d (.int .i64 1)))),
   .r 8 (.mv (.t 18))]))))
def fl:SC:= .block 0 (.loop dG)
def gg:SC:=
 (.seq (.reg [.r 4 (.mv (.c (.d (.int .i64 0))))])
 (.seq (.seq (.reg [.r 6 (.mv (.t 0)),
   .r 7 (.len (.t 6)),
   .r 8 (.mv (.c (.d (.int .i64 0))))])
 fl)
 (.seq (.reg [.r 4 (.mv (.c (.d (.int .i64 (-1)))))])
 .ret)))
theorem ko:fits Tryz.prog 22 Tryz.f22 gg [.t 4] 2=true:=oK
def oi:SC:=
 (.seq (.reg [.r 2 (.boxI (.t 0)),
   .r 3 (.boxI (.t 1)),
   .r 4 (.mv (.c (.d (.int .i64 0))))])
 (.seq (.seq (.reg [.r 5 (.fld 1 (.t 2)),
   .o 6 (.ld1 (.t 5)),
   .r 7 (.fld 1 (.t 3)),
   .o 8 (.ld1 (.t 7)),
   .r 9 (.bin .neq (.t 6) (.t 8))])
 (.cond (.t 9)
  (.seq (.reg [.r 10 (.fld 1 (.t 2)),
    .o 11 (.ld1 (.t 10)),
    .r 12 (.fld 1 (.t 3)),
    .o 13 (.ld1 (.t 12)),
    .r 14 (.bin .sub (.t 11) (.t 13)),
    .r 4 (.mv (.t 14))])
  .ret)
  .skip))
 (.seq (.reg [.r 15 (.fld 0 (.t 2)),
   .o 16 (.ld1 (.t 15)),
   .r 17 (.fld 0 (.t 3)),
   .o 18 (.ld1 (.t 17)),
   .r 19 (.bin .sub (.t 16) (.t 18)),
   .r 4 (.mv (.t 19))])
 .ret)))
theorem tC:fits Tryz.prog 56 Tryz.f56 oi [.t 4] 2=true:=oK
set_option maxRecDepth 100000 in
set_option maxHeartbeats 40000000 in
noncomputable def gX:(∀ (x0:List (List UInt8)) (x1:List UInt8),{m:Option (Int)//∀ r,m=some r->ae Tryz.prog 22 [.slice (List.map dB x0),.str x1] (.int .i64 r)})×(∀ (x0:ac) (x1:ac),{m:Option (Int)//∀ r,m=some r->ae Tryz.prog 56 [.agg (ab x0),.agg (ab x1)] (.int .i64 r)}):=by
 refine⟨?g0, ?g1⟩
 case' g0=>(intro x0 x1;apply Subtype.mk;intro r hm;apply az Tryz.func22 ko;unfold gg)
 case' g1=>(intro x0 x1;apply Subtype.mk;intro r hm;apply az Tryz.func56 tC;unfold oi)
 all_goals(repeat'(first|with_reducible refine d6 ?_|with_reducible refine dL ?_|with_reducible refine cd ?_|with_reducible refine cG ?_|with_reducible refine fL ?_|with_reducible refine d8 ?_|with_reducible refine dM ?_|with_reducible refine d7 ?_|with_reducible refine d9 ?_|with_reducible refine eO ?_|with_reducible refine cg ?_|with_reducible refine eh ?_|with_reducible refine fV ?_|((with_reducible apply gy hm);(iterate 2 (simp only[push_cast,seval];rfl));(intro _;rfl);intro e hm)|((with_reducible apply j1);(simp only[push_cast,seval];rfl);(first|exact trivial))|((with_reducible apply cj hm);(simp only[push_cast,seval];rfl);intro hm;rotate_left;intro hm)|((with_reducible apply fT hm);(focus(simp only[eN,jg,RV.get,push_cast,seval];rfl));(focus((repeat'(first|rfl));done)))|((with_reducible apply dZ hm);intro r hm)|((with_reducible apply gn hm);intro r hm)|((apply aF (b:=0) (X:=fl) (x:=dG) rfl (fun(c:SV×SV×SV) (s:Int)=>st [(0,c.1),(1,c.2.1),(7,c.2.2),(8,.d (.int .i64 s))] []) (c:=(_,_,_)) (s0:=_) hm);(focus(first|(dsimp only;done)));(with_reducible refine dP.mk ?_ ?_))|((apply ea (s':=_) hm);(focus(first|(dsimp only;done))))|((apply fU (s':=_) hm);(focus(first|(dsimp only;done))))|(((with_reducible apply kQ hm);intro r hm))|(((with_reducible apply go.of);(focus(first|(dsimp only;done)));(focus((intro _;repeat'(first|with_reducible exact fd|with_reducible refine di ?_))));(intro s o hm;first|unfold dG);rotate_left;intro s hm))|(((apply dt;(repeat'(first|with_reducible exact bS|with_reducible exact bT|with_reducible apply bi|((with_reducible apply ck);(focus(first|(simp only[push_cast,seval];rfl)));(focus((repeat'(first|rfl));done)))));done)))))
noncomputable def cZ (x0:List (List UInt8)) (x1:List UInt8):Option (Int):=(gX.1 x0 x1).1
theorem fM (x0:List (List UInt8)) (x1:List UInt8):∀ r,cZ x0 x1=some r->ae Tryz.prog 22 [.slice (List.map dB x0),.str x1] (.int .i64 r):=(gX.1 x0 x1).2
noncomputable def jQ (x0:ac) (x1:ac):Option (Int):=(gX.2 x0 x1).1
theorem mq (x0:ac) (x1:ac):∀ r,jQ x0 x1=some r->ae Tryz.prog 56 [.agg (ab x0),.agg (ab x1)] (.int .i64 r):=(gX.2 x0 x1).2
def fp:SC:=
 (.reg [.r 6 (.mv (.t 0)),
   .r 7 (.mv (.t 0)),
   .r 8 (.nilc (.t 7)),
   .r 9 (.fld 1 (.t 8)),
   .o 10 (.ld1 (.t 9)),
   .r 11 (.mv (.t 1)),
   .r 12 (.mv (.t 2)),
   .r 13 (.build [.d (.int .i64 0),.d (.int .i64 0)] [(0,1,.t 11),(1,1,.t 12)]),
   .r 14 (.bslice 2 [.t 13]),
   .w 15 (.app 69 2 (.t 10) (.t 14)),
   .r 16 (.nilc (.t 6)),
   .r 17 (.fld 1 (.t 16)),
   .w 0 (.st 1 (.t 17) (.t 15))])
theorem jk:fits Tryz.prog 53 Tryz.f53 fp [] 3=true:=oK
set_option maxRecDepth 100000 in
set_option maxHeartbeats 40000000 in
noncomputable def pz:(∀ (x0:aO) (x1:Int) (x2:Int),{m:Option ((Unit)×aO)//∀ r,m=some r->bI Tryz.prog 53 (.own (.pt [.sl 148 [.pt [.sh,.sh,.sh,.sh,.mp .str .sh]],.sl 69 (List.replicate 2 .sh)]) (.ptr (aV x0))::List.map SV.d ([.int .i64 x1,.int .i64 x2]:List DV)) (.tup []) (.own (.pt [.sl 148 [.pt [.sh,.sh,.sh,.sh,.mp .str .sh]],.sl 69 (List.replicate 2 .sh)]) (.ptr (aV r.2))::List.map SV.d ([.int .i64 x1,.int .i64 x2]:List DV))}):=by
 (intro x0 x1 x2;apply Subtype.mk;intro r hm;apply mj (N:=18) (k:=3) Tryz.func53 jk oK rfl rfl oD;unfold fp)
 repeat'(first|((with_reducible apply oY (id:=0) (cid:=1000) (off:=0) (n:=1) (e:=148) (ms:=[.pt [.sh,.sh,.sh,.sh,.mp .str .sh]]) (row:=(fS ar)));(focus(simp only[push_cast,seval];(try rfl);done));(focus(simp only[push_cast,seval];(try rfl);done));(focus decide);(focus rfl);(focus(simp only[push_cast,seval];(try rfl);done)))|((with_reducible apply oX (id:=0) (cid:=1001) (off:=1) (n:=2) (e:=69));(focus(simp only[push_cast,seval];(try rfl);done));(focus(simp only[push_cast,seval];(try rfl);done));(focus decide);(focus rfl);(focus(intro _;rfl));(focus(simp only[push_cast,seval];(try rfl);done)))|with_reducible refine dL ?_|with_reducible refine dM ?_|with_reducible refine fV ?_|((with_reducible apply j1);(simp only[push_cast,seval];rfl);(first|exact trivial))|((with_reducible apply zg);(simp only[push_cast,seval];rfl);(first|exact trivial))|((with_reducible apply zF hm);(iterate 4 (simp only[push_cast,seval];rfl));(focus((repeat'(first|rfl|(with_reducible first|apply zL|apply ew|apply ex|apply eL)));done));decide;(intro _;rfl);intro hm)|(((with_reducible apply vd (a:=()) hm (ms:=[.sl 148 [.pt [.sh,.sh,.sh,.sh,.mp .str .sh]],.sl 69 (List.replicate 2 .sh)]));(focus((try((apply ce.trans);(focus((apply ff (id:=0) (cid:=1000) (off:=0) (n:=1) (e:=148) (ms:=[.pt [.sh,.sh,.sh,.sh,.mp .str .sh]]) (row:=(fS ar)));(focus(simp only[push_cast,seval];(try rfl);done));(focus(simp only[push_cast,seval];(try rfl);done));(focus decide);(focus(simp only[push_cast,seval];(try rfl);done));(focus((repeat'(first|(with_reducible first|apply kb)));done));(focus rfl);(focus(intro _;rfl));(focus(simp only[push_cast,seval];(try rfl);done))))));(try((apply ce.trans);(focus((apply fe (id:=0) (cid:=1001) (off:=1) (n:=2) (e:=69));(focus(simp only[push_cast,seval];(try rfl);done));(focus(simp only[push_cast,seval];(try rfl);done));(focus decide);(focus(simp only[push_cast,seval];(try rfl);done));(focus((repeat'(first|(with_reducible first|apply k0)));done));(focus(intro _;rfl));(focus(simp only[push_cast,seval];(try rfl);done))))));exact ce.refl _));(focus(simp only[push_cast,seval];(try rfl);done));(focus((repeat'(first|(with_reducible first|apply cB)|((with_reducible apply hY);(focus rfl);(focus((repeat'(first|rfl));done)))));done));(focus(intro _;rfl));(focus(simp only[push_cast,seval];(try rfl);done));(focus(simp only[push_cast,seval];(try rfl);done));(focus(simp only[push_cast,seval];(try rfl);done));(focus(simp only[push_cast,seval];(try rfl);done));(focus(first|exact uB)))))
noncomputable def bf (x0:aO) (x1:Int) (x2:Int):Option ((Unit)×aO):=(pz x0 x1 x2).1
theorem b9 (x0:aO) (x1:Int) (x2:Int):∀ r,bf x0 x1 x2=some r->bI Tryz.prog 53 (.own (.pt [.sl 148 [.pt [.sh,.sh,.sh,.sh,.mp .str .sh]],.sl 69 (List.replicate 2 .sh)]) (.ptr (aV x0))::List.map SV.d ([.int .i64 x1,.int .i64 x2]:List DV)) (.tup []) (.own (.pt [.sl 148 [.pt [.sh,.sh,.sh,.sh,.mp .str .sh]],.sl 69 (List.replicate 2 .sh)]) (.ptr (aV r.2))::List.map SV.d ([.int .i64 x1,.int .i64 x2]:List DV)):=(pz x0 x1 x2).2
def cI:SC:=
 (.seq (.seq (.reg [.r 6 (.mv (.t 0)),
   .r 7 (.nilc (.t 6)),
   .r 8 (.fld 0 (.t 7)),
   .o 9 (.ld1 (.t 8)),
   .r 10 (.len (.t 9)),
   .r 11 (.mv (.t 1)),
   .r 12 (.bin .gtr (.t 10) (.t 11))])
 (.cond (.t 12)
  .skip
  (.exit 0)))
 (.block 1 (.seq (.reg [.r 13 (.mv (.t 0)),
    .r 14 (.mv (.t 2)),
    .p (some 15) (.f 53) [.t 13,.c (.d (.int .i64 2)),.t 14]])
  (.regE [.r 16 (.mv (.t 0)),
    .r 17 (.mv (.t 0)),
    .r 18 (.nilc (.t 17)),
    .r 19 (.fld 0 (.t 18)),
    .r 20 (.ld1 (.t 19)),
    .r 21 (.mv (.t 0)),
    .r 22 (.nilc (.t 21)),
    .r 23 (.fld 0 (.t 22)),
    .r 24 (.ld1 (.t 23)),
    .r 25 (.len (.t 24)),
    .r 26 (.bin .sub (.t 25) (.c (.d (.int .i64 1)))),
    .x 27 (.trunc 1 (.t 20) (.t 26)) [(0,16,.mv (.t 0))],
    .r 28 (.nilc (.t 16)),
    .r 29 (.fld 0 (.t 28)),
    .x 0 (.st 1 (.t 29) (.t 27)) []]))))
def ey:SC:= .block 0 (.loop cI)
def eZ:SC:=
 ey
theorem iR:fits Tryz.prog 54 Tryz.f54 eZ [] 3=true:=oK
set_option maxRecDepth 100000 in
set_option maxHeartbeats 40000000 in
noncomputable def pA:(∀ (x0:aO) (x1:Int) (x2:Int),{m:Option ((Unit)×aO)//∀ r,m=some r->bI Tryz.prog 54 (.own (.pt [.sl 148 [.pt [.sh,.sh,.sh,.sh,.mp .str .sh]],.sl 69 (List.replicate 2 .sh)]) (.ptr (aV x0))::List.map SV.d ([.int .i64 x1,.int .i64 x2]:List DV)) (.tup []) (.own (.pt [.sl 148 [.pt [.sh,.sh,.sh,.sh,.mp .str .sh]],.sl 69 (List.replicate 2 .sh)]) (.ptr (aV r.2))::List.map SV.d ([.int .i64 x1,.int .i64 x2]:List DV))}):=by
 (intro x0 x1 x2;apply Subtype.mk;intro r hm;apply mj (N:=30) (k:=3) Tryz.func54 iR oK rfl rfl oD;unfold eZ)
 repeat'(first|((with_reducible apply oY (id:=0) (cid:=1000) (off:=0) (n:=1) (e:=148) (ms:=[.pt [.sh,.sh,.sh,.sh,.mp .str .sh]]) (row:=(fS ar)));(focus(simp only[push_cast,seval];(try rfl);done));(focus(simp only[push_cast,seval];(try rfl);done));(focus decide);(focus rfl);(focus(simp only[push_cast,seval];(try rfl);done)))|((with_reducible apply oX (id:=0) (cid:=1001) (off:=1) (n:=2) (e:=69));(focus(simp only[push_cast,seval];(try rfl);done));(focus(simp only[push_cast,seval];(try rfl);done));(focus decide);(focus rfl);(focus(intro _;rfl));(focus(simp only[push_cast,seval];(try rfl);done)))|with_reducible refine d6 ?_|with_reducible refine dL ?_|with_reducible refine nI ?_|with_reducible refine cd ?_|with_reducible refine cG ?_|with_reducible refine d8 ?_|with_reducible refine dM ?_|with_reducible refine d7 ?_|with_reducible refine d9 ?_|with_reducible refine cg ?_|with_reducible refine fV ?_|((with_reducible apply j1);(simp only[push_cast,seval];rfl);(first|exact trivial))|((with_reducible apply B1 hm);(iterate 3 (simp only[push_cast,seval];rfl));(focus(first|(simp only[push_cast,seval];rfl)));(focus(first|rfl));(focus(intro _ _;(repeat'(first|exact eC|((with_reducible apply fc);(focus(simp only[push_cast,seval];rfl));(focus(first|exact trivial));(focus(simp only[push_cast,seval])))));done));intro l hm)|((with_reducible apply GA);(simp only[push_cast,seval];rfl);(first|exact trivial);(focus((repeat'(first|exact eC));done)))|((with_reducible apply cj hm);(simp only[push_cast,seval];rfl);intro hm;rotate_left;intro hm)|((with_reducible apply dZ hm);intro r hm)|((apply aF (b:=0) (X:=ey) (x:=cI) rfl (fun(c:SV×SV×SV×SV) (s:(List iQ)×(List ac))=>st [(0,.ref 0 0),(1,c.1),(2,c.2.1),(30,.ref 0 0),(31,c.2.2.1),(32,c.2.2.2)] [(1000,.vec 148 1 (aw [.pt [.sh,.sh,.sh,.sh,.mp .str .sh]] (fS ar) s.1)),(1001,.vec 69 2 (bH ab s.2)),(0,.box (h_ 1000 1001))]) (c:=(_,_,_,_)) (s0:=(_,_)) hm);(focus(first|(dsimp only;done)));(with_reducible refine dP.mk ?_ ?_))|((apply ea (s':=(_,_)) hm);(focus(first|(dsimp only;done))))|((apply fU (s':=(_,_)) hm);(focus(first|(dsimp only;done))))|(((with_reducible apply Hu hm (id:=0) (ms:=[.sl 148 [.pt [.sh,.sh,.sh,.sh,.mp .str .sh]],.sl 69 (List.replicate 2 .sh)]));(focus((try((apply ce.trans);(focus((apply ff (id:=0) (cid:=1000) (off:=0) (n:=1) (e:=148) (ms:=[.pt [.sh,.sh,.sh,.sh,.mp .str .sh]]) (row:=(fS ar)));(focus(simp only[push_cast,seval];(try rfl);done));(focus(simp only[push_cast,seval];(try rfl);done));(focus decide);(focus(simp only[push_cast,seval];(try rfl);done));(focus((repeat'(first|(with_reducible first|apply kb)));done));(focus rfl);(focus(intro _;rfl));(focus(simp only[push_cast,seval];(try rfl);done))))));(try((apply ce.trans);(focus((apply fe (id:=0) (cid:=1001) (off:=1) (n:=2) (e:=69));(focus(simp only[push_cast,seval];(try rfl);done));(focus(simp only[push_cast,seval];(try rfl);done));(focus decide);(focus(simp only[push_cast,seval];(try rfl);done));(focus((repeat'(first|(with_reducible first|apply k0)));done));(focus(intro _;rfl));(focus(simp only[push_cast,seval];(try rfl);done))))));exact ce.refl _));(focus(simp only[push_cast,seval];(try rfl);done));(focus(simp only[push_cast,seval];(try rfl);done));(focus(simp only[push_cast,seval];(try rfl);done));(focus((repeat'(first|(with_reducible first|apply cB)|((with_reducible apply hY);(focus rfl);(focus((repeat'(first|rfl));done)))));done));(focus rfl);(first|apply b9 _ _ _);(any_goals(focus((repeat'(first|rfl));done)));(focus(intro _;exact⟨rfl,rfl,rfl⟩));intro y hm))|(((with_reducible apply vd (a:=()) hm (ms:=[.sl 148 [.pt [.sh,.sh,.sh,.sh,.mp .str .sh]],.sl 69 (List.replicate 2 .sh)]));(focus((try((apply ce.trans);(focus((apply ff (id:=0) (cid:=1000) (off:=0) (n:=1) (e:=148) (ms:=[.pt [.sh,.sh,.sh,.sh,.mp .str .sh]]) (row:=(fS ar)));(focus(simp only[push_cast,seval];(try rfl);done));(focus(simp only[push_cast,seval];(try rfl);done));(focus decide);(focus(simp only[push_cast,seval];(try rfl);done));(focus((repeat'(first|(with_reducible first|apply kb)));done));(focus rfl);(focus(intro _;rfl));(focus(simp only[push_cast,seval];(try rfl);done))))));(try((apply ce.trans);(focus((apply fe (id:=0) (cid:=1001) (off:=1) (n:=2) (e:=69));(focus(simp only[push_cast,seval];(try rfl);done));(focus(simp only[push_cast,seval];(try rfl);done));(focus decide);(focus(simp only[push_cast,seval];(try rfl);done));(focus((repeat'(first|(with_reducible first|apply k0)));done));(focus(intro _;rfl));(focus(simp only[push_cast,seval];(try rfl);done))))));exact ce.refl _));(focus(simp only[push_cast,seval];(try rfl);done));(focus((repeat'(first|(with_reducible first|apply cB)|((with_reducible apply hY);(focus rfl);(focus((repeat'(first|rfl));done)))));done));(focus(intro _;rfl));(focus(simp only[push_cast,seval];(try rfl);done));(focus(simp only[push_cast,seval];(try rfl);done));(focus(simp only[push_cast,seval];(try rfl);done));(focus(simp only[push_cast,seval];(try rfl);done));(focus(first|exact uB))))|(((with_reducible apply go.of);(focus(first|(dsimp only;done)));(focus((intro _;repeat'(first|with_reducible exact iY))));(intro s o hm;first|unfold cI);rotate_left;intro s hm))|(((apply dt;(repeat'(first|with_reducible exact bS|with_reducible exact bT|with_reducible apply bi|with_reducible apply c8|((with_reducible apply ck);(focus(first|(simp only[push_cast,seval];rfl)));(focus((repeat'(first|rfl));done)))|((with_reducible apply gj);(focus(first|(simp only[push_cast,seval];rfl)));(first|with_reducible exact bk rfl))));done))))
noncomputable def dH (x0:aO) (x1:Int) (x2:Int):Option ((Unit)×aO):=(pA x0 x1 x2).1
theorem cT (x0:aO) (x1:Int) (x2:Int):∀ r,dH x0 x1 x2=some r->bI Tryz.prog 54 (.own (.pt [.sl 148 [.pt [.sh,.sh,.sh,.sh,.mp .str .sh]],.sl 69 (List.replicate 2 .sh)]) (.ptr (aV x0))::List.map SV.d ([.int .i64 x1,.int .i64 x2]:List DV)) (.tup []) (.own (.pt [.sl 148 [.pt [.sh,.sh,.sh,.sh,.mp .str .sh]],.sl 69 (List.replicate 2 .sh)]) (.ptr (aV r.2))::List.map SV.d ([.int .i64 x1,.int .i64 x2]:List DV)):=(pA x0 x1 x2).2
def cU:SC:=
 (.seq (.seq (.reg [.r 25 (.mv (.t 0)),
   .r 26 (.nilc (.t 25)),
   .r 27 (.fld 0 (.t 26)),
   .o 28 (.ld1 (.t 27)),
   .r 29 (.len (.t 28)),
   .r 30 (.mv (.t 2)),
   .r 31 (.bin .lss (.t 29) (.t 30))])
 (.cond (.t 31)
  .skip
  (.exit 0)))
 (.block 1 (.reg [.r 32 (.mv (.t 0)),
    .r 33 (.mv (.t 0)),
    .r 34 (.nilc (.t 33)),
    .r 35 (.fld 0 (.t 34)),
    .o 36 (.ld1 (.t 35)),
    .w 37 (.mkmap .str),
    .r 38 (.build [.d (.bool false),.d (.str []),.d (.int .i64 0),.d (.int .i64 0),.d (.raw (.map none))] [(4,1,.t 37)]),
    .w 39 (.boxM (.t 38)),
    .r 40 (.bslice 1 [.t 39]),
    .w 41 (.app 148 1 (.t 36) (.t 40)),
    .r 42 (.nilc (.t 32)),
    .r 43 (.fld 0 (.t 42)),
    .w 0 (.st 1 (.t 43) (.t 41))])))
def eJ:SC:= .block 0 (.loop cU)
def bd:SC:=(.reg [.r 89 (.mv (.t 0)),
   .r 90 (.mv (.t 0)),
   .r 91 (.nilc (.t 90)),
   .r 92 (.fld 0 (.t 91)),
   .o 93 (.ld1 (.t 92)),
   .r 94 (.mv (.t 8)),
   .r 95 (.mv (.t 3)),
   .w 96 (.mkmap .str),
   .r 97 (.build [.d (.bool false),.d (.str []),.d (.int .i64 0),.d (.int .i64 0),.d (.raw (.map none))] [(0,1,.c (.d (.bool true))),(1,1,.t 94),(2,1,.t 95),(4,1,.t 96)]),
   .w 98 (.boxM (.t 97)),
   .r 99 (.bslice 1 [.t 98]),
   .w 100 (.app 148 1 (.t 93) (.t 99)),
   .r 101 (.nilc (.t 89)),
   .r 102 (.fld 0 (.t 101)),
   .w 0 (.st 1 (.t 102) (.t 100))])
def fq:SC:=
 (.seq (.reg [.r 5 (.boxI (.t 1))])
 (.seq (.reg [.r 11 (.mv (.t 0)),
   .r 12 (.mv (.t 2)),
   .r 13 (.mv (.t 3)),
   .p (some 14) (.f 54) [.t 11,.t 12,.t 13]])
 (.seq (.seq (.reg [.r 15 (.mv (.t 0)),
   .r 16 (.nilc (.t 15)),
   .r 17 (.fld 0 (.t 16)),
   .o 18 (.ld1 (.t 17)),
   .r 19 (.len (.t 18)),
   .r 20 (.mv (.t 2)),
   .r 21 (.bin .lss (.t 19) (.t 20))])
 (.cond (.t 21)
  (.seq (.reg [.r 22 (.mv (.t 0)),
    .r 23 (.mv (.t 3)),
    .p (some 24) (.f 53) [.t 22,.c (.d (.int .i64 1)),.t 23]])
  eJ)
  .skip))
 (.seq (.reg [.o 44 (.ldA 2 (.t 5)),
   .c 45 (.f 92) [.t 44],
   .r 8 (.mv (.t 45))])
 (.seq (.seq (.reg [.o 46 (.ldA 2 (.t 5)),
   .c 47 (.f 93) [.t 46],
   .r 48 (.not (.t 47))])
 (.cond (.t 48)
  (.reg [.r 49 (.mv (.t 0)),
    .r 50 (.mv (.t 3)),
    .p (some 51) (.f 53) [.t 49,.c (.d (.int .i64 6)),.t 50]])
  .skip))
 (.seq (.seq (.reg [.r 52 (.mv (.t 2)),
   .r 53 (.bin .gtr (.t 52) (.c (.d (.int .i64 0))))])
 (.cond (.t 53)
  (.seq (.reg [.r 54 (.mv (.t 0)),
    .r 55 (.nilc (.t 54)),
    .r 56 (.fld 0 (.t 55)),
    .o 57 (.ld1 (.t 56)),
    .r 58 (.mv (.t 2)),
    .r 59 (.bin .sub (.t 58) (.c (.d (.int .i64 1)))),
    .r 60 (.idx 1 (.t 57) (.t 59)),
    .o 61 (.ld1 (.t 60)),
    .r 9 (.mv (.t 61))])
  (.seq (.reg [.r 62 (.mv (.t 9)),
    .r 63 (.nilc (.t 62)),
    .r 64 (.fld 3 (.t 63)),
    .o 65 (.ld1 (.t 64)),
    .r 66 (.bin .add (.t 65) (.c (.d (.int .i64 1)))),
    .r 67 (.nilc (.t 62)),
    .r 68 (.fld 3 (.t 67)),
    .w 0 (.st 1 (.t 68) (.t 66))])
  (.seq (.reg [.o 69 (.ldA 2 (.t 5)),
    .c 70 (.f 94) [.t 69],
    .r 10 (.mv (.t 70))])
  (.seq (.reg (.r 71 (.mv (.t 10)):: .r 72 (.mv (.t 71))::cD [73,74,75,76,77,78] 72 true (.r 73 (.mv (.t 9)):: .r 74 (.nilc (.t 73)):: .r 75 (.fld 4 (.t 74)):: .r 76 (.ld1 (.t 75)):: .r 77 (.mv (.t 8)):: .r 78 (.look .str (.d (.bool false)) false (.t 76) (.t 77))::[]) (.r 79 (.pick (.t 72) (.t 78) (.c (.d (.bool false))))::[])))
  (.cond (.t 79)
   (.reg [.r 80 (.mv (.t 0)),
     .r 81 (.mv (.t 3)),
     .p (some 82) (.f 53) [.t 80,.c (.d (.int .i64 5)),.t 81]])
   (.seq (.reg [.r 83 (.mv (.t 10))])
   (.cond (.t 83)
    (.reg [.r 84 (.mv (.t 9)),
      .r 85 (.nilc (.t 84)),
      .r 86 (.fld 4 (.t 85)),
      .o 87 (.ld1 (.t 86)),
      .r 88 (.mv (.t 8)),
      .w 0 (.mset .str (.t 87) (.t 88) (.c (.d (.bool true))))])
    .skip)))))))
  .skip))
 bd))))))
theorem jl:fits Tryz.prog 50 Tryz.f50 fq [] 4=true:=oK
set_option maxRecDepth 100000 in
set_option maxHeartbeats 40000000 in
noncomputable def pB:(∀ (x0:aO) (x1:aa) (x2:Int) (x3:Int),{m:Option ((Unit)×aO)//∀ r,m=some r->bI Tryz.prog 50 (.own (.pt [.sl 148 [.pt [.sh,.sh,.sh,.sh,.mp .str .sh]],.sl 69 (List.replicate 2 .sh)]) (.ptr (aV x0))::List.map SV.d ([.agg (af x1),.int .i64 x2,.int .i64 x3]:List DV)) (.tup []) (.own (.pt [.sl 148 [.pt [.sh,.sh,.sh,.sh,.mp .str .sh]],.sl 69 (List.replicate 2 .sh)]) (.ptr (aV r.2))::List.map SV.d ([.agg (af x1),.int .i64 x2,.int .i64 x3]:List DV))}):=by
 (intro x0 x1 x2 x3;apply Subtype.mk;intro r hm;apply mj (N:=103) (k:=4) Tryz.func50 jl oK rfl rfl oD;unfold fq)
 repeat'(first|((with_reducible apply oY (id:=0) (cid:=1000) (off:=0) (n:=1) (e:=148) (ms:=[.pt [.sh,.sh,.sh,.sh,.mp .str .sh]]) (row:=(fS ar)));(focus(simp only[push_cast,seval, -List.reduceReplicate];(try rfl);done));(focus(simp only[push_cast,seval, -List.reduceReplicate];(try rfl);done));(focus decide);(focus rfl);(focus(simp only[push_cast,seval, -List.reduceReplicate];(try rfl);done)))|((with_reducible apply oX (id:=0) (cid:=1001) (off:=1) (n:=2) (e:=69));(focus(simp only[push_cast,seval, -List.reduceReplicate];(try rfl);done));(focus(simp only[push_cast,seval, -List.reduceReplicate];(try rfl);done));(focus decide);(focus rfl);(focus(intro _;rfl));(focus(simp only[push_cast,seval, -List.reduceReplicate];(try rfl);done)))|((with_reducible apply Id (dst:=61) (C:=40010) (ms:=[.sh,.sh,.sh,.sh,.mp .str .sh]) (row:=ar));(focus(simp only[push_cast,seval, -List.reduceReplicate];(try rfl);done));(focus(simp only[push_cast,seval, -List.reduceReplicate];(try rfl);done));(focus exact wE oA);(focus decide))|((with_reducible apply Ie (dst:=61) (id:=40010) (mid:=40011) (off:=4) (kk:= .str) (ke:= .str) (fv:=(fun v=> .bool v)));(focus(simp only[push_cast,seval, -List.reduceReplicate];(try rfl);done));(focus(simp only[push_cast,seval, -List.reduceReplicate];(try rfl);done));(focus decide);(focus(simp only[push_cast,seval, -List.reduceReplicate];(try rfl);done)))|((apply CM bd);(focus((apply dh (id:=40010) (mid:=40011) (off:=4) (kk:= .str) (ke:= .str) (fv:=(fun v=> .bool v)));(focus(simp only[push_cast,seval, -List.reduceReplicate];(try rfl);done));(focus(simp only[push_cast,seval, -List.reduceReplicate];(try rfl);done));(focus decide);(focus(simp only[push_cast,seval, -List.reduceReplicate];(try rfl);done));(focus(first|exact bk rfl|(apply Dy;rfl)));(focus(simp only[push_cast,seval, -List.reduceReplicate];(try rfl);done)))))|((apply CM bd);(focus((apply gR (id:=1000) (C:=40010) (ms:=[.sh,.sh,.sh,.sh,.mp .str .sh]) (row:=ar));(focus(simp only[push_cast,seval, -List.reduceReplicate];(try rfl);done));(focus(simp only[push_cast,seval, -List.reduceReplicate];(try rfl);done));(focus((repeat'(first|(with_reducible first|apply ky)|((with_reducible apply ck);(focus(first|rfl));(focus((repeat'(first|rfl));done)))|((with_reducible apply hY);(focus rfl);(focus((repeat'(first|rfl));done)))));done));(focus(intro _;rfl));(focus(first|exact vf oA));(focus decide))))|((with_reducible apply I9 bd);unfold bd)|with_reducible refine d6 ?_|with_reducible refine dL ?_|with_reducible refine cd ?_|with_reducible refine cG ?_|with_reducible refine d8 ?_|with_reducible refine dM ?_|with_reducible refine d7 ?_|with_reducible refine d9 ?_|with_reducible refine cg ?_|with_reducible refine fV ?_|((with_reducible apply CT hm);(iterate 2 (simp only[push_cast,seval, -List.reduceReplicate];rfl));(focus(first|(simp only[push_cast,seval, -List.reduceReplicate];rfl)));(simp only[push_cast,seval, -List.reduceReplicate];rfl);intro e he hm)|((with_reducible apply Im);(iterate 2 (simp only[push_cast,seval, -List.reduceReplicate];rfl));(focus(first|(simp only[push_cast,seval, -List.reduceReplicate];exact vf oA)));(iterate 2 rfl))|((with_reducible apply j1);(simp only[push_cast,seval, -List.reduceReplicate];rfl);(first|exact trivial))|((with_reducible apply oW hm);(simp only[push_cast,seval, -List.reduceReplicate];rfl);rfl;intro v hm;rotate_left;intro v g hm)|((with_reducible apply mb hm);(simp only[push_cast,seval, -List.reduceReplicate];rfl);(first|apply uN _|apply tB _|apply tA _);(any_goals((repeat'(first|rfl));done));intro x hm)|((with_reducible apply zg);(simp only[push_cast,seval, -List.reduceReplicate];rfl);(first|exact trivial))|((with_reducible apply Hw hm);(iterate 3 (simp only[push_cast,seval, -List.reduceReplicate];rfl));rfl;(focus(first|decide));intro hm)|((with_reducible apply Hj);(iterate 3 (simp only[push_cast,seval, -List.reduceReplicate];rfl));(iterate 2 rfl))|((with_reducible apply cj hm);(simp only[push_cast,seval, -List.reduceReplicate];rfl);intro hm;rotate_left;intro hm)|((with_reducible apply gT hm);(simp only[push_cast,seval, -List.reduceReplicate];rfl))|((with_reducible apply dZ hm);intro r hm)|((apply aF (b:=0) (X:=eJ) (x:=cU) rfl (fun(c:SV×SV×SV×SV×SV×SV) (s:(List iQ)×(List ac))=>st [(0,.ref 0 0),(2,c.1),(3,c.2.1),(5,c.2.2.1),(103,.ref 0 0),(104,c.2.2.2.1),(105,c.2.2.2.2.1),(106,c.2.2.2.2.2)] [(1000,.vec 148 1 (aw [.pt [.sh,.sh,.sh,.sh,.mp .str .sh]] (fS ar) s.1)),(1001,.vec 69 2 (bH ab s.2)),(0,.box (h_ 1000 1001))]) (c:=(_,_,_,_,_,_)) (s0:=(_,_)) hm);(focus(first|(dsimp only;done)));(with_reducible refine dP.mk ?_ ?_))|((apply ea (s':=(_,_)) hm);(focus(first|(dsimp only;done)));(focus((try((apply ce.trans);(focus((apply dh (id:=40010) (mid:=40011) (off:=4) (kk:= .str) (ke:= .str) (fv:=(fun v=> .bool v)));(focus(simp only[push_cast,seval, -List.reduceReplicate];(try rfl);done));(focus(simp only[push_cast,seval, -List.reduceReplicate];(try rfl);done));(focus decide);(focus(simp only[push_cast,seval, -List.reduceReplicate];(try rfl);done));(focus(fail));(focus(simp only[push_cast,seval, -List.reduceReplicate];(try rfl);done))))));(try((apply ce.trans);(focus((apply gR (id:=1000) (C:=40010) (ms:=[.sh,.sh,.sh,.sh,.mp .str .sh]) (row:=ar));(focus(simp only[push_cast,seval, -List.reduceReplicate];(try rfl);done));(focus(simp only[push_cast,seval, -List.reduceReplicate];(try rfl);done));(focus((repeat'(fail));done));(focus(intro _;rfl));(focus(fail));(focus decide)))));(try((apply ce.trans);(focus((apply dh (id:=39) (mid:=37) (off:=4) (kk:= .str) (ke:= .str) (fv:=(fun v=> .bool v)));(focus(simp only[push_cast,seval, -List.reduceReplicate];(try rfl);done));(focus(simp only[push_cast,seval, -List.reduceReplicate];(try rfl);done));(focus decide);(focus(simp only[push_cast,seval, -List.reduceReplicate];(try rfl);done));(focus(first|exact yD));(focus(simp only[push_cast,seval, -List.reduceReplicate];(try rfl);done))))));(try((apply ce.trans);(focus((apply iX (id:=1000) (C:=39) (ms:=[.sh,.sh,.sh,.sh,.mp .str .sh]) (row:=ar));(focus(simp only[push_cast,seval, -List.reduceReplicate];(try rfl);done));(focus((repeat'(first|(with_reducible first|apply kb)));done));(focus(simp only[push_cast,seval, -List.reduceReplicate];(try rfl);done));(focus((repeat'(first|(with_reducible first|apply ky)|((with_reducible apply ck);(focus(first|rfl));(focus((repeat'(first|rfl));done)))|((with_reducible apply hY);(focus rfl);(focus((repeat'(first|rfl));done)))));done));(focus(intro _;rfl));(focus decide)))));(try((apply ce.trans);(focus((apply dh (id:=98) (mid:=96) (off:=4) (kk:= .str) (ke:= .str) (fv:=(fun v=> .bool v)));(focus(simp only[push_cast,seval, -List.reduceReplicate];(try rfl);done));(focus(simp only[push_cast,seval, -List.reduceReplicate];(try rfl);done));(focus decide);(focus(simp only[push_cast,seval, -List.reduceReplicate];(try rfl);done));(focus(fail));(focus(simp only[push_cast,seval, -List.reduceReplicate];(try rfl);done))))));(try((apply ce.trans);(focus((apply iX (id:=1000) (C:=98) (ms:=[.sh,.sh,.sh,.sh,.mp .str .sh]) (row:=ar));(focus(simp only[push_cast,seval, -List.reduceReplicate];(try rfl);done));(focus((repeat'(fail));done));(focus(simp only[push_cast,seval, -List.reduceReplicate];(try rfl);done));(focus((repeat'(fail));done));(focus(intro _;rfl));(focus decide)))));(try((apply ce.trans);(focus((apply yG 1000 [.pt [.sh,.sh,.sh,.sh,.mp .str .sh]] (fS ar));(focus(simp only[push_cast,seval, -List.reduceReplicate];rfl));(focus((repeat'(fail));done))))));(try((apply ce.trans);(focus((apply Ds 1000 [.pt [.sh,.sh,.sh,.sh,.mp .str .sh]] (fS ar));(focus(simp only[push_cast,seval, -List.reduceReplicate];rfl));(focus((repeat'(fail));done))))));(apply dt;(repeat'(first|with_reducible exact bS|with_reducible exact bT|with_reducible apply bi|with_reducible apply c8|((with_reducible apply ck);(focus(first|(simp only[push_cast,seval];rfl)));(focus((repeat'(first|rfl));done)))|((with_reducible apply gj);(focus(first|(simp only[push_cast,seval];rfl)));(first|with_reducible exact bk rfl))));done))))|((apply fU (s':=(_,_)) hm);(focus(first|(dsimp only;done)));(focus((apply dt;(repeat'(first|with_reducible exact bS|with_reducible exact bT|with_reducible apply bi|with_reducible apply c8|((with_reducible apply ck);(focus(first|(simp only[push_cast,seval];rfl)));(focus((repeat'(first|rfl));done)))|((with_reducible apply gj);(focus(first|(simp only[push_cast,seval];rfl)));(first|with_reducible exact bk rfl))));done))))|(((with_reducible apply Hu hm (id:=0) (ms:=[.sl 148 [.pt [.sh,.sh,.sh,.sh,.mp .str .sh]],.sl 69 (List.replicate 2 .sh)]));(focus((try((apply ce.trans);(focus((apply dh (id:=40010) (mid:=40011) (off:=4) (kk:= .str) (ke:= .str) (fv:=(fun v=> .bool v)));(focus(simp only[push_cast,seval, -List.reduceReplicate];(try rfl);done));(focus(simp only[push_cast,seval, -List.reduceReplicate];(try rfl);done));(focus decide);(focus(simp only[push_cast,seval, -List.reduceReplicate];(try rfl);done));(focus(first|exact bk rfl));(focus(simp only[push_cast,seval, -List.reduceReplicate];(try rfl);done))))));(try((apply ce.trans);(focus((apply gR (id:=1000) (C:=40010) (ms:=[.sh,.sh,.sh,.sh,.mp .str .sh]) (row:=ar));(focus(simp only[push_cast,seval, -List.reduceReplicate];(try rfl);done));(focus(simp only[push_cast,seval, -List.reduceReplicate];(try rfl);done));(focus((repeat'(first|(with_reducible first|apply ky)|((with_reducible apply ck);(focus(first|rfl));(focus((repeat'(first|rfl));done)))|((with_reducible apply hY);(focus rfl);(focus((repeat'(first|rfl));done)))));done));(focus(intro _;rfl));(focus(first|exact vf oA));(focus decide)))));(try((apply ce.trans);(focus((apply dh (id:=39) (mid:=37) (off:=4) (kk:= .str) (ke:= .str) (fv:=(fun v=> .bool v)));(focus(simp only[push_cast,seval, -List.reduceReplicate];(try rfl);done));(focus(simp only[push_cast,seval, -List.reduceReplicate];(try rfl);done));(focus decide);(focus(simp only[push_cast,seval, -List.reduceReplicate];(try rfl);done));(focus(fail));(focus(simp only[push_cast,seval, -List.reduceReplicate];(try rfl);done))))));(try((apply ce.trans);(focus((apply iX (id:=1000) (C:=39) (ms:=[.sh,.sh,.sh,.sh,.mp .str .sh]) (row:=ar));(focus(simp only[push_cast,seval, -List.reduceReplicate];(try rfl);done));(focus((repeat'(fail));done));(focus(simp only[push_cast,seval, -List.reduceReplicate];(try rfl);done));(focus((repeat'(fail));done));(focus(intro _;rfl));(focus decide)))));(try((apply ce.trans);(focus((apply dh (id:=98) (mid:=96) (off:=4) (kk:= .str) (ke:= .str) (fv:=(fun v=> .bool v)));(focus(simp only[push_cast,seval, -List.reduceReplicate];(try rfl);done));(focus(simp only[push_cast,seval, -List.reduceReplicate];(try rfl);done));(focus decide);(focus(simp only[push_cast,seval, -List.reduceReplicate];(try rfl);done));(focus(fail));(focus(simp only[push_cast,seval, -List.reduceReplicate];(try rfl);done))))));(try((apply ce.trans);(focus((apply iX (id:=1000) (C:=98) (ms:=[.sh,.sh,.sh,.sh,.mp .str .sh]) (row:=ar));(focus(simp only[push_cast,seval, -List.reduceReplicate];(try rfl);done));(focus((repeat'(fail));done));(focus(simp only[push_cast,seval, -List.reduceReplicate];(try rfl);done));(focus((repeat'(fail));done));(focus(intro _;rfl));(focus decide)))));(try((apply ce.trans);(focus((apply ff (id:=0) (cid:=1000) (off:=0) (n:=1) (e:=148) (ms:=[.pt [.sh,.sh,.sh,.sh,.mp .str .sh]]) (row:=(fS ar)));(focus(simp only[push_cast,seval, -List.reduceReplicate];(try rfl);done));(focus(simp only[push_cast,seval, -List.reduceReplicate];(try rfl);done));(focus decide);(focus(simp only[push_cast,seval, -List.reduceReplicate];(try rfl);done));(focus((repeat'(first|(with_reducible first|apply kb)));done));(focus rfl);(focus(intro _;rfl));(focus(simp only[push_cast,seval, -List.reduceReplicate];(try rfl);done))))));(try((apply ce.trans);(focus((apply fe (id:=0) (cid:=1001) (off:=1) (n:=2) (e:=69));(focus(simp only[push_cast,seval, -List.reduceReplicate];(try rfl);done));(focus(simp only[push_cast,seval, -List.reduceReplicate];(try rfl);done));(focus decide);(focus(simp only[push_cast,seval, -List.reduceReplicate];(try rfl);done));(focus((repeat'(first|(with_reducible first|apply k0)));done));(focus(intro _;rfl));(focus(simp only[push_cast,seval, -List.reduceReplicate];(try rfl);done))))));exact ce.refl _));(focus(simp only[push_cast,seval, -List.reduceReplicate];(try rfl);done));(focus(simp only[push_cast,seval, -List.reduceReplicate];(try rfl);done));(focus(simp only[push_cast,seval, -List.reduceReplicate];(try rfl);done));(focus((repeat'(first|(with_reducible first|apply cB)|((with_reducible apply hY);(focus rfl);(focus((repeat'(first|rfl));done)))));done));(focus rfl);(first|apply cT _ _ _|apply b9 _ _ _);(any_goals(focus((repeat'(first|rfl));done)));(focus(intro _;exact⟨rfl,rfl,rfl⟩));intro y hm))|(((with_reducible apply vd (a:=()) hm (ms:=[.sl 148 [.pt [.sh,.sh,.sh,.sh,.mp .str .sh]],.sl 69 (List.replicate 2 .sh)]));(focus((try((apply ce.trans);(focus((apply dh (id:=40010) (mid:=40011) (off:=4) (kk:= .str) (ke:= .str) (fv:=(fun v=> .bool v)));(focus(simp only[push_cast,seval, -List.reduceReplicate];(try rfl);done));(focus(simp only[push_cast,seval, -List.reduceReplicate];(try rfl);done));(focus decide);(focus(simp only[push_cast,seval, -List.reduceReplicate];(try rfl);done));(focus(fail));(focus(simp only[push_cast,seval, -List.reduceReplicate];(try rfl);done))))));(try((apply ce.trans);(focus((apply gR (id:=1000) (C:=40010) (ms:=[.sh,.sh,.sh,.sh,.mp .str .sh]) (row:=ar));(focus(simp only[push_cast,seval, -List.reduceReplicate];(try rfl);done));(focus(simp only[push_cast,seval, -List.reduceReplicate];(try rfl);done));(focus((repeat'(fail));done));(focus(intro _;rfl));(focus(fail));(focus decide)))));(try((apply ce.trans);(focus((apply dh (id:=39) (mid:=37) (off:=4) (kk:= .str) (ke:= .str) (fv:=(fun v=> .bool v)));(focus(simp only[push_cast,seval, -List.reduceReplicate];(try rfl);done));(focus(simp only[push_cast,seval, -List.reduceReplicate];(try rfl);done));(focus decide);(focus(simp only[push_cast,seval, -List.reduceReplicate];(try rfl);done));(focus(fail));(focus(simp only[push_cast,seval, -List.reduceReplicate];(try rfl);done))))));(try((apply ce.trans);(focus((apply iX (id:=1000) (C:=39) (ms:=[.sh,.sh,.sh,.sh,.mp .str .sh]) (row:=ar));(focus(simp only[push_cast,seval, -List.reduceReplicate];(try rfl);done));(focus((repeat'(fail));done));(focus(simp only[push_cast,seval, -List.reduceReplicate];(try rfl);done));(focus((repeat'(fail));done));(focus(intro _;rfl));(focus decide)))));(try((apply ce.trans);(focus((apply dh (id:=98) (mid:=96) (off:=4) (kk:= .str) (ke:= .str) (fv:=(fun v=> .bool v)));(focus(simp only[push_cast,seval, -List.reduceReplicate];(try rfl);done));(focus(simp only[push_cast,seval, -List.reduceReplicate];(try rfl);done));(focus decide);(focus(simp only[push_cast,seval, -List.reduceReplicate];(try rfl);done));(focus(first|exact yD));(focus(simp only[push_cast,seval, -List.reduceReplicate];(try rfl);done))))));(try((apply ce.trans);(focus((apply iX (id:=1000) (C:=98) (ms:=[.sh,.sh,.sh,.sh,.mp .str .sh]) (row:=ar));(focus(simp only[push_cast,seval, -List.reduceReplicate];(try rfl);done));(focus((repeat'(first|(with_reducible first|apply kb)));done));(focus(simp only[push_cast,seval, -List.reduceReplicate];(try rfl);done));(focus((repeat'(first|(with_reducible first|apply ky)|((with_reducible apply ck);(focus(first|rfl));(focus((repeat'(first|rfl));done)))|((with_reducible apply hY);(focus rfl);(focus((repeat'(first|rfl));done)))));done));(focus(intro _;rfl));(focus decide)))));(try((apply ce.trans);(focus((apply ff (id:=0) (cid:=1000) (off:=0) (n:=1) (e:=148) (ms:=[.pt [.sh,.sh,.sh,.sh,.mp .str .sh]]) (row:=(fS ar)));(focus(simp only[push_cast,seval, -List.reduceReplicate];(try rfl);done));(focus(simp only[push_cast,seval, -List.reduceReplicate];(try rfl);done));(focus decide);(focus(simp only[push_cast,seval, -List.reduceReplicate];(try rfl);done));(focus((repeat'(first|(with_reducible first|apply kb)));done));(focus rfl);(focus(intro _;rfl));(focus(simp only[push_cast,seval, -List.reduceReplicate];(try rfl);done))))));(try((apply ce.trans);(focus((apply fe (id:=0) (cid:=1001) (off:=1) (n:=2) (e:=69));(focus(simp only[push_cast,seval, -List.reduceReplicate];(try rfl);done));(focus(simp only[push_cast,seval, -List.reduceReplicate];(try rfl);done));(focus decide);(focus(simp only[push_cast,seval, -List.reduceReplicate];(try rfl);done));(focus((repeat'(first|(with_reducible first|apply k0)));done));(focus(intro _;rfl));(focus(simp only[push_cast,seval, -List.reduceReplicate];(try rfl);done))))));exact ce.refl _));(focus(simp only[push_cast,seval, -List.reduceReplicate];(try rfl);done));(focus((repeat'(first|(with_reducible first|apply cB)|((with_reducible apply hY);(focus rfl);(focus((repeat'(first|rfl));done)))));done));(focus(intro _;rfl));(focus(simp only[push_cast,seval, -List.reduceReplicate];(try rfl);done));(focus(simp only[push_cast,seval, -List.reduceReplicate];(try rfl);done));(focus(simp only[push_cast,seval, -List.reduceReplicate];(try rfl);done));(focus(simp only[push_cast,seval, -List.reduceReplicate];(try rfl);done));(focus(first|exact uB))))|(((with_reducible apply go.of);(focus(first|(dsimp only;done)));(focus((intro _;repeat'(first|with_reducible exact iY|with_reducible refine di ?_))));(intro s o hm;first|unfold cU);rotate_left;intro s hm))|(((apply dt;(repeat'(first|with_reducible exact bS|with_reducible exact bT|with_reducible apply bi|with_reducible apply c8|((with_reducible apply ck);(focus(first|(simp only[push_cast,seval];rfl)));(focus((repeat'(first|rfl));done)))|((with_reducible apply gj);(focus(first|(simp only[push_cast,seval];rfl)));(first|with_reducible exact bk rfl))));done))))
noncomputable def dU (x0:aO) (x1:aa) (x2:Int) (x3:Int):Option ((Unit)×aO):=(pB x0 x1 x2 x3).1
theorem iS (x0:aO) (x1:aa) (x2:Int) (x3:Int):∀ r,dU x0 x1 x2 x3=some r->bI Tryz.prog 50 (.own (.pt [.sl 148 [.pt [.sh,.sh,.sh,.sh,.mp .str .sh]],.sl 69 (List.replicate 2 .sh)]) (.ptr (aV x0))::List.map SV.d ([.agg (af x1),.int .i64 x2,.int .i64 x3]:List DV)) (.tup []) (.own (.pt [.sl 148 [.pt [.sh,.sh,.sh,.sh,.mp .str .sh]],.sl 69 (List.replicate 2 .sh)]) (.ptr (aV r.2))::List.map SV.d ([.agg (af x1),.int .i64 x2,.int .i64 x3]:List DV)):=(pB x0 x1 x2 x3).2
def fr:SC:=
 (.seq (.reg [.r 5 (.boxI (.t 1))])
 (.seq (.seq (.reg [.r 13 (.mv (.t 0)),
   .r 14 (.nilc (.t 13)),
   .r 15 (.fld 0 (.t 14)),
   .o 16 (.ld1 (.t 15)),
   .r 17 (.len (.t 16)),
   .r 18 (.mv (.t 2)),
   .r 19 (.bin .leq (.t 17) (.t 18))])
 (.cond (.t 19)
  (.seq (.reg [.r 20 (.mv (.t 0)),
    .r 21 (.mv (.t 3)),
    .p (some 22) (.f 53) [.t 20,.c (.d (.int .i64 1)),.t 21]])
  .ret)
  .skip))
 (.seq (.reg [.r 23 (.mv (.t 0)),
   .r 24 (.mv (.t 2)),
   .r 25 (.bin .add (.t 24) (.c (.d (.int .i64 1)))),
   .r 26 (.mv (.t 3)),
   .p (some 27) (.f 54) [.t 23,.t 25,.t 26]])
 (.seq (.reg [.r 28 (.mv (.t 0)),
   .r 29 (.nilc (.t 28)),
   .r 30 (.fld 0 (.t 29)),
   .o 31 (.ld1 (.t 30)),
   .r 32 (.mv (.t 2)),
   .r 33 (.idx 1 (.t 31) (.t 32)),
   .o 34 (.ld1 (.t 33)),
   .r 8 (.mv (.t 34))])
 (.seq (.reg [.r 35 (.mv (.t 0)),
   .r 36 (.mv (.t 0)),
   .r 37 (.nilc (.t 36)),
   .r 38 (.fld 0 (.t 37)),
   .o 39 (.ld1 (.t 38)),
   .r 40 (.mv (.t 2)),
   .w 41 (.trunc 1 (.t 39) (.t 40)),
   .r 42 (.nilc (.t 35)),
   .r 43 (.fld 0 (.t 42)),
   .w 0 (.st 1 (.t 43) (.t 41))])
 (.seq (.reg [.o 45 (.ldA 2 (.t 5)),
   .c 46 (.f 58) [.t 45],
   .r 44 (.mv (.t 46)),
   .r 47 (.ext (.t 44) 0),
   .r 48 (.ext (.t 44) 1),
   .r 9 (.mv (.t 47)),
   .r 10 (.mv (.t 48))])
 (.seq (.seq (.reg (.r 49 (.mv (.t 10)):: .r 50 (.not (.t 49)):: .r 51 (.mv (.t 50))::cD [52,53,54] 51 false (.r 52 (.mv (.t 9)):: .r 53 (.len (.t 52)):: .r 54 (.bin .neq (.t 53) (.c (.d (.int .i64 2))))::[]) (.r 55 (.pick (.t 51) (.c (.d (.bool true))) (.t 54)):: .r 56 (.mv (.t 55))::cD [57,58,59,60,61] 56 false (.r 57 (.mv (.t 9)):: .r 58 (.idx 1 (.t 57) (.c (.d (.int .i64 1)))):: .r 59 (.ld1 (.t 58)):: .c 60 (.f 36) [.t 59]:: .r 61 (.not (.t 60))::[]) (.r 62 (.pick (.t 56) (.c (.d (.bool true))) (.t 61))::[]))))
 (.cond (.t 62)
  (.seq (.reg [.r 63 (.mv (.t 0)),
    .r 64 (.mv (.t 3)),
    .p (some 65) (.f 53) [.t 63,.c (.d (.int .i64 6)),.t 64]])
  .ret)
  .skip))
 (.seq (.reg [.r 67 (.mv (.t 9)),
   .r 68 (.idx 1 (.t 67) (.c (.d (.int .i64 0)))),
   .o 69 (.ld1 (.t 68)),
   .c 70 (.f 95) [.t 69,.c (.d (.int .i64 9))],
   .r 66 (.mv (.t 70)),
   .r 71 (.ext (.t 66) 0),
   .r 72 (.ext (.t 66) 1),
   .r 11 (.mv (.t 71)),
   .r 10 (.mv (.t 72))])
 (.seq (.seq (.reg [.r 73 (.mv (.t 10)),
   .r 74 (.not (.t 73))])
 (.cond (.t 74)
  (.seq (.reg [.r 75 (.mv (.t 0)),
    .r 76 (.mv (.t 3)),
    .p (some 77) (.f 53) [.t 75,.c (.d (.int .i64 6)),.t 76]])
  .ret)
  .skip))
 (.seq (.seq (.reg [.r 78 (.mv (.t 8)),
   .r 79 (.nilc (.t 78)),
   .r 80 (.fld 0 (.t 79)),
   .o 81 (.ld1 (.t 80)),
   .r 82 (.not (.t 81))])
 (.cond (.t 82)
  .ret
  .skip))
 (.seq (.reg [.r 83 (.mv (.t 8)),
   .r 84 (.nilc (.t 83)),
   .r 85 (.fld 3 (.t 84)),
   .o 86 (.ld1 (.t 85)),
   .r 12 (.mv (.t 86))])
 (.seq (.seq (.reg [.r 87 (.mv (.t 2)),
   .c 88 (.f 49) [],
   .r 89 (.len (.t 88)),
   .r 90 (.bin .sub (.t 89) (.c (.d (.int .i64 1)))),
   .r 91 (.bin .eql (.t 87) (.t 90))])
 (.cond (.t 91)
  (.reg [.r 92 (.mv (.t 3)),
    .r 93 (.mv (.t 8)),
    .r 94 (.nilc (.t 93)),
    .r 95 (.fld 2 (.t 94)),
    .o 96 (.ld1 (.t 95)),
    .r 97 (.bin .sub (.t 92) (.t 96)),
    .r 98 (.bin .add (.t 97) (.c (.d (.int .i64 1)))),
    .r 12 (.mv (.t 98))])
  .skip))
 (.seq (.seq (.reg [.r 99 (.mv (.t 11)),
   .r 100 (.mv (.t 12)),
   .r 101 (.bin .neq (.t 99) (.t 100))])
 (.cond (.t 101)
  (.reg [.r 102 (.mv (.t 0)),
    .r 103 (.mv (.t 3)),
    .p (some 104) (.f 53) [.t 102,.c (.d (.int .i64 3)),.t 103]])
  .skip))
 (.seq (.regD [.r 105 (.mv (.t 9)),
   .r 106 (.idx 1 (.t 105) (.c (.d (.int .i64 1)))),
   .r 107 (.ld1 (.t 106)),
   .r 108 (.mv (.t 8)),
   .r 109 (.nilc (.t 108)),
   .r 110 (.fld 1 (.t 109)),
   .r 111 (.ld1 (.t 110)),
   .r 112 (.bin .neq (.t 107) (.t 111))])
 (.cond (.t 112)
  (.reg [.r 113 (.mv (.t 0)),
    .r 114 (.mv (.t 3)),
    .p (some 115) (.f 53) [.t 113,.c (.d (.int .i64 4)),.t 114]])
  .skip)))))))))))))))
theorem jm:fits Tryz.prog 52 Tryz.f52 fr [] 4=true:=oK
set_option maxRecDepth 100000 in
set_option maxHeartbeats 40000000 in
noncomputable def pC:(∀ (x0:aO) (x1:aa) (x2:Int) (x3:Int),{m:Option ((Unit)×aO)//∀ r,m=some r->bI Tryz.prog 52 (.own (.pt [.sl 148 [.pt [.sh,.sh,.sh,.sh,.mp .str .sh]],.sl 69 (List.replicate 2 .sh)]) (.ptr (aV x0))::List.map SV.d ([.agg (af x1),.int .i64 x2,.int .i64 x3]:List DV)) (.tup []) (.own (.pt [.sl 148 [.pt [.sh,.sh,.sh,.sh,.mp .str .sh]],.sl 69 (List.replicate 2 .sh)]) (.ptr (aV r.2))::List.map SV.d ([.agg (af x1),.int .i64 x2,.int .i64 x3]:List DV))}):=by
 (intro x0 x1 x2 x3;apply Subtype.mk;intro r hm;apply mj (N:=116) (k:=4) Tryz.func52 jm oK rfl rfl oD;unfold fr)
 repeat'(first|((with_reducible apply oY (id:=0) (cid:=1000) (off:=0) (n:=1) (e:=148) (ms:=[.pt [.sh,.sh,.sh,.sh,.mp .str .sh]]) (row:=(fS ar)));(focus(simp only[push_cast,seval];(try rfl);done));(focus(simp only[push_cast,seval];(try rfl);done));(focus decide);(focus rfl);(focus(simp only[push_cast,seval];(try rfl);done)))|((with_reducible apply oX (id:=0) (cid:=1001) (off:=1) (n:=2) (e:=69));(focus(simp only[push_cast,seval];(try rfl);done));(focus(simp only[push_cast,seval];(try rfl);done));(focus decide);(focus rfl);(focus(intro _;rfl));(focus(simp only[push_cast,seval];(try rfl);done)))|((with_reducible apply Id (dst:=34) (C:=40010) (ms:=[.sh,.sh,.sh,.sh,.mp .str .sh]) (row:=ar));(focus(simp only[push_cast,seval];(try rfl);done));(focus(simp only[push_cast,seval];(try rfl);done));(focus exact wE oA);(focus decide))|((with_reducible apply Ie (dst:=34) (id:=40010) (mid:=40011) (off:=4) (kk:= .str) (ke:= .str) (fv:=(fun v=> .bool v)));(focus(simp only[push_cast,seval];(try rfl);done));(focus(simp only[push_cast,seval];(try rfl);done));(focus decide);(focus(simp only[push_cast,seval];(try rfl);done)))|with_reducible refine d6 ?_|with_reducible refine dL ?_|with_reducible refine ii ?_|with_reducible refine cG ?_|with_reducible refine fL ?_|with_reducible refine dM ?_|with_reducible refine d7 ?_|with_reducible refine eO ?_|with_reducible refine fV ?_|((with_reducible apply gy hm);(iterate 2 (simp only[push_cast,seval];rfl));(intro _;rfl);intro e hm)|((with_reducible apply CT hm);(iterate 2 (simp only[push_cast,seval];rfl));(focus(first|(simp only[push_cast,seval];rfl)));(simp only[push_cast,seval];rfl);intro e he hm)|((with_reducible apply Im);(iterate 2 (simp only[push_cast,seval];rfl));(focus(first|(simp only[push_cast,seval];exact vf oA)));(iterate 2 rfl))|((with_reducible apply j1);(simp only[push_cast,seval];rfl);(first|exact trivial))|((with_reducible apply uz hm);(simp only[push_cast,seval];rfl);rfl;intro v hm;rotate_left;intro v g hm)|((with_reducible apply mb hm);(simp only[push_cast,seval];rfl);(first|apply kW _|apply ga _|apply oh _ _|apply kX);(any_goals((repeat'(first|rfl));done));intro x hm)|((with_reducible apply zg);(simp only[push_cast,seval];rfl);(first|exact trivial))|((with_reducible apply DA hm);(iterate 3 (simp only[push_cast,seval];rfl));(focus(first|(simp only[push_cast,seval];rfl)));(focus(first|exact Dz (K9 _)));intro l hm)|((with_reducible apply cj hm);(simp only[push_cast,seval];rfl);intro hm;rotate_left;intro hm)|((with_reducible apply gT hm);(simp only[push_cast,seval];rfl))|(((with_reducible apply Hu hm (id:=0) (ms:=[.sl 148 [.pt [.sh,.sh,.sh,.sh,.mp .str .sh]],.sl 69 (List.replicate 2 .sh)]));(focus((try((apply ce.trans);(focus((apply dh (id:=40010) (mid:=40011) (off:=4) (kk:= .str) (ke:= .str) (fv:=(fun v=> .bool v)));(focus(simp only[push_cast,seval];(try rfl);done));(focus(simp only[push_cast,seval];(try rfl);done));(focus decide);(focus(simp only[push_cast,seval];(try rfl);done));(focus(first|exact bk rfl));(focus(simp only[push_cast,seval];(try rfl);done))))));(try((apply ce.trans);(focus((apply gR (id:=1000) (C:=40010) (ms:=[.sh,.sh,.sh,.sh,.mp .str .sh]) (row:=ar));(focus(simp only[push_cast,seval];(try rfl);done));(focus(simp only[push_cast,seval];(try rfl);done));(focus((repeat'(fail));done));(focus(intro _;rfl));(focus(fail));(focus decide)))));(try((apply ce.trans);(focus((apply ff (id:=0) (cid:=1000) (off:=0) (n:=1) (e:=148) (ms:=[.pt [.sh,.sh,.sh,.sh,.mp .str .sh]]) (row:=(fS ar)));(focus(simp only[push_cast,seval];(try rfl);done));(focus(simp only[push_cast,seval];(try rfl);done));(focus decide);(focus(simp only[push_cast,seval];(try rfl);done));(focus((repeat'(first|(with_reducible first|apply kb)));done));(focus rfl);(focus(intro _;rfl));(focus(simp only[push_cast,seval];(try rfl);done))))));(try((apply ce.trans);(focus((apply fe (id:=0) (cid:=1001) (off:=1) (n:=2) (e:=69));(focus(simp only[push_cast,seval];(try rfl);done));(focus(simp only[push_cast,seval];(try rfl);done));(focus decide);(focus(simp only[push_cast,seval];(try rfl);done));(focus((repeat'(first|(with_reducible first|apply k0)));done));(focus(intro _;rfl));(focus(simp only[push_cast,seval];(try rfl);done))))));exact ce.refl _));(focus(simp only[push_cast,seval];(try rfl);done));(focus(simp only[push_cast,seval];(try rfl);done));(focus(simp only[push_cast,seval];(try rfl);done));(focus((repeat'(first|(with_reducible first|apply cB)|((with_reducible apply hY);(focus rfl);(focus((repeat'(first|rfl));done)))));done));(focus rfl);(first|apply b9 _ _ _|apply cT _ _ _);(any_goals(focus((repeat'(first|rfl));done)));(focus(intro _;exact⟨rfl,rfl,rfl⟩));intro y hm))|(((with_reducible apply I7 (a:=()) hm (ms:=[.sl 148 [.pt [.sh,.sh,.sh,.sh,.mp .str .sh]],.sl 69 (List.replicate 2 .sh)]));(focus((try((apply ce.trans);(focus((apply dh (id:=40010) (mid:=40011) (off:=4) (kk:= .str) (ke:= .str) (fv:=(fun v=> .bool v)));(focus(simp only[push_cast,seval];(try rfl);done));(focus(simp only[push_cast,seval];(try rfl);done));(focus decide);(focus(simp only[push_cast,seval];(try rfl);done));(focus(first|exact bk rfl));(focus(simp only[push_cast,seval];(try rfl);done))))));(try((apply ce.trans);(focus((apply gR (id:=1000) (C:=40010) (ms:=[.sh,.sh,.sh,.sh,.mp .str .sh]) (row:=ar));(focus(simp only[push_cast,seval];(try rfl);done));(focus(simp only[push_cast,seval];(try rfl);done));(focus((repeat'(fail));done));(focus(intro _;rfl));(focus(fail));(focus decide)))));(try((apply ce.trans);(focus((apply ff (id:=0) (cid:=1000) (off:=0) (n:=1) (e:=148) (ms:=[.pt [.sh,.sh,.sh,.sh,.mp .str .sh]]) (row:=(fS ar)));(focus(simp only[push_cast,seval];(try rfl);done));(focus(simp only[push_cast,seval];(try rfl);done));(focus decide);(focus(simp only[push_cast,seval];(try rfl);done));(focus((repeat'(first|(with_reducible first|apply kb)));done));(focus rfl);(focus(intro _;rfl));(focus(simp only[push_cast,seval];(try rfl);done))))));(try((apply ce.trans);(focus((apply fe (id:=0) (cid:=1001) (off:=1) (n:=2) (e:=69));(focus(simp only[push_cast,seval];(try rfl);done));(focus(simp only[push_cast,seval];(try rfl);done));(focus decide);(focus(simp only[push_cast,seval];(try rfl);done));(focus((repeat'(first|(with_reducible first|apply k0)));done));(focus(intro _;rfl));(focus(simp only[push_cast,seval];(try rfl);done))))));exact ce.refl _));(focus(simp only[push_cast,seval];(try rfl);done));(focus((repeat'(first|(with_reducible first|apply cB)|((with_reducible apply hY);(focus rfl);(focus((repeat'(first|rfl));done)))));done));(focus(intro _;rfl));(focus(simp only[push_cast,seval];(try rfl);done));(focus(simp only[push_cast,seval];(try rfl);done));(focus(simp only[push_cast,seval];(try rfl);done));(focus(simp only[push_cast,seval];(try rfl);done));(focus(first|exact uB))))|(((with_reducible apply vd (a:=()) hm (ms:=[.sl 148 [.pt [.sh,.sh,.sh,.sh,.mp .str .sh]],.sl 69 (List.replicate 2 .sh)]));(focus((try((apply ce.trans);(focus((apply dh (id:=40010) (mid:=40011) (off:=4) (kk:= .str) (ke:= .str) (fv:=(fun v=> .bool v)));(focus(simp only[push_cast,seval];(try rfl);done));(focus(simp only[push_cast,seval];(try rfl);done));(focus decide);(focus(simp only[push_cast,seval];(try rfl);done));(focus(first|exact bk rfl));(focus(simp only[push_cast,seval];(try rfl);done))))));(try((apply ce.trans);(focus((apply gR (id:=1000) (C:=40010) (ms:=[.sh,.sh,.sh,.sh,.mp .str .sh]) (row:=ar));(focus(simp only[push_cast,seval];(try rfl);done));(focus(simp only[push_cast,seval];(try rfl);done));(focus((repeat'(fail));done));(focus(intro _;rfl));(focus(fail));(focus decide)))));(try((apply ce.trans);(focus((apply ff (id:=0) (cid:=1000) (off:=0) (n:=1) (e:=148) (ms:=[.pt [.sh,.sh,.sh,.sh,.mp .str .sh]]) (row:=(fS ar)));(focus(simp only[push_cast,seval];(try rfl);done));(focus(simp only[push_cast,seval];(try rfl);done));(focus decide);(focus(simp only[push_cast,seval];(try rfl);done));(focus((repeat'(first|(with_reducible first|apply kb)));done));(focus rfl);(focus(intro _;rfl));(focus(simp only[push_cast,seval];(try rfl);done))))));(try((apply ce.trans);(focus((apply fe (id:=0) (cid:=1001) (off:=1) (n:=2) (e:=69));(focus(simp only[push_cast,seval];(try rfl);done));(focus(simp only[push_cast,seval];(try rfl);done));(focus decide);(focus(simp only[push_cast,seval];(try rfl);done));(focus((repeat'(first|(with_reducible first|apply k0)));done));(focus(intro _;rfl));(focus(simp only[push_cast,seval];(try rfl);done))))));exact ce.refl _));(focus(simp only[push_cast,seval];(try rfl);done));(focus((repeat'(first|(with_reducible first|apply cB)|((with_reducible apply hY);(focus rfl);(focus((repeat'(first|rfl));done)))));done));(focus(intro _;rfl));(focus(simp only[push_cast,seval];(try rfl);done));(focus(simp only[push_cast,seval];(try rfl);done));(focus(simp only[push_cast,seval];(try rfl);done));(focus(simp only[push_cast,seval];(try rfl);done));(focus(first|exact uB)))))
noncomputable def dV (x0:aO) (x1:aa) (x2:Int) (x3:Int):Option ((Unit)×aO):=(pC x0 x1 x2 x3).1
theorem iT (x0:aO) (x1:aa) (x2:Int) (x3:Int):∀ r,dV x0 x1 x2 x3=some r->bI Tryz.prog 52 (.own (.pt [.sl 148 [.pt [.sh,.sh,.sh,.sh,.mp .str .sh]],.sl 69 (List.replicate 2 .sh)]) (.ptr (aV x0))::List.map SV.d ([.agg (af x1),.int .i64 x2,.int .i64 x3]:List DV)) (.tup []) (.own (.pt [.sl 148 [.pt [.sh,.sh,.sh,.sh,.mp .str .sh]],.sl 69 (List.replicate 2 .sh)]) (.ptr (aV r.2))::List.map SV.d ([.agg (af x1),.int .i64 x2,.int .i64 x3]:List DV)):=(pC x0 x1 x2 x3).2
def kq:SC:=
 (.seq (.reg [.r 13 (.bin .lss (.t 12) (.t 11))])
 (.seq (.cond (.t 13)
  .skip
  (.exit 0))
 (.seq (.block 1 (.seq (.reg [.r 14 (.mv (.t 12)),
    .r 15 (.idx 2 (.t 10) (.t 12)),
    .o 16 (.ldA 2 (.t 15)),
    .w 5 (.boxM (.c (.agg [.d (.str []),.nils]))),
    .r 4 (.mv (.t 14)),
    .w 0 (.st 2 (.t 5) (.t 16))])
  (.seq (.regD [.c 17 (.f 49) [],
    .r 18 (.fld 0 (.t 5)),
    .r 19 (.ld1 (.t 18)),
    .c 20 (.f 22) [.t 17,.t 19],
    .r 6 (.mv (.t 20))])
  (.seq (.reg [.r 21 (.mv (.t 6)),
    .r 22 (.bin .geq (.t 21) (.c (.d (.int .i64 0))))])
  (.cond (.t 22)
   (.reg [.r 23 (.mv (.t 3)),
     .o 24 (.ldA 2 (.t 5)),
     .r 25 (.mv (.t 6)),
     .r 26 (.mv (.t 4)),
     .p (some 27) (.f 50) [.t 23,.t 24,.t 25,.t 26]])
   (.seq (.regD [.c 28 (.f 51) [],
     .r 29 (.fld 0 (.t 5)),
     .r 30 (.ld1 (.t 29)),
     .c 31 (.f 22) [.t 28,.t 30],
     .r 7 (.mv (.t 31))])
   (.seq (.reg [.r 32 (.mv (.t 7)),
     .r 33 (.bin .geq (.t 32) (.c (.d (.int .i64 0))))])
   (.cond (.t 33)
    (.reg [.r 34 (.mv (.t 3)),
      .o 35 (.ldA 2 (.t 5)),
      .r 36 (.mv (.t 7)),
      .r 37 (.mv (.t 4)),
      .p (some 38) (.f 52) [.t 34,.t 35,.t 36,.t 37]])
    (.seq (.regD [.r 39 (.mv (.t 3)),
      .r 40 (.nilc (.t 39)),
      .r 41 (.fld 0 (.t 40)),
      .r 42 (.ld1 (.t 41)),
      .r 43 (.len (.t 42)),
      .c 44 (.f 49) [],
      .r 45 (.len (.t 44)),
      .r 46 (.bin .lss (.t 43) (.t 45))])
    (.cond (.t 46)
     (.reg [.r 47 (.mv (.t 3)),
       .r 48 (.mv (.t 4)),
       .p (some 49) (.f 53) [.t 47,.c (.d (.int .i64 7)),.t 48]])
     .skip))))))))))
 (.reg [.r 50 (.bin .add (.t 12) (.c (.d (.int .i64 1)))),
   .r 12 (.mv (.t 50))]))))
def np:SC:= .block 0 (.loop kq)
def qG:SC:=
 (.seq (.reg [.r 2 (.mv (.c (.nils)))])
 (.seq (.reg [.r 8 (.build [.nils,.nils] []),
   .w 9 (.boxM (.t 8)),
   .r 3 (.mv (.t 9))])
 (.seq (.seq (.reg [.r 10 (.mv (.t 0)),
   .r 11 (.len (.t 10)),
   .r 12 (.mv (.c (.d (.int .i64 0))))])
 np)
 (.seq (.reg [.r 51 (.mv (.t 3)),
   .r 52 (.mv (.t 0)),
   .r 53 (.len (.t 52)),
   .p (some 54) (.f 54) [.t 51,.c (.d (.int .i64 0)),.t 53]])
 (.seq (.reg [.r 55 (.mv (.t 3)),
   .r 56 (.nilc (.t 55)),
   .r 57 (.fld 1 (.t 56)),
   .o 58 (.ld1 (.t 57)),
   .p (some 59) (.f 55) [.t 58,.f 56]])
 (.seq (.reg [.r 60 (.mv (.t 3)),
   .r 61 (.nilc (.t 60)),
   .r 62 (.fld 1 (.t 61)),
   .o 63 (.ld1 (.t 62)),
   .r 2 (.mv (.t 63))])
 .ret))))))
theorem wO:fits Tryz.prog 21 Tryz.f21 qG [.t 2] 1=true:=oK
set_option maxRecDepth 100000 in
set_option maxHeartbeats 40000000 in
noncomputable def pD:(∀ (x0:List aa),{m:Option ((List ac))//∀ r,m=some r->ae Tryz.prog 21 [.slice (List.map af x0)] (.slice (List.map ab r))}):=by
 (intro x0;apply Subtype.mk;intro r hm;apply az Tryz.func21 wO;unfold qG)
 repeat'(first|((with_reducible apply oY (id:=9) (cid:=1288) (off:=0) (n:=1) (e:=148) (ms:=[.pt [.sh,.sh,.sh,.sh,.mp .str .sh]]) (row:=(fS ar)));(focus(simp only[push_cast,seval];(try rfl);done));(focus(simp only[push_cast,seval];(try rfl);done));(focus decide);(focus rfl);(focus(simp only[push_cast,seval];(try rfl);done)))|((with_reducible apply Ca (id:=9) (cid:=1288) (off:=0) (n:=1) (e:=148));(focus(simp only[push_cast,seval];(try rfl);done));(focus(simp only[push_cast,seval];(try rfl);done));(focus decide);(focus(simp only[push_cast,seval];(try rfl);done)))|((with_reducible apply oX (id:=9) (cid:=1289) (off:=1) (n:=2) (e:=69));(focus(simp only[push_cast,seval];(try rfl);done));(focus(simp only[push_cast,seval];(try rfl);done));(focus decide);(focus rfl);(focus(intro _;rfl));(focus(simp only[push_cast,seval];(try rfl);done)))|((with_reducible apply Ca (id:=9) (cid:=1289) (off:=1) (n:=2) (e:=69));(focus(simp only[push_cast,seval];(try rfl);done));(focus(simp only[push_cast,seval];(try rfl);done));(focus decide);(focus(simp only[push_cast,seval];(try rfl);done)))|with_reducible refine d6 ?_|with_reducible refine dL ?_|with_reducible refine ii ?_|with_reducible refine cd ?_|with_reducible refine cG ?_|with_reducible refine fL ?_|with_reducible refine d8 ?_|with_reducible refine dM ?_|with_reducible refine d7 ?_|with_reducible refine d9 ?_|with_reducible refine cg ?_|with_reducible refine fV ?_|((with_reducible apply gy hm);(iterate 2 (simp only[push_cast,seval];rfl));(intro _;rfl);intro e hm)|((with_reducible apply j1);(simp only[push_cast,seval];rfl);(first|exact trivial))|((with_reducible apply mb hm);(simp only[push_cast,seval];rfl);(first|apply kX|apply fM _ _|apply og);(any_goals((repeat'(first|rfl));done));intro x hm)|((with_reducible apply zg);(simp only[push_cast,seval];rfl);(first|exact trivial))|((with_reducible apply cj hm);(simp only[push_cast,seval];rfl);intro hm;rotate_left;intro hm)|((with_reducible apply fT hm);(focus(simp only[eN,jg,RV.get,push_cast,seval];rfl));(focus((repeat'(first|rfl));done)))|((with_reducible apply dZ hm);intro r hm)|((apply aF (b:=0) (X:=np) (x:=kq) rfl (fun(c:SV×SV×SV) (s:(List iQ)×(List ac)×Int)=>st [(0,c.1),(3,.ref 9 0),(10,c.2.1),(11,c.2.2),(12,.d (.int .i64 s.2.2))] [(1288,.vec 148 1 (aw [.pt [.sh,.sh,.sh,.sh,.mp .str .sh]] (fS ar) s.1)),(1289,.vec 69 2 (bH ab s.2.1)),(9,.box (h_ 1288 1289))]) (c:=(_,_,_)) (s0:=(_,_,_)) hm);(focus(first|(dsimp only;done)));(with_reducible refine dP.mk ?_ ?_))|((apply ea (s':=(_,_,_)) hm);(focus(first|(dsimp only;done))))|((apply fU (s':=(_,_,_)) hm);(focus(first|(dsimp only;done))))|(((with_reducible apply Hu hm (id:=9) (ms:=[.sl 148 [.pt [.sh,.sh,.sh,.sh,.mp .str .sh]],.sl 69 (List.replicate 2 .sh)]));(focus((try((apply ce.trans);(focus((apply ff (id:=9) (cid:=1288) (off:=0) (n:=1) (e:=148) (ms:=[.pt [.sh,.sh,.sh,.sh,.mp .str .sh]]) (row:=(fS ar)));(focus(simp only[push_cast,seval];(try rfl);done));(focus(simp only[push_cast,seval];(try rfl);done));(focus decide);(focus(simp only[push_cast,seval];(try rfl);done));(focus((repeat'(first|(with_reducible first|apply kb)));done));(focus rfl);(focus(intro _;rfl));(focus(simp only[push_cast,seval];(try rfl);done))))));(try((apply ce.trans);(focus((apply fe (id:=9) (cid:=1289) (off:=1) (n:=2) (e:=69));(focus(simp only[push_cast,seval];(try rfl);done));(focus(simp only[push_cast,seval];(try rfl);done));(focus decide);(focus(simp only[push_cast,seval];(try rfl);done));(focus((repeat'(first|(with_reducible first|apply k0)));done));(focus(intro _;rfl));(focus(simp only[push_cast,seval];(try rfl);done))))));exact ce.refl _));(focus(simp only[push_cast,seval];(try rfl);done));(focus(simp only[push_cast,seval];(try rfl);done));(focus(simp only[push_cast,seval];(try rfl);done));(focus((repeat'(first|(with_reducible first|apply cB)|((with_reducible apply hY);(focus rfl);(focus((repeat'(first|rfl));done)))));done));(focus rfl);(first|apply iS _ _ _ _|apply iT _ _ _ _|apply b9 _ _ _|apply cT _ _ _);(any_goals(focus((repeat'(first|rfl));done)));(focus(intro _;exact⟨rfl,rfl,rfl⟩));intro y hm))|(((with_reducible apply qY hm);(focus(simp only[push_cast,seval];(try rfl);done));(focus(simp only[push_cast,seval];(try rfl);done));(focus(simp only[push_cast,seval];(try rfl);done));(focus(intro _;rfl));(focus(first|apply cW _ _ _ _ (fun a0 a1 r h=>mq a0 a1 r h)));(any_goals(focus((repeat'(first|rfl));done)));(focus(intro _;exact⟨rfl,rfl⟩));intro y hm))|(((with_reducible apply go.of);(focus(first|(dsimp only;done)));(focus((intro _;repeat'(first|with_reducible exact fd|with_reducible refine di ?_))));(intro s o hm;first|unfold kq);rotate_left;intro s hm))|(((apply dt;(repeat'(first|with_reducible exact bS|with_reducible exact bT|with_reducible apply bi|with_reducible apply c8|((with_reducible apply ck);(focus(first|(simp only[push_cast,seval];rfl)));(focus((repeat'(first|rfl));done)))|((with_reducible apply gj);(focus(first|(simp only[push_cast,seval];rfl)));(first|with_reducible exact bk rfl|with_reducible apply gU))|(with_reducible first|apply I8|apply CP)));done))))
noncomputable def nV (x0:List aa):Option ((List ac)):=(pD x0).1
theorem uP (x0:List aa):∀ r,nV x0=some r->ae Tryz.prog 21 [.slice (List.map af x0)] (.slice (List.map ab r)):=(pD x0).2
def qH:SC:=
 (.seq (.reg [.r 2 (.mv (.c (.nils))),
   .r 3 (.mv (.c (.d (.int .i64 0))))])
 (.seq (.seq (.reg [.r 5 (.mv (.t 0)),
   .c 6 (.f 20) [.t 5],
   .r 4 (.mv (.t 6))])
 (.seq (.reg [.r 7 (.mv (.t 4)),
   .r 8 (.bin .neq (.t 7) (.c (.d (.int .i64 0))))])
 (.cond (.t 8)
  (.seq (.reg [.r 9 (.mv (.t 4)),
    .r 2 (.mv (.c (.nils))),
    .r 3 (.mv (.t 9))])
  .ret)
  .skip)))
 (.seq (.reg [.r 10 (.mv (.t 0)),
   .c 11 (.f 21) [.t 10],
   .r 2 (.mv (.t 11)),
   .r 3 (.mv (.c (.d (.int .i64 0))))])
 .ret)))
theorem wP:fits Tryz.prog 8 Tryz.f8 qH [.t 2,.t 3] 1=true:=oK
set_option maxRecDepth 100000 in
set_option maxHeartbeats 40000000 in
noncomputable def pE:(∀ (x0:List aa),{m:Option ((List ac)×Int)//∀ r,m=some r->ae Tryz.prog 8 [.slice (List.map af x0)] (.tup [.slice (List.map ab r.1),.int .i64 r.2])}):=by
 (intro x0;apply Subtype.mk;intro r hm;apply az Tryz.func8 wP;unfold qH)
 repeat'(first|with_reducible refine d6 ?_|with_reducible refine dL ?_|with_reducible refine cG ?_|with_reducible refine fL ?_|with_reducible refine dM ?_|with_reducible refine d7 ?_|with_reducible refine eO ?_|((with_reducible apply j1);(simp only[push_cast,seval];rfl);(first|exact trivial))|((with_reducible apply mb hm);(simp only[push_cast,seval];rfl);(first|apply i8 _|apply uP _);(any_goals((repeat'(first|rfl));done));intro x hm)|((with_reducible apply cj hm);(simp only[push_cast,seval];rfl);intro hm;rotate_left;intro hm)|((with_reducible apply wu hm);(focus(simp only[eN,jg,RV.get,push_cast,seval];rfl));(focus(first|(dsimp only;done)));(focus((repeat'(first|rfl|(with_reducible first|apply Fy|apply ew|apply mC|apply ex)));done))))
noncomputable def nW (x0:List aa):Option ((List ac)×Int):=(pE x0).1
theorem uQ (x0:List aa):∀ r,nW x0=some r->ae Tryz.prog 8 [.slice (List.map af x0)] (.tup [.slice (List.map ab r.1),.int .i64 r.2]):=(pE x0).2
end Go.Proofs.YtgmnipfafmphaaaGreatDoor
