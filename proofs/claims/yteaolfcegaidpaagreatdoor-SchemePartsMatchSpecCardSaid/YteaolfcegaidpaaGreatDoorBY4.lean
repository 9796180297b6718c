/-
  Laws on the way to the theorem.
-/
import Derived.Test.YteaolfcegaidpaaGreatDoorBY1
namespace Go.Proofs.YteaolfcegaidpaaGreatDoor
open Go.RowKit
set_option linter.unusedSimpArgs false
set_option linter.unusedVariables false
structure oJ where
 fElement:Int
 fRepeat:Int
 fPart:Int
 deriving DecidableEq
def jv (x:oJ):List DV:=[.int .i64 x.fElement,.int .i64 x.fRepeat,.int .i64 x.fPart]
attribute [push_cast] jv
theorem tN {d0 d1 d2:DV} {v0:Int} {v1:Int} {v2:Int} (h0:d0= .int .i64 v0) (h1:d1= .int .i64 v1) (h2:d2= .int .i64 v2):[d0,d1,d2]=jv ⟨v0,v1,v2⟩:=by unfold jv;simp only[h0,h1,h2,OM,OR,OK,OY]
structure ac where
 fKind:Int
 fSegment:Int
 fAt:oJ
 fName:List UInt8
 deriving DecidableEq
def ab (x:ac):List DV:=[.int .i64 x.fKind,.int .i64 x.fSegment]++jv x.fAt++[.str x.fName]
attribute [push_cast] ab
theorem yJ {d0 d1 d2 d3 d4 d5:DV} {v0:Int} {v1:Int} {v2:oJ} {v3:List UInt8} (h0:d0= .int .i64 v0) (h1:d1= .int .i64 v1) (h2:[d2,d3,d4]=jv v2) (h3:d5= .str v3):[d0,d1,d2,d3,d4,d5]=ab ⟨v0,v1,v2,v3⟩:=by unfold ab;simp only[h0,h1,<-h2,h3,OM,OR,OK,OY]
def bM:SC:=
 (.seq (.seq (.regD (.r 18 (.mv (.t 9)):: .r 19 (.mv (.t 1)):: .r 20 (.bin .gtr (.t 18) (.t 19)):: .r 21 (.mv (.t 20))::aV [22,23,24,25,26,27,28,29,30,31,32,33] 21 true (.r 22 (.mv (.t 3)):: .r 23 (.mv (.t 0)):: .r 24 (.mv (.t 9)):: .r 25 (.idx 6 (.t 23) (.t 24)):: .r 26 (.ldA 6 (.t 25)):: .r 27 (.mv (.t 0)):: .r 28 (.mv (.t 9)):: .r 29 (.bin .sub (.t 28) (.c (.d (.int .i64 1)))):: .r 30 (.idx 6 (.t 27) (.t 29)):: .r 31 (.ldA 6 (.t 30)):: .c 32 (.t 22) [.t 26,.t 31]:: .r 33 (.bin .lss (.t 32) (.c (.d (.int .i64 0))))::[]) (.r 34 (.pick (.t 21) (.t 33) (.c (.d (.bool false))))::[])))
 (.cond (.t 34)
  .skip
  (.exit 2)))
 (.seq (.block 3 (.regE [.r 37 (.mv (.t 0)),
    .r 38 (.mv (.t 9)),
    .r 39 (.mv (.t 0)),
    .r 40 (.mv (.t 9)),
    .r 41 (.bin .sub (.t 40) (.c (.d (.int .i64 1)))),
    .r 42 (.mv (.t 0)),
    .r 43 (.mv (.t 9)),
    .r 44 (.bin .sub (.t 43) (.c (.d (.int .i64 1)))),
    .r 45 (.idx 6 (.t 42) (.t 44)),
    .r 46 (.ldA 6 (.t 45)),
    .r 47 (.mv (.t 0)),
    .r 48 (.mv (.t 9)),
    .r 49 (.idx 6 (.t 47) (.t 48)),
    .r 50 (.ldA 6 (.t 49)),
    .r 51 (.idx 6 (.t 37) (.t 38)),
    .x 0 (.st 6 (.t 51) (.t 46)) [(2,39,.mv (.t 0)),(3,40,.mv (.t 9)),(4,41,.bin .sub (.t 40) (.c (.d (.int .i64 1))))],
    .r 52 (.idx 6 (.t 39) (.t 41)),
    .x 0 (.st 6 (.t 52) (.t 50)) []]))
 (.reg [.r 35 (.mv (.t 9)),
   .r 36 (.bin .sub (.t 35) (.c (.d (.int .i64 1)))),
   .r 9 (.mv (.t 36))])))
def cV:SC:= .block 2 (.loop bM)
def bN:SC:=
 (.seq (.seq (.reg [.r 12 (.mv (.t 8)),
   .r 13 (.mv (.t 2)),
   .r 14 (.bin .lss (.t 12) (.t 13))])
 (.cond (.t 14)
  .skip
  (.exit 0)))
 (.seq (.block 1 (.seq (.reg [.r 17 (.mv (.t 8)),
    .r 9 (.mv (.t 17))])
  cV))
 (.reg [.r 15 (.mv (.t 8)),
   .r 16 (.bin .add (.t 15) (.c (.d (.int .i64 1)))),
   .r 8 (.mv (.t 16))])))
def cW:SC:= .block 0 (.loop bN)
def c_:SC:=
 (.seq (.reg [.r 10 (.mv (.t 1)),
   .r 11 (.bin .add (.t 10) (.c (.d (.int .i64 1)))),
   .r 8 (.mv (.t 11))])
 cW)
theorem ge:fits Tryz.prog 144 Tryz.f144 c_ [] 4=true:=oK
set_option maxRecDepth 100000 in
set_option maxHeartbeats 40000000 in
noncomputable def vK:(∀ (x0:List ac) (x1:Int) (x2:Int) (f3:FuncId) (c3:List DV) (p3:ac->ac->Option (Int)) (h3:∀ a0 a1 r,p3 a0 a1=some r->aa Tryz.prog f3 ([.agg (ab a0),.agg (ab a1)]++c3) (.int .i64 r)),{m:Option ((Unit)×(List ac))//∀ r,m=some r->cF Tryz.prog 144 (.own (.sl 36 (List.replicate 6 .sh)) (.slice (List.map ab x0))::(List.map SV.d ([.int .i64 x1,.int .i64 x2,.fn f3 c3]:List DV))) (.tup []) (.own (.sl 36 (List.replicate 6 .sh)) (.slice (List.map ab r.2))::(List.map SV.d ([.int .i64 x1,.int .i64 x2,.fn f3 c3]:List DV)))}):=by
 (intro x0 x1 x2 f3 c3 p3 h3;apply Subtype.mk;intro r hm;apply kX (N:=53) (k:=4) Tryz.func144 ge oK rfl (oZ (row:=ab) (n:=6) (fun _=>rfl) x0) rfl oD;unfold c_)
 repeat'(first|with_reducible refine bA ?_|with_reducible refine bt ?_|with_reducible refine uE ?_|with_reducible refine xf ?_|with_reducible refine bm ?_|with_reducible refine bl ?_|with_reducible refine cw ?_|with_reducible refine bv ?_|with_reducible refine bB ?_|with_reducible refine cx ?_|with_reducible refine bq ?_|((with_reducible apply AK hm);(iterate 3 (simp only[push_cast,seval];rfl));intro e hm)|((with_reducible apply im);(simp only[push_cast,seval];rfl);(first|exact trivial))|((with_reducible apply Eg hm);(iterate 2 (simp only[push_cast,seval];rfl));(intro _;rfl);intro e hm)|((with_reducible apply fG hm);(simp only[push_cast,seval];rfl);rfl;intro v hm;rotate_left;intro v g hm)|((with_reducible apply Hd hm);(iterate 2 (simp only[push_cast,seval];rfl));(focus(first|exact h3 _ _));intro x hm)|((with_reducible apply GB hm);(iterate 3 (simp only[push_cast,seval];rfl));rfl;(intro _;rfl);rfl;(focus(intro a;simp only[push_cast,seval];rfl));(focus(intro a;(repeat'(first|rfl));done));(focus(intro _;(repeat'(first|exact tl|((with_reducible apply yd);(focus(simp only[push_cast,seval];rfl));(focus(first|exact trivial));(focus(simp only[push_cast,seval])))));done));intro e hm)|((with_reducible apply aO hm);(simp only[push_cast,seval];rfl);intro hm;rotate_left;intro hm)|((with_reducible apply cJ hm);(simp only[push_cast,seval];rfl))|((with_reducible apply bE hm);intro r hm)|((apply az (b:=2) (X:=cV) (x:=bM) rfl (fun(c:SV×SV×SV×SV×SV×SV×SV) (s:(List ac)×Int)=>st [(0,.vec 0),(1,c.1),(2,c.2.1),(3,c.2.2.1),(8,c.2.2.2.1),(9,.d (.int .i64 s.2)),(53,.vec 0),(54,c.2.2.2.2.1),(55,c.2.2.2.2.2.1),(56,c.2.2.2.2.2.2)] [(0,.vec 36 6 (bF ab s.1))]) (c:=(_,_,_,_,_,_,_)) (s0:=(_,_)) hm);(focus(first|(dsimp only;done)));(with_reducible refine cN.mk ?_ ?_))|((apply az (b:=0) (X:=cW) (x:=bN) rfl (fun(c:SV×SV×SV×SV×SV×SV) (s:(List ac)×Int)=>st [(0,.vec 0),(1,c.1),(2,c.2.1),(3,c.2.2.1),(8,.d (.int .i64 s.2)),(53,.vec 0),(54,c.2.2.2.1),(55,c.2.2.2.2.1),(56,c.2.2.2.2.2)] [(0,.vec 36 6 (bF ab s.1))]) (c:=(_,_,_,_,_,_)) (s0:=(_,_)) hm);(focus(first|(dsimp only;done)));(with_reducible refine cN.mk ?_ ?_))|((apply bG (s':=(_,_)) hm);(focus(first|(dsimp only;done))))|((apply cZ (s':=(_,_)) hm);(focus(first|(dsimp only;done))))|(((with_reducible apply qr hm (a:=()));(focus(exact dB.refl _));(focus(simp only[push_cast,seval];(try rfl);done));(focus((repeat'(first|(with_reducible first|apply mP)));done));(focus(intro _;rfl));(focus(simp only[push_cast,seval];(try rfl);done));(focus(simp only[push_cast,seval];(try rfl);done));(focus(simp only[push_cast,seval];(try rfl);done));(focus(simp only[push_cast,seval];(try rfl);done));(focus(first|exact Au))))|(((with_reducible apply dC.of);(focus(first|(dsimp only;done)));(focus((intro _;repeat'(first|with_reducible exact dy|with_reducible refine aG ?_|with_reducible refine dj ?_|((with_reducible refine ec ?_);intro _)|((with_reducible refine fH ?_);intro _)))));(intro s o hm;first|unfold bM|unfold bN);rotate_left;intro s hm))|(((apply aW;(repeat'(first|with_reducible exact aw|with_reducible exact ax|with_reducible apply ap|with_reducible apply aU|((with_reducible apply aP);(focus(first|(simp only[push_cast,seval];rfl)));(focus((repeat'(first|rfl));done)))|((with_reducible apply cC);(focus(first|(simp only[push_cast,seval];rfl)));(first|with_reducible exact bj rfl))));done))))
noncomputable def bS (x0:List ac) (x1:Int) (x2:Int) (f3:FuncId) (c3:List DV) (p3:ac->ac->Option (Int)) (h3:∀ a0 a1 r,p3 a0 a1=some r->aa Tryz.prog f3 ([.agg (ab a0),.agg (ab a1)]++c3) (.int .i64 r)):Option ((Unit)×(List ac)):=(vK x0 x1 x2 f3 c3 p3 h3).1
theorem fP (x0:List ac) (x1:Int) (x2:Int) (f3:FuncId) (c3:List DV) (p3:ac->ac->Option (Int)) (h3:∀ a0 a1 r,p3 a0 a1=some r->aa Tryz.prog f3 ([.agg (ab a0),.agg (ab a1)]++c3) (.int .i64 r)):∀ r,bS x0 x1 x2 f3 c3 p3 h3=some r->cF Tryz.prog 144 (.own (.sl 36 (List.replicate 6 .sh)) (.slice (List.map ab x0))::(List.map SV.d ([.int .i64 x1,.int .i64 x2,.fn f3 c3]:List DV))) (.tup []) (.own (.sl 36 (List.replicate 6 .sh)) (.slice (List.map ab r.2))::(List.map SV.d ([.int .i64 x1,.int .i64 x2,.fn f3 c3]:List DV))):=(vK x0 x1 x2 f3 c3 p3 h3).2
def bT:SC:=
 (.seq (.seq (.reg [.r 11 (.mv (.t 10)),
   .r 12 (.mv (.t 3)),
   .r 13 (.bin .lss (.t 11) (.t 12))])
 (.cond (.t 13)
  .skip
  (.exit 0)))
 (.seq (.block 1 (.regE [.r 16 (.mv (.t 0)),
    .r 17 (.mv (.t 1)),
    .r 18 (.mv (.t 10)),
    .r 19 (.bin .add (.t 17) (.t 18)),
    .r 20 (.mv (.t 0)),
    .r 21 (.mv (.t 2)),
    .r 22 (.mv (.t 10)),
    .r 23 (.bin .add (.t 21) (.t 22)),
    .r 24 (.mv (.t 0)),
    .r 25 (.mv (.t 2)),
    .r 26 (.mv (.t 10)),
    .r 27 (.bin .add (.t 25) (.t 26)),
    .r 28 (.idx 6 (.t 24) (.t 27)),
    .r 29 (.ldA 6 (.t 28)),
    .r 30 (.mv (.t 0)),
    .r 31 (.mv (.t 1)),
    .r 32 (.mv (.t 10)),
    .r 33 (.bin .add (.t 31) (.t 32)),
    .r 34 (.idx 6 (.t 30) (.t 33)),
    .r 35 (.ldA 6 (.t 34)),
    .r 36 (.idx 6 (.t 16) (.t 19)),
    .x 0 (.st 6 (.t 36) (.t 29)) [(4,20,.mv (.t 0)),(5,21,.mv (.t 2)),(6,22,.mv (.t 10)),(7,23,.bin .add (.t 21) (.t 22))],
    .r 37 (.idx 6 (.t 20) (.t 23)),
    .x 0 (.st 6 (.t 37) (.t 35)) []]))
 (.reg [.r 14 (.mv (.t 10)),
   .r 15 (.bin .add (.t 14) (.c (.d (.int .i64 1)))),
   .r 10 (.mv (.t 15))])))
def dp:SC:= .block 0 (.loop bT)
def dL:SC:=
 (.seq (.reg [.r 10 (.mv (.c (.d (.int .i64 0))))])
 dp)
theorem gY:fits Tryz.prog 182 Tryz.f182 dL [] 5=true:=oK
set_option maxRecDepth 100000 in
set_option maxHeartbeats 40000000 in
noncomputable def vL:(∀ (x0:List ac) (x1:Int) (x2:Int) (x3:Int) (f4:FuncId) (c4:List DV) (p4:ac->ac->Option (Int)) (h4:∀ a0 a1 r,p4 a0 a1=some r->aa Tryz.prog f4 ([.agg (ab a0),.agg (ab a1)]++c4) (.int .i64 r)),{m:Option ((Unit)×(List ac))//∀ r,m=some r->cF Tryz.prog 182 (.own (.sl 36 (List.replicate 6 .sh)) (.slice (List.map ab x0))::(List.map SV.d ([.int .i64 x1,.int .i64 x2,.int .i64 x3,.fn f4 c4]:List DV))) (.tup []) (.own (.sl 36 (List.replicate 6 .sh)) (.slice (List.map ab r.2))::(List.map SV.d ([.int .i64 x1,.int .i64 x2,.int .i64 x3,.fn f4 c4]:List DV)))}):=by
 (intro x0 x1 x2 x3 f4 c4 p4 h4;apply Subtype.mk;intro r hm;apply kX (N:=38) (k:=5) Tryz.func182 gY oK rfl (oZ (row:=ab) (n:=6) (fun _=>rfl) x0) rfl oD;unfold dL)
 repeat'(first|with_reducible refine bA ?_|with_reducible refine bt ?_|with_reducible refine xf ?_|with_reducible refine bm ?_|with_reducible refine bl ?_|with_reducible refine cw ?_|with_reducible refine bv ?_|with_reducible refine bB ?_|with_reducible refine cx ?_|with_reducible refine bq ?_|((with_reducible apply AK hm);(iterate 3 (simp only[push_cast,seval];rfl));intro e hm)|((with_reducible apply im);(simp only[push_cast,seval];rfl);(first|exact trivial))|((with_reducible apply Eg hm);(iterate 2 (simp only[push_cast,seval];rfl));(intro _;rfl);intro e hm)|((with_reducible apply GB hm);(iterate 3 (simp only[push_cast,seval];rfl));rfl;(intro _;rfl);rfl;(focus(intro a;simp only[push_cast,seval];rfl));(focus(intro a;(repeat'(first|rfl));done));(focus(intro _;(repeat'(first|exact tl|((with_reducible apply yd);(focus(simp only[push_cast,seval];rfl));(focus(first|exact trivial));(focus(simp only[push_cast,seval])))));done));intro e hm)|((with_reducible apply aO hm);(simp only[push_cast,seval];rfl);intro hm;rotate_left;intro hm)|((with_reducible apply bE hm);intro r hm)|((apply az (b:=0) (X:=dp) (x:=bT) rfl (fun(c:SV×SV×SV×SV×SV×SV×SV) (s:(List ac)×Int)=>st [(0,.vec 0),(1,c.1),(2,c.2.1),(3,c.2.2.1),(10,.d (.int .i64 s.2)),(38,.vec 0),(39,c.2.2.2.1),(40,c.2.2.2.2.1),(41,c.2.2.2.2.2.1),(42,c.2.2.2.2.2.2)] [(0,.vec 36 6 (bF ab s.1))]) (c:=(_,_,_,_,_,_,_)) (s0:=(_,_)) hm);(focus(first|(dsimp only;done)));(with_reducible refine cN.mk ?_ ?_))|((apply bG (s':=(_,_)) hm);(focus(first|(dsimp only;done))))|((apply cZ (s':=(_,_)) hm);(focus(first|(dsimp only;done))))|(((with_reducible apply qr hm (a:=()));(focus(exact dB.refl _));(focus(simp only[push_cast,seval];(try rfl);done));(focus((repeat'(first|(with_reducible first|apply mP)));done));(focus(intro _;rfl));(focus(simp only[push_cast,seval];(try rfl);done));(focus(simp only[push_cast,seval];(try rfl);done));(focus(simp only[push_cast,seval];(try rfl);done));(focus(simp only[push_cast,seval];(try rfl);done));(focus(first|exact Au))))|(((with_reducible apply dC.of);(focus(first|(dsimp only;done)));(focus((intro _;repeat'(first|with_reducible exact dy))));(intro s o hm;first|unfold bT);rotate_left;intro s hm))|(((apply aW;(repeat'(first|with_reducible exact aw|with_reducible exact ax|with_reducible apply ap|with_reducible apply aU|((with_reducible apply aP);(focus(first|(simp only[push_cast,seval];rfl)));(focus((repeat'(first|rfl));done)))|((with_reducible apply cC);(focus(first|(simp only[push_cast,seval];rfl)));(first|with_reducible exact bj rfl))));done))))
noncomputable def cq (x0:List ac) (x1:Int) (x2:Int) (x3:Int) (f4:FuncId) (c4:List DV) (p4:ac->ac->Option (Int)) (h4:∀ a0 a1 r,p4 a0 a1=some r->aa Tryz.prog f4 ([.agg (ab a0),.agg (ab a1)]++c4) (.int .i64 r)):Option ((Unit)×(List ac)):=(vL x0 x1 x2 x3 f4 c4 p4 h4).1
theorem gN (x0:List ac) (x1:Int) (x2:Int) (x3:Int) (f4:FuncId) (c4:List DV) (p4:ac->ac->Option (Int)) (h4:∀ a0 a1 r,p4 a0 a1=some r->aa Tryz.prog f4 ([.agg (ab a0),.agg (ab a1)]++c4) (.int .i64 r)):∀ r,cq x0 x1 x2 x3 f4 c4 p4 h4=some r->cF Tryz.prog 182 (.own (.sl 36 (List.replicate 6 .sh)) (.slice (List.map ab x0))::(List.map SV.d ([.int .i64 x1,.int .i64 x2,.int .i64 x3,.fn f4 c4]:List DV))) (.tup []) (.own (.sl 36 (List.replicate 6 .sh)) (.slice (List.map ab r.2))::(List.map SV.d ([.int .i64 x1,.int .i64 x2,.int .i64 x3,.fn f4 c4]:List DV))):=(vL x0 x1 x2 x3 f4 c4 p4 h4).2
def ck:SC:=
 (.seq (.seq (.reg [.r 18 (.mv (.t 10)),
   .r 19 (.mv (.t 11)),
   .r 20 (.bin .neq (.t 18) (.t 19))])
 (.cond (.t 20)
  .skip
  (.exit 0)))
 (.block 1 (.seq (.reg [.r 21 (.mv (.t 10)),
    .r 22 (.mv (.t 11)),
    .r 23 (.bin .gtr (.t 21) (.t 22))])
  (.cond (.t 23)
   (.seq (.reg [.r 24 (.mv (.t 0)),
     .r 25 (.mv (.t 2)),
     .r 26 (.mv (.t 10)),
     .r 27 (.bin .sub (.t 25) (.t 26)),
     .r 28 (.mv (.t 2)),
     .r 29 (.mv (.t 11)),
     .r 30 (.mv (.t 4)),
     .p (some 31) (.f 182) [.t 24,.t 27,.t 28,.t 29,.t 30]])
   (.reg [.r 32 (.mv (.t 10)),
     .r 33 (.mv (.t 11)),
     .r 34 (.bin .sub (.t 32) (.t 33)),
     .r 10 (.mv (.t 34))]))
   (.seq (.reg [.r 35 (.mv (.t 0)),
     .r 36 (.mv (.t 2)),
     .r 37 (.mv (.t 10)),
     .r 38 (.bin .sub (.t 36) (.t 37)),
     .r 39 (.mv (.t 2)),
     .r 40 (.mv (.t 11)),
     .r 41 (.bin .add (.t 39) (.t 40)),
     .r 42 (.mv (.t 10)),
     .r 43 (.bin .sub (.t 41) (.t 42)),
     .r 44 (.mv (.t 10)),
     .r 45 (.mv (.t 4)),
     .p (some 46) (.f 182) [.t 35,.t 38,.t 43,.t 44,.t 45]])
   (.reg [.r 47 (.mv (.t 11)),
     .r 48 (.mv (.t 10)),
     .r 49 (.bin .sub (.t 47) (.t 48)),
     .r 11 (.mv (.t 49))]))))))
def dM:SC:= .block 0 (.loop ck)
def ee:SC:=
 (.seq (.reg [.r 12 (.mv (.t 2)),
   .r 13 (.mv (.t 1)),
   .r 14 (.bin .sub (.t 12) (.t 13)),
   .r 10 (.mv (.t 14))])
 (.seq (.reg [.r 15 (.mv (.t 3)),
   .r 16 (.mv (.t 2)),
   .r 17 (.bin .sub (.t 15) (.t 16)),
   .r 11 (.mv (.t 17))])
 (.seq dM
 (.reg [.r 50 (.mv (.t 0)),
   .r 51 (.mv (.t 2)),
   .r 52 (.mv (.t 10)),
   .r 53 (.bin .sub (.t 51) (.t 52)),
   .r 54 (.mv (.t 2)),
   .r 55 (.mv (.t 10)),
   .r 56 (.mv (.t 4)),
   .p (some 57) (.f 182) [.t 50,.t 53,.t 54,.t 55,.t 56]]))))
theorem iM:fits Tryz.prog 166 Tryz.f166 ee [] 5=true:=oK
set_option maxRecDepth 100000 in
set_option maxHeartbeats 40000000 in
noncomputable def vM:(∀ (x0:List ac) (x1:Int) (x2:Int) (x3:Int) (f4:FuncId) (c4:List DV) (p4:ac->ac->Option (Int)) (h4:∀ a0 a1 r,p4 a0 a1=some r->aa Tryz.prog f4 ([.agg (ab a0),.agg (ab a1)]++c4) (.int .i64 r)),{m:Option ((Unit)×(List ac))//∀ r,m=some r->cF Tryz.prog 166 (.own (.sl 36 (List.replicate 6 .sh)) (.slice (List.map ab x0))::(List.map SV.d ([.int .i64 x1,.int .i64 x2,.int .i64 x3,.fn f4 c4]:List DV))) (.tup []) (.own (.sl 36 (List.replicate 6 .sh)) (.slice (List.map ab r.2))::(List.map SV.d ([.int .i64 x1,.int .i64 x2,.int .i64 x3,.fn f4 c4]:List DV)))}):=by
 (intro x0 x1 x2 x3 f4 c4 p4 h4;apply Subtype.mk;intro r hm;apply kX (N:=58) (k:=5) Tryz.func166 iM oK rfl (oZ (row:=ab) (n:=6) (fun _=>rfl) x0) rfl oD;unfold ee)
 repeat'(first|with_reducible refine bA ?_|with_reducible refine bt ?_|with_reducible refine bm ?_|with_reducible refine bl ?_|with_reducible refine cw ?_|with_reducible refine bv ?_|with_reducible refine bB ?_|with_reducible refine cx ?_|with_reducible refine bq ?_|((with_reducible apply im);(simp only[push_cast,seval];rfl);(first|exact trivial))|((with_reducible apply aO hm);(simp only[push_cast,seval];rfl);intro hm;rotate_left;intro hm)|((with_reducible apply bE hm);intro r hm)|((apply az (b:=0) (X:=dM) (x:=ck) rfl (fun(c:SV×SV×SV×SV×SV×SV) (s:(List ac)×Int×Int)=>st [(0,.vec 0),(2,c.1),(4,c.2.1),(10,.d (.int .i64 s.2.1)),(11,.d (.int .i64 s.2.2)),(58,.vec 0),(59,c.2.2.1),(60,c.2.2.2.1),(61,c.2.2.2.2.1),(62,c.2.2.2.2.2)] [(0,.vec 36 6 (bF ab s.1))]) (c:=(_,_,_,_,_,_)) (s0:=(_,_,_)) hm);(focus(first|(dsimp only;done)));(with_reducible refine cN.mk ?_ ?_))|((apply bG (s':=(_,_,_)) hm);(focus(first|(dsimp only;done))))|((apply cZ (s':=(_,_,_)) hm);(focus(first|(dsimp only;done))))|(((with_reducible apply xj hm);(focus(simp only[push_cast,seval];(try rfl);done));(focus(simp only[push_cast,seval];(try rfl);done));(focus(simp only[push_cast,seval];(try rfl);done));(focus(intro _;rfl));(focus(first|apply gN _ _ _ _ _ _ _ h4));(any_goals(focus((repeat'(first|rfl));done)));(focus(intro _;exact⟨rfl,rfl⟩));intro y hm))|(((with_reducible apply qr hm (a:=()));(focus(exact dB.refl _));(focus(simp only[push_cast,seval];(try rfl);done));(focus((repeat'(first|(with_reducible first|apply mP)));done));(focus(intro _;rfl));(focus(simp only[push_cast,seval];(try rfl);done));(focus(simp only[push_cast,seval];(try rfl);done));(focus(simp only[push_cast,seval];(try rfl);done));(focus(simp only[push_cast,seval];(try rfl);done));(focus(first|exact Au))))|(((with_reducible apply dC.of);(focus(first|(dsimp only;done)));(focus((intro _;repeat'(first|with_reducible exact dy|with_reducible refine aG ?_))));(intro s o hm;first|unfold ck);rotate_left;intro s hm))|(((apply aW;(repeat'(first|with_reducible exact aw|with_reducible exact ax|with_reducible apply ap|with_reducible apply aU|((with_reducible apply aP);(focus(first|(simp only[push_cast,seval];rfl)));(focus((repeat'(first|rfl));done)))|((with_reducible apply cC);(focus(first|(simp only[push_cast,seval];rfl)));(first|with_reducible exact bj rfl))));done))))
noncomputable def cK (x0:List ac) (x1:Int) (x2:Int) (x3:Int) (f4:FuncId) (c4:List DV) (p4:ac->ac->Option (Int)) (h4:∀ a0 a1 r,p4 a0 a1=some r->aa Tryz.prog f4 ([.agg (ab a0),.agg (ab a1)]++c4) (.int .i64 r)):Option ((Unit)×(List ac)):=(vM x0 x1 x2 x3 f4 c4 p4 h4).1
theorem iy (x0:List ac) (x1:Int) (x2:Int) (x3:Int) (f4:FuncId) (c4:List DV) (p4:ac->ac->Option (Int)) (h4:∀ a0 a1 r,p4 a0 a1=some r->aa Tryz.prog f4 ([.agg (ab a0),.agg (ab a1)]++c4) (.int .i64 r)):∀ r,cK x0 x1 x2 x3 f4 c4 p4 h4=some r->cF Tryz.prog 166 (.own (.sl 36 (List.replicate 6 .sh)) (.slice (List.map ab x0))::(List.map SV.d ([.int .i64 x1,.int .i64 x2,.int .i64 x3,.fn f4 c4]:List DV))) (.tup []) (.own (.sl 36 (List.replicate 6 .sh)) (.slice (List.map ab r.2))::(List.map SV.d ([.int .i64 x1,.int .i64 x2,.int .i64 x3,.fn f4 c4]:List DV))):=(vM x0 x1 x2 x3 f4 c4 p4 h4).2
def bY:SC:=
 (.seq (.seq (.reg [.r 31 (.mv (.t 10)),
   .r 32 (.mv (.t 11)),
   .r 33 (.bin .lss (.t 31) (.t 32))])
 (.cond (.t 33)
  .skip
  (.exit 0)))
 (.block 1 (.seq (.reg [.r 34 (.mv (.t 10)),
    .r 35 (.mv (.t 11)),
    .r 36 (.bin .add (.t 34) (.t 35)),
    .r 37 (.cvi .u64 (.t 36)),
    .r 38 (.bin .shr (.t 37) (.c (.d (.int .u64 1)))),
    .r 39 (.cvi .i64 (.t 38)),
    .r 12 (.mv (.t 39))])
  (.seq (.regD [.r 40 (.mv (.t 4)),
    .r 41 (.mv (.t 0)),
    .r 42 (.mv (.t 12)),
    .r 43 (.idx 6 (.t 41) (.t 42)),
    .r 44 (.ldA 6 (.t 43)),
    .r 45 (.mv (.t 0)),
    .r 46 (.mv (.t 1)),
    .r 47 (.idx 6 (.t 45) (.t 46)),
    .r 48 (.ldA 6 (.t 47)),
    .c 49 (.t 40) [.t 44,.t 48],
    .r 50 (.bin .lss (.t 49) (.c (.d (.int .i64 0))))])
  (.cond (.t 50)
   (.reg [.r 51 (.mv (.t 12)),
     .r 52 (.bin .add (.t 51) (.c (.d (.int .i64 1)))),
     .r 10 (.mv (.t 52))])
   (.reg [.r 53 (.mv (.t 12)),
     .r 11 (.mv (.t 53))]))))))
def dr:SC:= .block 0 (.loop bY)
def bZ:SC:=
 (.seq (.seq (.reg [.r 55 (.mv (.t 13)),
   .r 56 (.mv (.t 10)),
   .r 57 (.bin .sub (.t 56) (.c (.d (.int .i64 1)))),
   .r 58 (.bin .lss (.t 55) (.t 57))])
 (.cond (.t 58)
  .skip
  (.exit 2)))
 (.seq (.block 3 (.regE [.r 61 (.mv (.t 0)),
    .r 62 (.mv (.t 13)),
    .r 63 (.mv (.t 0)),
    .r 64 (.mv (.t 13)),
    .r 65 (.bin .add (.t 64) (.c (.d (.int .i64 1)))),
    .r 66 (.mv (.t 0)),
    .r 67 (.mv (.t 13)),
    .r 68 (.bin .add (.t 67) (.c (.d (.int .i64 1)))),
    .r 69 (.idx 6 (.t 66) (.t 68)),
    .r 70 (.ldA 6 (.t 69)),
    .r 71 (.mv (.t 0)),
    .r 72 (.mv (.t 13)),
    .r 73 (.idx 6 (.t 71) (.t 72)),
    .r 74 (.ldA 6 (.t 73)),
    .r 75 (.idx 6 (.t 61) (.t 62)),
    .x 0 (.st 6 (.t 75) (.t 70)) [(2,63,.mv (.t 0)),(3,64,.mv (.t 13)),(4,65,.bin .add (.t 64) (.c (.d (.int .i64 1))))],
    .r 76 (.idx 6 (.t 63) (.t 65)),
    .x 0 (.st 6 (.t 76) (.t 74)) []]))
 (.reg [.r 59 (.mv (.t 13)),
   .r 60 (.bin .add (.t 59) (.c (.d (.int .i64 1)))),
   .r 13 (.mv (.t 60))])))
def dt:SC:= .block 2 (.loop bZ)
def b0:SC:=
 (.seq (.seq (.reg [.r 83 (.mv (.t 14)),
   .r 84 (.mv (.t 15)),
   .r 85 (.bin .lss (.t 83) (.t 84))])
 (.cond (.t 85)
  .skip
  (.exit 4)))
 (.block 5 (.seq (.reg [.r 86 (.mv (.t 14)),
    .r 87 (.mv (.t 15)),
    .r 88 (.bin .add (.t 86) (.t 87)),
    .r 89 (.cvi .u64 (.t 88)),
    .r 90 (.bin .shr (.t 89) (.c (.d (.int .u64 1)))),
    .r 91 (.cvi .i64 (.t 90)),
    .r 16 (.mv (.t 91))])
  (.seq (.regD [.r 92 (.mv (.t 4)),
    .r 93 (.mv (.t 0)),
    .r 94 (.mv (.t 2)),
    .r 95 (.idx 6 (.t 93) (.t 94)),
    .r 96 (.ldA 6 (.t 95)),
    .r 97 (.mv (.t 0)),
    .r 98 (.mv (.t 16)),
    .r 99 (.idx 6 (.t 97) (.t 98)),
    .r 100 (.ldA 6 (.t 99)),
    .c 101 (.t 92) [.t 96,.t 100],
    .r 102 (.bin .lss (.t 101) (.c (.d (.int .i64 0)))),
    .r 103 (.not (.t 102))])
  (.cond (.t 103)
   (.reg [.r 104 (.mv (.t 16)),
     .r 105 (.bin .add (.t 104) (.c (.d (.int .i64 1)))),
     .r 14 (.mv (.t 105))])
   (.reg [.r 106 (.mv (.t 16)),
     .r 15 (.mv (.t 106))]))))))
def du:SC:= .block 4 (.loop b0)
def b8:SC:=
 (.seq (.seq (.reg [.r 108 (.mv (.t 17)),
   .r 109 (.mv (.t 14)),
   .r 110 (.bin .gtr (.t 108) (.t 109))])
 (.cond (.t 110)
  .skip
  (.exit 6)))
 (.seq (.block 7 (.regE [.r 113 (.mv (.t 0)),
    .r 114 (.mv (.t 17)),
    .r 115 (.mv (.t 0)),
    .r 116 (.mv (.t 17)),
    .r 117 (.bin .sub (.t 116) (.c (.d (.int .i64 1)))),
    .r 118 (.mv (.t 0)),
    .r 119 (.mv (.t 17)),
    .r 120 (.bin .sub (.t 119) (.c (.d (.int .i64 1)))),
    .r 121 (.idx 6 (.t 118) (.t 120)),
    .r 122 (.ldA 6 (.t 121)),
    .r 123 (.mv (.t 0)),
    .r 124 (.mv (.t 17)),
    .r 125 (.idx 6 (.t 123) (.t 124)),
    .r 126 (.ldA 6 (.t 125)),
    .r 127 (.idx 6 (.t 113) (.t 114)),
    .x 0 (.st 6 (.t 127) (.t 122)) [(2,115,.mv (.t 0)),(3,116,.mv (.t 17)),(4,117,.bin .sub (.t 116) (.c (.d (.int .i64 1))))],
    .r 128 (.idx 6 (.t 115) (.t 117)),
    .x 0 (.st 6 (.t 128) (.t 126)) []]))
 (.reg [.r 111 (.mv (.t 17)),
   .r 112 (.bin .sub (.t 111) (.c (.d (.int .i64 1)))),
   .r 17 (.mv (.t 112))])))
def dw:SC:= .block 6 (.loop b8)
def b9:SC:=
 (.seq (.seq (.reg [.r 149 (.mv (.t 20)),
   .r 150 (.mv (.t 21)),
   .r 151 (.bin .lss (.t 149) (.t 150))])
 (.cond (.t 151)
  .skip
  (.exit 8)))
 (.block 9 (.seq (.reg [.r 152 (.mv (.t 20)),
    .r 153 (.mv (.t 21)),
    .r 154 (.bin .add (.t 152) (.t 153)),
    .r 155 (.cvi .u64 (.t 154)),
    .r 156 (.bin .shr (.t 155) (.c (.d (.int .u64 1)))),
    .r 157 (.cvi .i64 (.t 156)),
    .r 23 (.mv (.t 157))])
  (.seq (.regD [.r 158 (.mv (.t 4)),
    .r 159 (.mv (.t 0)),
    .r 160 (.mv (.t 22)),
    .r 161 (.mv (.t 23)),
    .r 162 (.bin .sub (.t 160) (.t 161)),
    .r 163 (.idx 6 (.t 159) (.t 162)),
    .r 164 (.ldA 6 (.t 163)),
    .r 165 (.mv (.t 0)),
    .r 166 (.mv (.t 23)),
    .r 167 (.idx 6 (.t 165) (.t 166)),
    .r 168 (.ldA 6 (.t 167)),
    .c 169 (.t 158) [.t 164,.t 168],
    .r 170 (.bin .lss (.t 169) (.c (.d (.int .i64 0)))),
    .r 171 (.not (.t 170))])
  (.cond (.t 171)
   (.reg [.r 172 (.mv (.t 23)),
     .r 173 (.bin .add (.t 172) (.c (.d (.int .i64 1)))),
     .r 20 (.mv (.t 173))])
   (.reg [.r 174 (.mv (.t 23)),
     .r 21 (.mv (.t 174))]))))))
def dx:SC:= .block 8 (.loop b9)
def dV:SC:=
 (.seq (.seq (.reg [.r 25 (.mv (.t 2)),
   .r 26 (.mv (.t 1)),
   .r 27 (.bin .sub (.t 25) (.t 26)),
   .r 28 (.bin .eql (.t 27) (.c (.d (.int .i64 1))))])
 (.cond (.t 28)
  (.seq (.reg [.r 29 (.mv (.t 2)),
    .r 10 (.mv (.t 29))])
  (.seq (.reg [.r 30 (.mv (.t 3)),
    .r 11 (.mv (.t 30))])
  (.seq dr
  (.seq (.seq (.reg [.r 54 (.mv (.t 1)),
    .r 13 (.mv (.t 54))])
  dt)
  .ret))))
  .skip))
 (.seq (.seq (.reg [.r 77 (.mv (.t 3)),
   .r 78 (.mv (.t 2)),
   .r 79 (.bin .sub (.t 77) (.t 78)),
   .r 80 (.bin .eql (.t 79) (.c (.d (.int .i64 1))))])
 (.cond (.t 80)
  (.seq (.reg [.r 81 (.mv (.t 1)),
    .r 14 (.mv (.t 81))])
  (.seq (.reg [.r 82 (.mv (.t 2)),
    .r 15 (.mv (.t 82))])
  (.seq du
  (.seq (.seq (.reg [.r 107 (.mv (.t 2)),
    .r 17 (.mv (.t 107))])
  dw)
  .ret))))
  .skip))
 (.seq (.reg [.r 129 (.mv (.t 1)),
   .r 130 (.mv (.t 3)),
   .r 131 (.bin .add (.t 129) (.t 130)),
   .r 132 (.cvi .u64 (.t 131)),
   .r 133 (.bin .shr (.t 132) (.c (.d (.int .u64 1)))),
   .r 134 (.cvi .i64 (.t 133)),
   .r 18 (.mv (.t 134))])
 (.seq (.reg [.r 135 (.mv (.t 18)),
   .r 136 (.mv (.t 2)),
   .r 137 (.bin .add (.t 135) (.t 136)),
   .r 19 (.mv (.t 137))])
 (.seq (.reg [.r 20 (.mv (.c (.d (.int .i64 0)))),
   .r 21 (.mv (.c (.d (.int .i64 0))))])
 (.seq (.seq (.reg [.r 138 (.mv (.t 2)),
   .r 139 (.mv (.t 18)),
   .r 140 (.bin .gtr (.t 138) (.t 139))])
 (.cond (.t 140)
  (.seq (.reg [.r 141 (.mv (.t 19)),
    .r 142 (.mv (.t 3)),
    .r 143 (.bin .sub (.t 141) (.t 142)),
    .r 20 (.mv (.t 143))])
  (.reg [.r 144 (.mv (.t 18)),
    .r 21 (.mv (.t 144))]))
  (.seq (.reg [.r 145 (.mv (.t 1)),
    .r 20 (.mv (.t 145))])
  (.reg [.r 146 (.mv (.t 2)),
    .r 21 (.mv (.t 146))]))))
 (.seq (.reg [.r 147 (.mv (.t 19)),
   .r 148 (.bin .sub (.t 147) (.c (.d (.int .i64 1)))),
   .r 22 (.mv (.t 148))])
 (.seq dx
 (.seq (.reg [.r 175 (.mv (.t 19)),
   .r 176 (.mv (.t 20)),
   .r 177 (.bin .sub (.t 175) (.t 176)),
   .r 24 (.mv (.t 177))])
 (.seq (.seq (.reg (.r 178 (.mv (.t 20)):: .r 179 (.mv (.t 2)):: .r 180 (.bin .lss (.t 178) (.t 179)):: .r 181 (.mv (.t 180))::aV [182,183,184] 181 true (.r 182 (.mv (.t 2)):: .r 183 (.mv (.t 24)):: .r 184 (.bin .lss (.t 182) (.t 183))::[]) (.r 185 (.pick (.t 181) (.t 184) (.c (.d (.bool false))))::[])))
 (.cond (.t 185)
  (.reg [.r 186 (.mv (.t 0)),
    .r 187 (.mv (.t 20)),
    .r 188 (.mv (.t 2)),
    .r 189 (.mv (.t 24)),
    .r 190 (.mv (.t 4)),
    .p (some 191) (.f 166) [.t 186,.t 187,.t 188,.t 189,.t 190]])
  .skip))
 (.seq (.seq (.reg (.r 192 (.mv (.t 1)):: .r 193 (.mv (.t 20)):: .r 194 (.bin .lss (.t 192) (.t 193)):: .r 195 (.mv (.t 194))::aV [196,197,198] 195 true (.r 196 (.mv (.t 20)):: .r 197 (.mv (.t 18)):: .r 198 (.bin .lss (.t 196) (.t 197))::[]) (.r 199 (.pick (.t 195) (.t 198) (.c (.d (.bool false))))::[])))
 (.cond (.t 199)
  (.reg [.r 200 (.mv (.t 0)),
    .r 201 (.mv (.t 1)),
    .r 202 (.mv (.t 20)),
    .r 203 (.mv (.t 18)),
    .r 204 (.mv (.t 4)),
    .p (some 205) (.f 145) [.t 200,.t 201,.t 202,.t 203,.t 204]])
  .skip))
 (.seq (.reg (.r 206 (.mv (.t 18)):: .r 207 (.mv (.t 24)):: .r 208 (.bin .lss (.t 206) (.t 207)):: .r 209 (.mv (.t 208))::aV [210,211,212] 209 true (.r 210 (.mv (.t 24)):: .r 211 (.mv (.t 3)):: .r 212 (.bin .lss (.t 210) (.t 211))::[]) (.r 213 (.pick (.t 209) (.t 212) (.c (.d (.bool false))))::[])))
 (.cond (.t 213)
  (.reg [.r 214 (.mv (.t 0)),
    .r 215 (.mv (.t 18)),
    .r 216 (.mv (.t 24)),
    .r 217 (.mv (.t 3)),
    .r 218 (.mv (.t 4)),
    .p (some 219) (.f 145) [.t 214,.t 215,.t 216,.t 217,.t 218]])
  .skip)))))))))))))
theorem ig:fits Tryz.prog 145 Tryz.f145 dV [] 5=true:=oK
set_option maxRecDepth 100000 in
set_option maxHeartbeats 40000000 in
noncomputable def vN:((∀ (x0:List ac) (x1:Int) (x2:Int) (x3:Int) (f4:FuncId) (c4:List DV) (p4:ac->ac->Option (Int)) (h4:∀ a0 a1 r,p4 a0 a1=some r->aa Tryz.prog f4 ([.agg (ab a0),.agg (ab a1)]++c4) (.int .i64 r)),{m:Option ((Unit)×(List ac))//∀ r,m=some r->cF Tryz.prog 145 (.own (.sl 36 (List.replicate 6 .sh)) (.slice (List.map ab x0))::(List.map SV.d ([.int .i64 x1,.int .i64 x2,.int .i64 x3,.fn f4 c4]:List DV))) (.tup []) (.own (.sl 36 (List.replicate 6 .sh)) (.slice (List.map ab r.2))::(List.map SV.d ([.int .i64 x1,.int .i64 x2,.int .i64 x3,.fn f4 c4]:List DV)))}))->((∀ (x0:List ac) (x1:Int) (x2:Int) (x3:Int) (f4:FuncId) (c4:List DV) (p4:ac->ac->Option (Int)) (h4:∀ a0 a1 r,p4 a0 a1=some r->aa Tryz.prog f4 ([.agg (ab a0),.agg (ab a1)]++c4) (.int .i64 r)),{m:Option ((Unit)×(List ac))//∀ r,m=some r->cF Tryz.prog 145 (.own (.sl 36 (List.replicate 6 .sh)) (.slice (List.map ab x0))::(List.map SV.d ([.int .i64 x1,.int .i64 x2,.int .i64 x3,.fn f4 c4]:List DV))) (.tup []) (.own (.sl 36 (List.replicate 6 .sh)) (.slice (List.map ab r.2))::(List.map SV.d ([.int .i64 x1,.int .i64 x2,.int .i64 x3,.fn f4 c4]:List DV)))})):=by
 intro ih
 have cc:∀ (x0:List ac) (x1:Int) (x2:Int) (x3:Int) (f4:FuncId) (c4:List DV) (p4:ac->ac->Option (Int)) (h4:∀ a0 a1 r,p4 a0 a1=some r->aa Tryz.prog f4 ([.agg (ab a0),.agg (ab a1)]++c4) (.int .i64 r)),∀ r,(ih x0 x1 x2 x3 f4 c4 p4 h4).1=some r->cF Tryz.prog 145 (.own (.sl 36 (List.replicate 6 .sh)) (.slice (List.map ab x0))::(List.map SV.d ([.int .i64 x1,.int .i64 x2,.int .i64 x3,.fn f4 c4]:List DV))) (.tup []) (.own (.sl 36 (List.replicate 6 .sh)) (.slice (List.map ab r.2))::(List.map SV.d ([.int .i64 x1,.int .i64 x2,.int .i64 x3,.fn f4 c4]:List DV))):=fun x0 x1 x2 x3 f4 c4 p4 h4=>(ih x0 x1 x2 x3 f4 c4 p4 h4).2
 (intro x0 x1 x2 x3 f4 c4 p4 h4;apply Subtype.mk;intro r hm;apply kX (N:=220) (k:=5) Tryz.func145 ig oK rfl (oZ (row:=ab) (n:=6) (fun _=>rfl) x0) rfl oD;unfold dV)
 repeat'(first|with_reducible refine bA ?_|with_reducible refine bt ?_|with_reducible refine uE ?_|with_reducible refine xf ?_|with_reducible refine bm ?_|with_reducible refine bl ?_|with_reducible refine bR ?_|with_reducible refine cw ?_|with_reducible refine bv ?_|with_reducible refine bB ?_|with_reducible refine cx ?_|with_reducible refine cb ?_|with_reducible refine bq ?_|((with_reducible apply AK hm);(iterate 3 (simp only[push_cast,seval];rfl));intro e hm)|((with_reducible apply im);(simp only[push_cast,seval];rfl);(first|exact trivial))|((with_reducible apply Eg hm);(iterate 2 (simp only[push_cast,seval];rfl));(intro _;rfl);intro e hm)|((with_reducible apply G6 hm);(iterate 2 (simp only[push_cast,seval];rfl));intro hm)|((with_reducible apply fG hm);(simp only[push_cast,seval];rfl);rfl;intro v hm;rotate_left;intro v g hm)|((with_reducible apply Hd hm);(iterate 2 (simp only[push_cast,seval];rfl));(focus(first|exact h4 _ _));intro x hm)|((with_reducible apply GB hm);(iterate 3 (simp only[push_cast,seval];rfl));rfl;(intro _;rfl);rfl;(focus(intro a;simp only[push_cast,seval];rfl));(focus(intro a;(repeat'(first|rfl));done));(focus(intro _;(repeat'(first|exact tl|((with_reducible apply yd);(focus(simp only[push_cast,seval];rfl));(focus(first|exact trivial));(focus(simp only[push_cast,seval])))));done));intro e hm)|((with_reducible apply aO hm);(simp only[push_cast,seval];rfl);intro hm;rotate_left;intro hm)|((with_reducible apply cJ hm);(simp only[push_cast,seval];rfl))|((with_reducible apply bE hm);intro r hm)|((apply az (b:=0) (X:=dr) (x:=bY) rfl (fun(c:Ch×SV×SV×SV×SV×SV×SV) (s:Int×Int)=>st [(0,.vec 0),(1,c.2.1),(4,c.2.2.1),(10,.d (.int .i64 s.1)),(11,.d (.int .i64 s.2)),(220,.vec 0),(221,c.2.2.2.1),(222,c.2.2.2.2.1),(223,c.2.2.2.2.2.1),(224,c.2.2.2.2.2.2)] [(0,c.1)]) (c:=(_,_,_,_,_,_,_)) (s0:=(_,_)) hm);(focus(first|(dsimp only;done)));(with_reducible refine cN.mk ?_ ?_))|((apply az (b:=2) (X:=dt) (x:=bZ) rfl (fun(c:SV×SV×SV×SV×SV) (s:(List ac)×Int)=>st [(0,.vec 0),(10,c.1),(13,.d (.int .i64 s.2)),(220,.vec 0),(221,c.2.1),(222,c.2.2.1),(223,c.2.2.2.1),(224,c.2.2.2.2)] [(0,.vec 36 6 (bF ab s.1))]) (c:=(_,_,_,_,_)) (s0:=(_,_)) hm);(focus(first|(dsimp only;done)));(with_reducible refine cN.mk ?_ ?_))|((apply az (b:=4) (X:=du) (x:=b0) rfl (fun(c:Ch×SV×SV×SV×SV×SV×SV) (s:Int×Int)=>st [(0,.vec 0),(2,c.2.1),(4,c.2.2.1),(14,.d (.int .i64 s.1)),(15,.d (.int .i64 s.2)),(220,.vec 0),(221,c.2.2.2.1),(222,c.2.2.2.2.1),(223,c.2.2.2.2.2.1),(224,c.2.2.2.2.2.2)] [(0,c.1)]) (c:=(_,_,_,_,_,_,_)) (s0:=(_,_)) hm);(focus(first|(dsimp only;done)));(with_reducible refine cN.mk ?_ ?_))|((apply az (b:=6) (X:=dw) (x:=b8) rfl (fun(c:SV×SV×SV×SV×SV) (s:(List ac)×Int)=>st [(0,.vec 0),(14,c.1),(17,.d (.int .i64 s.2)),(220,.vec 0),(221,c.2.1),(222,c.2.2.1),(223,c.2.2.2.1),(224,c.2.2.2.2)] [(0,.vec 36 6 (bF ab s.1))]) (c:=(_,_,_,_,_)) (s0:=(_,_)) hm);(focus(first|(dsimp only;done)));(with_reducible refine cN.mk ?_ ?_))|((apply az (b:=8) (X:=dx) (x:=b9) rfl (fun(c:Ch×SV×SV×SV×SV×SV×SV×SV×SV×SV×SV×SV) (s:Int×Int)=>st [(0,.vec 0),(1,c.2.1),(2,c.2.2.1),(3,c.2.2.2.1),(4,c.2.2.2.2.1),(18,c.2.2.2.2.2.1),(19,c.2.2.2.2.2.2.1),(20,.d (.int .i64 s.1)),(21,.d (.int .i64 s.2)),(22,c.2.2.2.2.2.2.2.1),(220,.vec 0),(221,c.2.2.2.2.2.2.2.2.1),(222,c.2.2.2.2.2.2.2.2.2.1),(223,c.2.2.2.2.2.2.2.2.2.2.1),(224,c.2.2.2.2.2.2.2.2.2.2.2)] [(0,c.1)]) (c:=(_,_,_,_,_,_,_,_,_,_,_,_)) (s0:=(_,_)) hm);(focus(first|(dsimp only;done)));(with_reducible refine cN.mk ?_ ?_))|((apply bG (s':=(_,_)) hm);(focus(first|(dsimp only;done))))|((apply cZ (s':=(_,_)) hm);(focus(first|(dsimp only;done))))|(((with_reducible apply xj hm);(focus(simp only[push_cast,seval];(try rfl);done));(focus(simp only[push_cast,seval];(try rfl);done));(focus(simp only[push_cast,seval];(try rfl);done));(focus(intro _;rfl));(focus(first|apply iy _ _ _ _ _ _ _ h4));(any_goals(focus((repeat'(first|rfl));done)));(focus(intro _;exact⟨rfl,rfl⟩));intro y hm))|(((with_reducible apply xj hm);(focus(simp only[push_cast,seval];(try rfl);done));(focus(simp only[push_cast,seval];(try rfl);done));(focus(simp only[push_cast,seval];(try rfl);done));(focus(intro _;rfl));(focus(first|apply cc _ _ _ _ _ _ _ h4));(any_goals(focus((repeat'(first|rfl));done)));(focus(intro _;exact⟨rfl,rfl⟩));intro y hm))|(((with_reducible apply JI hm (a:=()));(focus(exact dB.refl _));(focus(simp only[push_cast,seval];(try rfl);done));(focus((repeat'(first|(with_reducible first|apply mP)));done));(focus(intro _;rfl));(focus(simp only[push_cast,seval];(try rfl);done));(focus(simp only[push_cast,seval];(try rfl);done));(focus(simp only[push_cast,seval];(try rfl);done));(focus(simp only[push_cast,seval];(try rfl);done));(focus(first|exact Au))))|(((with_reducible apply qr hm (a:=()));(focus(exact dB.refl _));(focus(simp only[push_cast,seval];(try rfl);done));(focus((repeat'(first|(with_reducible first|apply mP)));done));(focus(intro _;rfl));(focus(simp only[push_cast,seval];(try rfl);done));(focus(simp only[push_cast,seval];(try rfl);done));(focus(simp only[push_cast,seval];(try rfl);done));(focus(simp only[push_cast,seval];(try rfl);done));(focus(first|exact Au))))|(((with_reducible apply dC.of);(focus(first|(dsimp only;done)));(focus((intro _;repeat'(first|with_reducible exact dy|with_reducible refine aG ?_))));(intro s o hm;first|unfold bY|unfold bZ|unfold b0|unfold b8|unfold b9);rotate_left;intro s hm))|(((apply aW;(repeat'(first|with_reducible exact aw|with_reducible exact ax|with_reducible apply ap|with_reducible apply aU|((with_reducible apply aP);(focus(first|(simp only[push_cast,seval];rfl)));(focus((repeat'(first|rfl));done)))|((with_reducible apply cC);(focus(first|(simp only[push_cast,seval];rfl)));(first|with_reducible exact bj rfl))));done))))
noncomputable def sd (fu:Nat):(∀ (x0:List ac) (x1:Int) (x2:Int) (x3:Int) (f4:FuncId) (c4:List DV) (p4:ac->ac->Option (Int)) (h4:∀ a0 a1 r,p4 a0 a1=some r->aa Tryz.prog f4 ([.agg (ab a0),.agg (ab a1)]++c4) (.int .i64 r)),{m:Option ((Unit)×(List ac))//∀ r,m=some r->cF Tryz.prog 145 (.own (.sl 36 (List.replicate 6 .sh)) (.slice (List.map ab x0))::(List.map SV.d ([.int .i64 x1,.int .i64 x2,.int .i64 x3,.fn f4 c4]:List DV))) (.tup []) (.own (.sl 36 (List.replicate 6 .sh)) (.slice (List.map ab r.2))::(List.map SV.d ([.int .i64 x1,.int .i64 x2,.int .i64 x3,.fn f4 c4]:List DV)))}):=Nat.rec (fun x0 x1 x2 x3 f4 c4 p4 h4=>⟨none,fun r h=>by cases h⟩) (fun _ ih=>vN ih) fu
noncomputable def be (fu:Nat) (x0:List ac) (x1:Int) (x2:Int) (x3:Int) (f4:FuncId) (c4:List DV) (p4:ac->ac->Option (Int)) (h4:∀ a0 a1 r,p4 a0 a1=some r->aa Tryz.prog f4 ([.agg (ab a0),.agg (ab a1)]++c4) (.int .i64 r)):Option ((Unit)×(List ac)):=((sd fu) x0 x1 x2 x3 f4 c4 p4 h4).1
theorem gD (x0:List ac) (x1:Int) (x2:Int) (x3:Int) (f4:FuncId) (c4:List DV) (p4:ac->ac->Option (Int)) (h4:∀ a0 a1 r,p4 a0 a1=some r->aa Tryz.prog f4 ([.agg (ab a0),.agg (ab a1)]++c4) (.int .i64 r)):be 0 x0 x1 x2 x3 f4 c4 p4 h4=none:=rfl
theorem gE (fu:Nat) (x0:List ac) (x1:Int) (x2:Int) (x3:Int) (f4:FuncId) (c4:List DV) (p4:ac->ac->Option (Int)) (h4:∀ a0 a1 r,p4 a0 a1=some r->aa Tryz.prog f4 ([.agg (ab a0),.agg (ab a1)]++c4) (.int .i64 r)):((sd fu) x0 x1 x2 x3 f4 c4 p4 h4).1=be fu x0 x1 x2 x3 f4 c4 p4 h4:=rfl
theorem gG (fu:Nat) (x0:List ac) (x1:Int) (x2:Int) (x3:Int) (f4:FuncId) (c4:List DV) (p4:ac->ac->Option (Int)) (h4:∀ a0 a1 r,p4 a0 a1=some r->aa Tryz.prog f4 ([.agg (ab a0),.agg (ab a1)]++c4) (.int .i64 r)):be (fu+1) x0 x1 x2 x3 f4 c4 p4 h4=((vN (sd fu)) x0 x1 x2 x3 f4 c4 p4 h4).1:=rfl
theorem cc (fu:Nat) (x0:List ac) (x1:Int) (x2:Int) (x3:Int) (f4:FuncId) (c4:List DV) (p4:ac->ac->Option (Int)) (h4:∀ a0 a1 r,p4 a0 a1=some r->aa Tryz.prog f4 ([.agg (ab a0),.agg (ab a1)]++c4) (.int .i64 r)):∀ r,be fu x0 x1 x2 x3 f4 c4 p4 h4=some r->cF Tryz.prog 145 (.own (.sl 36 (List.replicate 6 .sh)) (.slice (List.map ab x0))::(List.map SV.d ([.int .i64 x1,.int .i64 x2,.int .i64 x3,.fn f4 c4]:List DV))) (.tup []) (.own (.sl 36 (List.replicate 6 .sh)) (.slice (List.map ab r.2))::(List.map SV.d ([.int .i64 x1,.int .i64 x2,.int .i64 x3,.fn f4 c4]:List DV))):=((sd fu) x0 x1 x2 x3 f4 c4 p4 h4).2
def cm:SC:=
 (.seq (.seq (.reg [.r 11 (.mv (.t 8)),
   .r 12 (.mv (.t 1)),
   .r 13 (.bin .leq (.t 11) (.t 12))])
 (.cond (.t 13)
  .skip
  (.exit 0)))
 (.block 1 (.seq (.reg [.r 14 (.mv (.t 0)),
    .r 15 (.mv (.t 7)),
    .r 16 (.mv (.t 8)),
    .r 17 (.mv (.t 2)),
    .p (some 18) (.f 144) [.t 14,.t 15,.t 16,.t 17]])
  (.seq (.reg [.r 19 (.mv (.t 8)),
    .r 7 (.mv (.t 19))])
  (.reg [.r 20 (.mv (.t 8)),
    .r 21 (.mv (.t 6)),
    .r 22 (.bin .add (.t 20) (.t 21)),
    .r 8 (.mv (.t 22))])))))
def dN:SC:= .block 0 (.loop cm)
def cn:SC:=
 (.seq (.seq (.reg [.r 33 (.mv (.t 8)),
   .r 34 (.mv (.t 1)),
   .r 35 (.bin .leq (.t 33) (.t 34))])
 (.cond (.t 35)
  .skip
  (.exit 4)))
 (.block 5 (.seq (.reg [.r 36 (.mv (.t 0)),
    .r 37 (.mv (.t 7)),
    .r 38 (.mv (.t 7)),
    .r 39 (.mv (.t 6)),
    .r 40 (.bin .add (.t 38) (.t 39)),
    .r 41 (.mv (.t 8)),
    .r 42 (.mv (.t 2)),
    .p (some 43) (.f 145) [.t 36,.t 37,.t 40,.t 41,.t 42]])
  (.seq (.reg [.r 44 (.mv (.t 8)),
    .r 7 (.mv (.t 44))])
  (.reg [.r 45 (.mv (.t 8)),
    .r 46 (.mv (.t 6)),
    .r 47 (.bin .mul (.c (.d (.int .i64 2))) (.t 46)),
    .r 48 (.bin .add (.t 45) (.t 47)),
    .r 8 (.mv (.t 48))])))))
def dO:SC:= .block 4 (.loop cn)
def co:SC:=
 (.seq (.seq (.reg [.r 28 (.mv (.t 6)),
   .r 29 (.mv (.t 1)),
   .r 30 (.bin .lss (.t 28) (.t 29))])
 (.cond (.t 30)
  .skip
  (.exit 2)))
 (.block 3 (.seq (.reg [.r 31 (.mv (.t 6)),
    .r 32 (.bin .mul (.c (.d (.int .i64 2))) (.t 31)),
    .r 7 (.mv (.c (.d (.int .i64 0)))),
    .r 8 (.mv (.t 32))])
  (.seq dO
  (.seq (.seq (.reg [.r 49 (.mv (.t 7)),
    .r 50 (.mv (.t 6)),
    .r 51 (.bin .add (.t 49) (.t 50)),
    .r 9 (.mv (.t 51))])
  (.seq (.reg [.r 52 (.mv (.t 9)),
    .r 53 (.mv (.t 1)),
    .r 54 (.bin .lss (.t 52) (.t 53))])
  (.cond (.t 54)
   (.reg [.r 55 (.mv (.t 0)),
     .r 56 (.mv (.t 7)),
     .r 57 (.mv (.t 9)),
     .r 58 (.mv (.t 1)),
     .r 59 (.mv (.t 2)),
     .p (some 60) (.f 145) [.t 55,.t 56,.t 57,.t 58,.t 59]])
   .skip)))
  (.reg [.r 61 (.mv (.t 6)),
    .r 62 (.bin .mul (.t 61) (.c (.d (.int .i64 2)))),
    .r 6 (.mv (.t 62))]))))))
def dP:SC:= .block 2 (.loop co)
def ef:SC:=
 (.seq (.reg [.r 6 (.mv (.c (.d (.int .i64 20))))])
 (.seq (.reg [.r 10 (.mv (.t 6)),
   .r 7 (.mv (.c (.d (.int .i64 0)))),
   .r 8 (.mv (.t 10))])
 (.seq dN
 (.seq (.reg [.r 23 (.mv (.t 0)),
   .r 24 (.mv (.t 7)),
   .r 25 (.mv (.t 1)),
   .r 26 (.mv (.t 2)),
   .p (some 27) (.f 144) [.t 23,.t 24,.t 25,.t 26]])
 dP))))
theorem iN:fits Tryz.prog 105 Tryz.f105 ef [] 3=true:=oK
set_option maxRecDepth 100000 in
set_option maxHeartbeats 40000000 in
noncomputable def vO:(∀ (x0:List ac) (x1:Int) (f2:FuncId) (c2:List DV) (p2:ac->ac->Option (Int)) (h2:∀ a0 a1 r,p2 a0 a1=some r->aa Tryz.prog f2 ([.agg (ab a0),.agg (ab a1)]++c2) (.int .i64 r)),{m:Option ((Unit)×(List ac))//∀ r,m=some r->cF Tryz.prog 105 (.own (.sl 36 (List.replicate 6 .sh)) (.slice (List.map ab x0))::(List.map SV.d ([.int .i64 x1,.fn f2 c2]:List DV))) (.tup []) (.own (.sl 36 (List.replicate 6 .sh)) (.slice (List.map ab r.2))::(List.map SV.d ([.int .i64 x1,.fn f2 c2]:List DV)))}):=by
 (intro x0 x1 f2 c2 p2 h2;apply Subtype.mk;intro r hm;apply kX (N:=63) (k:=3) Tryz.func105 iN oK rfl (oZ (row:=ab) (n:=6) (fun _=>rfl) x0) rfl oD;unfold ef)
 repeat'(first|with_reducible refine bA ?_|with_reducible refine bt ?_|with_reducible refine bm ?_|with_reducible refine bl ?_|with_reducible refine cw ?_|with_reducible refine bv ?_|with_reducible refine bB ?_|with_reducible refine cx ?_|with_reducible refine bq ?_|((with_reducible apply im);(simp only[push_cast,seval];rfl);(first|exact trivial))|((with_reducible apply aO hm);(simp only[push_cast,seval];rfl);intro hm;rotate_left;intro hm)|((with_reducible apply bE hm);intro r hm)|((apply az (b:=0) (X:=dN) (x:=cm) rfl (fun(c:SV×SV×SV×SV×SV) (s:(List ac)×Int×Int)=>st [(0,.vec 0),(1,c.1),(2,c.2.1),(6,c.2.2.1),(7,.d (.int .i64 s.2.1)),(8,.d (.int .i64 s.2.2)),(63,.vec 0),(64,c.2.2.2.1),(65,c.2.2.2.2)] [(0,.vec 36 6 (bF ab s.1))]) (c:=(_,_,_,_,_)) (s0:=(_,_,_)) hm);(focus(first|(dsimp only;done)));(with_reducible refine cN.mk ?_ ?_))|((apply az (b:=4) (X:=dO) (x:=cn) rfl (fun(c:SV×SV×SV×SV×SV) (s:(List ac)×Int×Int)=>st [(0,.vec 0),(1,c.1),(2,c.2.1),(6,c.2.2.1),(7,.d (.int .i64 s.2.1)),(8,.d (.int .i64 s.2.2)),(63,.vec 0),(64,c.2.2.2.1),(65,c.2.2.2.2)] [(0,.vec 36 6 (bF ab s.1))]) (c:=(_,_,_,_,_)) (s0:=(_,_,_)) hm);(focus(first|(dsimp only;done)));(with_reducible refine cN.mk ?_ ?_))|((apply az (b:=2) (X:=dP) (x:=co) rfl (fun(c:SV×SV×SV×SV) (s:(List ac)×Int)=>st [(0,.vec 0),(1,c.1),(2,c.2.1),(6,.d (.int .i64 s.2)),(63,.vec 0),(64,c.2.2.1),(65,c.2.2.2)] [(0,.vec 36 6 (bF ab s.1))]) (c:=(_,_,_,_)) (s0:=(_,_)) hm);(focus(first|(dsimp only;done)));(with_reducible refine cN.mk ?_ ?_))|((apply bG (s':=(_,_,_)) hm);(focus(first|(dsimp only;done))))|((apply cZ (s':=(_,_,_)) hm);(focus(first|(dsimp only;done))))|((apply bG (s':=(_,_)) hm);(focus(first|(dsimp only;done))))|((apply cZ (s':=(_,_)) hm);(focus(first|(dsimp only;done))))|(((with_reducible apply xj hm);(focus(simp only[push_cast,seval];(try rfl);done));(focus(simp only[push_cast,seval];(try rfl);done));(focus(simp only[push_cast,seval];(try rfl);done));(focus(intro _;rfl));(focus(first|apply fP _ _ _ _ _ _ h2));(any_goals(focus((repeat'(first|rfl));done)));(focus(intro _;exact⟨rfl,rfl⟩));intro y hm))|(((with_reducible apply xj hm);(focus(simp only[push_cast,seval];(try rfl);done));(focus(simp only[push_cast,seval];(try rfl);done));(focus(simp only[push_cast,seval];(try rfl);done));(focus(intro _;rfl));(focus(first|apply cc FU _ _ _ _ _ _ _ h2));(any_goals(focus((repeat'(first|rfl));done)));(focus(intro _;exact⟨rfl,rfl⟩));intro y hm))|(((with_reducible apply qr hm (a:=()));(focus(exact dB.refl _));(focus(simp only[push_cast,seval];(try rfl);done));(focus((repeat'(first|(with_reducible first|apply mP)));done));(focus(intro _;rfl));(focus(simp only[push_cast,seval];(try rfl);done));(focus(simp only[push_cast,seval];(try rfl);done));(focus(simp only[push_cast,seval];(try rfl);done));(focus(simp only[push_cast,seval];(try rfl);done));(focus(first|exact Au))))|(((with_reducible apply dC.of);(focus(first|(dsimp only;done)));(focus((intro _;repeat'(first|with_reducible exact dy|with_reducible refine aG ?_|with_reducible refine dj ?_|((with_reducible refine ec ?_);intro _)|((with_reducible refine fH ?_);intro _)))));(intro s o hm;first|unfold cm|unfold cn|unfold co);rotate_left;intro s hm))|(((apply aW;(repeat'(first|with_reducible exact aw|with_reducible exact ax|with_reducible apply ap|with_reducible apply aU|((with_reducible apply aP);(focus(first|(simp only[push_cast,seval];rfl)));(focus((repeat'(first|rfl));done)))|((with_reducible apply cC);(focus(first|(simp only[push_cast,seval];rfl)));(first|with_reducible exact bj rfl))));done))))
noncomputable def cL (x0:List ac) (x1:Int) (f2:FuncId) (c2:List DV) (p2:ac->ac->Option (Int)) (h2:∀ a0 a1 r,p2 a0 a1=some r->aa Tryz.prog f2 ([.agg (ab a0),.agg (ab a1)]++c2) (.int .i64 r)):Option ((Unit)×(List ac)):=(vO x0 x1 f2 c2 p2 h2).1
theorem iz (x0:List ac) (x1:Int) (f2:FuncId) (c2:List DV) (p2:ac->ac->Option (Int)) (h2:∀ a0 a1 r,p2 a0 a1=some r->aa Tryz.prog f2 ([.agg (ab a0),.agg (ab a1)]++c2) (.int .i64 r)):∀ r,cL x0 x1 f2 c2 p2 h2=some r->cF Tryz.prog 105 (.own (.sl 36 (List.replicate 6 .sh)) (.slice (List.map ab x0))::(List.map SV.d ([.int .i64 x1,.fn f2 c2]:List DV))) (.tup []) (.own (.sl 36 (List.replicate 6 .sh)) (.slice (List.map ab r.2))::(List.map SV.d ([.int .i64 x1,.fn f2 c2]:List DV))):=(vO x0 x1 f2 c2 p2 h2).2
def bU:SC:=
 (.reg [.r 4 (.mv (.t 0)),
   .r 5 (.mv (.t 0)),
   .r 6 (.len (.t 5)),
   .r 7 (.mv (.t 1)),
   .p (some 8) (.f 105) [.t 4,.t 6,.t 7]])
theorem dZ:fits Tryz.prog 59 Tryz.f59 bU [] 2=true:=oK
set_option maxRecDepth 100000 in
set_option maxHeartbeats 40000000 in
noncomputable def vP:(∀ (x0:List ac) (f1:FuncId) (c1:List DV) (p1:ac->ac->Option (Int)) (h1:∀ a0 a1 r,p1 a0 a1=some r->aa Tryz.prog f1 ([.agg (ab a0),.agg (ab a1)]++c1) (.int .i64 r)),{m:Option ((Unit)×(List ac))//∀ r,m=some r->cF Tryz.prog 59 (.own (.sl 36 (List.replicate 6 .sh)) (.slice (List.map ab x0))::(List.map SV.d ([.fn f1 c1]:List DV))) (.tup []) (.own (.sl 36 (List.replicate 6 .sh)) (.slice (List.map ab r.2))::(List.map SV.d ([.fn f1 c1]:List DV)))}):=by
 (intro x0 f1 c1 p1 h1;apply Subtype.mk;intro r hm;apply kX (N:=9) (k:=2) Tryz.func59 dZ oK rfl (oZ (row:=ab) (n:=6) (fun _=>rfl) x0) rfl oD;unfold bU)
 repeat'(first|with_reducible refine bt ?_|with_reducible refine bv ?_|((with_reducible apply im);(simp only[push_cast,seval];rfl);(first|exact trivial))|(((with_reducible apply xj hm);(focus(simp only[push_cast,seval];(try rfl);done));(focus(simp only[push_cast,seval];(try rfl);done));(focus(simp only[push_cast,seval];(try rfl);done));(focus(intro _;rfl));(focus(first|apply iz _ _ _ _ _ h1));(any_goals(focus((repeat'(first|rfl));done)));(focus(intro _;exact⟨rfl,rfl⟩));intro y hm))|(((with_reducible apply qr hm (a:=()));(focus(exact dB.refl _));(focus(simp only[push_cast,seval];(try rfl);done));(focus((repeat'(first|(with_reducible first|apply mP)));done));(focus(intro _;rfl));(focus(simp only[push_cast,seval];(try rfl);done));(focus(simp only[push_cast,seval];(try rfl);done));(focus(simp only[push_cast,seval];(try rfl);done));(focus(simp only[push_cast,seval];(try rfl);done));(focus(first|exact Au)))))
noncomputable def ay (x0:List ac) (f1:FuncId) (c1:List DV) (p1:ac->ac->Option (Int)) (h1:∀ a0 a1 r,p1 a0 a1=some r->aa Tryz.prog f1 ([.agg (ab a0),.agg (ab a1)]++c1) (.int .i64 r)):Option ((Unit)×(List ac)):=(vP x0 f1 c1 p1 h1).1
theorem dW (x0:List ac) (f1:FuncId) (c1:List DV) (p1:ac->ac->Option (Int)) (h1:∀ a0 a1 r,p1 a0 a1=some r->aa Tryz.prog f1 ([.agg (ab a0),.agg (ab a1)]++c1) (.int .i64 r)):∀ r,ay x0 f1 c1 p1 h1=some r->cF Tryz.prog 59 (.own (.sl 36 (List.replicate 6 .sh)) (.slice (List.map ab x0))::(List.map SV.d ([.fn f1 c1]:List DV))) (.tup []) (.own (.sl 36 (List.replicate 6 .sh)) (.slice (List.map ab r.2))::(List.map SV.d ([.fn f1 c1]:List DV))):=(vP x0 f1 c1 p1 h1).2
end Go.Proofs.YteaolfcegaidpaaGreatDoor
