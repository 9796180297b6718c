/-
  Laws on the way to the theorem.
-/
import Derived.Test.YteaolfcegaidpaaGreatDoorProg
import Derived.Ground.NamesProg
import Derived.Shelf.Strings.SlTrimAscii
import Derived.Shelf.Small.Strs
import Derived.Shelf.Strconv.Itoa3
import Derived.Shelf.Strings.SplitShaped
import Derived.Shelf.Strings.Shaped
import Derived.Shelf.Small.Wraps
import Derived.Shelf.Strconv.Atoi
import Derived.Test.YteaolfcegaidpaaGreatDoorSZEngRu
namespace Go.Proofs.YteaolfcegaidpaaGreatDoor
abbrev SO.v (d n:Nat):SO:= .r d (.mv (.t n))
abbrev SX.i (n:Int):SX:= .c (.d (.int .i64 n))
abbrev SX.b (x:Bool):SX:= .c (.d (.bool x))
abbrev SO.l (d n:Nat):SO:= .o d (.ld1 (.t n))
abbrev SO.f (d k n:Nat):SO:= .r d (.fld k (.t n))
abbrev SO.n (d n:Nat):SO:= .r d (.nilc (.t n))
abbrev SO.e (d n k:Nat):SO:= .r d (.ext (.t n) k)
abbrev SO.h (d n:Nat):SO:= .r d (.len (.t n))
abbrev SO.k (d:Nat) (o:BinOp) (a b:Nat):SO:= .r d (.bin o (.t a) (.t b))
abbrev SO.j (d:Nat) (o:BinOp) (a:Nat) (n:Int):SO:= .r d (.bin o (.t a) (.i n))
abbrev SO.y (d k a b:Nat):SO:= .r d (.idx k (.t a) (.t b))
attribute [push_cast] SX.i SX.b
abbrev SO.s (k a b:Nat):SO:= .w 0 (.st k (.t a) (.t b))
abbrev SO.a (d k n:Nat):SO:= .o d (.ldA k (.t n))
abbrev SC.sq (l:List SO) (k:SC):SC:= .seq (.reg l) k
theorem SD {p:Prop} (h:p:=by first|apply a7;(repeat'(first|(with_reducible first|exact aw|exact ax|apply aq|apply a1)|(with_reducible apply aS);exact R7;exact rj|(with_reducible apply b7);exact R7;(first|with_reducible exact be rfl)|fail));done|fail):p:=h
theorem Se {p:Prop} (h:p:=by first|apply a7;(repeat'(first|(with_reducible first|exact aw|exact ax|apply aq)|(with_reducible apply aS);exact R7;exact rj|fail));done|fail):p:=h
theorem Sf {p:Prop} (h:p:=by first|(repeat'(first|rfl|(with_reducible first|apply Cs|apply FL|apply sg|apply fk)));done|fail):p:=h
theorem SI {p:Prop} (h:p:=by first|(repeat'(first|rfl|(with_reducible first|apply c3|apply fk|apply c4|apply eT)));done|fail):p:=h
theorem SJ {p:Prop} (h:p:=by first|(repeat'(first|rfl|(with_reducible first|apply c3|apply c4|apply eT)));done|fail):p:=h
theorem AM {p:Prop} (h:p:=by first|simp only[cE,eS,RV.get,push_cast,seval];rfl|fail):p:=h
theorem R6 {p:Prop} (h:p:=by first|simp only[push_cast,seval];(try rfl);done|fail):p:=h
theorem R7 {p:Prop} (h:p:=by first|(first|exact bj|fail)|fail):p:=h
theorem rR {p:Prop} (h:p:=by first|simp only[push_cast,seval];rfl|fail):p:=h
theorem rj {p:Prop} (h:p:=by first|(repeat'(first|rfl));done|fail):p:=h
theorem er {p:Prop} (h:p:=by first|(first|(dsimp only;done))|fail):p:=h
theorem bj {p:Prop} (h:p:=by first|simp only[push_cast,seval];rfl|fail):p:=h
theorem yi {p:Prop} (h:p:=by first|(repeat'(first|rfl));done|fail):p:=h
end Go.Proofs.YteaolfcegaidpaaGreatDoor
namespace Go.Proofs.YteaolfcegaidpaaGreatDoor
open Go.RowKit
set_option linter.unusedSimpArgs false
set_option linter.unusedVariables false
noncomputable section
set_option maxRecDepth 100000
set_option maxHeartbeats 40000000
structure aO where
 fneg:Bool
 fabs:List Int
 deriving DecidableEq
def bk (x:aO):List DV:=[.bool x.fneg,.slice (List.map uh x.fabs)]
attribute [push_cast] bk
theorem EV {d0 o:DV} {v0:Bool} {a:List Int} (h0:d0= .bool v0) (h1:o= .slice (List.map uh a)):[d0,o]=bk ⟨v0,a⟩:=by unfold bk;simp only[h0,h1,S_,Tb,S4,Tg]
def l9:SC:=(.seq (.seq (.reg (.v 3 0:: .h 4 3:: .j 5 .gtr 4 0:: .v 6 5::aV [7,8,9,10,11,12,13] 6 true (.v 7 0:: .v 8 0:: .h 9 8:: .j 10 .sub 9 1:: .y 11 1 7 10:: .r 12 (.ld1 (.t 11)):: .r 13 (.bin .eql (.t 12) (.c (.d (.int .u32 0))))::[]) (.r 14 (.pick (.t 6) (.t 13) (.b false))::[]))) (.cond (.t 14) .skip (.exit 0))) (.block 1 (.reg [.v 15 0,.v 16 0,.h 17 16,.j 18 .sub 17 1,.r 19 (.slc 1 (.t 15) none (some (.t 18))),.v 0 19])))
def rk:SC:= .block 0 (.loop l9)
def uO:SC:=(.sq [.r 2 (.mv (.c (.nils)))] (.seq rk (.sq [.v 20 0,.v 2 20] .ret)))
theorem Ad:fits Tryz.prog 247 Tryz.f247 uO [.t 2] 1=true:=oK
def qU:SC:=(.sq [.k 23 .lss 22 21] (.seq (.cond (.t 23) .skip (.exit 0)) (.seq (.block 1 (.sq [.v 24 22,.y 25 1 20 22,.l 26 25,.v 7 24,.v 8 26] (.sq [.v 27 6,.v 28 8,.r 29 (.cvi .u64 (.t 28)),.k 30 .add 27 29,.v 6 30] (.seq (.sq [.v 31 7,.v 32 1,.h 33 32,.k 34 .lss 31 33] (.cond (.t 34) (.reg [.v 35 6,.v 36 1,.v 37 7,.y 38 1 36 37,.l 39 38,.r 40 (.cvi .u64 (.t 39)),.k 41 .add 35 40,.v 6 41]) .skip)) (.sq [.v 42 5,.v 43 6,.r 44 (.cvi .u32 (.t 43)),.r 45 (.bslice 1 [.t 44]),.w 46 (.app 283 1 (.t 42) (.t 45)),.v 5 46] (.reg [.v 47 6,.r 48 (.bin .shr (.t 47) (.c (.d (.int .u64 32)))),.v 6 48])))))) (.reg [.j 49 .add 22 1,.v 22 49]))))
def wl:SC:= .block 0 (.loop qU)
def Ae:SC:=(.sq [.r 4 (.mv (.c (.nils)))] (.seq (.sq [.v 9 0,.h 10 9,.v 11 1,.h 12 11,.k 13 .lss 10 12] (.cond (.t 13) (.reg [.v 14 1,.v 15 0,.v 0 14,.v 1 15]) .skip)) (.sq [.v 16 0,.h 17 16,.j 18 .add 17 1,.w 19 (.mkS 283 1 (.d (.int .u32 0)) (.i 0) (.t 18)),.v 5 19] (.sq [.r 6 (.mv (.c (.d (.int .u64 0))))] (.seq (.sq [.v 20 0,.h 21 20,.r 22 (.mv (.i 0))] wl) (.sq [.v 50 5,.v 51 6,.r 52 (.cvi .u32 (.t 51)),.r 53 (.bslice 1 [.t 52]),.w 54 (.app 283 1 (.t 50) (.t 53)),.v 4 54] .ret))))))
theorem EW:fits Tryz.prog 236 Tryz.f236 Ae [.t 4] 2=true:=oK
def js:SC:=(.sq [.r 1 (.boxI (.t 0)),.r 2 (.mv (.i 0))] (.seq (.block 0 (.sq [.f 4 0 1,.l 5 4,.v 3 5] (.cond (.t 3) (.sq [.r 2 (.mv (.i (-1)))] .ret) (.sq [.f 7 1 1,.l 8 7,.h 9 8,.j 10 .eql 9 0,.v 6 10] (.cond (.t 6) (.sq [.r 2 (.mv (.i 0))] .ret) .skip))))) (.sq [.r 2 (.mv (.i 1))] .ret)))
theorem o7:fits Tryz.prog 221 Tryz.f221 js [.t 2] 1=true:=oK
def eE:SC:=(.sq [.k 17 .lss 16 15] (.seq (.cond (.t 17) .skip (.exit 0)) (.seq (.block 1 (.sq [.v 18 16,.y 19 1 14 16,.l 20 19,.v 7 18,.v 8 20] (.reg [.v 21 6,.v 22 8,.r 23 (.cvi .u64 (.t 22)),.v 24 7,.r 25 (.bin .mul (.i 32) (.t 24)),.k 26 .shl 23 25,.k 27 .or 21 26,.v 6 27]))) (.reg [.j 28 .add 16 1,.v 16 28]))))
def iK:SC:= .block 0 (.loop eE)
def jW:SC:=(.sq [.r 2 (.boxI (.t 0)),.r 4 (.mv (.i 0)),.r 5 (.mv (.b false))] (.seq (.sq [.f 9 1 2,.l 10 9,.h 11 10,.j 12 .gtr 11 2] (.cond (.t 12) (.sq [.r 4 (.mv (.i 0)),.r 5 (.mv (.b false))] .ret) .skip)) (.sq [.r 6 (.mv (.c (.d (.int .u64 0))))] (.seq (.sq [.f 13 1 2,.l 14 13,.h 15 14,.r 16 (.mv (.i 0))] iK) (.seq (.sq [.v 29 6,.v 30 1,.r 31 (.cvi .u64 (.t 30)),.k 32 .gtr 29 31] (.cond (.t 32) (.sq [.r 4 (.mv (.i 0)),.r 5 (.mv (.b false))] .ret) .skip)) (.seq (.sq [.f 33 0 2,.l 34 33] (.cond (.t 34) (.sq [.v 35 6,.r 36 (.cvi .i64 (.t 35)),.r 37 (.neg (.t 36)),.v 4 37,.r 5 (.mv (.b true))] .ret) .skip)) (.sq [.v 38 6,.r 39 (.cvi .i64 (.t 38)),.v 4 39,.r 5 (.mv (.b true))] .ret)))))))
theorem pU:fits Tryz.prog 239 Tryz.f239 jW [.t 4,.t 5] 2=true:=oK
def ey:(∀ (D:List Int),{m:Option ((List Int))//∀ r,m=some r->aa Tryz.prog 247 [.slice (List.map uh D)] (.slice (List.map uh r))})×(∀ (D:List Int) (x1:List Int),{m:Option ((List Int))//∀ r,m=some r->aa Tryz.prog 236 [.slice (List.map uh D),.slice (List.map uh x1)] (.slice (List.map uh r))})×(∀ (D:aO),{m:Option (Int)//∀ r,m=some r->aa Tryz.prog 221 [.agg (bk D)] (.int .i64 r)})×(∀ (D:aO) (x1:Int),{m:Option (Int×Bool)//∀ r,m=some r->aa Tryz.prog 239 [.agg (bk D),.int .i64 x1] (.tup [.int .i64 r.1,.bool r.2])}):=by
 refine⟨?g0, ?g1, ?g2, ?g3⟩
 case' g0=>(intro D;apply Subtype.mk;intro r Z;apply ag Tryz.func247 Ad;unfold uO)
 case' g1=>(intro D x1;apply Subtype.mk;intro r Z;apply ag Tryz.func236 EW;unfold Ae)
 case' g2=>(intro D;apply Subtype.mk;intro r Z;apply ag Tryz.func221 o7;unfold js)
 case' g3=>(intro D x1;apply Subtype.mk;intro r Z;apply ag Tryz.func239 pU;unfold jW)
 all_goals(repeat'(first|(with_reducible first|refine bn ?_|refine bl ?_|refine aX ?_|refine aZ ?_|refine bF ?_|refine bN ?_|refine bm ?_|refine bo ?_|refine bO ?_|refine bI ?_|refine a8 ?_|refine bE ?_|refine cF ?_)|(with_reducible apply cA Z);(iterate 2 (exact bj));intro _;rfl;intro e Z|(with_reducible apply Bh Z);(iterate 3 (exact bj));intro _;rfl;intro e Z|(with_reducible apply fi);exact bj;(first|exact trivial)|(with_reducible apply JW Z);(iterate 2 (exact bj));intro Z|(with_reducible apply Rn Z);(iterate 2 (exact bj));intro Z|((with_reducible apply eh Z);exact bj;rfl;intro v Z;rotate_left;intro v g Z)|(with_reducible apply si Z);(iterate 4 (exact bj));exact SJ;decide;intro _;rfl;intro Z|((with_reducible apply aI Z);exact bj;intro Z;rotate_left;intro Z)|(with_reducible apply iu Z);exact AM;exact er;exact rj|(with_reducible apply bP Z);exact AM;exact rj|(with_reducible apply b5 Z);exact bj|(with_reducible apply br Z);intro r Z|((apply av (b:=0) (X:=rk) (x:=l9) rfl (fun(c:Unit) (s:(List Int))=>st [(0,.d (.slice (List.map uh s)))] []) (c:=()) (s0:=_) Z);exact er;with_reducible refine cc.mk ?_ ?_)|((apply av (b:=0) (X:=wl) (x:=qU) rfl (fun(c:SV×SV×SV) (s:(List Int)×Int×Int)=>st [(1,c.1),(5,.vec 19),(6,.d (.int .u64 s.2.1)),(20,c.2.1),(21,c.2.2),(22,.d (.int .i64 s.2.2))] [(19,.vec 283 1 (bG uh s.1))]) (c:=(_,_,_)) (s0:=(_,_,_)) Z);exact er;with_reducible refine cc.mk ?_ ?_)|(((with_reducible apply PK (H:=uh) (z:=(0:Int)) Z);exact rR;exact rR;(focus rfl);(focus rfl);intro Z))|((apply av (b:=0) (X:=iK) (x:=eE) rfl (fun(c:SV×SV×SV×SV) (s:Int×Int)=>st [(1,c.1),(2,c.2.1),(6,.d (.int .u64 s.1)),(14,c.2.2.1),(15,c.2.2.2),(16,.d (.int .i64 s.2))] []) (c:=(_,_,_,_)) (s0:=(_,_)) Z);exact er;with_reducible refine cc.mk ?_ ?_)|((apply bz (F:=(_,_,_)) Z);exact er)|((apply co (F:=(_,_,_)) Z);exact er)|((apply bz (F:=(_,_)) Z);exact er)|((apply co (F:=(_,_)) Z);exact er)|apply bz (F:=_) Z;exact er|apply co (F:=_) Z;exact er|((with_reducible apply cM.of);exact er;(focus(intro _;repeat'(first|(with_reducible first|exact bd|refine aB ?_))));(intro s o Z;first|unfold l9|unfold qU|unfold eE);rotate_left;intro s Z)|exact SD|fail))
def qV (D:List Int):Option ((List Int)):=(ey.1 D).1
theorem zj (D:List Int):∀ r,qV D=some r->aa Tryz.prog 247 [.slice (List.map uh D)] (.slice (List.map uh r)):=(ey.1 D).2
def xg (D x1:List Int):Option ((List Int)):=(ey.2.1 D x1).1
theorem D8 (D x1:List Int):∀ r,xg D x1=some r->aa Tryz.prog 236 [.slice (List.map uh D),.slice (List.map uh x1)] (.slice (List.map uh r)):=(ey.2.1 D x1).2
def cq (D:aO):Option (Int):=(ey.2.2.1 D).1
theorem oG (D:aO):∀ r,cq D=some r->aa Tryz.prog 221 [.agg (bk D)] (.int .i64 r):=(ey.2.2.1 D).2
def f2 (D:aO) (x1:Int):Option (Int×Bool):=(ey.2.2.2 D x1).1
theorem o8 (D:aO) (x1:Int):∀ r,f2 D x1=some r->aa Tryz.prog 239 [.agg (bk D),.int .i64 x1] (.tup [.int .i64 r.1,.bool r.2]):=(ey.2.2.2 D x1).2
def yV:SC:=(.sq [.w 4 (.boxM (.c (.agg [.d (.bool false),.nils])))] (.sq [.v 5 1,.c 6 (.f 247) [.t 5],.v 1 6] (.seq (.reg (.v 7 0:: .v 8 7::aV [9,10,11] 8 true (.v 9 1:: .h 10 9:: .j 11 .gtr 10 0::[]) (.r 12 (.pick (.t 8) (.t 11) (.b false)):: .v 13 1:: .r 14 (.build [.d (.bool false),.nils] [(0,1,.t 12),(1,1,.t 13)]):: .s 2 4 14::[]))) .ret)))
theorem D9:fits Tryz.prog 235 Tryz.f235 yV [.cell 4 2] 2=true:=oK
def xh:(∀ (D:Bool) (x1:List Int),{m:Option (aO)//∀ r,m=some r->aa Tryz.prog 235 [.bool D,.slice (List.map uh x1)] (.agg (bk r))}):=by
 (intro D x1;apply Subtype.mk;intro r Z;apply ag Tryz.func235 D9;unfold yV)
 repeat'(first|(with_reducible first|refine bn ?_|refine bl ?_|refine bF ?_|refine bm ?_|refine bo ?_)|(with_reducible apply fi);exact bj;(first|exact trivial)|((with_reducible apply eh Z);exact bj;rfl;intro v Z;rotate_left;intro v g Z)|(with_reducible apply dD Z);exact bj;(first|apply zj _);(any_goals(exact yi));intro x Z|(with_reducible apply wi);exact bj;(first|exact trivial)|(with_reducible apply bP Z);exact AM;focus((repeat'(first|rfl|(with_reducible first|apply EV|apply sg)));done)|(with_reducible apply b5 Z);exact bj|fail)
def vx (D:Bool) (x1:List Int):Option (aO):=(xh D x1).1
theorem Cr (D:Bool) (x1:List Int):∀ r,vx D x1=some r->aa Tryz.prog 235 [.bool D,.slice (List.map uh x1)] (.agg (bk r)):=(xh D x1).2
def Cg:SC:=(.sq [.w 2 (.boxM (.c (.agg [.d (.bool false),.nils])))] (.sq [.v 4 0,.r 5 (.cvi .u64 (.t 4)),.v 3 5] (.seq (.sq [.v 6 0,.j 7 .lss 6 0] (.cond (.t 7) (.reg [.v 8 3,.r 9 (.neg (.t 8)),.v 3 9]) .skip)) (.sq [.v 10 0,.j 11 .lss 10 0,.v 12 3,.r 13 (.cvi .u32 (.t 12)),.v 14 3,.r 15 (.bin .shr (.t 14) (.c (.d (.int .u64 32)))),.r 16 (.cvi .u32 (.t 15)),.r 17 (.bslice 1 [.t 13,.t 16]),.c 18 (.f 235) [.t 11,.t 17],.s 2 2 18] .ret))))
theorem GX:fits Tryz.prog 218 Tryz.f218 Cg [.cell 2 2] 1=true:=oK
def d8:SC:=(.sq [.k 31 .lss 30 29] (.seq (.cond (.t 31) .skip (.exit 2)) (.seq (.block 3 (.sq [.v 32 30,.y 33 1 28 30,.l 34 33,.v 9 32,.v 10 34] (.sq [.v 35 8,.v 36 5,.v 37 6,.v 38 9,.k 39 .add 37 38,.y 40 1 36 39,.l 41 40,.r 42 (.cvi .u64 (.t 41)),.v 43 7,.r 44 (.cvi .u64 (.t 43)),.v 45 10,.r 46 (.cvi .u64 (.t 45)),.k 47 .mul 44 46,.k 48 .add 42 47,.k 49 .add 35 48,.v 8 49] (.sq [.v 50 5,.v 51 6,.v 52 9,.k 53 .add 51 52,.v 54 8,.r 55 (.cvi .u32 (.t 54)),.y 56 1 50 53,.s 1 56 55] (.reg [.v 57 8,.r 58 (.bin .shr (.t 57) (.c (.d (.int .u64 32)))),.v 8 58]))))) (.reg [.j 59 .add 30 1,.v 30 59]))))
def g9:SC:= .block 2 (.loop d8)
def d9:SC:=(.sq [.k 23 .lss 22 21] (.seq (.cond (.t 23) .skip (.exit 0)) (.seq (.block 1 (.sq [.v 24 22,.y 25 1 20 22,.l 26 25,.v 6 24,.v 7 26] (.sq [.r 8 (.mv (.c (.d (.int .u64 0))))] (.seq (.sq [.f 27 1 3,.l 28 27,.h 29 28,.r 30 (.mv (.i 0))] g9) (.reg [.v 60 5,.v 61 6,.f 62 1 3,.l 63 62,.h 64 63,.k 65 .add 61 64,.v 66 8,.r 67 (.cvi .u32 (.t 66)),.y 68 1 60 65,.s 1 68 67]))))) (.reg [.j 69 .add 22 1,.v 22 69]))))
def g_:SC:= .block 0 (.loop d9)
def dS:SC:=(.reg [.f 70 0 2,.l 71 70,.f 72 0 3,.l 73 72,.r 74 (.binB .neq (.t 71) (.t 73)),.v 75 5,.c 76 (.f 235) [.t 74,.t 75],.s 2 4 76])
def i1:SC:=(.sq [.r 2 (.boxI (.t 0)),.r 3 (.boxI (.t 1)),.w 4 (.boxM (.c (.agg [.d (.bool false),.nils])))] (.sq [.f 11 1 2,.l 12 11,.h 13 12,.f 14 1 3,.l 15 14,.h 16 15,.k 17 .add 13 16,.w 18 (.mkS 283 1 (.d (.int .u32 0)) (.t 17) (.t 17)),.v 5 18] (.seq (.sq [.f 19 1 2,.l 20 19,.h 21 20,.r 22 (.mv (.i 0))] g_) (.seq dS .ret))))
theorem oH:fits Tryz.prog 219 Tryz.f219 i1 [.cell 4 2] 2=true:=oK
def jt:SC:=(.sq [.r 2 (.boxI (.t 0)),.r 3 (.boxI (.t 1)),.w 4 (.boxM (.c (.agg [.d (.bool false),.nils])))] (.seq (.block 0 (.sq [.f 6 0 2,.l 7 6,.f 8 0 3,.l 9 8,.r 10 (.binB .eql (.t 7) (.t 9)),.v 5 10] (.cond (.t 5) (.seq (.regE [.f 11 0 2,.r 12 (.ld1 (.t 11)),.f 13 1 2,.r 14 (.ld1 (.t 13)),.f 15 1 3,.r 16 (.ld1 (.t 15)),.c 17 (.f 236) [.t 14,.t 16],.c 18 (.f 235) [.t 12,.t 17],.x 0 (.st 2 (.t 4) (.t 18)) []]) .ret) .any))) .any))
theorem o9:fits Tryz.prog 220 Tryz.f220 jt [.cell 4 2] 2=true:=oK
def i6:SC:=(.sq [.r 1 (.boxI (.t 0)),.w 2 (.boxM (.c (.agg [.d (.bool false),.nils])))] (.sq [.f 3 0 1,.l 4 3,.r 5 (.not (.t 4)),.f 6 1 1,.l 7 6,.c 8 (.f 235) [.t 5,.t 7],.s 2 2 8] .ret))
theorem oI:fits Tryz.prog 222 Tryz.f222 i6 [.cell 2 2] 1=true:=oK
def ez:(∀ (D:Int),{m:Option (aO)//∀ r,m=some r->aa Tryz.prog 218 [.int .i64 D] (.agg (bk r))})×(∀ (D:aO) (x1:aO),{m:Option (aO)//∀ r,m=some r->aa Tryz.prog 219 [.agg (bk D),.agg (bk x1)] (.agg (bk r))})×(∀ (D:aO) (x1:aO),{m:Option (aO)//∀ r,m=some r->aa Tryz.prog 220 [.agg (bk D),.agg (bk x1)] (.agg (bk r))})×(∀ (D:aO),{m:Option (aO)//∀ r,m=some r->aa Tryz.prog 222 [.agg (bk D)] (.agg (bk r))}):=by
 refine⟨?g0, ?g1, ?g2, ?g3⟩
 case' g0=>(intro D;apply Subtype.mk;intro r Z;apply ag Tryz.func218 GX;unfold Cg)
 case' g1=>(intro D x1;apply Subtype.mk;intro r Z;apply ag Tryz.func219 oH;unfold i1)
 case' g2=>(intro D x1;apply Subtype.mk;intro r Z;apply ag Tryz.func220 o9;unfold jt)
 case' g3=>(intro D;apply Subtype.mk;intro r Z;apply ag Tryz.func222 oI;unfold i6)
 all_goals(repeat'(first|(with_reducible apply M8 (x:=dS) 5);exact R6;exact R6;exact R6;unfold dS|(with_reducible first|refine bn ?_|refine bl ?_|refine sa ?_|refine aX ?_|refine aZ ?_|refine bF ?_|refine bN ?_|refine bm ?_|refine bo ?_|refine bO ?_|refine bI ?_|refine a8 ?_|refine bE ?_|refine cF ?_)|(with_reducible apply cA Z);(iterate 2 (exact bj));intro _;rfl;intro e Z|(with_reducible apply CN Z);(iterate 3 (exact bj));intro e Z|(with_reducible apply fi);exact bj;(first|exact trivial)|(with_reducible apply OI Z);(iterate 2 (exact bj));intro _;rfl;intro e Z|(with_reducible apply JW Z);(iterate 2 (exact bj));intro Z|with_reducible apply DF Z|(with_reducible apply dD Z);exact bj;(first|apply Cr _ _|apply D8 _ _);(any_goals(exact SI));intro x Z|(with_reducible apply wi);exact bj;(first|exact trivial)|(with_reducible apply Rw Z);(iterate 3 (exact bj));rfl;intro _;rfl;rfl;(focus(intro a;simp only[push_cast,seval];rfl));(focus(intro a;(repeat'(first|rfl));done));intro e Z|(with_reducible apply N4);exact bj;(first|exact trivial);focus((repeat'(first|exact jH));done)|((with_reducible apply aI Z);exact bj;intro Z;rotate_left;intro Z)|(with_reducible apply bP Z);exact AM;exact rj|(with_reducible apply br Z);intro r Z|((apply av (b:=2) (X:=g9) (x:=d8) rfl (fun(c:SV×SV×Ch×SV×SV×SV×SV×SV×SV×SV) (s:(List Int)×Int×Int)=>st [(2,c.1),(3,c.2.1),(4,.ref 4 0),(5,.vec 18),(6,c.2.2.2.1),(7,c.2.2.2.2.1),(8,.d (.int .u64 s.2.1)),(20,c.2.2.2.2.2.1),(21,c.2.2.2.2.2.2.1),(22,c.2.2.2.2.2.2.2.1),(28,c.2.2.2.2.2.2.2.2.1),(29,c.2.2.2.2.2.2.2.2.2),(30,.d (.int .i64 s.2.2))] [(4,c.2.2.1),(18,.vec 283 1 (bG uh s.1))]) (c:=(_,_,_,_,_,_,_,_,_,_)) (s0:=(_,_,_)) Z);exact er;with_reducible refine cc.mk ?_ ?_)|((apply av (b:=0) (X:=g_) (x:=d9) rfl (fun(c:SV×SV×Ch×SV×SV) (s:(List Int)×Int)=>st [(2,c.1),(3,c.2.1),(4,.ref 4 0),(5,.vec 18),(20,c.2.2.2.1),(21,c.2.2.2.2),(22,.d (.int .i64 s.2))] [(4,c.2.2.1),(18,.vec 283 1 (bG uh s.1))]) (c:=(_,_,_,_,_)) (s0:=(_,_)) Z);exact er;with_reducible refine cc.mk ?_ ?_)|(((with_reducible apply PK (H:=uh) (z:=(0:Int)) Z);exact rR;exact rR;(focus rfl);(focus rfl);intro Z))|((apply bz (F:=(_,_,_)) Z);exact er)|((apply co (F:=(_,_,_)) Z);exact er)|((apply bz (F:=(_,_)) Z);exact er)|((apply co (F:=(_,_)) Z);exact er)|((with_reducible apply cM.of);exact er;(focus(intro _;repeat'(first|(with_reducible first|exact bd|refine aB ?_|refine cz ?_)|(with_reducible refine c2 ?_);intro _|(with_reducible refine dZ ?_);intro _)));(intro s o Z;first|unfold d8|unfold d9);rotate_left;intro s Z)|exact SD|fail))
 all_goals(intros;exact())
def vy (D:Int):Option (aO):=(ez.1 D).1
theorem EX (D:Int):∀ r,vy D=some r->aa Tryz.prog 218 [.int .i64 D] (.agg (bk r)):=(ez.1 D).2
def dw (D x1:aO):Option (aO):=(ez.2.1 D x1).1
theorem n0 (D x1:aO):∀ r,dw D x1=some r->aa Tryz.prog 219 [.agg (bk D),.agg (bk x1)] (.agg (bk r)):=(ez.2.1 D x1).2
def dL (D x1:aO):Option (aO):=(ez.2.2.1 D x1).1
theorem oJ (D x1:aO):∀ r,dL D x1=some r->aa Tryz.prog 220 [.agg (bk D),.agg (bk x1)] (.agg (bk r)):=(ez.2.2.1 D x1).2
def cd (D:aO):Option (aO):=(ez.2.2.2 D).1
theorem n1 (D:aO):∀ r,cd D=some r->aa Tryz.prog 222 [.agg (bk D)] (.agg (bk r)):=(ez.2.2.2 D).2
end
end Go.Proofs.YteaolfcegaidpaaGreatDoor
namespace Go.Proofs
open Go.Proofs.YteaolfcegaidpaaGreatDoor
open Go.Shelf
def Tryz.lays160_ren:Go.Shelf.Ren:=⟨fun|160=>94|232=>131|231=>130|227=>132|234=>134|233=>133|236=>136|235=>135|228=>156|271=>159|151=>158|197=>157|120=>178|152=>177|260=>176|137=>98|119=>200|224=>201|225=>202|217=>140|266=>161|n=>n,fun|9=>9|4=>4|3=>3|5=>5|117=>202|116=>201|0=>0|124=>205|21=>21|105=>220|46=>218|119=>249|139=>252|138=>251|n=>n,fun|3=>1|4=>2|n=>n⟩
theorem Tryz.lays160:Go.Proofs.Lays.n160 Tryz.prog Tryz.lays160_ren:={
 mixed:=oK
 f119:=Tryz.func200.trans (congrArg some oK)
 f120:=Tryz.func178.trans (congrArg some oK)
 f137:=Tryz.func98.trans (congrArg some oK)
 f151:=Tryz.func158.trans (congrArg some oK)
 f152:=Tryz.func177.trans (congrArg some oK)
 f160:=Tryz.func94.trans (congrArg some oK)
 f197:=Tryz.func157.trans (congrArg some oK)
 f217:=Tryz.func140.trans (congrArg some oK)
 f224:=Tryz.func201.trans (congrArg some oK)
 f225:=Tryz.func202.trans (congrArg some oK)
 f227:=Tryz.func132.trans (congrArg some oK)
 f228:=Tryz.func156.trans (congrArg some oK)
 f231:=Tryz.func130.trans (congrArg some oK)
 f232:=Tryz.func131.trans (congrArg some oK)
 f233:=Tryz.func133.trans (congrArg some oK)
 f234:=Tryz.func134.trans (congrArg some oK)
 f235:=Tryz.func135.trans (congrArg some oK)
 f236:=Tryz.func136.trans (congrArg some oK)
 f260:=Tryz.func176.trans (congrArg some oK)
 f266:=Tryz.func161.trans (congrArg some oK)
 f271:=Tryz.func159.trans (congrArg some oK)
 t0:=Tryz.underlying0
 a0:=Tryz.isAgg0
 z0:=Tryz.sizeOf0
 v0:=Tryz.zeroValue0
 t3:=Tryz.underlying3
 a3:=Tryz.isAgg3
 z3:=Tryz.sizeOf3
 v3:=Tryz.zeroValue3
 t4:=Tryz.underlying4
 a4:=Tryz.isAgg4
 z4:=Tryz.sizeOf4
 v4:=Tryz.zeroValue4
 t5:=Tryz.underlying5
 a5:=Tryz.isAgg5
 z5:=Tryz.sizeOf5
 v5:=Tryz.zeroValue5
 t9:=Tryz.underlying9
 a9:=Tryz.isAgg9
 z9:=Tryz.sizeOf9
 v9:=Tryz.zeroValue9
 t21:=Tryz.underlying21
 a21:=Tryz.isAgg21
 z21:=Tryz.sizeOf21
 v21:=Tryz.zeroValue21
 t46:=Tryz.underlying218
 a46:=Tryz.isAgg218
 z46:=Tryz.sizeOf218
 v46:=Tryz.zeroValue218
 t105:=Tryz.underlying220
 a105:=Tryz.isAgg220
 z105:=Tryz.sizeOf220
 v105:=Tryz.zeroValue220
 t116:=Tryz.underlying201
 a116:=Tryz.isAgg201
 z116:=Tryz.sizeOf201
 t117:=Tryz.underlying202
 a117:=Tryz.isAgg202
 z117:=Tryz.sizeOf202
 v117:=Tryz.zeroValue202
 t119:=Tryz.underlying249
 a119:=Tryz.isAgg249
 z119:=Tryz.sizeOf249
 t124:=Tryz.underlying205
 a124:=Tryz.isAgg205
 z124:=Tryz.sizeOf205
 v124:=Tryz.zeroValue205
 t138:=Tryz.underlying251
 a138:=Tryz.isAgg251
 z138:=Tryz.sizeOf251
 v138:=Tryz.zeroValue251
 t139:=Tryz.underlying252
 a139:=Tryz.isAgg252
 z139:=Tryz.sizeOf252
 v139:=Tryz.zeroValue252
 g3:=oK
 g4:=by kernel_rfl}
def Tryz.lays137_ren:Go.Shelf.Ren:=⟨fun|137=>98|217=>140|266=>161|n=>n,fun|9=>9|5=>5|3=>3|n=>n,fun|n=>n⟩
theorem Tryz.lays137:Go.Proofs.Lays.n137 Tryz.prog Tryz.lays137_ren:={
 mixed:=oK
 f137:=Tryz.func98.trans (congrArg some oK)
 f217:=Tryz.func140.trans (congrArg some oK)
 f266:=Tryz.func161.trans (congrArg some oK)
 t3:=Tryz.underlying3
 a3:=Tryz.isAgg3
 z3:=Tryz.sizeOf3
 v3:=Tryz.zeroValue3
 t5:=Tryz.underlying5
 a5:=Tryz.isAgg5
 z5:=Tryz.sizeOf5
 v5:=Tryz.zeroValue5
 t9:=Tryz.underlying9
 a9:=Tryz.isAgg9
 z9:=Tryz.sizeOf9
 v9:=Tryz.zeroValue9}
end Go.Proofs
namespace Go.Proofs.YteaolfcegaidpaaGreatDoor
set_option linter.unusedSimpArgs false
set_option linter.unusedVariables false
open Go.RowKit Go.Shelf
def ep (s cs:List UInt8):Option (List UInt8):=if s.length<=9223372036854775807/\cs.length<4294967281/\cs.all (fun b=>decide (b.toNat<128))=true then some (Lib.trimS s cs) else none
theorem ue (s cs:List UInt8):∀ r,ep s cs=some r->aa Tryz.prog 94 [.str s,.str cs] (.str r):=by
 intro r hr
 unfold ep at hr
 split at hr
 ·rename_i h
  obtain⟨h1,h2,E⟩:=h
  cases hr
  refine⟨by kernel_rfl,fun w M vs hM hv _=> ?_⟩
  simp only[aN,ba] at hv
  obtain⟨u,us,rfl,rfl,i,g,rfl,rfl,rfl⟩:=hv
  have a:=Any.strings_Trim_laid Tryz.lays160 oK ⟨s.toArray⟩ ⟨cs.toArray⟩ w (by simpa[ByteArray.size] using h1) (by simpa[ByteArray.size] using h2) (ascii_of_all (by simpa using E))
  refine Calls.mono a ?_
  rintro e w' ⟨rfl,hB⟩
  exact⟨_,rfl,by simp[ba],hB⟩
 ·cases hr
end Go.Proofs.YteaolfcegaidpaaGreatDoor
namespace Go.Proofs.YteaolfcegaidpaaGreatDoor
set_option linter.unusedSimpArgs false
set_option linter.unusedVariables false
open Go.RowKit Go.Shelf
def ru (s:List UInt8) (c:UInt8):Option Int:=some (Lib.indexByte s c)
theorem vZ (s:List UInt8) (c:UInt8):∀ r,ru s c=some r->aa Tryz.prog 98 [.str s,.int .u8 c.toNat] (.int .i64 r):=by
 intro r hr
 cases hr
 refine⟨by kernel_rfl,fun w M vs hM hv _=> ?_⟩
 simp only[aN,ba] at hv
 obtain⟨u,us,rfl,rfl,i,g,rfl,rfl,rfl⟩:=hv
 have a:=Any.strings_IndexByte Tryz.lays137 ⟨s.toArray⟩ (c.toNat:Int) w
 refine Calls.mono a ?_
 rintro e w' ⟨rfl,rfl⟩
 refine⟨_,rfl, ?_,Below.refl _ _⟩
 simp only[ba]
 have:((c.toNat:Int)).toNat.toUInt8=c:=by simp
 rw[this]
end Go.Proofs.YteaolfcegaidpaaGreatDoor
namespace Go.Proofs
open Go.Proofs.YteaolfcegaidpaaGreatDoor
open Go.Shelf
end Go.Proofs
namespace Go.Proofs.YteaolfcegaidpaaGreatDoor
set_option linter.unusedSimpArgs false
set_option linter.unusedVariables false
open Go.RowKit Go.Shelf
end Go.Proofs.YteaolfcegaidpaaGreatDoor
namespace Go.Proofs
open Go.Proofs.YteaolfcegaidpaaGreatDoor
open Go.Shelf
def Tryz.lays146_ren:Go.Shelf.Ren:=⟨fun|146=>112|221=>150|268=>169|138=>170|143=>171|195=>191|197=>157|218=>192|219=>193|260=>176|217=>140|225=>202|224=>201|267=>213|266=>161|314=>231|n=>n,fun|9=>9|31=>69|3=>3|4=>4|0=>0|105=>220|21=>21|5=>5|46=>218|119=>249|139=>252|138=>251|146=>284|51=>283|n=>n,fun|1=>0|3=>1|4=>2|n=>n⟩
theorem Tryz.lays146:Go.Proofs.LaysM.n146 Tryz.prog Tryz.lays146_ren:={
 mixed:=oK
 f138:=Tryz.func170.trans (congrArg some oK)
 f143:=Tryz.func171.trans (congrArg some oK)
 f146:=Tryz.func112.trans (congrArg some oK)
 f195:=Tryz.func191.trans (congrArg some oK)
 f197:=Tryz.func157.trans (congrArg some oK)
 f217:=Tryz.func140.trans (congrArg some oK)
 f218:=Tryz.func192.trans (congrArg some oK)
 f219:=Tryz.func193.trans (congrArg some oK)
 f221:=Tryz.func150.trans (congrArg some oK)
 f224:=Tryz.func201.trans (congrArg some oK)
 f225:=Tryz.func202.trans (congrArg some oK)
 f260:=Tryz.func176.trans (congrArg some oK)
 f266:=Tryz.func161.trans (congrArg some oK)
 f267:=Tryz.func213.trans (congrArg some oK)
 f268:=Tryz.func169.trans (congrArg some oK)
 f314:=Tryz.func231.trans (congrArg some oK)
 t0:=Tryz.underlying0
 a0:=Tryz.isAgg0
 z0:=Tryz.sizeOf0
 v0:=Tryz.zeroValue0
 t3:=Tryz.underlying3
 a3:=Tryz.isAgg3
 z3:=Tryz.sizeOf3
 v3:=Tryz.zeroValue3
 t4:=Tryz.underlying4
 a4:=Tryz.isAgg4
 z4:=Tryz.sizeOf4
 v4:=Tryz.zeroValue4
 t5:=Tryz.underlying5
 a5:=Tryz.isAgg5
 z5:=Tryz.sizeOf5
 v5:=Tryz.zeroValue5
 t9:=Tryz.underlying9
 a9:=Tryz.isAgg9
 z9:=Tryz.sizeOf9
 v9:=Tryz.zeroValue9
 t21:=Tryz.underlying21
 a21:=Tryz.isAgg21
 z21:=Tryz.sizeOf21
 v21:=Tryz.zeroValue21
 t31:=Tryz.underlying69
 a31:=Tryz.isAgg69
 z31:=Tryz.sizeOf69
 v31:=Tryz.zeroValue69
 t46:=Tryz.underlying218
 a46:=Tryz.isAgg218
 z46:=Tryz.sizeOf218
 v46:=Tryz.zeroValue218
 t51:=Tryz.underlying283
 a51:=Tryz.isAgg283
 z51:=Tryz.sizeOf283
 v51:=Tryz.zeroValue283
 t105:=Tryz.underlying220
 a105:=Tryz.isAgg220
 z105:=Tryz.sizeOf220
 v105:=Tryz.zeroValue220
 t119:=Tryz.underlying249
 a119:=Tryz.isAgg249
 z119:=Tryz.sizeOf249
 t138:=Tryz.underlying251
 a138:=Tryz.isAgg251
 z138:=Tryz.sizeOf251
 v138:=Tryz.zeroValue251
 t139:=Tryz.underlying252
 a139:=Tryz.isAgg252
 z139:=Tryz.sizeOf252
 v139:=Tryz.zeroValue252
 t146:=Tryz.underlying284
 a146:=Tryz.isAgg284
 z146:=Tryz.sizeOf284
 v146:=Tryz.zeroValue284
 g1:=oK
 g3:=oK
 g4:=oK
 i0:=oK
 i3:=oK
 i4:=oK
 i5:=oK
 i9:=oK
 i21:=oK
 i31:=oK
 i46:=oK
 i51:=oK
 i105:=oK
 i138:=oK
 i139:=oK
 i146:=oK
 m1:=oK
 s1_3:=fun w h=>Go.Proofs.cell_of_shapedOpen_int (zero:= #[.int .i64 0]) (t:=3) h (of_decide_eq_true oK) oK rfl oK oK Tryz.underlying3
 m3:=oK
 m4:=by kernel_rfl}
def Tryz.lays145_ren:Go.Shelf.Ren:=⟨fun|145=>184|220=>208|219=>193|217=>140|225=>202|224=>201|267=>213|266=>161|314=>231|n=>n,fun|9=>9|4=>4|59=>236|3=>3|5=>5|46=>218|146=>284|51=>283|n=>n,fun|1=>0|n=>n⟩
theorem Tryz.lays145:Go.Proofs.LaysM.n145 Tryz.prog Tryz.lays145_ren:={
 mixed:=oK
 f145:=Tryz.func184.trans (congrArg some oK)
 f217:=Tryz.func140.trans (congrArg some oK)
 f219:=Tryz.func193.trans (congrArg some oK)
 f220:=Tryz.func208.trans (congrArg some oK)
 f224:=Tryz.func201.trans (congrArg some oK)
 f225:=Tryz.func202.trans (congrArg some oK)
 f266:=Tryz.func161.trans (congrArg some oK)
 f267:=Tryz.func213.trans (congrArg some oK)
 f314:=Tryz.func231.trans (congrArg some oK)
 t3:=Tryz.underlying3
 a3:=Tryz.isAgg3
 z3:=Tryz.sizeOf3
 v3:=Tryz.zeroValue3
 t4:=Tryz.underlying4
 a4:=Tryz.isAgg4
 z4:=Tryz.sizeOf4
 v4:=Tryz.zeroValue4
 t5:=Tryz.underlying5
 a5:=Tryz.isAgg5
 z5:=Tryz.sizeOf5
 v5:=Tryz.zeroValue5
 t9:=Tryz.underlying9
 a9:=Tryz.isAgg9
 z9:=Tryz.sizeOf9
 v9:=Tryz.zeroValue9
 t46:=Tryz.underlying218
 a46:=Tryz.isAgg218
 z46:=Tryz.sizeOf218
 v46:=Tryz.zeroValue218
 t51:=Tryz.underlying283
 a51:=Tryz.isAgg283
 z51:=Tryz.sizeOf283
 v51:=Tryz.zeroValue283
 t59:=Tryz.underlying236
 a59:=Tryz.isAgg236
 z59:=Tryz.sizeOf236
 v59:=Tryz.zeroValue236
 t146:=Tryz.underlying284
 a146:=Tryz.isAgg284
 z146:=Tryz.sizeOf284
 v146:=Tryz.zeroValue284
 g1:=oK
 i3:=oK
 i4:=oK
 i5:=oK
 i9:=oK
 i46:=oK
 i51:=oK
 i59:=oK
 i146:=oK
 m1:=oK
 s1_3:=fun w h=>Go.Proofs.cell_of_shapedOpen_int (zero:= #[.int .i64 0]) (t:=3) h (of_decide_eq_true oK) oK rfl oK oK Tryz.underlying3}
def Tryz.lays172_ren:Go.Shelf.Ren:=⟨fun|172=>152|244=>172|245=>173|247=>194|279=>195|280=>196|281=>197|282=>198|287=>214|316=>215|171=>217|205=>216|321=>232|322=>233|243=>234|246=>246|283=>253|284=>254|285=>255|286=>256|129=>260|317=>259|318=>261|319=>262|320=>263|337=>266|338=>267|n=>n,fun|9=>9|3=>3|75=>214|76=>215|4=>4|5=>5|167=>242|37=>243|0=>0|85=>244|2=>2|168=>246|53=>262|175=>263|46=>218|210=>267|127=>287|145=>290|143=>288|21=>21|171=>304|173=>307|212=>310|51=>283|20=>20|213=>311|232=>317|233=>318|80=>303|n=>n,fun|15=>3|16=>4|17=>5|18=>6|19=>7|n=>n⟩
theorem Tryz.lays172:Go.Proofs.Lays.n172 Tryz.prog Tryz.lays172_ren:={
 mixed:=oK
 f129:=Tryz.func260.trans (congrArg some oK)
 f171:=Tryz.func217.trans (congrArg some oK)
 f172:=Tryz.func152.trans (congrArg some oK)
 f205:=Tryz.func216.trans (congrArg some oK)
 f243:=Tryz.func234.trans (congrArg some oK)
 f244:=Tryz.func172.trans (congrArg some oK)
 f245:=Tryz.func173.trans (congrArg some oK)
 f246:=Tryz.func246.trans (congrArg some oK)
 f247:=Tryz.func194.trans (congrArg some oK)
 f279:=Tryz.func195.trans (congrArg some oK)
 f280:=Tryz.func196.trans (congrArg some oK)
 f281:=Tryz.func197.trans (congrArg some oK)
 f282:=Tryz.func198.trans (congrArg some oK)
 f283:=Tryz.func253.trans (congrArg some oK)
 f284:=Tryz.func254.trans (congrArg some oK)
 f285:=Tryz.func255.trans (congrArg some oK)
 f286:=Tryz.func256.trans (congrArg some oK)
 f287:=Tryz.func214.trans (congrArg some oK)
 f316:=Tryz.func215.trans (congrArg some oK)
 f317:=Tryz.func259.trans (congrArg some oK)
 f318:=Tryz.func261.trans (congrArg some oK)
 f319:=Tryz.func262.trans (congrArg some oK)
 f320:=Tryz.func263.trans (congrArg some oK)
 f321:=Tryz.func232.trans (congrArg some oK)
 f322:=Tryz.func233.trans (congrArg some oK)
 f337:=Tryz.func266.trans (congrArg some oK)
 f338:=Tryz.func267.trans (congrArg some oK)
 t0:=Tryz.underlying0
 a0:=Tryz.isAgg0
 z0:=Tryz.sizeOf0
 v0:=Tryz.zeroValue0
 t2:=Tryz.underlying2
 a2:=Tryz.isAgg2
 z2:=Tryz.sizeOf2
 v2:=Tryz.zeroValue2
 t3:=Tryz.underlying3
 a3:=Tryz.isAgg3
 z3:=Tryz.sizeOf3
 v3:=Tryz.zeroValue3
 t4:=Tryz.underlying4
 a4:=Tryz.isAgg4
 z4:=Tryz.sizeOf4
 v4:=Tryz.zeroValue4
 t5:=Tryz.underlying5
 a5:=Tryz.isAgg5
 z5:=Tryz.sizeOf5
 v5:=Tryz.zeroValue5
 t9:=Tryz.underlying9
 a9:=Tryz.isAgg9
 z9:=Tryz.sizeOf9
 v9:=Tryz.zeroValue9
 t20:=Tryz.underlying20
 a20:=Tryz.isAgg20
 z20:=Tryz.sizeOf20
 v20:=Tryz.zeroValue20
 t21:=Tryz.underlying21
 a21:=Tryz.isAgg21
 z21:=Tryz.sizeOf21
 v21:=Tryz.zeroValue21
 t37:=Tryz.underlying243
 a37:=Tryz.isAgg243
 z37:=Tryz.sizeOf243
 v37:=Tryz.zeroValue243
 t46:=Tryz.underlying218
 a46:=Tryz.isAgg218
 z46:=Tryz.sizeOf218
 v46:=Tryz.zeroValue218
 t51:=Tryz.underlying283
 a51:=Tryz.isAgg283
 z51:=Tryz.sizeOf283
 v51:=Tryz.zeroValue283
 t53:=Tryz.underlying262
 a53:=Tryz.isAgg262
 z53:=Tryz.sizeOf262
 v53:=Tryz.zeroValue262
 t75:=Tryz.underlying214
 a75:=Tryz.isAgg214
 z75:=Tryz.sizeOf214
 v75:=Tryz.zeroValue214
 t76:=Tryz.underlying215
 a76:=Tryz.isAgg215
 z76:=Tryz.sizeOf215
 v76:=Tryz.zeroValue215
 t85:=Tryz.underlying244
 a85:=Tryz.isAgg244
 z85:=Tryz.sizeOf244
 v85:=Tryz.zeroValue244
 t127:=Tryz.underlying287
 a127:=Tryz.isAgg287
 z127:=Tryz.sizeOf287
 v127:=Tryz.zeroValue287
 t143:=Tryz.underlying288
 a143:=Tryz.isAgg288
 z143:=Tryz.sizeOf288
 v143:=Tryz.zeroValue288
 t145:=Tryz.underlying290
 a145:=Tryz.isAgg290
 z145:=Tryz.sizeOf290
 v145:=Tryz.zeroValue290
 t167:=Tryz.underlying242
 a167:=Tryz.isAgg242
 z167:=Tryz.sizeOf242
 v167:=Tryz.zeroValue242
 t168:=Tryz.underlying246
 a168:=Tryz.isAgg246
 z168:=Tryz.sizeOf246
 v168:=Tryz.zeroValue246
 t171:=Tryz.underlying304
 a171:=Tryz.isAgg304
 z171:=Tryz.sizeOf304
 v171:=Tryz.zeroValue304
 t173:=Tryz.underlying307
 a173:=Tryz.isAgg307
 z173:=Tryz.sizeOf307
 v173:=Tryz.zeroValue307
 t175:=Tryz.underlying263
 a175:=Tryz.isAgg263
 z175:=Tryz.sizeOf263
 v175:=Tryz.zeroValue263
 t210:=Tryz.underlying267
 a210:=Tryz.isAgg267
 z210:=Tryz.sizeOf267
 v210:=Tryz.zeroValue267
 t212:=Tryz.underlying310
 a212:=Tryz.isAgg310
 z212:=Tryz.sizeOf310
 v212:=Tryz.zeroValue310
 t213:=Tryz.underlying311
 a213:=Tryz.isAgg311
 z213:=Tryz.sizeOf311
 t232:=Tryz.underlying317
 a232:=Tryz.isAgg317
 z232:=Tryz.sizeOf317
 v232:=Tryz.zeroValue317
 t233:=Tryz.underlying318
 a233:=Tryz.isAgg318
 z233:=Tryz.sizeOf318
 v233:=Tryz.zeroValue318
 g15:=oK
 g16:=oK
 g17:=oK
 g18:=oK
 g19:=by kernel_rfl}
end Go.Proofs
namespace Go.Proofs.YteaolfcegaidpaaGreatDoor
set_option linter.unusedSimpArgs false
set_option linter.unusedVariables false
open Go.RowKit Go.Shelf
variable {w:World}
theorem FT (h:y0 w):∃ m,w.cell? ⟨0,0,none⟩=some (.int .i64 m):=
 wN.int (t:=(0,.i64,[])) (h (0,.i64,[]) (by unfold L3;simp)) rfl
theorem Au {w:World} {M:Nat->Prop} {b:Nat}:∀ (xs:List ByteArray) (o:Nat),(∀ j x,xs[j]?=some x->w.cell? ⟨b,o+j,none⟩=some (.string x))->bi w M ((xs.map (·.data.toList)).map bS) b o 1
 |[],o,_=>by simp[bi]
 |x::xs,o,h=>by
  simp only[S5]
  unfold bi
  refine⟨rfl, ?_,Au xs (o+1) fun j y hy=>by have:=h (j+1) y (by simpa using hy);rwa[show o+(j+1)=o+1+j by omega] at this⟩
  unfold bS b4
  refine⟨⟨.string x,by simpa using h 0 x rfl,rfl, ?_⟩,by unfold b4;trivial⟩
  unfold ba
  rw[Lib.mk_data]
theorem Jq (w:World) (C:Array Value) (T:TypeId) (j:Nat):(w.alloc (.cells C T)).cell? ⟨w.heap.size,j,none⟩=C[j]?:=by
 have hh:(w.alloc (.cells C T)).heap[w.heap.size]?=some (.cells C T):=by
  show(w.heap.push _)[w.heap.size]?=_
  simp
 unfold World.cell?
 rw[hh]
 rfl
theorem M_ {M:Nat->Prop} {xs:List ByteArray} {C:Array Value} {T:TypeId} {D:Nat} (hM:∀ b,M b->b<w.heap.size) (hc:∀ (j:Nat) (x:ByteArray),xs[j]?=some x->C[j]?=some (Value.string x)) (m:xs.length<=D):
  ba (w.alloc (.cells C T)) M (.slice ((xs.map (·.data.toList)).map bS)) (.slice (some ⟨w.heap.size,0,none⟩) xs.length D):=by
 unfold ba
 refine⟨_,_,by rw[TO,TO],by rw[TO,TO];exact m,(fun h=>by cases h),.inr ⟨w.heap.size,0,1,rfl,fun h=>absurd (hM _ h) (Nat.lt_irrefl _), ?_, ?_⟩⟩
 ·show _<(w.heap.push _).size
  rw[Array.size_push];omega
 ·exact Au xs 0 fun j x hx=>by rw[TJ,Jq];exact hc j x hx
theorem Id (w:World) (o:Obj):Below w.heap.size w (w.alloc o):=(Below.refl _ w).alloc (S0 _) _
def mH (s sep:List UInt8):Option (List (List UInt8)):=if s.length<4294967281/\1<=sep.length then some (Lib.split s sep) else none
theorem zF (s sep:List UInt8):∀ r,mH s sep=some r->aa Tryz.prog 112 [.str s,.str sep] (.slice (List.map bS r)):=by
 intro r hr
 unfold mH at hr
 split at hr
 ·rename_i h
  cases hr
  refine⟨by kernel_rfl,fun w M vs hM hv k=> ?_⟩
  simp only[aN,ba] at hv
  obtain⟨u,us,rfl,rfl,i,g,rfl,rfl,rfl⟩:=hv
  obtain⟨m,Z⟩:=FT k
  have h1:(⟨s.toArray⟩:ByteArray).size<4294967281:=by simpa[ByteArray.size] using h.1
  have h2:1<=(⟨sep.toArray⟩:ByteArray).size:=by simpa[ByteArray.size] using h.2
  refine Calls.mono (Any.strings_Split {Tryz.lays146 with} Tryz.lays146.i9 ⟨s.toArray⟩ ⟨sep.toArray⟩ m w h1 Z h2) ?_
  rintro e w' ⟨rfl,rfl⟩
  have h8:=Lib.splitB_all ⟨sep.toArray⟩ h2 0 _ ⟨s.toArray⟩ rfl
  have a:=Lib.splitB_data ⟨sep.toArray⟩ 0 (Lib.countB ⟨s.toArray⟩ ⟨sep.toArray⟩) ⟨s.toArray⟩
  refine⟨_,rfl, ?_,Id _ _⟩
  have:=fun T=>M_ (w:=w) (M:=M) (T:=T) (xs:=Lib.splitB ⟨sep.toArray⟩ 0 (Lib.countB ⟨s.toArray⟩ ⟨sep.toArray⟩) ⟨s.toArray⟩) (C:=((Lib.splitB ⟨sep.toArray⟩ 0 (Lib.countB ⟨s.toArray⟩ ⟨sep.toArray⟩) ⟨s.toArray⟩).map Value.string).toArray) (D:=Lib.countB ⟨s.toArray⟩ ⟨sep.toArray⟩+1) hM (fun j x hx=>by simp[hx]) oM
  simp only[a,h8] at this
  exact this _
 ·cases hr
theorem GY (w:World) (q:Nat):Below w.heap.size w (w.drewN q):=⟨rfl,rfl,rfl,S0 _,fun _ _=>rfl⟩
def eg (s sep:List UInt8):Option (List UInt8×List UInt8×Bool):=if s.length<4294967281 then some (Lib.cut s sep) else none
theorem u_ (s sep:List UInt8):∀ r,eg s sep=some r->aa Tryz.prog 184 [.str s,.str sep] (.tup [.str r.1,.str r.2.1,.bool r.2.2]):=by
 intro r hr
 unfold eg at hr
 split at hr
 ·rename_i h
  cases hr
  refine⟨by kernel_rfl,fun w M vs hM hv k=> ?_⟩
  simp only[aN,ba] at hv
  obtain⟨u,us,rfl,rfl,i,g,rfl,rfl,rfl⟩:=hv
  obtain⟨m,Z⟩:=FT k
  refine Calls.mono (Any.strings_Cut {Tryz.lays145 with} ⟨s.toArray⟩ ⟨sep.toArray⟩ m w (by simpa[ByteArray.size] using h) Z) ?_
  rintro e w' ⟨rfl,q,rfl⟩
  refine⟨_,rfl, ?_,GY _ _⟩
  unfold ba
  refine⟨_,rfl, ?_⟩
  simp[aN,ba]
 ·cases hr
noncomputable def lr (s:List UInt8):Option Int:=if s.length<=18 then Lib.atoi s else none
theorem Av (s:List UInt8):∀ r,lr s=some r->aa Tryz.prog 152 [.str s] (.tup [.int .i64 r,.raw .nilIface]):=by
 intro r hr
 unfold lr at hr
 split at hr
 ·rename_i h
  refine⟨by kernel_rfl,fun w M vs hM hv k=> ?_⟩
  simp only[aN,ba] at hv
  obtain⟨u,us,rfl,rfl,rfl⟩:=hv
  refine Calls.mono (Any.strconv_Atoi Tryz.lays172 ⟨s.toArray⟩ r (by simpa[ByteArray.size] using h) hr w) ?_
  rintro e w' ⟨rfl,t,rfl⟩
  refine⟨_,rfl, ?_,⟨rfl,rfl,rfl,by rw[Lib.bytesWorld_size];omega,fun j hj=>Lib.bytesWorld_at_old w _ t j hj⟩⟩
  unfold ba
  refine⟨_,rfl, ?_⟩
  simp[aN,ba]
 ·cases hr
end Go.Proofs.YteaolfcegaidpaaGreatDoor
namespace Go.Proofs
open Go.Proofs.YteaolfcegaidpaaGreatDoor
open Go.Shelf
def Tryz.lays103_ren:Go.Shelf.Ren:=⟨fun|103=>183|210=>207|206=>228|n=>n,fun|9=>9|4=>4|24=>187|3=>3|n=>n,fun|n=>n⟩
theorem Tryz.lays103:Go.Proofs.Lays.n103 Tryz.prog Tryz.lays103_ren:={
 mixed:=oK
 f103:=Tryz.func183.trans (congrArg some oK)
 f206:=Tryz.func228.trans (congrArg some oK)
 f210:=Tryz.func207.trans (congrArg some oK)
 t3:=Tryz.underlying3
 a3:=Tryz.isAgg3
 z3:=Tryz.sizeOf3
 v3:=Tryz.zeroValue3
 t4:=Tryz.underlying4
 a4:=Tryz.isAgg4
 z4:=Tryz.sizeOf4
 v4:=Tryz.zeroValue4
 t9:=Tryz.underlying9
 a9:=Tryz.isAgg9
 z9:=Tryz.sizeOf9
 v9:=Tryz.zeroValue9
 t24:=Tryz.underlying187
 a24:=Tryz.isAgg187
 z24:=Tryz.sizeOf187
 v24:=Tryz.zeroValue187}
end Go.Proofs
namespace Go.Proofs.YteaolfcegaidpaaGreatDoor
set_option linter.unusedSimpArgs false
set_option linter.unusedVariables false
open Go.RowKit Go.Shelf
def et (s p:List UInt8):Option (List UInt8×Bool):=some (Lib.trimPrefix s p,Lib.hasPrefix s p)
theorem ow (s p:List UInt8):∀ r,et s p=some r->aa Tryz.prog 183 [.str s,.str p] (.tup [.str r.1,.bool r.2]):=by
 intro r hr
 unfold et at hr
 cases hr
 refine⟨by kernel_rfl,fun w M vs hM hv k=> ?_⟩
 simp only[aN,ba] at hv
 obtain⟨u,us,rfl,rfl,i,g,rfl,rfl,rfl⟩:=hv
 refine Calls.mono (Any.strings_CutPrefix Tryz.lays103 ⟨s.toArray⟩ ⟨p.toArray⟩ w) ?_
 rintro e w' ⟨rfl,rfl⟩
 refine⟨_,rfl, ?_,Below.refl _ _⟩
 unfold ba
 refine⟨_,rfl, ?_⟩
 simp[aN,ba]
end Go.Proofs.YteaolfcegaidpaaGreatDoor
namespace Go.Proofs
open Go.Proofs.YteaolfcegaidpaaGreatDoor
open Go.Shelf
def Tryz.lays106_ren:Go.Shelf.Ren:=⟨fun|106=>127|213=>155|265=>175|n=>n,fun|9=>9|3=>3|n=>n,fun|n=>n⟩
theorem Tryz.lays106:Go.Proofs.Lays.n106 Tryz.prog Tryz.lays106_ren:={
 mixed:=oK
 f106:=Tryz.func127.trans (congrArg some oK)
 f213:=Tryz.func155.trans (congrArg some oK)
 f265:=Tryz.func175.trans (congrArg some oK)
 t3:=Tryz.underlying3
 a3:=Tryz.isAgg3
 z3:=Tryz.sizeOf3
 v3:=Tryz.zeroValue3
 t9:=Tryz.underlying9
 a9:=Tryz.isAgg9
 z9:=Tryz.sizeOf9
 v9:=Tryz.zeroValue9}
end Go.Proofs
namespace Go.Proofs.YteaolfcegaidpaaGreatDoor
set_option linter.unusedSimpArgs false
set_option linter.unusedVariables false
open Go.RowKit Go.Shelf
def ud (a b:List UInt8):Option Int:=some (Lib.compareBytes a b)
theorem ya (a b:List UInt8):∀ r,ud a b=some r->aa Tryz.prog 127 [.str a,.str b] (.int .i64 r):=by
 intro r hr
 unfold ud at hr
 cases hr
 refine⟨by kernel_rfl,fun w M vs hM hv k=> ?_⟩
 simp only[aN,ba] at hv
 obtain⟨u,us,rfl,rfl,i,g,rfl,rfl,rfl⟩:=hv
 refine Calls.mono (Any.strings_Compare Tryz.lays106 ⟨a.toArray⟩ ⟨b.toArray⟩ w) ?_
 rintro e w' ⟨rfl,rfl⟩
 refine⟨_,rfl, ?_,Below.refl _ _⟩
 simp[ba]
end Go.Proofs.YteaolfcegaidpaaGreatDoor
namespace Go.Proofs.YteaolfcegaidpaaGreatDoor
set_option linter.unusedSimpArgs false
set_option linter.unusedVariables false
theorem PO:∃ n:Nat,1000000<=n:=⟨_,S0 _⟩
noncomputable def FU:Nat:=Classical.choose PO
theorem vw:1000000<=FU:=Classical.choose_spec PO
end Go.Proofs.YteaolfcegaidpaaGreatDoor
namespace Go.Proofs.YteaolfcegaidpaaGreatDoor
open Go.RowKit
set_option linter.unusedSimpArgs false
set_option linter.unusedVariables false
noncomputable section
set_option maxRecDepth 100000
set_option maxHeartbeats 40000000
structure ai where
 fTag:List UInt8
 fName:List UInt8
 fMin:Int
 fMax:Int
 fItems:List ai
variable {a:List UInt8} {d0 o:DV} {v0:List UInt8}
mutual
def x5:ai->List DV
 |⟨v0,a,v2,v3,v4⟩=>[.str v0,.str a,.int .i64 v2,.int .i64 v3,.slice (ln v4)]
def ln:List ai->List (List DV)
 |[]=>[]
 |x::l=>x5 x::ln l
end
def ak (x:ai):List DV:=[.str x.fTag,.str x.fName,.int .i64 x.fMin,.int .i64 x.fMax,.slice (ln x.fItems)]
theorem Ea (x:ai):x5 x=ak x:=by cases x;simp only[x5,ak]
theorem wy:∀ l:List ai,ln l=List.map ak l
 |[]=>by simp only[ln,Ui]
 |x::l=>by simp only[ln,S5,wy l,Ea]
theorem uv (x:ai):ak x=[.str x.fTag,.str x.fName,.int .i64 x.fMin,.int .i64 x.fMax,.slice (List.map ak x.fItems)]:=by show([.str x.fTag,.str x.fName,.int .i64 x.fMin,.int .i64 x.fMax,.slice (ln x.fItems)]:List DV)=_;simp only[wy]
attribute [push_cast] uv
theorem fj (x:ai):(⟨x.fTag,x.fName,x.fMin,x.fMax,x.fItems⟩:ai)=x:=by cases x;rfl
theorem jS {d2 f b:DV} {v2 v3:Int} {v4:List ai} (h0:d0= .str v0) (h1:o= .str a) (h2:d2= .int .i64 v2) (E:f= .int .i64 v3) (h4:b= .slice (List.map ak v4)):[d0,o,d2,f,b]=ak ⟨v0,a,v2,v3,v4⟩:=by rw[uv];simp only[h0,h1,h2,E,h4,S_,Tb,S4,Tg]
structure aM where
 fNeeded:Bool
 fType:Int
 fMin:Int
 fMax:Int
 fCodes:List (List UInt8)
 deriving DecidableEq
def bT (x:aM):List DV:=[.bool x.fNeeded,.int .i64 x.fType,.int .i64 x.fMin,.int .i64 x.fMax,.slice (List.map bS x.fCodes)]
attribute [push_cast] bT
structure ay where
 fNeeded:Bool
 fMost:Int
 fParts:List aM
 deriving DecidableEq
def bq (x:ay):List DV:=[.bool x.fNeeded,.int .i64 x.fMost,.slice (List.map bT x.fParts)]
attribute [push_cast] bq
structure az where
 fTag:List UInt8
 fElements:List ay
 deriving DecidableEq
def aA (x:az):List DV:=[.str x.fTag,.slice (List.map bq x.fElements)]
attribute [push_cast] aA
theorem zB {a:List ay} (h0:d0= .str v0) (h1:o= .slice (List.map bq a)):[d0,o]=aA ⟨v0,a⟩:=by unfold aA;simp only[h0,h1,S_,Tb,S4,Tg]
structure aj where
 fKind:List UInt8
 fVersion:List UInt8
 fDefs:List az
 fItems:List ai
def aC (x:aj):List DV:=[.str x.fKind,.str x.fVersion,.slice (List.map aA x.fDefs),.slice (List.map ak x.fItems)]
attribute [push_cast] aC
theorem sY {d0 o d2 f:SV} {v2:List az} {v3:List ai} (h0:vt d0 (.d (.str v0))) (h1:vt o (.d (.str a))) (h2:vt d2 (.d (.slice (List.map aA v2)))) (E:vt f (.d (.slice (List.map ak v3)))):bw [d0,o,d2,f] (dR (aC ⟨v0,a,v2,v3⟩)):=by have h:=(bw.append (bw.consS h0 bw.nil) (bw.append (bw.consS h1 bw.nil) (bw.append (bw.consS h2 bw.nil) (bw.consS E bw.nil))));simpa only[aC,dR,UR,S5,Ui,S_,Tb,S4,Tg] using h
def oq:SC:=(.sq [.k 11 .lss 10 9] (.seq (.cond (.t 11) .skip (.exit 0)) (.seq (.block 1 (.sq [.v 12 10,.v 7 12] (.seq (.reg (.v 13 0:: .v 14 7:: .r 15 (.sidx (.t 13) (.t 14)):: .v 16 1:: .k 17 .lss 15 16:: .v 18 17::aV [19,20,21,22,23] 18 false (.v 19 0:: .v 20 7:: .r 21 (.sidx (.t 19) (.t 20)):: .v 22 2:: .k 23 .gtr 21 22::[]) (.r 24 (.pick (.t 18) (.b true) (.t 23))::[]))) (.cond (.t 24) (.sq [.r 6 (.mv (.b false))] .ret) .skip)))) (.reg [.j 25 .add 10 1,.v 10 25]))))
def t_:SC:= .block 0 (.loop oq)
def x6:SC:=(.sq [.r 6 (.mv (.b false))] (.seq (.sq [.v 8 0,.r 9 (.lenT (.t 8)),.r 10 (.mv (.i 0))] t_) (.sq [.r 6 (.mv (.b true))] .ret)))
theorem CB:fits Tryz.prog 162 Tryz.f162 x6 [.t 6] 3=true:=oK
def x7:SC:=(.sq [.r 6 (.mv (.b false))] (.seq (.reg (.v 7 0:: .v 8 1:: .k 9 .lss 7 8:: .v 10 9::aV [11,12,13] 10 false (.v 11 0:: .v 12 2:: .k 13 .gtr 11 12::[]) (.r 14 (.pick (.t 10) (.b true) (.t 13)):: .v 6 14::[]))) .ret))
theorem CC:fits Tryz.prog 114 Tryz.f114 x7 [.t 6] 3=true:=oK
def yX:SC:=(.sq [.r 2 (.mv (.b false))] (.seq (.seq (.reg (.v 3 0:: .r 4 (.lenT (.t 3)):: .j 5 .lss 4 1:: .v 6 5::aV [7,8,9] 6 false (.v 7 0:: .r 8 (.lenT (.t 7)):: .j 9 .gtr 8 40::[]) (.r 10 (.pick (.t 6) (.b true) (.t 9)):: .v 11 10::aV [12,13,14] 11 false (.v 12 0:: .r 13 (.sidx (.t 12) (.i 0)):: .r 14 (.bin .lss (.t 13) (.c (.d (.int .u8 97))))::[]) (.r 15 (.pick (.t 11) (.b true) (.t 14)):: .v 16 15::aV [17,18,19] 16 false (.v 17 0:: .r 18 (.sidx (.t 17) (.i 0)):: .r 19 (.bin .gtr (.t 18) (.c (.d (.int .u8 122))))::[]) (.r 20 (.pick (.t 16) (.b true) (.t 19))::[]))))) (.cond (.t 20) (.sq [.r 2 (.mv (.b false))] .ret) .skip)) (.sq [.v 21 0,.c 22 (.f 94) [.t 21,.c (.d (.str [97,98,99,100,101,102,103,104,105,106,107,108,109,110,111,112,113,114,115,116,117,118,119,120,121,122,48,49,50,51,52,53,54,55,56,57,45]))],.r 23 (.bin .eql (.t 22) (.c (.d (.str [])))),.v 2 23] .ret)))
theorem Eb:fits Tryz.prog 47 Tryz.f47 yX [.t 2] 1=true:=oK
def fP:SC:=(.seq (.sq [.v 6 3,.v 7 0,.r 8 (.lenT (.t 7)),.k 9 .lss 6 8] (.cond (.t 9) .skip (.exit 0))) (.seq (.block 1 (.sq [.v 12 0,.v 13 3,.r 14 (.sidx (.t 12) (.t 13)),.v 4 14] (.seq (.reg (.v 15 4:: .r 16 (.bin .geq (.t 15) (.c (.d (.int .u8 97)))):: .v 17 16::aV [18,19] 17 true (.v 18 4:: .r 19 (.bin .leq (.t 18) (.c (.d (.int .u8 122))))::[]) (.r 20 (.pick (.t 17) (.t 19) (.b false)):: .v 5 20::[]))) (.seq (.reg (.v 21 5:: .r 22 (.not (.t 21)):: .v 23 22::aV [24,25,26,27,28,29,30,31,32,33,34,35,36,37,38] 23 true (.v 24 3:: .j 25 .eql 24 0:: .v 26 25::aV [27,28,29,30,31,32,33,34,35,36,37] 26 false (.v 27 4:: .r 28 (.bin .neq (.t 27) (.c (.d (.int .u8 45)))):: .v 29 28::aV [30,31,32,33,34,35,36] 29 true (.v 30 4:: .r 31 (.bin .geq (.t 30) (.c (.d (.int .u8 48)))):: .v 32 31::aV [33,34] 32 true (.v 33 4:: .r 34 (.bin .leq (.t 33) (.c (.d (.int .u8 57))))::[]) (.r 35 (.pick (.t 32) (.t 34) (.b false)):: .r 36 (.not (.t 35))::[])) (.r 37 (.pick (.t 29) (.t 36) (.b false))::[])) (.r 38 (.pick (.t 26) (.b true) (.t 37))::[])) (.r 39 (.pick (.t 23) (.t 38) (.b false))::[]))) (.cond (.t 39) (.sq [.r 2 (.mv (.b false))] .ret) .skip))))) (.reg [.v 10 3,.j 11 .add 10 1,.v 3 11])))
def j9:SC:= .block 0 (.loop fP)
def l4:SC:=(.sq [.r 2 (.mv (.b false))] (.seq (.sq [.r 3 (.mv (.i 0))] j9) (.seq (.reg (.v 40 0:: .r 41 (.bin .neq (.t 40) (.c (.d (.str [])))):: .v 42 41::aV [43,44,45] 42 true (.v 43 0:: .r 44 (.lenT (.t 43)):: .j 45 .leq 44 40::[]) (.r 46 (.pick (.t 42) (.t 45) (.b false)):: .v 2 46::[]))) .ret)))
theorem sZ:fits Tryz.prog 75 Tryz.f75 l4 [.t 2] 1=true:=oK
def uY:SC:=(.sq [.r 2 (.mv (.b false))] (.sq [.v 3 0,.c 4 (.f 94) [.t 3,.c (.d (.str [65,66,67,68,69,70,71,72,73,74,75,76,77,78,79,80,81,82,83,84,85,86,87,88,89,90,48,49,50,51,52,53,54,55,56,57]))],.r 5 (.bin .eql (.t 4) (.c (.d (.str [])))),.v 2 5] .ret))
theorem Aq:fits Tryz.prog 99 Tryz.f99 uY [.t 2] 1=true:=oK
def eN:SC:=(.seq (.sq [.v 5 3,.v 6 0,.r 7 (.lenT (.t 6)),.k 8 .lss 5 7] (.cond (.t 8) .skip (.exit 0))) (.seq (.block 1 (.seq (.reg (.v 11 0:: .v 12 3:: .r 13 (.sidx (.t 11) (.t 12)):: .r 14 (.bin .geq (.t 13) (.c (.d (.int .u8 65)))):: .v 15 14::aV [16,17,18,19] 15 true (.v 16 0:: .v 17 3:: .r 18 (.sidx (.t 16) (.t 17)):: .r 19 (.bin .leq (.t 18) (.c (.d (.int .u8 90))))::[]) (.r 20 (.pick (.t 15) (.t 19) (.b false)):: .v 4 20::[]))) (.seq (.reg (.v 21 4:: .r 22 (.not (.t 21)):: .v 23 22::aV [24,25,26,27,28,29,30,31,32,33,34,35,36,37] 23 true (.v 24 3:: .j 25 .eql 24 0:: .v 26 25::aV [27,28,29,30] 26 false (.v 27 0:: .v 28 3:: .r 29 (.sidx (.t 27) (.t 28)):: .r 30 (.bin .lss (.t 29) (.c (.d (.int .u8 48))))::[]) (.r 31 (.pick (.t 26) (.b true) (.t 30)):: .v 32 31::aV [33,34,35,36] 32 false (.v 33 0:: .v 34 3:: .r 35 (.sidx (.t 33) (.t 34)):: .r 36 (.bin .gtr (.t 35) (.c (.d (.int .u8 57))))::[]) (.r 37 (.pick (.t 32) (.b true) (.t 36))::[]))) (.r 38 (.pick (.t 23) (.t 37) (.b false))::[]))) (.cond (.t 38) (.sq [.r 2 (.mv (.b false))] .ret) .skip)))) (.reg [.v 9 3,.j 10 .add 9 1,.v 3 10])))
def iS:SC:= .block 0 (.loop eN)
def j_:SC:=(.sq [.r 2 (.mv (.b false))] (.seq (.sq [.r 3 (.mv (.i 0))] iS) (.sq [.v 39 0,.r 40 (.lenT (.t 39)),.j 41 .leq 40 6,.v 2 41] .ret)))
theorem p8:fits Tryz.prog 106 Tryz.f106 j_ [.t 2] 1=true:=oK
def gm:SC:=(.seq (.sq [.v 6 5,.f 7 2 2,.l 8 7,.h 9 8,.k 10 .lss 6 9] (.cond (.t 10) .skip (.exit 0))) (.seq (.block 1 (.sq [.f 13 2 2,.l 14 13,.v 15 5,.y 16 2 14 15,.f 17 0 16,.l 18 17,.v 19 1,.k 20 .eql 18 19] (.cond (.t 20) (.sq [.v 21 5,.v 4 21] .ret) .skip))) (.reg [.v 11 5,.j 12 .add 11 1,.v 5 12])))
def kH:SC:= .block 0 (.loop gm)
def mD:SC:=(.sq [.r 2 (.boxI (.t 0)),.r 4 (.mv (.i 0))] (.seq (.sq [.r 5 (.mv (.i 0))] kH) (.sq [.r 4 (.mv (.i (-1)))] .ret)))
theorem tv:fits Tryz.prog 82 Tryz.f82 mD [.t 4] 2=true:=oK
def kI:SC:=(.sq [.r 1 (.boxI (.t 0)),.r 2 (.mv (.c (.d (.str []))))] (.seq (.sq [.f 3 4 1,.l 4 3,.h 5 4,.j 6 .gtr 5 0] (.cond (.t 6) (.sq [.f 7 4 1,.l 8 7,.r 9 (.idx 5 (.t 8) (.i 0)),.f 10 0 9,.l 11 10,.v 2 11] .ret) .skip)) (.sq [.f 12 0 1,.l 13 12,.v 2 13] .ret)))
theorem rc:fits Tryz.prog 120 Tryz.f120 kI [.t 2] 1=true:=oK
def s_:SC:=(.sq [.r 1 (.boxI (.t 0)),.r 2 (.mv (.c (.d (.str []))))] (.seq (.sq [.f 3 1 1,.l 4 3,.r 5 (.bin .eql (.t 4) (.c (.d (.str []))))] (.cond (.t 5) (.sq [.f 6 0 1,.l 7 6,.v 2 7] .ret) .skip)) (.sq [.f 8 4 1,.l 9 8,.r 10 (.idx 5 (.t 9) (.i 0)),.f 11 0 10,.l 12 11,.v 2 12] .ret)))
theorem yN:fits Tryz.prog 97 Tryz.f97 s_ [.t 2] 1=true:=oK
def bC:(∀ (D:List UInt8) (x1:UInt8) (x2:UInt8),{m:Option (Bool)//∀ r,m=some r->aa Tryz.prog 162 [.str D,.int .u8 (x1).toNat,.int .u8 (x2).toNat] (.bool r)})×(∀ (D:Int) (x1:Int) (x2:Int),{m:Option (Bool)//∀ r,m=some r->aa Tryz.prog 114 [.int .i64 D,.int .i64 x1,.int .i64 x2] (.bool r)})×(∀ (D:List UInt8),{m:Option (Bool)//∀ r,m=some r->aa Tryz.prog 47 [.str D] (.bool r)})×(∀ (D:List UInt8),{m:Option (Bool)//∀ r,m=some r->aa Tryz.prog 75 [.str D] (.bool r)})×(∀ (D:List UInt8),{m:Option (Bool)//∀ r,m=some r->aa Tryz.prog 99 [.str D] (.bool r)})×(∀ (D:List UInt8),{m:Option (Bool)//∀ r,m=some r->aa Tryz.prog 106 [.str D] (.bool r)})×(∀ (D:aj) (x1:List UInt8),{m:Option (Int)//∀ r,m=some r->aa Tryz.prog 82 [.agg (aC D),.str x1] (.int .i64 r)})×(∀ (D:ai),{m:Option ((List UInt8))//∀ r,m=some r->aa Tryz.prog 120 [.agg (ak D)] (.str r)})×(∀ (D:ai),{m:Option ((List UInt8))//∀ r,m=some r->aa Tryz.prog 97 [.agg (ak D)] (.str r)}):=by
 refine⟨?g0, ?g1, ?g2, ?g3, ?g4, ?g5, ?g6, ?g7, ?g8⟩
 case' g0=>(intro D x1 x2;apply Subtype.mk;intro r Z;apply ag Tryz.func162 CB;unfold x6)
 case' g1=>(intro D x1 x2;apply Subtype.mk;intro r Z;apply ag Tryz.func114 CC;unfold x7)
 case' g2=>(intro D;apply Subtype.mk;intro r Z;apply ag Tryz.func47 Eb;unfold yX)
 case' g3=>(intro D;apply Subtype.mk;intro r Z;apply ag Tryz.func75 sZ;unfold l4)
 case' g4=>(intro D;apply Subtype.mk;intro r Z;apply ag Tryz.func99 Aq;unfold uY)
 case' g5=>(intro D;apply Subtype.mk;intro r Z;apply ag Tryz.func106 p8;unfold j_)
 case' g6=>(intro D x1;apply Subtype.mk;intro r Z;apply ag Tryz.func82 tv;unfold mD)
 case' g7=>(intro D;apply Subtype.mk;intro r Z;apply ag Tryz.func120 rc;unfold kI)
 case' g8=>(intro D;apply Subtype.mk;intro r Z;apply ag Tryz.func97 yN;unfold s_)
 all_goals(repeat'(first|(with_reducible first|refine bn ?_|refine bl ?_|refine aX ?_|refine aZ ?_|refine bF ?_|refine bN ?_|refine bm ?_|refine bo ?_|refine bO ?_|refine bI ?_|refine a8 ?_|refine bE ?_|refine cF ?_)|(with_reducible apply cA Z);(iterate 2 (exact bj));intro _;rfl;intro e Z|(with_reducible apply nZ Z);(iterate 2 (exact bj));intro e Z|(with_reducible apply fi);exact bj;(first|exact trivial)|((with_reducible apply eh Z);exact bj;rfl;intro v Z;rotate_left;intro v g Z)|((with_reducible apply oF Z);exact bj;rfl;intro v Z;rotate_left;intro v g Z)|(with_reducible apply dD Z);exact bj;(first|apply ue _ _);(any_goals(exact yi));intro x Z|((with_reducible apply aI Z);exact bj;intro Z;rotate_left;intro Z)|(with_reducible apply bP Z);exact AM;exact rj|(with_reducible apply b5 Z);exact bj|(with_reducible apply br Z);intro r Z|(with_reducible apply b8 Z);intro r Z|((apply av (b:=0) (X:=t_) (x:=oq) rfl (fun(c:SV×SV×SV×SV) (s:Int)=>st [(0,c.1),(1,c.2.1),(2,c.2.2.1),(9,c.2.2.2),(10,.d (.int .i64 s))] []) (c:=(_,_,_,_)) (s0:=_) Z);exact er;with_reducible refine cc.mk ?_ ?_)|apply av (b:=0) (X:=j9) (x:=fP) rfl (fun(c:SV) (s:Int)=>st [(0,c),(3,.d (.int .i64 s))] []) (c:=_) (s0:=_) Z;exact er;with_reducible refine cc.mk ?_ ?_|apply av (b:=0) (X:=iS) (x:=eN) rfl (fun(c:SV) (s:Int)=>st [(0,c),(3,.d (.int .i64 s))] []) (c:=_) (s0:=_) Z;exact er;with_reducible refine cc.mk ?_ ?_|((apply av (b:=0) (X:=kH) (x:=gm) rfl (fun(c:SV×SV) (s:Int)=>st [(1,c.1),(2,c.2),(5,.d (.int .i64 s))] []) (c:=(_,_)) (s0:=_) Z);exact er;with_reducible refine cc.mk ?_ ?_)|apply bz (F:=_) Z;exact er|apply co (F:=_) Z;exact er|(with_reducible apply dQ Z);intro r Z|((with_reducible apply cM.of);exact er;(focus(intro _;repeat'(first|(with_reducible first|exact bd|refine aB ?_))));(intro s o Z;first|unfold oq|unfold fP|unfold eN|unfold gm);rotate_left;intro s Z)|exact Se|fail))
def uw (D:List UInt8) (x1 x2:UInt8):Option (Bool):=(bC.1 D x1 x2).1
theorem pq (D:List UInt8) (x1 x2:UInt8):∀ r,uw D x1 x2=some r->aa Tryz.prog 162 [.str D,.int .u8 (x1).toNat,.int .u8 (x2).toNat] (.bool r):=(bC.1 D x1 x2).2
def ux (D x1 x2:Int):Option (Bool):=(bC.2.1 D x1 x2).1
theorem e7 (D x1 x2:Int):∀ r,ux D x1 x2=some r->aa Tryz.prog 114 [.int .i64 D,.int .i64 x1,.int .i64 x2] (.bool r):=(bC.2.1 D x1 x2).2
def vW (D:List UInt8):Option (Bool):=(bC.2.2.1 D).1
theorem re (D:List UInt8):∀ r,vW D=some r->aa Tryz.prog 47 [.str D] (.bool r):=(bC.2.2.1 D).2
def iG (D:List UInt8):Option (Bool):=(bC.2.2.2.1 D).1
theorem gn (D:List UInt8):∀ r,iG D=some r->aa Tryz.prog 75 [.str D] (.bool r):=(bC.2.2.2.1 D).2
def rf (D:List UInt8):Option (Bool):=(bC.2.2.2.2.1 D).1
theorem zC (D:List UInt8):∀ r,rf D=some r->aa Tryz.prog 99 [.str D] (.bool r):=(bC.2.2.2.2.1 D).2
def go (D:List UInt8):Option (Bool):=(bC.2.2.2.2.2.1 D).1
theorem pr (D:List UInt8):∀ r,go D=some r->aa Tryz.prog 106 [.str D] (.bool r):=(bC.2.2.2.2.2.1 D).2
def c_ (D:aj) (x1:List UInt8):Option (Int):=(bC.2.2.2.2.2.2.1 D x1).1
theorem lp (D:aj) (x1:List UInt8):∀ r,c_ D x1=some r->aa Tryz.prog 82 [.agg (aC D),.str x1] (.int .i64 r):=(bC.2.2.2.2.2.2.1 D x1).2
def gS (D:ai):Option ((List UInt8)):=(bC.2.2.2.2.2.2.2.1 D).1
theorem p9 (D:ai):∀ r,gS D=some r->aa Tryz.prog 120 [.agg (ak D)] (.str r):=(bC.2.2.2.2.2.2.2.1 D).2
def io (D:ai):Option ((List UInt8)):=(bC.2.2.2.2.2.2.2.2 D).1
theorem x8 (D:ai):∀ r,io D=some r->aa Tryz.prog 97 [.agg (ak D)] (.str r):=(bC.2.2.2.2.2.2.2.2 D).2
def Ar:SC:=(.sq [.r 2 (.mv (.b false))] (.seq (.reg (.v 3 0:: .r 4 (.lenT (.t 3)):: .j 5 .geq 4 2:: .v 6 5::aV [7,8,9] 6 true (.v 7 0:: .r 8 (.lenT (.t 7)):: .j 9 .leq 8 6::[]) (.r 10 (.pick (.t 6) (.t 9) (.b false)):: .v 11 10::aV [12,13,14,15] 11 true (.v 12 0:: .r 13 (.sidx (.t 12) (.i 0)):: .c 14 (.f 98) [.c (.d (.str [65,66,67,68,69,70,71,72,73,74,75,76,77,78,79,80,81,82,83,84,85,86,87,88,89,90])),.t 13]:: .j 15 .geq 14 0::[]) (.r 16 (.pick (.t 11) (.t 15) (.b false)):: .v 17 16::aV [18,19] 17 true (.v 18 0:: .c 19 (.f 99) [.t 18]::[]) (.r 20 (.pick (.t 17) (.t 19) (.b false)):: .v 2 20::[]))))) .ret))
theorem EY:fits Tryz.prog 52 Tryz.f52 Ar [.t 2] 1=true:=oK
def mE:SC:=(.sq [.r 2 (.mv (.b false))] (.seq (.reg (.v 3 0:: .r 4 (.lenT (.t 3)):: .j 5 .geq 4 2:: .v 6 5::aV [7,8] 6 true (.v 7 0:: .c 8 (.f 106) [.t 7]::[]) (.r 9 (.pick (.t 6) (.t 8) (.b false)):: .v 2 9::[]))) .ret))
theorem tw:fits Tryz.prog 61 Tryz.f61 mE [.t 2] 1=true:=oK
def ny:(∀ (D:List UInt8),{m:Option (Bool)//∀ r,m=some r->aa Tryz.prog 52 [.str D] (.bool r)})×(∀ (D:List UInt8),{m:Option (Bool)//∀ r,m=some r->aa Tryz.prog 61 [.str D] (.bool r)}):=by
 refine⟨?g0, ?g1⟩
 case' g0=>(intro D;apply Subtype.mk;intro r Z;apply ag Tryz.func52 EY;unfold Ar)
 case' g1=>(intro D;apply Subtype.mk;intro r Z;apply ag Tryz.func61 tw;unfold mE)
 all_goals(repeat'(first|(with_reducible first|refine bn ?_|refine bl ?_|refine bF ?_|refine bm ?_|refine bo ?_)|(with_reducible apply nZ Z);(iterate 2 (exact bj));intro e Z|(with_reducible apply fi);exact bj;(first|exact trivial)|((with_reducible apply eh Z);exact bj;rfl;intro v Z;rotate_left;intro v g Z)|(with_reducible apply dD Z);exact bj;(first|apply vZ _ _|apply zC _|apply pr _);(any_goals(exact yi));intro x Z|(with_reducible apply bP Z);exact AM;exact rj|(with_reducible apply b5 Z);exact bj|fail))
def ua (D:List UInt8):Option (Bool):=(ny.1 D).1
theorem ot (D:List UInt8):∀ r,ua D=some r->aa Tryz.prog 52 [.str D] (.bool r):=(ny.1 D).2
def jk (D:List UInt8):Option (Bool):=(ny.2 D).1
theorem gT (D:List UInt8):∀ r,jk D=some r->aa Tryz.prog 61 [.str D] (.bool r):=(ny.2 D).2
def rt:SC:=(.sq [.r 1 (.boxI (.t 0)),.r 2 (.mv (.b false))] (.seq (.reg (.f 3 0 1:: .l 4 3:: .c 5 (.f 52) [.t 4]:: .v 6 5::aV [7,8,9] 6 true (.f 7 1 1:: .r 8 (.ld1 (.t 7)):: .r 9 (.bin .eql (.t 8) (.c (.d (.str []))))::[]) (.r 10 (.pick (.t 6) (.t 9) (.b false)):: .v 11 10::aV [12,13,14,15] 11 true (.f 12 4 1:: .r 13 (.ld1 (.t 12)):: .h 14 13:: .j 15 .eql 14 0::[]) (.r 16 (.pick (.t 11) (.t 15) (.b false)):: .v 2 16::[])))) .ret))
theorem x9:fits Tryz.prog 138 Tryz.f138 rt [.t 2] 1=true:=oK
def ka:SC:=(.sq [.r 1 (.boxI (.t 0)),.r 2 (.mv (.b false))] (.seq (.reg (.f 3 0 1:: .l 4 3:: .c 5 (.f 61) [.t 4]:: .v 6 5::aV [7,8,9] 6 true (.f 7 1 1:: .r 8 (.ld1 (.t 7)):: .r 9 (.bin .eql (.t 8) (.c (.d (.str []))))::[]) (.r 10 (.pick (.t 6) (.t 9) (.b false)):: .v 11 10::aV [12,13,14,15] 11 true (.f 12 4 1:: .r 13 (.ld1 (.t 12)):: .h 14 13:: .j 15 .eql 14 0::[]) (.r 16 (.pick (.t 11) (.t 15) (.b false)):: .v 2 16::[])))) .ret))
theorem p_:fits Tryz.prog 118 Tryz.f118 ka [.t 2] 1=true:=oK
def nA:(∀ (D:ai),{m:Option (Bool)//∀ r,m=some r->aa Tryz.prog 138 [.agg (ak D)] (.bool r)})×(∀ (D:ai),{m:Option (Bool)//∀ r,m=some r->aa Tryz.prog 118 [.agg (ak D)] (.bool r)}):=by
 refine⟨?g0, ?g1⟩
 case' g0=>(intro D;apply Subtype.mk;intro r Z;apply ag Tryz.func138 x9;unfold rt)
 case' g1=>(intro D;apply Subtype.mk;intro r Z;apply ag Tryz.func118 p_;unfold ka)
 all_goals(repeat'(first|(with_reducible first|refine bn ?_|refine bl ?_|refine bF ?_|refine bm ?_|refine bo ?_|refine cF ?_)|(with_reducible apply fi);exact bj;(first|exact trivial)|((with_reducible apply eh Z);exact bj;rfl;intro v Z;rotate_left;intro v g Z)|(with_reducible apply dD Z);exact bj;(first|apply ot _|apply gT _);(any_goals(exact yi));intro x Z|(with_reducible apply bP Z);exact AM;exact rj|(with_reducible apply b5 Z);exact bj|fail))
def na (D:ai):Option (Bool):=(nA.1 D).1
theorem oX (D:ai):∀ r,na D=some r->aa Tryz.prog 138 [.agg (ak D)] (.bool r):=(nA.1 D).2
def gp (D:ai):Option (Bool):=(nA.2 D).1
theorem jl (D:ai):∀ r,gp D=some r->aa Tryz.prog 118 [.agg (ak D)] (.bool r):=(nA.2 D).2
def ub:SC:=(.sq [.r 1 (.boxI (.t 0)),.r 2 (.mv (.b false))] (.seq (.reg (.f 3 1 1:: .l 4 3:: .r 5 (.bin .neq (.t 4) (.c (.d (.str [])))):: .v 6 5::aV [7,8,9] 6 true (.f 7 0 1:: .r 8 (.ld1 (.t 7)):: .r 9 (.bin .eql (.t 8) (.c (.d (.str []))))::[]) (.r 10 (.pick (.t 6) (.t 9) (.b false)):: .v 11 10::aV [12,13,14,15] 11 true (.f 12 4 1:: .r 13 (.ld1 (.t 12)):: .h 14 13:: .j 15 .gtr 14 0::[]) (.r 16 (.pick (.t 11) (.t 15) (.b false)):: .v 17 16::aV [18,19,20,21,22] 17 true (.f 18 4 1:: .r 19 (.ld1 (.t 18)):: .r 20 (.idx 5 (.t 19) (.i 0)):: .r 21 (.ldA 5 (.t 20)):: .c 22 (.f 138) [.t 21]::[]) (.r 23 (.pick (.t 17) (.t 22) (.b false)):: .v 24 23::aV [25,26,27,28,29,30] 24 true (.f 25 4 1:: .r 26 (.ld1 (.t 25)):: .r 27 (.idx 5 (.t 26) (.i 0)):: .f 28 2 27:: .r 29 (.ld1 (.t 28)):: .j 30 .eql 29 1::[]) (.r 31 (.pick (.t 24) (.t 30) (.b false)):: .v 32 31::aV [33,34,35,36,37,38] 32 true (.f 33 4 1:: .r 34 (.ld1 (.t 33)):: .r 35 (.idx 5 (.t 34) (.i 0)):: .f 36 3 35:: .r 37 (.ld1 (.t 36)):: .j 38 .eql 37 1::[]) (.r 39 (.pick (.t 32) (.t 38) (.b false)):: .v 2 39::[]))))))) .ret))
theorem zD:fits Tryz.prog 139 Tryz.f139 ub [.t 2] 1=true:=oK
def lq:SC:=(.sq [.r 1 (.boxI (.t 0)),.r 2 (.mv (.b false))] (.seq (.reg (.f 3 0 1:: .l 4 3:: .r 5 (.bin .eql (.t 4) (.c (.d (.str [])))):: .v 6 5::aV [7,8,9] 6 true (.f 7 1 1:: .r 8 (.ld1 (.t 7)):: .r 9 (.bin .neq (.t 8) (.c (.d (.str []))))::[]) (.r 10 (.pick (.t 6) (.t 9) (.b false)):: .v 11 10::aV [12,13,14,15] 11 true (.f 12 4 1:: .r 13 (.ld1 (.t 12)):: .h 14 13:: .j 15 .gtr 14 0::[]) (.r 16 (.pick (.t 11) (.t 15) (.b false)):: .v 17 16::aV [18,19,20,21,22] 17 true (.f 18 4 1:: .r 19 (.ld1 (.t 18)):: .r 20 (.idx 5 (.t 19) (.i 0)):: .r 21 (.ldA 5 (.t 20)):: .c 22 (.f 118) [.t 21]::[]) (.r 23 (.pick (.t 17) (.t 22) (.b false)):: .v 24 23::aV [25,26,27,28,29,30] 24 true (.f 25 4 1:: .r 26 (.ld1 (.t 25)):: .r 27 (.idx 5 (.t 26) (.i 0)):: .f 28 2 27:: .r 29 (.ld1 (.t 28)):: .j 30 .eql 29 1::[]) (.r 31 (.pick (.t 24) (.t 30) (.b false)):: .v 32 31::aV [33,34,35,36,37,38] 32 true (.f 33 4 1:: .r 34 (.ld1 (.t 33)):: .r 35 (.idx 5 (.t 34) (.i 0)):: .f 36 3 35:: .r 37 (.ld1 (.t 36)):: .j 38 .eql 37 1::[]) (.r 39 (.pick (.t 32) (.t 38) (.b false)):: .v 2 39::[]))))))) .ret))
theorem rP:fits Tryz.prog 119 Tryz.f119 lq [.t 2] 1=true:=oK
def nB:(∀ (D:ai),{m:Option (Bool)//∀ r,m=some r->aa Tryz.prog 139 [.agg (ak D)] (.bool r)})×(∀ (D:ai),{m:Option (Bool)//∀ r,m=some r->aa Tryz.prog 119 [.agg (ak D)] (.bool r)}):=by
 refine⟨?g0, ?g1⟩
 case' g0=>(intro D;apply Subtype.mk;intro r Z;apply ag Tryz.func139 zD;unfold ub)
 case' g1=>(intro D;apply Subtype.mk;intro r Z;apply ag Tryz.func119 rP;unfold lq)
 all_goals(repeat'(first|(with_reducible first|refine bn ?_|refine bl ?_|refine bF ?_|refine bm ?_|refine bo ?_|refine cF ?_)|(with_reducible apply cA Z);(iterate 2 (exact bj));intro _;rfl;intro e Z|(with_reducible apply fi);exact bj;(first|exact trivial)|((with_reducible apply eh Z);exact bj;rfl;intro v Z;rotate_left;intro v g Z)|(with_reducible apply dD Z);exact bj;(first|apply oX _|apply jl _);(any_goals((repeat'(first|rfl|(with_reducible first|apply jS|apply sg|apply fk)));done));intro x Z|(with_reducible apply bP Z);exact AM;exact rj|(with_reducible apply b5 Z);exact bj|fail))
def pu (D:ai):Option (Bool):=(nB.1 D).1
theorem yO (D:ai):∀ r,pu D=some r->aa Tryz.prog 139 [.agg (ak D)] (.bool r):=(nB.1 D).2
def hN (D:ai):Option (Bool):=(nB.2 D).1
theorem rg (D:ai):∀ r,hN D=some r->aa Tryz.prog 119 [.agg (ak D)] (.bool r):=(nB.2 D).2
end
noncomputable section
set_option maxRecDepth 100000
set_option maxHeartbeats 40000000
structure cK where
 fUnits:Int
 fPlaces:Int
 deriving DecidableEq
def dG (x:cK):List DV:=[.int .i64 x.fUnits,.int .i64 x.fPlaces]
attribute [push_cast] dG
theorem Cs {d0 o:DV} {v0 a:Int} (h0:d0= .int .i64 v0) (h1:o= .int .i64 a):[d0,o]=dG ⟨v0,a⟩:=by unfold dG;simp only[h0,h1,S_,Tb,S4,Tg]
def wm:SC:=(.sq [.r 2 (.mv (.b false))] (.seq (.reg (.v 3 0:: .r 4 (.bin .neq (.t 3) (.c (.d (.str [])))):: .v 5 4::aV [6,7] 5 true (.v 6 0:: .c 7 (.f 162) [.t 6,.c (.d (.int .u8 48)),.c (.d (.int .u8 57))]::[]) (.r 8 (.pick (.t 5) (.t 7) (.b false)):: .v 2 8::[]))) .ret))
theorem Bl:fits Tryz.prog 151 Tryz.f151 wm [.t 2] 1=true:=oK
def xi:SC:=(.sq [.r 2 (.boxI (.t 0)),.w 4 (.boxM (.c (.agg [.d (.int .i64 0),.d (.int .i64 0)]))),.r 5 (.mv (.i 0))] (.sq [.a 9 2 2,.c 10 (.f 239) [.t 9,.c (.d (.int .i64 1000000000000000))],.v 8 10,.e 11 8 0,.e 12 8 1,.v 6 11,.v 7 12] (.seq (.sq [.v 13 7,.r 14 (.not (.t 13))] (.cond (.t 14) (.sq [.r 15 (.build [.d (.int .i64 0),.d (.int .i64 0)] []),.s 2 4 15,.r 5 (.mv (.i 1))] .ret) .skip)) (.sq [.v 16 6,.v 17 1,.r 18 (.build [.d (.int .i64 0),.d (.int .i64 0)] [(0,1,.t 16),(1,1,.t 17)]),.s 2 4 18,.r 5 (.mv (.i 0))] .ret))))
theorem Ct:fits Tryz.prog 223 Tryz.f223 xi [.cell 4 2,.t 5] 2=true:=oK
def ni:(∀ (D:List UInt8),{m:Option (Bool)//∀ r,m=some r->aa Tryz.prog 151 [.str D] (.bool r)})×(∀ (D:aO) (x1:Int),{m:Option (cK×Int)//∀ r,m=some r->aa Tryz.prog 223 [.agg (bk D),.int .i64 x1] (.tup [.agg (dG r.1),.int .i64 r.2])}):=by
 refine⟨?g0, ?g1⟩
 case' g0=>(intro D;apply Subtype.mk;intro r Z;apply ag Tryz.func151 Bl;unfold wm)
 case' g1=>(intro D x1;apply Subtype.mk;intro r Z;apply ag Tryz.func223 Ct;unfold xi)
 all_goals(repeat'(first|(with_reducible first|refine bn ?_|refine bl ?_|refine aZ ?_|refine bF ?_|refine bm ?_|refine bo ?_|refine bI ?_|refine cF ?_)|(with_reducible apply fi);exact bj;(first|exact trivial)|((with_reducible apply eh Z);exact bj;rfl;intro v Z;rotate_left;intro v g Z)|(with_reducible apply dD Z);exact bj;(first|apply pq _ _ _|apply o8 _ _);(any_goals((repeat'(first|rfl|(with_reducible first|apply fk)|(with_reducible apply GS;decide)));done));intro x Z|(with_reducible apply wi);exact bj;(first|exact trivial)|((with_reducible apply aI Z);exact bj;intro Z;rotate_left;intro Z)|(with_reducible apply iu Z);exact AM;exact er;exact Sf|(with_reducible apply bP Z);exact AM;exact rj|(with_reducible apply b5 Z);exact bj|fail))
def n3 (D:List UInt8):Option (Bool):=(ni.1 D).1
theorem km (D:List UInt8):∀ r,n3 D=some r->aa Tryz.prog 151 [.str D] (.bool r):=(ni.1 D).2
def ef (D:aO) (x1:Int):Option (cK×Int):=(ni.2 D x1).1
theorem Bm (D:aO) (x1:Int):∀ r,ef D x1=some r->aa Tryz.prog 223 [.agg (bk D),.int .i64 x1] (.tup [.agg (dG r.1),.int .i64 r.2]):=(ni.2 D x1).2
def tE:SC:=(.sq [.r 2 (.mv (.b false))] (.seq (.reg (.v 3 0:: .c 4 (.f 151) [.t 3]:: .v 5 4::aV [6,7,8,9,10,11,12,13] 5 true (.v 6 0:: .r 7 (.lenT (.t 6)):: .j 8 .eql 7 1:: .v 9 8::aV [10,11,12] 9 false (.v 10 0:: .r 11 (.sidx (.t 10) (.i 0)):: .r 12 (.bin .neq (.t 11) (.c (.d (.int .u8 48))))::[]) (.r 13 (.pick (.t 9) (.b true) (.t 12))::[])) (.r 14 (.pick (.t 5) (.t 13) (.b false)):: .v 2 14::[]))) .ret))
theorem zk:fits Tryz.prog 203 Tryz.f203 tE [.t 2] 1=true:=oK
def n4:SC:=(.sq [.k 16 .lss 15 14] (.seq (.cond (.t 16) .skip (.exit 0)) (.seq (.block 1 (.sq [.v 17 15,.v 9 17] (.regE [.r 18 (.ldA 2 (.t 8)),.c 19 (.f 218) [.c (.d (.int .i64 10))],.c 20 (.f 219) [.t 18,.t 19],.v 21 1,.v 22 2,.k 23 .add 21 22,.v 24 9,.r 25 (.sidx (.t 23) (.t 24)),.r 26 (.bin .sub (.t 25) (.c (.d (.int .u8 48)))),.r 27 (.cvi .i64 (.t 26)),.c 28 (.f 218) [.t 27],.c 29 (.f 220) [.t 20,.t 28],.x 0 (.st 2 (.t 8) (.t 29)) []]))) (.reg [.j 30 .add 15 1,.v 15 30]))))
def tF:SC:= .block 0 (.loop n4)
def xj:SC:=(.sq [.w 6 (.boxM (.c (.agg [.d (.int .i64 0),.d (.int .i64 0)]))),.r 7 (.mv (.i 0))] (.sq [.c 10 (.f 218) [.c (.d (.int .i64 0))],.w 8 (.boxM (.c (.agg [.d (.bool false),.nils]))),.s 2 8 10] (.seq (.sq [.v 11 1,.v 12 2,.k 13 .add 11 12,.r 14 (.lenT (.t 13)),.r 15 (.mv (.i 0))] tF) (.seq (.sq [.v 31 0] (.cond (.t 31) (.seq (.sq [.a 32 2 8,.c 33 (.f 221) [.t 32],.j 34 .eql 33 0] (.cond (.t 34) (.sq [.r 35 (.build [.d (.int .i64 0),.d (.int .i64 0)] []),.s 2 6 35,.r 7 (.mv (.i 10))] .ret) .skip)) (.reg [.a 36 2 8,.c 37 (.f 222) [.t 36],.s 2 8 37])) .skip)) (.sq [.a 38 2 8,.v 39 2,.r 40 (.lenT (.t 39)),.c 41 (.f 223) [.t 38,.t 40],.e 42 41 0,.e 43 41 1,.s 2 6 42,.v 7 43] .ret)))))
theorem Cu:fits Tryz.prog 204 Tryz.f204 xj [.cell 6 2,.t 7] 3=true:=oK
def nj:(∀ (D:List UInt8),{m:Option (Bool)//∀ r,m=some r->aa Tryz.prog 203 [.str D] (.bool r)})×(∀ (D:Bool) (x1:List UInt8) (x2:List UInt8),{m:Option (cK×Int)//∀ r,m=some r->aa Tryz.prog 204 [.bool D,.str x1,.str x2] (.tup [.agg (dG r.1),.int .i64 r.2])}):=by
 refine⟨?g0, ?g1⟩
 case' g0=>(intro D;apply Subtype.mk;intro r Z;apply ag Tryz.func203 zk;unfold tE)
 case' g1=>(intro D x1 x2;apply Subtype.mk;intro r Z;apply ag Tryz.func204 Cu;unfold xj)
 all_goals(repeat'(first|(with_reducible first|refine bn ?_|refine bl ?_|refine sa ?_|refine aX ?_|refine aZ ?_|refine bF ?_|refine bN ?_|refine bm ?_|refine bo ?_|refine bO ?_|refine bI ?_|refine a8 ?_|refine cF ?_)|(with_reducible apply nZ Z);(iterate 2 (exact bj));intro e Z|(with_reducible apply fi);exact bj;(first|exact trivial)|(with_reducible apply MT Z);(iterate 2 (exact bj));intro Z|((with_reducible apply eh Z);exact bj;rfl;intro v Z;rotate_left;intro v g Z)|((with_reducible apply oF Z);exact bj;rfl;intro v Z;rotate_left;intro v g Z)|(with_reducible apply dD Z);exact bj;(first|apply km _|apply EX _|apply n0 _ _|apply oJ _ _|apply oG _|apply n1 _|apply Bm _ _);(any_goals(exact yi));intro x Z|(with_reducible apply wi);exact bj;(first|exact trivial)|(with_reducible apply N4);exact bj;(first|exact trivial);focus((repeat'(first|exact jH));done)|((with_reducible apply aI Z);exact bj;intro Z;rotate_left;intro Z)|(with_reducible apply iu Z);exact AM;exact er;exact Sf|(with_reducible apply bP Z);exact AM;exact rj|(with_reducible apply b5 Z);exact bj|(with_reducible apply br Z);intro r Z|((apply av (b:=0) (X:=tF) (x:=n4) rfl (fun(c:SV×SV×SV×Ch×SV) (s:aO×Int)=>st [(0,c.1),(1,c.2.1),(2,c.2.2.1),(6,.ref 6 0),(8,.ref 8 0),(14,c.2.2.2.2),(15,.d (.int .i64 s.2))] [(6,c.2.2.2.1),(8,.box (dR (bk s.1)))]) (c:=(_,_,_,_,_)) (s0:=(_,_)) Z);exact er;with_reducible refine cc.mk ?_ ?_)|((apply bz (F:=(_,_)) Z);exact er)|((apply co (F:=(_,_)) Z);exact er)|((with_reducible apply cM.of);exact er;(focus(intro _;repeat'(first|(with_reducible first|exact bd|refine aB ?_))));(intro s o Z;first|unfold n4);rotate_left;intro s Z)|exact SD|fail))
def o_ (D:List UInt8):Option (Bool):=(nj.1 D).1
theorem yD (D:List UInt8):∀ r,o_ D=some r->aa Tryz.prog 203 [.str D] (.bool r):=(nj.1 D).2
def pE (D:Bool) (x1 x2:List UInt8):Option (cK×Int):=(nj.2 D x1 x2).1
theorem Bn (D:Bool) (x1 x2:List UInt8):∀ r,pE D x1 x2=some r->aa Tryz.prog 204 [.bool D,.str x1,.str x2] (.tup [.agg (dG r.1),.int .i64 r.2]):=(nj.2 D x1 x2).2
def sj:SC:=(.sq [.w 2 (.boxM (.c (.agg [.d (.int .i64 0),.d (.int .i64 0)]))),.r 3 (.mv (.i 0))] (.sq [.v 10 0,.c 11 (.f 183) [.t 10,.c (.d (.str [45]))],.v 9 11,.e 12 9 0,.e 13 9 1,.v 4 12,.v 5 13] (.sq [.v 15 4,.c 16 (.f 184) [.t 15,.c (.d (.str [46]))],.v 14 16,.e 17 14 0,.e 18 14 1,.e 19 14 2,.v 6 17,.v 7 18,.v 8 19] (.seq (.seq (.reg (.v 20 0:: .r 21 (.lenT (.t 20)):: .j 22 .gtr 21 40:: .v 23 22::aV [24,25,26] 23 false (.v 24 6:: .c 25 (.f 203) [.t 24]:: .r 26 (.not (.t 25))::[]) (.r 27 (.pick (.t 23) (.b true) (.t 26)):: .v 28 27::aV [29,30,31,32,33,34,35,36,37,38,39] 28 false (.v 29 8:: .v 30 29::aV [31,32,33,34,35,36,37,38] 30 true (.v 31 7:: .c 32 (.f 151) [.t 31]:: .r 33 (.not (.t 32)):: .v 34 33::aV [35,36,37] 34 false (.v 35 7:: .r 36 (.lenT (.t 35)):: .j 37 .gtr 36 9::[]) (.r 38 (.pick (.t 34) (.b true) (.t 37))::[])) (.r 39 (.pick (.t 30) (.t 38) (.b false))::[])) (.r 40 (.pick (.t 28) (.b true) (.t 39))::[])))) (.cond (.t 40) (.sq [.r 41 (.build [.d (.int .i64 0),.d (.int .i64 0)] []),.s 2 2 41,.r 3 (.mv (.i 10))] .ret) .skip)) (.sq [.v 42 5,.v 43 6,.v 44 7,.c 45 (.f 204) [.t 42,.t 43,.t 44],.e 46 45 0,.e 47 45 1,.s 2 2 46,.v 3 47] .ret)))))
theorem yE:fits Tryz.prog 179 Tryz.f179 sj [.cell 2 2,.t 3] 1=true:=oK
def tG:(∀ (D:List UInt8),{m:Option (cK×Int)//∀ r,m=some r->aa Tryz.prog 179 [.str D] (.tup [.agg (dG r.1),.int .i64 r.2])}):=by
 (intro D;apply Subtype.mk;intro r Z;apply ag Tryz.func179 yE;unfold sj)
 repeat'(first|(with_reducible first|refine bn ?_|refine bl ?_|refine aZ ?_|refine bF ?_|refine bm ?_|refine bo ?_|refine bI ?_)|(with_reducible apply fi);exact bj;(first|exact trivial)|((with_reducible apply eh Z);exact bj;rfl;intro v Z;rotate_left;intro v g Z)|((with_reducible apply oF Z);exact bj;rfl;intro v Z;rotate_left;intro v g Z)|(with_reducible apply dD Z);exact bj;(first|apply ow _ _|apply u_ _ _|apply yD _|apply km _|apply Bn _ _ _);(any_goals(exact yi));intro x Z|(with_reducible apply wi);exact bj;(first|exact trivial)|((with_reducible apply aI Z);exact bj;intro Z;rotate_left;intro Z)|(with_reducible apply iu Z);exact AM;exact er;exact Sf|(with_reducible apply b5 Z);exact bj|fail)
def kn (D:List UInt8):Option (cK×Int):=(tG D).1
theorem xk (D:List UInt8):∀ r,kn D=some r->aa Tryz.prog 179 [.str D] (.tup [.agg (dG r.1),.int .i64 r.2]):=(tG D).2
end
noncomputable section
set_option maxRecDepth 100000
set_option maxHeartbeats 40000000
structure bK where
 fRepeats:List (List (List UInt8))
 deriving DecidableEq
variable {d0:DV}
def aF (x:bK):List DV:=[.slice (List.map (fy bS) x.fRepeats)]
attribute [push_cast] aF
theorem CD {v0:List (List (List UInt8))} (h0:d0= .slice (List.map (fy bS) v0)):[d0]=aF ⟨v0⟩:=by unfold aF;simp only[h0,S_,Tb,S4,Tg]
structure af where
 fTag:List UInt8
 fElements:List bK
 deriving DecidableEq
def al (x:af):List DV:=[.str x.fTag,.slice (List.map aF x.fElements)]
attribute [push_cast] al
theorem CE {o:DV} {v0:List UInt8} {a:List bK} (h0:d0= .str v0) (h1:o= .slice (List.map aF a)):[d0,o]=al ⟨v0,a⟩:=by unfold al;simp only[h0,h1,S_,Tb,S4,Tg]
def yY:SC:=(.sq [.r 2 (.mv (.b false))] (.seq (.reg (.v 3 0:: .r 4 (.lenT (.t 3)):: .j 5 .leq 4 1000:: .v 6 5::aV [7,8] 6 true (.v 7 0:: .c 8 (.f 162) [.t 7,.c (.d (.int .u8 32)),.c (.d (.int .u8 126))]::[]) (.r 9 (.pick (.t 6) (.t 8) (.b false)):: .v 2 9::[]))) .ret))
theorem Ec:fits Tryz.prog 141 Tryz.f141 yY [.t 2] 1=true:=oK
def eO:SC:=(.seq (.sq [.v 7 3,.v 8 0,.r 9 (.lenT (.t 8)),.k 10 .lss 7 9] (.cond (.t 10) .skip (.exit 0))) (.seq (.block 1 (.seq (.reg (.v 13 0:: .v 14 3:: .r 15 (.sidx (.t 13) (.t 14)):: .r 16 (.bin .lss (.t 15) (.c (.d (.int .u8 32)))):: .v 17 16::aV [18,19,20,21] 17 false (.v 18 0:: .v 19 3:: .r 20 (.sidx (.t 18) (.t 19)):: .r 21 (.bin .gtr (.t 20) (.c (.d (.int .u8 126))))::[]) (.r 22 (.pick (.t 17) (.b true) (.t 21))::[]))) (.cond (.t 22) (.sq [.r 2 (.mv (.i 3))] .ret) .skip))) (.reg [.v 11 3,.j 12 .add 11 1,.v 3 12])))
def iT:SC:= .block 0 (.loop eO)
def kb:SC:=(.sq [.r 2 (.mv (.i 0))] (.seq (.sq [.v 4 0,.r 5 (.lenT (.t 4)),.j 6 .gtr 5 1000] (.cond (.t 6) (.sq [.r 2 (.mv (.i 2))] .ret) .skip)) (.seq (.sq [.r 3 (.mv (.i 0))] iT) (.sq [.r 2 (.mv (.i 0))] .ret))))
theorem qK:fits Tryz.prog 108 Tryz.f108 kb [.t 2] 1=true:=oK
def nC:(∀ (D:List UInt8),{m:Option (Bool)//∀ r,m=some r->aa Tryz.prog 141 [.str D] (.bool r)})×(∀ (D:List UInt8),{m:Option (Int)//∀ r,m=some r->aa Tryz.prog 108 [.str D] (.int .i64 r)}):=by
 refine⟨?g0, ?g1⟩
 case' g0=>(intro D;apply Subtype.mk;intro r Z;apply ag Tryz.func141 Ec;unfold yY)
 case' g1=>(intro D;apply Subtype.mk;intro r Z;apply ag Tryz.func108 qK;unfold kb)
 all_goals(repeat'(first|with_reducible refine bn ?_|with_reducible refine bl ?_|with_reducible refine aX ?_|with_reducible refine aZ ?_|with_reducible refine bF ?_|with_reducible refine bN ?_|with_reducible refine bm ?_|with_reducible refine bo ?_|with_reducible refine bO ?_|with_reducible refine bI ?_|with_reducible refine a8 ?_|with_reducible refine bE ?_|((with_reducible apply nZ Z);(iterate 2 (simp only[push_cast,seval];rfl));intro e Z)|((with_reducible apply fi);(simp only[push_cast,seval];rfl);(first|exact trivial))|((with_reducible apply eh Z);(simp only[push_cast,seval];rfl);rfl;intro v Z;rotate_left;intro v g Z)|((with_reducible apply oF Z);(simp only[push_cast,seval];rfl);rfl;intro v Z;rotate_left;intro v g Z)|((with_reducible apply dD Z);(simp only[push_cast,seval];rfl);(first|apply pq _ _ _);(any_goals((repeat'(first|rfl|(with_reducible first|apply fk)|(with_reducible apply GS;decide)));done));intro x Z)|((with_reducible apply aI Z);(simp only[push_cast,seval];rfl);intro Z;rotate_left;intro Z)|((with_reducible apply bP Z);(focus(simp only[cE,eS,RV.get,push_cast,seval];rfl));(focus((repeat'(first|rfl));done)))|((with_reducible apply b5 Z);(simp only[push_cast,seval];rfl))|((with_reducible apply br Z);intro r Z)|((with_reducible apply b8 Z);intro r Z)|((apply av (b:=0) (X:=iT) (x:=eO) rfl (fun(c:SV) (s:Int)=>st [(0,c),(3,.d (.int .i64 s))] []) (c:=_) (s0:=_) Z);(focus(first|(dsimp only;done)));(with_reducible refine cc.mk ?_ ?_))|((apply bz (F:=_) Z);(focus(first|(dsimp only;done))))|((apply co (F:=_) Z);(focus(first|(dsimp only;done))))|(((with_reducible apply dQ Z);intro r Z))|(((with_reducible apply cM.of);(focus(first|(dsimp only;done)));(focus((intro _;repeat'(first|with_reducible exact bd|with_reducible refine aB ?_))));(intro s o Z;first|unfold eO);rotate_left;intro s Z))|(((apply a7;(repeat'(first|with_reducible exact aw|with_reducible exact ax|with_reducible apply aq|((with_reducible apply aS);(focus(first|(simp only[push_cast,seval];rfl)));(focus((repeat'(first|rfl));done)))));done)))))
def As (D:List UInt8):Option (Bool):=(nC.1 D).1
theorem CF (D:List UInt8):∀ r,As D=some r->aa Tryz.prog 141 [.str D] (.bool r):=(nC.1 D).2
def gq (D:List UInt8):Option (Int):=(nC.2 D).1
theorem pv (D:List UInt8):∀ r,gq D=some r->aa Tryz.prog 108 [.str D] (.int .i64 r):=(nC.2 D).2
def uc:SC:=(.sq [.r 2 (.mv (.i 0))] (.seq (.sq [.v 3 0,.r 4 (.lenT (.t 3)),.j 5 .gtr 4 1000] (.cond (.t 5) (.sq [.r 2 (.mv (.i 2))] .ret) .skip)) (.seq (.sq [.v 6 0,.c 7 (.f 141) [.t 6],.r 8 (.not (.t 7))] (.cond (.t 8) (.sq [.r 2 (.mv (.i 3))] .ret) .skip)) (.sq [.r 2 (.mv (.i 0))] .ret))))
theorem zE:fits Tryz.prog 100 Tryz.f100 uc [.t 2] 1=true:=oK
def dW:SC:=(.seq (.sq [.v 35 4,.f 36 0 1,.l 37 36,.v 38 3,.y 39 1 37 38,.l 40 39,.h 41 40,.k 42 .lss 35 41] (.cond (.t 42) .skip (.exit 2))) (.seq (.block 3 (.sq [.f 45 0 1,.l 46 45,.v 47 3,.y 48 1 46 47,.l 49 48,.v 50 4,.y 51 1 49 50,.l 52 51,.c 53 (.f 108) [.t 52],.v 5 53] (.sq [.v 54 5,.j 55 .neq 54 0] (.cond (.t 55) (.sq [.v 56 5,.v 2 56] .ret) .skip)))) (.reg [.v 43 4,.j 44 .add 43 1,.v 4 44])))
def gU:SC:= .block 2 (.loop dW)
def dX:SC:=(.seq (.sq [.v 14 3,.f 15 0 1,.l 16 15,.h 17 16,.k 18 .lss 14 17] (.cond (.t 18) .skip (.exit 0))) (.seq (.block 1 (.seq (.sq [.f 21 0 1,.l 22 21,.v 23 3,.y 24 1 22 23,.l 25 24,.h 26 25,.j 27 .eql 26 0] (.cond (.t 27) (.sq [.r 2 (.mv (.i 9))] .ret) .skip)) (.seq (.sq [.f 28 0 1,.l 29 28,.v 30 3,.y 31 1 29 30,.l 32 31,.h 33 32,.j 34 .gtr 33 20] (.cond (.t 34) (.sq [.r 2 (.mv (.i 2))] .ret) .skip)) (.sq [.r 4 (.mv (.i 0))] gU)))) (.reg [.v 19 3,.j 20 .add 19 1,.v 3 20])))
def gV:SC:= .block 0 (.loop dX)
def iU:SC:=(.sq [.r 1 (.boxI (.t 0)),.r 2 (.mv (.i 0))] (.seq (.sq [.f 6 0 1,.l 7 6,.h 8 7,.j 9 .eql 8 0] (.cond (.t 9) (.sq [.r 2 (.mv (.i 9))] .ret) .skip)) (.seq (.sq [.f 10 0 1,.l 11 10,.h 12 11,.j 13 .gtr 12 20] (.cond (.t 13) (.sq [.r 2 (.mv (.i 2))] .ret) .skip)) (.seq (.sq [.r 3 (.mv (.i 0))] gV) (.sq [.r 2 (.mv (.i 0))] .ret)))))
theorem ou:fits Tryz.prog 63 Tryz.f63 iU [.t 2] 1=true:=oK
def nD:(∀ (D:List UInt8),{m:Option (Int)//∀ r,m=some r->aa Tryz.prog 100 [.str D] (.int .i64 r)})×(∀ (D:bK),{m:Option (Int)//∀ r,m=some r->aa Tryz.prog 63 [.agg (aF D)] (.int .i64 r)}):=by
 refine⟨?g0, ?g1⟩
 case' g0=>(intro D;apply Subtype.mk;intro r Z;apply ag Tryz.func100 zE;unfold uc)
 case' g1=>(intro D;apply Subtype.mk;intro r Z;apply ag Tryz.func63 ou;unfold iU)
 all_goals(repeat'(first|with_reducible refine bn ?_|with_reducible refine bl ?_|with_reducible refine aX ?_|with_reducible refine aZ ?_|with_reducible refine bF ?_|with_reducible refine bN ?_|with_reducible refine bm ?_|with_reducible refine bo ?_|with_reducible refine bO ?_|with_reducible refine bI ?_|with_reducible refine a8 ?_|with_reducible refine bE ?_|with_reducible refine cF ?_|((with_reducible apply cA Z);(iterate 2 (simp only[push_cast,seval];rfl));(intro _;rfl);intro e Z)|((with_reducible apply fi);(simp only[push_cast,seval];rfl);(first|exact trivial))|((with_reducible apply dD Z);(simp only[push_cast,seval];rfl);(first|apply CF _|apply pv _);(any_goals((repeat'(first|rfl));done));intro x Z)|((with_reducible apply aI Z);(simp only[push_cast,seval];rfl);intro Z;rotate_left;intro Z)|((with_reducible apply bP Z);(focus(simp only[cE,eS,RV.get,push_cast,seval];rfl));(focus((repeat'(first|rfl));done)))|((with_reducible apply br Z);intro r Z)|((with_reducible apply b8 Z);intro r Z)|((apply av (b:=2) (X:=gU) (x:=dW) rfl (fun(c:SV×SV) (s:Int)=>st [(1,c.1),(3,c.2),(4,.d (.int .i64 s))] []) (c:=(_,_)) (s0:=_) Z);(focus(first|(dsimp only;done)));(with_reducible refine cc.mk ?_ ?_))|((apply av (b:=0) (X:=gV) (x:=dX) rfl (fun(c:SV) (s:Int)=>st [(1,c),(3,.d (.int .i64 s))] []) (c:=_) (s0:=_) Z);(focus(first|(dsimp only;done)));(with_reducible refine cc.mk ?_ ?_))|((apply bz (F:=_) Z);(focus(first|(dsimp only;done))))|((apply co (F:=_) Z);(focus(first|(dsimp only;done))))|(((with_reducible apply dQ Z);intro r Z))|(((with_reducible apply cM.of);(focus(first|(dsimp only;done)));(focus((intro _;repeat'(first|with_reducible exact bd|with_reducible refine aB ?_|with_reducible refine cz ?_|((with_reducible refine c2 ?_);intro _)|((with_reducible refine dZ ?_);intro _)))));(intro s o Z;first|unfold dW|unfold dX);rotate_left;intro s Z))|(((apply a7;(repeat'(first|with_reducible exact aw|with_reducible exact ax|with_reducible apply aq|((with_reducible apply aS);(focus(first|(simp only[push_cast,seval];rfl)));(focus((repeat'(first|rfl));done)))));done)))))
def pw (D:List UInt8):Option (Int):=(nD.1 D).1
theorem yP (D:List UInt8):∀ r,pw D=some r->aa Tryz.prog 100 [.str D] (.int .i64 r):=(nD.1 D).2
def e9 (D:bK):Option (Int):=(nD.2 D).1
theorem nO (D:bK):∀ r,e9 D=some r->aa Tryz.prog 63 [.agg (aF D)] (.int .i64 r):=(nD.2 D).2
def jm:SC:=(.sq [.k 32 .lss 31 30] (.seq (.cond (.t 32) .skip (.exit 2)) (.seq (.block 3 (.sq [.y 33 1 29 31,.l 34 33,.v 6 34] (.sq [.v 35 6,.c 36 (.f 100) [.t 35],.v 7 36] (.sq [.v 37 7,.j 38 .neq 37 0] (.cond (.t 38) (.sq [.v 39 7,.v 2 39] .ret) .skip))))) (.reg [.j 40 .add 31 1,.v 31 40]))))
def nE:SC:= .block 2 (.loop jm)
def jn:SC:=(.sq [.k 20 .lss 19 18] (.seq (.cond (.t 20) .skip (.exit 0)) (.seq (.block 1 (.sq [.y 21 1 17 19,.l 22 21,.v 4 22] (.seq (.sq [.v 23 4,.h 24 23,.j 25 .eql 24 0] (.cond (.t 25) (.sq [.r 2 (.mv (.i 9))] .ret) .skip)) (.seq (.sq [.v 26 4,.h 27 26,.j 28 .gtr 27 20] (.cond (.t 28) (.sq [.r 2 (.mv (.i 2))] .ret) .skip)) (.sq [.v 29 4,.h 30 29,.r 31 (.mv (.i 0))] nE))))) (.reg [.j 41 .add 19 1,.v 19 41]))))
def nF:SC:= .block 0 (.loop jn)
def qL:SC:=(.sq [.r 1 (.boxI (.t 0)),.r 2 (.mv (.i 0))] (.seq (.sq [.f 8 0 1,.l 9 8,.h 10 9,.j 11 .eql 10 0] (.cond (.t 11) (.sq [.r 2 (.mv (.i 9))] .ret) .skip)) (.seq (.sq [.f 12 0 1,.l 13 12,.h 14 13,.j 15 .gtr 14 20] (.cond (.t 15) (.sq [.r 2 (.mv (.i 2))] .ret) .skip)) (.seq (.sq [.f 16 0 1,.l 17 16,.h 18 17,.r 19 (.mv (.i 0))] nF) (.sq [.r 2 (.mv (.i 0))] .ret)))))
theorem wI:fits Tryz.prog 53 Tryz.f53 qL [.t 2] 1=true:=oK
def e_:SC:=(.seq (.sq [.v 13 3,.f 14 1 1,.l 15 14,.h 16 15,.k 17 .lss 13 16] (.cond (.t 17) .skip (.exit 0))) (.seq (.block 1 (.sq [.f 20 1 1,.l 21 20,.v 22 3,.y 23 1 21 22,.a 24 1 23,.c 25 (.f 63) [.t 24],.v 4 25] (.sq [.v 26 4,.j 27 .neq 26 0] (.cond (.t 27) (.sq [.v 28 4,.v 2 28] .ret) .skip)))) (.reg [.v 18 3,.j 19 .add 18 1,.v 3 19])))
def jo:SC:= .block 0 (.loop e_)
def kJ:SC:=(.sq [.r 1 (.boxI (.t 0)),.r 2 (.mv (.i 0))] (.seq (.sq [.f 5 0 1,.l 6 5,.c 7 (.f 61) [.t 6],.r 8 (.not (.t 7))] (.cond (.t 8) (.sq [.r 2 (.mv (.i 5))] .ret) .skip)) (.seq (.sq [.f 9 1 1,.l 10 9,.h 11 10,.j 12 .gtr 11 50] (.cond (.t 12) (.sq [.r 2 (.mv (.i 2))] .ret) .skip)) (.seq (.sq [.r 3 (.mv (.i 0))] jo) (.sq [.r 2 (.mv (.i 0))] .ret)))))
theorem rh:fits Tryz.prog 29 Tryz.f29 kJ [.t 2] 1=true:=oK
def nG:(∀ (D:bK),{m:Option (Int)//∀ r,m=some r->aa Tryz.prog 53 [.agg (aF D)] (.int .i64 r)})×(∀ (D:af),{m:Option (Int)//∀ r,m=some r->aa Tryz.prog 29 [.agg (al D)] (.int .i64 r)}):=by
 refine⟨?g0, ?g1⟩
 case' g0=>(intro D;apply Subtype.mk;intro r Z;apply ag Tryz.func53 wI;unfold qL)
 case' g1=>(intro D;apply Subtype.mk;intro r Z;apply ag Tryz.func29 rh;unfold kJ)
 all_goals(repeat'(first|with_reducible refine bn ?_|with_reducible refine bl ?_|with_reducible refine aX ?_|with_reducible refine aZ ?_|with_reducible refine bF ?_|with_reducible refine bN ?_|with_reducible refine bm ?_|with_reducible refine bo ?_|with_reducible refine bO ?_|with_reducible refine bI ?_|with_reducible refine a8 ?_|with_reducible refine bE ?_|with_reducible refine cF ?_|((with_reducible apply cA Z);(iterate 2 (simp only[push_cast,seval];rfl));(intro _;rfl);intro e Z)|((with_reducible apply fi);(simp only[push_cast,seval];rfl);(first|exact trivial))|((with_reducible apply dD Z);(simp only[push_cast,seval];rfl);(first|apply yP _|apply gT _|apply nO _);(any_goals((repeat'(first|rfl));done));intro x Z)|((with_reducible apply aI Z);(simp only[push_cast,seval];rfl);intro Z;rotate_left;intro Z)|((with_reducible apply bP Z);(focus(simp only[cE,eS,RV.get,push_cast,seval];rfl));(focus((repeat'(first|rfl));done)))|((with_reducible apply br Z);intro r Z)|((with_reducible apply b8 Z);intro r Z)|((apply av (b:=2) (X:=nE) (x:=jm) rfl (fun(c:SV×SV×SV×SV×SV) (s:Int)=>st [(17,c.1),(18,c.2.1),(19,c.2.2.1),(29,c.2.2.2.1),(30,c.2.2.2.2),(31,.d (.int .i64 s))] []) (c:=(_,_,_,_,_)) (s0:=_) Z);(focus(first|(dsimp only;done)));(with_reducible refine cc.mk ?_ ?_))|((apply av (b:=0) (X:=nF) (x:=jn) rfl (fun(c:SV×SV) (s:Int)=>st [(17,c.1),(18,c.2),(19,.d (.int .i64 s))] []) (c:=(_,_)) (s0:=_) Z);(focus(first|(dsimp only;done)));(with_reducible refine cc.mk ?_ ?_))|((apply av (b:=0) (X:=jo) (x:=e_) rfl (fun(c:SV) (s:Int)=>st [(1,c),(3,.d (.int .i64 s))] []) (c:=_) (s0:=_) Z);(focus(first|(dsimp only;done)));(with_reducible refine cc.mk ?_ ?_))|((apply bz (F:=_) Z);(focus(first|(dsimp only;done))))|((apply co (F:=_) Z);(focus(first|(dsimp only;done))))|(((with_reducible apply dQ Z);intro r Z))|(((with_reducible apply cM.of);(focus(first|(dsimp only;done)));(focus((intro _;repeat'(first|with_reducible exact bd|with_reducible refine aB ?_|with_reducible refine cz ?_|((with_reducible refine c2 ?_);intro _)|((with_reducible refine dZ ?_);intro _)))));(intro s o Z;first|unfold jm|unfold jn|unfold e_);rotate_left;intro s Z))|(((apply a7;(repeat'(first|with_reducible exact aw|with_reducible exact ax|with_reducible apply aq|((with_reducible apply aS);(focus(first|(simp only[push_cast,seval];rfl)));(focus((repeat'(first|rfl));done)))));done)))))
def mg (D:bK):Option (Int):=(nG.1 D).1
theorem vX (D:bK):∀ r,mg D=some r->aa Tryz.prog 53 [.agg (aF D)] (.int .i64 r):=(nG.1 D).2
def gW (D:af):Option (Int):=(nG.2 D).1
theorem qM (D:af):∀ r,gW D=some r->aa Tryz.prog 29 [.agg (al D)] (.int .i64 r):=(nG.2 D).2
def iH:SC:=(.sq [.k 29 .lss 28 27] (.seq (.cond (.t 29) .skip (.exit 2)) (.seq (.block 3 (.sq [.y 30 1 26 28,.a 31 1 30,.w 6 (.boxM (.c (.agg [.nils]))),.s 1 6 31] (.sq [.a 32 1 6,.c 33 (.f 53) [.t 32],.v 7 33] (.sq [.v 34 7,.j 35 .neq 34 0] (.cond (.t 35) (.sq [.v 36 7,.v 2 36] .ret) .skip))))) (.reg [.j 37 .add 28 1,.v 28 37]))))
def mF:SC:= .block 2 (.loop iH)
def iI:SC:=(.sq [.k 14 .lss 13 12] (.seq (.cond (.t 14) .skip (.exit 0)) (.seq (.block 1 (.sq [.y 15 2 11 13,.a 16 2 15,.w 4 (.boxM (.c (.agg [.d (.str []),.nils]))),.s 2 4 16] (.seq (.sq [.f 17 0 4,.l 18 17,.c 19 (.f 52) [.t 18],.r 20 (.not (.t 19))] (.cond (.t 20) (.sq [.r 2 (.mv (.i 5))] .ret) .skip)) (.seq (.sq [.f 21 1 4,.l 22 21,.h 23 22,.j 24 .gtr 23 50] (.cond (.t 24) (.sq [.r 2 (.mv (.i 2))] .ret) .skip)) (.sq [.f 25 1 4,.l 26 25,.h 27 26,.r 28 (.mv (.i 0))] mF))))) (.reg [.j 38 .add 13 1,.v 13 38]))))
def mG:SC:= .block 0 (.loop iI)
def oY:SC:=(.sq [.r 2 (.mv (.i 0))] (.seq (.sq [.v 8 0,.h 9 8,.j 10 .gtr 9 2000] (.cond (.t 10) (.sq [.r 2 (.mv (.i 2))] .ret) .skip)) (.seq (.sq [.v 11 0,.h 12 11,.r 13 (.mv (.i 0))] mG) (.sq [.r 2 (.mv (.i 0))] .ret))))
theorem vY:fits Tryz.prog 26 Tryz.f26 oY [.t 2] 1=true:=oK
def x_:(∀ (D:List af),{m:Option (Int)//∀ r,m=some r->aa Tryz.prog 26 [.slice (List.map al D)] (.int .i64 r)}):=by
 (intro D;apply Subtype.mk;intro r Z;apply ag Tryz.func26 vY;unfold oY)
 repeat'(first|with_reducible refine bn ?_|with_reducible refine bl ?_|with_reducible refine aX ?_|with_reducible refine aZ ?_|with_reducible refine bF ?_|with_reducible refine bN ?_|with_reducible refine bm ?_|with_reducible refine bo ?_|with_reducible refine bO ?_|with_reducible refine bI ?_|with_reducible refine a8 ?_|with_reducible refine bE ?_|with_reducible refine cF ?_|((with_reducible apply cA Z);(iterate 2 (simp only[push_cast,seval];rfl));(intro _;rfl);intro e Z)|((with_reducible apply fi);(simp only[push_cast,seval];rfl);(first|exact trivial))|((with_reducible apply dD Z);(simp only[push_cast,seval];rfl);(first|apply ot _|apply vX _);(any_goals((repeat'(first|rfl));done));intro x Z)|((with_reducible apply wi);(simp only[push_cast,seval];rfl);(first|exact trivial))|((with_reducible apply aI Z);(simp only[push_cast,seval];rfl);intro Z;rotate_left;intro Z)|((with_reducible apply bP Z);(focus(simp only[cE,eS,RV.get,push_cast,seval];rfl));(focus((repeat'(first|rfl));done)))|((with_reducible apply br Z);intro r Z)|((with_reducible apply b8 Z);intro r Z)|((apply av (b:=2) (X:=mF) (x:=iH) rfl (fun(c:SV×SV×SV×SV×SV) (s:Int)=>st [(11,c.1),(12,c.2.1),(13,c.2.2.1),(26,c.2.2.2.1),(27,c.2.2.2.2),(28,.d (.int .i64 s))] []) (c:=(_,_,_,_,_)) (s0:=_) Z);(focus(first|(dsimp only;done)));(with_reducible refine cc.mk ?_ ?_))|((apply av (b:=0) (X:=mG) (x:=iI) rfl (fun(c:SV×SV) (s:Int)=>st [(11,c.1),(12,c.2),(13,.d (.int .i64 s))] []) (c:=(_,_)) (s0:=_) Z);(focus(first|(dsimp only;done)));(with_reducible refine cc.mk ?_ ?_))|((apply bz (F:=_) Z);(focus(first|(dsimp only;done))))|((apply co (F:=_) Z);(focus(first|(dsimp only;done))))|(((with_reducible apply dQ Z);intro r Z))|(((with_reducible apply cM.of);(focus(first|(dsimp only;done)));(focus((intro _;repeat'(first|with_reducible exact bd|with_reducible refine aB ?_|with_reducible refine cz ?_|((with_reducible refine c2 ?_);intro _)|((with_reducible refine dZ ?_);intro _)))));(intro s o Z;first|unfold iH|unfold iI);rotate_left;intro s Z))|(((apply a7;(repeat'(first|with_reducible exact aw|with_reducible exact ax|with_reducible apply aq|((with_reducible apply aS);(focus(first|(simp only[push_cast,seval];rfl)));(focus((repeat'(first|rfl));done)))));done))))
def ip (D:List af):Option (Int):=(x_ D).1
theorem uZ (D:List af):∀ r,ip D=some r->aa Tryz.prog 26 [.slice (List.map al D)] (.int .i64 r):=(x_ D).2
end
end Go.Proofs.YteaolfcegaidpaaGreatDoor
