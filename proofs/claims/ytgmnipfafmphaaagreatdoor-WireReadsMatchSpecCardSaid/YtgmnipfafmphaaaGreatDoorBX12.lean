/-
  Laws on the way to the theorem.
-/
import Derived.Test.YtgmnipfafmphaaaGreatDoorBX10
import Derived.Test.YtgmnipfafmphaaaGreatDoorBX11
import Derived.Test.YtgmnipfafmphaaaGreatDoorCards
import Derived.Test.YtgmnipfafmphaaaGreatDoorTie
import Derived.Test.YtgmnipfafmphaaaGreatDoorSXEngRn
namespace Go.Proofs.YtgmnipfafmphaaaGreatDoor
section
open Go.RowKit
set_option linter.unusedSimpArgs false
set_option linter.unusedVariables false
noncomputable section
set_option maxRecDepth 100000
set_option maxHeartbeats 40000000
def mf:SC:=(.sq [.r 5 (.boxI (.t 1)),.r 8 (.mv (.i 0))] (.seq (.regD [.v 9 0,.v 10 3,.v 11 0,.h 12 11,.r 13 (.mins (.t 10) [.t 12]),.r 14 (.slc 2 (.t 9) none (some (.t 13))),.r 15 (.ldA 5 (.t 5)),.v 16 2,.c 17 (.f 70) [.t 14,.t 15,.t 16],.n 18 17,.f 19 5 18,.r 20 (.ld1 (.t 19)),.h 21 20,.v 8 21]) .ret))
theorem ro:fits Tryz.prog 31 Tryz.f31 mf [.t 8] 4=true:=oK
def wP:(∀ (B:List aa) (x1:ab) (x2:Bool) (d:Int),{m:Option (Int)//∀ r,m=some r->ac Tryz.prog 31 [.slice (List.map af B),.agg (aA x1),.bool x2,.int .i64 d] (.int .i64 r)}):=by
 (intro B x1 x2 d;apply Subtype.mk;intro r Z;apply au Tryz.func31 ro;unfold mf)
 repeat'(first|(with_reducible first|refine cE ?_|refine cm ?_|refine eG ?_|refine dL ?_|refine cn ?_|refine cF ?_)|(with_reducible apply wc Z);(iterate 3 (exact aj));intro _;rfl;intro e Z|(with_reducible apply KL Z);exact aj;intro a Z|(with_reducible apply jj);exact aj;(first|exact trivial)|(with_reducible apply lE Z);exact aj;(first|apply qV _ _ _);(any_goals(exact nJ));intro x Z|(with_reducible apply eH Z);exact lz;exact cY|fail)
def i_ (B:List aa) (x1:ab) (x2:Bool) (d:Int):Option (Int):=(wP B x1 x2 d).1
theorem q0 (B:List aa) (x1:ab) (x2:Bool) (d:Int):∀ r,i_ B x1 x2 d=some r->ac Tryz.prog 31 [.slice (List.map af B),.agg (aA x1),.bool x2,.int .i64 d] (.int .i64 r):=(wP B x1 x2 d).2
def iO:SC:=(.seq (.sq [.v 75 14,.v 76 11,.h 77 76,.k 78 .lss 75 77] (.cond (.t 78) .skip (.exit 0))) (.seq (.block 1 (.sq [.v 81 11,.v 82 14,.y 83 2 81 82,.f 84 0 83,.l 85 84,.r 86 (.bin .eql (.t 85) (.c (.d (.str [73,72,68]))))] (.cond (.t 86) (.seq (.regE [.r 87 (.ldA 7 (.t 7)),.r 88 (.build [.d (.int .u8 0),.d (.int .u8 0),.d (.int .u8 0),.d (.int .u8 0),.d (.int .u8 0)] []),.v 89 11,.r 90 (.ldA 5 (.t 8)),.v 91 12,.v 92 14,.c 93 (.f 31) [.t 89,.t 90,.t 91,.t 92],.r 94 (.bin .add (.i 8) (.t 93)),.x 0 (.st 7 (.t 2) (.t 87)) [(1,88,.build [.d (.int .u8 0),.d (.int .u8 0),.d (.int .u8 0),.d (.int .u8 0),.d (.int .u8 0)] []),(7,94,.bin .add (.i 8) (.t 93))],.x 0 (.st 5 (.t 3) (.t 88)) [(7,94,.bin .add (.i 8) (.t 93))],.r 4 (.mv (.b false)),.v 5 94,.r 6 (.mv (.i 3))]) .ret) .skip))) (.reg [.v 79 14,.j 80 .add 79 1,.v 14 80])))
def mg:SC:= .block 0 (.loop iO)
def n3:SC:=(.sq [.w 2 (.boxM (.c (.agg [.d (.str []),.d (.str []),.d (.str []),.d (.int .i64 0),.d (.int .i64 0),.d (.bool false),.nils]))),.w 3 (.boxM (.c (.agg [.d (.int .u8 0),.d (.int .u8 0),.d (.int .u8 0),.d (.int .u8 0),.d (.int .u8 0)]))),.r 4 (.mv (.b false)),.r 5 (.mv (.i 0)),.r 6 (.mv (.i 0))] (.sq [.r 17 (.build [.d (.str []),.d (.str []),.d (.str []),.d (.int .i64 0),.d (.int .i64 0),.d (.bool false),.nils] []),.w 7 (.boxM (.c (.agg [.d (.str []),.d (.str []),.d (.str []),.d (.int .i64 0),.d (.int .i64 0),.d (.bool false),.nils]))),.s 7 7 17] (.sq [.v 19 0,.c 20 (.f 28) [.t 19],.v 18 20,.e 21 18 0,.e 22 18 1,.e 23 18 2,.w 8 (.boxM (.c (.agg [.d (.int .u8 0),.d (.int .u8 0),.d (.int .u8 0),.d (.int .u8 0),.d (.int .u8 0)]))),.s 5 8 21,.v 9 22,.v 10 23] (.seq (.sq [.v 24 10,.j 25 .neq 24 0] (.cond (.t 25) (.sq [.a 26 7 7,.r 27 (.build [.d (.int .u8 0),.d (.int .u8 0),.d (.int .u8 0),.d (.int .u8 0),.d (.int .u8 0)] []),.v 28 9,.v 29 10,.s 7 2 26,.s 5 3 27,.r 4 (.mv (.b false)),.v 5 28,.v 6 29] .ret) .skip)) (.seq (.sq [.v 30 0,.h 31 30,.j 32 .gtr 31 500000] (.cond (.t 32) (.sq [.a 33 7 7,.r 34 (.build [.d (.int .u8 0),.d (.int .u8 0),.d (.int .u8 0),.d (.int .u8 0),.d (.int .u8 0)] []),.s 7 2 33,.s 5 3 34,.r 4 (.mv (.b false)),.r 5 (.mv (.i 0)),.r 6 (.mv (.i 2))] .ret) .skip)) (.seq (.regD [.v 36 0,.r 37 (.slc 1 (.t 36) (some (.i 8)) none),.r 38 (.ldA 5 (.t 8)),.c 39 (.f 29) [.t 37,.t 38],.v 35 39,.e 40 35 0,.e 41 35 1,.e 42 35 2,.e 43 35 3,.v 11 40,.v 12 41,.v 9 42,.v 10 43]) (.seq (.sq [.v 44 10,.j 45 .neq 44 0] (.cond (.t 45) (.seq (.sq [.v 46 10,.j 47 .eql 46 10] (.cond (.t 47) (.reg [.v 48 9,.j 49 .add 48 8,.v 9 49]) .skip)) (.sq [.a 50 7 7,.r 51 (.build [.d (.int .u8 0),.d (.int .u8 0),.d (.int .u8 0),.d (.int .u8 0),.d (.int .u8 0)] []),.v 52 9,.v 53 10,.s 7 2 50,.s 5 3 51,.r 4 (.mv (.b false)),.v 5 52,.v 6 53] .ret)) .skip)) (.seq (.sq [.v 54 11,.c 55 (.f 30) [.t 54],.v 13 55] (.sq [.v 56 13,.h 57 56,.j 58 .gtr 57 0] (.cond (.t 58) (.seq (.regE [.r 59 (.ldA 7 (.t 7)),.r 60 (.build [.d (.int .u8 0),.d (.int .u8 0),.d (.int .u8 0),.d (.int .u8 0),.d (.int .u8 0)] []),.v 61 11,.r 62 (.ldA 5 (.t 8)),.v 63 12,.v 64 13,.r 65 (.idx 2 (.t 64) (.i 0)),.f 66 1 65,.r 67 (.ld1 (.t 66)),.c 68 (.f 31) [.t 61,.t 62,.t 63,.t 67],.r 69 (.bin .add (.i 8) (.t 68)),.x 0 (.st 7 (.t 2) (.t 59)) [(1,60,.build [.d (.int .u8 0),.d (.int .u8 0),.d (.int .u8 0),.d (.int .u8 0),.d (.int .u8 0)] []),(10,69,.bin .add (.i 8) (.t 68))],.x 0 (.st 5 (.t 3) (.t 60)) [(10,69,.bin .add (.i 8) (.t 68))],.r 4 (.mv (.b false)),.v 5 69,.r 6 (.mv (.i 3))]) .ret) .skip))) (.seq (.sq [.v 70 11,.h 71 70,.j 72 .eql 71 0] (.cond (.t 72) (.sq [.a 73 7 7,.r 74 (.build [.d (.int .u8 0),.d (.int .u8 0),.d (.int .u8 0),.d (.int .u8 0),.d (.int .u8 0)] []),.s 7 2 73,.s 5 3 74,.r 4 (.mv (.b false)),.r 5 (.mv (.i 0)),.r 6 (.mv (.i 9))] .ret) .skip)) (.seq (.sq [.r 14 (.mv (.i 1))] mg) (.sq [.v 95 11,.c 96 (.f 32) [.t 95],.w 15 (.boxM (.c (.agg [.d (.str []),.d (.str []),.d (.str []),.d (.int .i64 0),.d (.int .i64 0),.d (.bool false),.nils]))),.s 7 15 96] (.seq (.sq [.a 97 7 15,.c 98 (.f 33) [.t 97],.v 16 98] (.sq [.v 99 16,.j 100 .neq 99 0] (.cond (.t 100) (.sq [.a 101 7 7,.r 102 (.build [.d (.int .u8 0),.d (.int .u8 0),.d (.int .u8 0),.d (.int .u8 0),.d (.int .u8 0)] []),.v 103 16,.s 7 2 101,.s 5 3 102,.r 4 (.mv (.b false)),.r 5 (.mv (.i 0)),.v 6 103] .ret) .skip))) (.seq (.regE [.r 104 (.ldA 7 (.t 15)),.r 105 (.ldA 5 (.t 8)),.v 106 12,.x 0 (.st 7 (.t 2) (.t 104)) [(1,105,.ldA 5 (.t 8)),(2,106,.mv (.t 12))],.x 0 (.st 5 (.t 3) (.t 105)) [(2,106,.mv (.t 12))],.v 4 106,.r 5 (.mv (.i 0)),.r 6 (.mv (.i 0))]) .ret)))))))))))))
theorem tv:fits Tryz.prog 13 Tryz.f13 n3 [.cell 2 7,.cell 3 5,.t 4,.t 5,.t 6] 1=true:=oK
def ix:(∀ (B:List UInt8),{m:Option (aJ×ab×Bool×Int×Int)//∀ r,m=some r->ac Tryz.prog 13 [.slice (List.map ej B)] (.tup [.agg (aF r.1),.agg (aA r.2.1),.bool r.2.2.1,.int .i64 r.2.2.2.1,.int .i64 r.2.2.2.2])}):=by
 (intro B;apply Subtype.mk;intro r Z;apply au Tryz.func13 tv;unfold n3)
 repeat'(first|(with_reducible first|refine cE ?_|refine cm ?_|refine eG ?_|refine i7 ?_|refine bu ?_|refine bR ?_|refine dL ?_|refine cN ?_|refine cn ?_|refine cF ?_|refine cO ?_|refine ee ?_|refine bC ?_|refine dq ?_|refine dy ?_)|(with_reducible apply ep Z);(iterate 2 (exact aj));intro _;rfl;intro e Z|(with_reducible apply wc Z);(iterate 3 (exact aj));intro _;rfl;intro e Z|(with_reducible apply jj);exact aj;(first|exact trivial)|(with_reducible apply lE Z);exact aj;(first|apply oo _|apply td _ _|apply si _|apply q0 _ _ _ _|apply sj _|apply mo _);(any_goals(exact nJ));intro x Z|(with_reducible apply tD);exact aj;(first|exact trivial)|(with_reducible apply Bj);exact aj;(first|exact trivial);exact xL|((with_reducible apply bz Z);exact aj;intro Z;rotate_left;intro Z)|(with_reducible apply JI Z);exact lz;exact aD;exact T8|(with_reducible apply cb Z);intro r Z|(with_reducible apply fl Z);intro r Z|((apply aH (b:=0) (X:=mg) (x:=iO) rfl (fun(c:Ch×Ch×SV×SV) (s:aJ×ab×Int)=>st [(2,.ref 2 0),(3,.ref 3 0),(7,.ref 7 0),(8,.ref 8 0),(11,c.2.2.1),(12,c.2.2.2),(14,.d (.int .i64 s.2.2))] [(2,.box (dR (aF s.1))),(3,.box (dR (aA s.2.1))),(7,c.1),(8,c.2.1)]) (c:=(_,_,_,_)) (s0:=(_,_,_)) Z);exact aD;with_reducible refine dc.mk ?_ ?_)|((apply cg (s':=(_,_,_)) Z);exact aD)|((apply dV (s':=(_,_,_)) Z);exact aD)|(with_reducible apply kf Z);intro r Z|((with_reducible apply eI.of);exact aD;(focus(intro _;repeat'(first|(with_reducible first|exact dU|refine bL ?_))));(intro s o Z;first|unfold iO);rotate_left;intro s Z)|exact U8|fail)
def bO (B:List UInt8):Option (aJ×ab×Bool×Int×Int):=(ix B).1
theorem sJ (B:List UInt8):∀ r,bO B=some r->ac Tryz.prog 13 [.slice (List.map ej B)] (.tup [.agg (aF r.1),.agg (aA r.2.1),.bool r.2.2.1,.int .i64 r.2.2.2.1,.int .i64 r.2.2.2.2]):=(ix B).2
end
noncomputable section
set_option maxRecDepth 100000
set_option maxHeartbeats 40000000
def nm:SC:=(.sq [.r 0 (.mv (.b false))] (.sq [.r 4 (.build [.d (.int .u8 0),.d (.int .u8 0),.d (.int .u8 0),.d (.int .u8 0),.d (.int .u8 0)] [(0,1,.c (.d (.int .u8 42))),(1,1,.c (.d (.int .u8 58))),(2,1,.c (.d (.int .u8 94))),(3,1,.c (.d (.int .u8 63))),(4,1,.c (.d (.int .u8 126)))]),.c 5 (.f 19) [.t 4],.v 3 5,.e 6 3 0,.e 7 3 1,.v 1 6,.v 2 7] (.seq (.reg (.v 8 2:: .j 9 .eql 8 0:: .v 10 9::aS [11,12,13] 10 true (.v 11 1:: .r 12 (.cvbs (.t 11)):: .r 13 (.bin .eql (.t 12) (.c (.d (.str [77,82,75,42,58,94,63,126]))))::[]) (.r 14 (.pick (.t 10) (.t 13) (.b false)):: .v 0 14::[]))) .ret)))
theorem sI:fits Tryz.prog 7 Tryz.f7 nm [.t 0] 0=true:=oK
def wL:({m:Option (Bool)//∀ r,m=some r->ac Tryz.prog 7 [] (.bool r)}):=by
 (apply Subtype.mk;intro r Z;apply au Tryz.func7 sI;unfold nm)
 repeat'(first|(with_reducible first|refine cE ?_|refine cm ?_|refine dL ?_|refine cn ?_|refine cF ?_)|(with_reducible apply Ck);exact aj|(with_reducible apply jj);exact aj;(first|exact trivial)|((with_reducible apply ll Z);exact aj;rfl;intro v Z;rotate_left;intro v g Z)|(with_reducible apply lE Z);exact aj;(first|apply zE _);(any_goals(exact Ue));intro x Z|(with_reducible apply eH Z);exact lz;exact cY|(with_reducible apply eo Z);exact aj|fail)
def kD:Option (Bool):=(wL).1
theorem sk:∀ r,kD=some r->ac Tryz.prog 7 [] (.bool r):=(wL).2
def g8:SC:=(.sq [.r 2 (.mv (.b false))] (.sq [.v 14 0,.c 15 (.f 12) [.t 14],.v 13 15,.e 16 13 0,.e 17 13 1,.e 18 13 2,.e 19 13 3,.e 20 13 4,.w 3 (.boxM (.c (.agg [.d (.str []),.d (.str []),.d (.str []),.d (.int .i64 0),.d (.int .i64 0),.d (.bool false),.nils]))),.w 4 (.boxM (.c (.agg [.d (.int .u8 0),.d (.int .u8 0),.d (.int .u8 0),.d (.int .u8 0),.d (.int .u8 0)]))),.s 7 3 16,.s 5 4 17,.v 5 18,.v 6 19,.v 7 20] (.sq [.v 22 0,.c 23 (.f 13) [.t 22],.v 21 23,.e 24 21 0,.e 25 21 1,.e 26 21 2,.e 27 21 3,.e 28 21 4,.w 8 (.boxM (.c (.agg [.d (.str []),.d (.str []),.d (.str []),.d (.int .i64 0),.d (.int .i64 0),.d (.bool false),.nils]))),.w 9 (.boxM (.c (.agg [.d (.int .u8 0),.d (.int .u8 0),.d (.int .u8 0),.d (.int .u8 0),.d (.int .u8 0)]))),.s 7 8 24,.s 5 9 25,.v 10 26,.v 11 27,.v 12 28] (.seq (.reg (.a 29 7 3:: .a 30 7 8:: .c 31 (.f 14) [.t 29,.t 30]:: .v 32 31::aS [33,34,35] 32 true (.r 33 (.ldA 5 (.t 4)):: .r 34 (.ldA 5 (.t 9)):: .r 35 (.eqs .eql [(.int .u8),(.int .u8),(.int .u8),(.int .u8),(.int .u8)] (.t 33) (.t 34))::[]) (.r 36 (.pick (.t 32) (.t 35) (.b false)):: .v 37 36::aS [38,39,40] 37 true (.v 38 5:: .v 39 10:: .r 40 (.binB .eql (.t 38) (.t 39))::[]) (.r 41 (.pick (.t 37) (.t 40) (.b false)):: .v 42 41::aS [43,44,45] 42 true (.v 43 6:: .v 44 11:: .k 45 .eql 43 44::[]) (.r 46 (.pick (.t 42) (.t 45) (.b false)):: .v 47 46::aS [48,49,50] 47 true (.v 48 7:: .v 49 12:: .k 50 .eql 48 49::[]) (.r 51 (.pick (.t 47) (.t 50) (.b false)):: .v 52 51::aS [53] 52 true (.c 53 (.f 7) []::[]) (.r 54 (.pick (.t 52) (.t 53) (.b false)):: .v 2 54::[]))))))) .ret))))
theorem me:fits Tryz.prog 4 Tryz.f4 g8 [.t 2] 1=true:=oK
def wM:(∀ (B:List UInt8),{m:Option (Bool)//∀ r,m=some r->ac Tryz.prog 4 [.slice (List.map ej B)] (.bool r)}):=by
 (intro B;apply Subtype.mk;intro r Z;apply au Tryz.func4 me;unfold g8)
 repeat'(first|(with_reducible first|refine cE ?_|refine cm ?_|refine dL ?_|refine cn ?_|refine cF ?_|refine dy ?_)|(with_reducible apply jj);exact aj;(first|exact trivial)|((with_reducible apply ll Z);exact aj;rfl;intro v Z;rotate_left;intro v g Z)|(with_reducible apply lE Z);exact aj;(first|apply D3 _|apply sJ _|apply mQ _ _|apply sk);(any_goals(exact nJ));intro x Z|(with_reducible apply tD);exact aj;(first|exact trivial)|(with_reducible apply eH Z);exact lz;exact cY|(with_reducible apply eo Z);exact aj|fail)
def eu (B:List UInt8):Option (Bool):=(wM B).1
theorem lX (B:List UInt8):∀ r,eu B=some r->ac Tryz.prog 4 [.slice (List.map ej B)] (.bool r):=(wM B).2
end
end
section
open Go.ChangeShapes Go.WideShapes Go.ChangeAt Go.RowKit
set_option linter.unusedSimpArgs false
set_option linter.unusedVariables false
variable {P:Program} {n:Nat} {t:TypeId} {α:Type} {H:α->List DV} {ok:α->Prop}
theorem TU {a b:Bool} (h1:a=true) (h2:b=true):(a&&b)=true:=by rw[h1,h2];rfl
def Wt (P:Program) (n:Nat) (t:TypeId) (H:α->List DV) (ok:α->Prop):Prop:=∀ m J,WT P (m+n) t J->∃ x,J=H x/\ok x
theorem Wt.up (h:Wt P n t H ok) (k:Nat):Wt P (n+k) t H ok:=fun m J hd=>h (m+k) J (by rwa[show m+k+n=m+(n+k) by omega])
def Up (_:UInt8):Prop:=True
def UX (ok:α->Prop) (l:List α):Prop:=l.length<=9223372036854775807/\∀ a∈l,ok a
theorem Qs (hu:P.underlying t=some (.int .u8)):Wt P 1 t ej Up:=by
 intro m J h
 simp only[WT,hu] at h
 obtain⟨k,rfl,G⟩:=h
 simp[Lit.wf] at G
 have e:IntKind.u8.min=0:=by decide
 have e2:IntKind.u8.max=255:=by decide
 refine⟨UInt8.ofNat k.toNat, ?_,trivial⟩
 have hk:0<=k/\k<=255:=by omega
 unfold ej
 rw[WP (by show k.toNat<256;omega)]
 congr 2;omega
theorem OC {e:TypeId} (hu:P.underlying t=some (.slice e)) (he:Wt P n e H ok):Wt P (n+1) t (hY H) (UX ok):=by
 intro m J h
 rw[show m+(n+1)=(m+n)+1 by omega] at h
 simp only[WT,hu] at h
 obtain⟨rows,rfl,hl,D⟩:=h
 have:∀ rows:List (List DV),(∀ r∈rows,WT P (m+n) e r)->∃ l:List α,rows=l.map H/\∀ a∈l,ok a:=by
  intro rows
  induction rows with
  |nil=>intro _;exact⟨[],rfl,by simp⟩
  |cons r rows ih=>
   intro h
   obtain⟨a,rfl,ha⟩:=he m r (h r oS)
   obtain⟨l,rfl,hl⟩:=ih (fun r D=>h r (by simp[D]))
   exact⟨a::l,rfl,by simpa using⟨ha,hl⟩⟩
 obtain⟨l,rfl,r5⟩:=this rows D
 exact⟨l,rfl,by unfold maxLen at hl;simp at hl;omega,r5⟩
theorem UY:ownKnob Tryz.prog.godebug=none:=oK
theorem Qt:laidOutB Tryz.prog=true:=oK
theorem Vg:Wt Tryz.prog 1 5 ej Up:=Qs Tryz.underlying5
theorem UZ:Wt Tryz.prog 2 41 (hY ej) (UX Up):=OC Tryz.underlying41 Vg
def xw:Nat->DataW Unit->List Value
 |0,_=>[]
 |_+1,.lit (.int k n)=>[.int k n]
 |n+1,.agg ps=>ps.flatMap (xw n)
 |_+1,_=>[]
def sr (l:List Value):Obj->Obj
 | .cells _ t frozen=> .cells l.toArray t frozen
 |o=>o
noncomputable def IJ:Nat:=(World.holding Tryz.prog default ⟨#[],#[],[]⟩).heap.size
noncomputable def AZ (os:Os):World:=
 {World.holding Tryz.prog os ⟨#[],#[],[]⟩ with
  heap:=((((((((World.holding Tryz.prog os ⟨#[.cells #[.string ⟨#[118,97,108,117,101,32,111,117,116,32,111,102,32,114,97,110,103,101]⟩] 244,.cells #[.string ⟨#[105,110,118,97,108,105,100,32,115,121,110,116,97,120]⟩] 244],#[],[]⟩).heap.modify 6 (sr (xw 5 Rows.laid_math_bits_deBruijn32tab))).modify 7 (sr (xw 5 Rows.laid_math_bits_deBruijn64tab))).modify 3 (sr (xw 5 Rows.laid_internal_strconv_uint64pow10))).modify 5 (sr (xw 5 Rows.laid_unicode_utf8_acceptRanges))).modify 2 (sr [.iface 242 (.pointer (some ⟨IJ+0,0,none⟩))])).modify 1 (sr [.iface 242 (.pointer (some ⟨IJ+1,0,none⟩))])).modify 4 (sr (xw 5 Rows.laid_unicode_utf8_first)))}
