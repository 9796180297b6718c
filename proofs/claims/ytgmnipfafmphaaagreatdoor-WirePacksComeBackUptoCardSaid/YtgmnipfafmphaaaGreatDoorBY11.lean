/-
  WirePacksComeBack: the row and the card (where what it reads is of bulk at most 1048576).
-/
import Derived.Test.YtgmnipfafmphaaaGreatDoorBY10
import Derived.Test.YtgmnipfafmphaaaGreatDoorBY6
namespace Go.Proofs.YtgmnipfafmphaaaGreatDoor
set_option maxRecDepth 100000
open Go.ChangeShapes Go.WideShapes Go.ChangeAt Go.RowKit
set_option linter.unusedSimpArgs false
set_option linter.unusedVariables false
mutual
theorem yP {H:Type}:∀ d:DataW H,Rows.uptoBulk d=i6 d
 | .lit (.string b)=>rfl
 | .lit (.int _ _)=>rfl
 | .lit (.bool _)=>rfl
 | .lit (.float _ _)=>rfl
 | .lit .nil=>rfl
 | .nil=>rfl
 | .ptr d=>by simp only[Rows.uptoBulk,i6,yP d]
 | .slice a b=>by simp only[Rows.uptoBulk,i6,BP a,BP b]
 | .agg a=>by simp only[Rows.uptoBulk,i6,BP a]
 | .iface _ d=>by simp only[Rows.uptoBulk,i6,yP d]
 | .map e=>by simp only[Rows.uptoBulk,i6,MA e]
 | .held _=>rfl
theorem BP {H:Type}:∀ l:List (DataW H),Rows.uptoBulkAll l=mF l
 |[]=>rfl
 |d::r=>by simp only[Rows.uptoBulkAll,mF,yP d,BP r]
theorem MA {H:Type}:∀ l:List (Lit×DataW H),Rows.uptoBulkEntries l=Ec l
 |[]=>rfl
 |x::r=>by simp only[Rows.uptoBulkEntries,Ec,QF x,MA r]
theorem QF {H:Type}:∀ x:Lit×DataW H,Rows.uptoBulkEntry x=vj x
 |(.string b,d)=>by simp only[Rows.uptoBulkEntry,vj,yP d]
 |(.int _ _,d)=>by simp only[Rows.uptoBulkEntry,vj,yP d]
 |(.bool _,d)=>by simp only[Rows.uptoBulkEntry,vj,yP d]
 |(.float _ _,d)=>by simp only[Rows.uptoBulkEntry,vj,yP d]
 |(.nil,d)=>by simp only[Rows.uptoBulkEntry,vj,yP d]
end
namespace wirePacksComeBackUpto
theorem law (cs:List DV) (h:Eh Tryz.prog 12 Tryz.f5.params.toList cs) (hb:f_ cs<=1048576):ac Tryz.prog 5 cs (.bool true):=by
 rw[Tryz.params5] at h
 obtain⟨d0,_,rfl,h0,H,_,rfl,h1,d2,_,rfl,h2,q,_,rfl,E,h⟩:=h
 obtain rfl:=h
 obtain⟨B,rfl,a⟩:=(Sx.up 0) 0 _ h0
 obtain⟨x1,rfl,o1⟩:=(Sy.up 10) 0 _ h1
 obtain⟨x2,rfl,o2⟩:=(SH.up 11) 0 _ h2
 obtain⟨d,rfl,o3⟩:=(Sz.up 10) 0 _ E
 have e0:pP Tryz.prog 24 (al B)= .agg (al B):=by simp only[pP,Tryz.underlying24]
 rw[e0] at hb⊢
 have e1:pP Tryz.prog 43 (aq x1)= .agg (aq x1):=by simp only[pP,Tryz.underlying43]
 rw[e1] at hb⊢
 have e2:pP Tryz.prog 4 (y0 x2)= .bool x2:=by simp only[pP,Tryz.underlying4,l_,cP,cX,y0,fA,List.headD_cons]
 rw[e2] at hb⊢
 have e3:pP Tryz.prog 41 ((fA cP) d)= .slice (d.map cP):=by simp only[pP,Tryz.underlying41,l_,cP,cX,y0,fA,List.headD_cons]
 rw[e3] at hb⊢
 exact jj B x1 x2 d true ((fun(B:ax) (x1:ab) (x2:Bool) (d:List UInt8) (a:iz B) (_:w_ x1) (_:RU x2) (o3:Gw OJ d) (hb:f_ [.agg (al B),.agg (aq x1),.bool x2,.slice (d.map cP)]<=1048576)=>JZ B x1 x2 d (RK B a (by simp only[f_,B3] at hb;omega)) (SA B a (by simp only[f_,B3] at hb;omega)) o3.1) B x1 x2 d a o1 o2 o3 hb)
noncomputable def IF:Array Value:= #[.agg #[.string ⟨#[]⟩,.string ⟨#[]⟩,.string ⟨#[]⟩,.int .i64 0,.int .i64 0,.bool false,.slice none 0 0],.agg #[.int .u8 0,.int .u8 0,.int .u8 0,.int .u8 0,.int .u8 0],.bool false,.slice none 0 0]
theorem OE {W:World} (h:laidMet Tryz.prog Rows.wirePacksComeBackRow.laid W) (hs:W.ShapedOpen Tryz.prog):vU W:=fun t ht=>by
 rcases Tf.1 ht with rfl|ht
 ·exact Ay h (SW (i:=6) oK) (show Tryz.prog.globalNamed "unicode/utf8.first" =some 4 by kernel_rfl) oK Tryz.underlying245 Tryz.underlying5 oK oK (by first|decide|simp)
 rcases Tf.1 ht with rfl|ht
 ·exact FH [(128,191),(160,191),(128,159),(144,191),(128,143),(0,0),(0,0),(0,0),(0,0),(0,0),(0,0),(0,0),(0,0),(0,0),(0,0),(0,0)] h (SW (i:=3) oK) (show Tryz.prog.globalNamed "unicode/utf8.acceptRanges" =some 5 by kernel_rfl) oK Tryz.underlying248 Tryz.underlying247 Tryz.underlying5 rfl rfl rfl rfl rfl oK oK oK rfl oS
 rcases Tf.1 ht with rfl|ht
 ·exact Jw (cell_of_shapedOpen_int (P:=Tryz.prog) (g:=0) (t:=3) (zero:= #[.int .i64 0]) hs (UT oK) oK rfl oK oK Tryz.underlying3)
 rcases Tf.1 ht with rfl|ht
 ·exact Ay h (SW (i:=2) oK) (show Tryz.prog.globalNamed "internal/strconv.uint64pow10" =some 3 by kernel_rfl) oK Tryz.underlying232 Tryz.underlying212 oK oK (by first|decide|simp)
 exact absurd ht T6
theorem MB (os:Os):laidMet Tryz.prog Rows.wirePacksComeBackUptoRow.laid ((yc os).forCall (fun _ _=>0) ⟨#[],IF,[]⟩).memory:=
 laidMet_of_run' 8 oK oK
theorem reads (os:Os) {H:Type} (enc:TypeId×Value->H):∃ b,DataW.whole enc Tryz.prog ((yc os).forCall (fun _ _=>0) ⟨#[],IF,[]⟩).memory Tryz.f5.params.toList Rows.wirePacksComeBackSpec.vars false IF.toList 8=some ([.agg [.lit (.string []),.lit (.string []),.lit (.string []),.lit (.int .i64 0),.lit (.int .i64 0),.lit (.bool false),.nil],.agg [.lit (.int .u8 0),.lit (.int .u8 0),.lit (.int .u8 0),.lit (.int .u8 0),.lit (.int .u8 0)],.lit (.bool false),.nil],[],b):=
 ⟨[],by kernel_rfl⟩
theorem QG (os:Os) (a:os.Started) (H:Type) (enc:TypeId×Value->H) (F:Stop.Interp):
  ReturnsInHanded {} Tryz.checked os 5 .any ((Rows.OpenSpec.upto Rows.wirePacksComeBackSpec).preRow enc Tryz.prog Tryz.f5 Rows.wirePacksComeBackUptoRow.domain false Rows.wirePacksComeBackUptoRow.laid) (((Rows.OpenSpec.upto Rows.wirePacksComeBackSpec).at F).post enc Tryz.prog Tryz.f5 false true false false):=by
 obtain⟨b,hx⟩:=reads os enc
 refine returnsInHanded_of_row (C:=Tryz.checked) (s:=Rows.OpenSpec.upto Rows.wirePacksComeBackSpec) Sl a oK Tryz.func5
  (witness_row_at (enc:=enc) (C:=Tryz.checked) false (yc os) IF rfl oK oK oK
   (OpenSpec.preRow_of_cond 8 hx oK (fun k hk=>by cases hk;kernel_rfl) oK (MB os))) ?_
 intro W g args J gs i c hW _ e _ u hS _
 exact Ll (n:=12) (d:=Rows.wirePacksComeBackSpec) rfl (fun J r6=>by
   rw[Tryz.params5] at r6
   match J,r6 with
   |[_,_,_,_],_=>rfl) OM oK oK oK Tryz.underlying4 c hW (fun cs U hb=>law cs U (TW hb (by have hk:=UT (e _ rfl);rw[BP] at hk;exact hk))) (OE u hS)
set_option maxHeartbeats 40000000 in
theorem closed:joinedFacts Tryz.prog 5 Tryz.f5 (Rows.OpenSpec.upto Rows.wirePacksComeBackSpec).bare Rows.wirePacksComeBackUptoRow=true:=by
 unfold joinedFacts
 repeat'(with_reducible apply RG)
 all_goals(as_aux_lemma=>kernel_rfl)
theorem said:Rows.WirePacksComeBackUptoSaid:=
 OpenClaim.holds_of_cond 5 Tryz.f5 rfl rfl rfl rfl rfl rfl rfl ⟨rfl,rfl,rfl,rfl,rfl⟩ rfl rfl rfl rfl rfl (by as_aux_lemma=>kernel_rfl) Tryz.func5 closed
  (UT (by as_aux_lemma=>kernel_rfl)) (by unfold Func.isWrapper;first|(rw[U4 (by decide+kernel)];kernel_rfl)|(rw[if_neg (by decide+kernel)];exact⟨rfl,rfl⟩))
  (fun os a H enc _ F=>by rw[OpenClaim.pre_eq_preRow];exact QG os a H enc F)
theorem plain (f:FuncId) (fn:Func) (C:Tryz.pinned.checked.prog.funcNamed "interchange/interchangelaw2.WirePacksComeBack" =some f) (l:Tryz.pinned.checked.prog.funcs[f]?=some fn):
  true=Tryz.pinned.checked.prog.looks []/\∀ (j:Nat) t,fn.params[j]?=some t->Tryz.pinned.checked.prog.wantsStandIn t=false:=by
 obtain rfl:f=5:=Uq ((show Tryz.prog.funcNamed "interchange/interchangelaw2.WirePacksComeBack" =some 5 by kernel_rfl).symm.trans C)|>.symm
 obtain rfl:fn=Tryz.f5:=(Uq (Tryz.func5.symm.trans l)).symm
 refine⟨by kernel_rfl,fun j t ht=> ?_⟩
 have W:Tryz.f5.params.toList.all (fun t=> !Tryz.prog.wantsStandIn t)=true:=oK
 have:=Ti.1 W t (by simpa using Array.mem_of_getElem? ht)
 exact(show Tryz.prog.wantsStandIn t=false by simpa using this)
end wirePacksComeBackUpto
theorem wirePacksComeBackUpto_card:Rows.WirePacksComeBackUptoCardSaid:=
 Claim7.holds_tied_plain_at .later [] _ _ _ _ wirePacksComeBackUpto.said (fun _ h=>by cases h) oK (fun _ h=>by cases h) wirePacksComeBackUpto_row_tie rfl ⟨rfl,rfl⟩ oK rfl wirePacksComeBackUpto.plain oK
#print axioms wirePacksComeBackUpto_card
end Go.Proofs.YtgmnipfafmphaaaGreatDoor
