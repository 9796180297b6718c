/-
  WireReadsMatchSpec: the row and the card.
-/
import Derived.Test.YtgmnipfafmphaaaGreatDoorBX14
namespace Go.Proofs.YtgmnipfafmphaaaGreatDoor
set_option maxRecDepth 100000
open Go.ChangeShapes Go.WideShapes Go.ChangeAt Go.RowKit
set_option linter.unusedSimpArgs false
set_option linter.unusedVariables false
namespace wireReadsMatchSpec
theorem law (cs:List DV) (h:GK Tryz.prog 2 Tryz.f4.params.toList cs):ac Tryz.prog 4 cs (.bool true):=by
 rw[Tryz.params4] at h
 obtain⟨d0,_,rfl,h0,h⟩:=h
 obtain rfl:=h
 obtain⟨B,rfl,a⟩:=(UZ.up 0) 0 _ h0
 have e0:Dg Tryz.prog 41 ((hY ej) B)= .slice (B.map ej):=by simp only[Dg,Tryz.underlying41,GR,ej,dr,Tu,hY,List.headD_cons]
 rw[e0]
 exact lX B true ((fun(B:List UInt8) (a:UX Up B)=>L8 B a.1) B a)
noncomputable def KT:Array Value:= #[.slice none 0 0]
theorem Qp {W:World} (h:laidMet Tryz.prog Rows.wireReadsMatchSpecRow.laid W) (hs:W.ShapedOpen Tryz.prog):z6 W:=fun t ht=>by
 rcases VK.1 ht with rfl|ht
 ·exact Dh h (Vq (i:=6) oK) (show Tryz.prog.globalNamed "unicode/utf8.first" =some 4 by kernel_rfl) oK Tryz.underlying245 Tryz.underlying5 oK oK (by first|decide|simp)
 rcases VK.1 ht with rfl|ht
 ·exact H7 [(128,191),(160,191),(128,159),(144,191),(128,143),(0,0),(0,0),(0,0),(0,0),(0,0),(0,0),(0,0),(0,0),(0,0),(0,0),(0,0)] h (Vq (i:=3) oK) (show Tryz.prog.globalNamed "unicode/utf8.acceptRanges" =some 5 by kernel_rfl) oK Tryz.underlying248 Tryz.underlying247 Tryz.underlying5 rfl rfl rfl rfl rfl oK oK oK rfl oS
 rcases VK.1 ht with rfl|ht
 ·exact LD (cell_of_shapedOpen_int (P:=Tryz.prog) (g:=0) (t:=3) (zero:= #[.int .i64 0]) hs (Xy oK) oK rfl oK oK Tryz.underlying3)
 rcases VK.1 ht with rfl|ht
 ·exact Dh h (Vq (i:=2) oK) (show Tryz.prog.globalNamed "internal/strconv.uint64pow10" =some 3 by kernel_rfl) oK Tryz.underlying232 Tryz.underlying212 oK oK (by first|decide|simp)
 exact absurd ht Wu
theorem Ov (os:Os):laidMet Tryz.prog Rows.wireReadsMatchSpecRow.laid ((AZ os).forCall (fun _ _=>0) ⟨#[],KT,[]⟩).memory:=
 laidMet_of_run' 8 oK oK
theorem reads (os:Os) {H:Type} (enc:TypeId×Value->H):∃ x,DataW.whole enc Tryz.prog ((AZ os).forCall (fun _ _=>0) ⟨#[],KT,[]⟩).memory Tryz.f4.params.toList Rows.wireReadsMatchSpecSpec.vars false KT.toList 8=some x:=
 Wo.1 oK
theorem SK (os:Os) (a:os.Started) (H:Type) (enc:TypeId×Value->H) (F:Stop.Interp):
  ReturnsInHanded {} Tryz.checked os 4 .any ((OpenSpec.ofChange Rows.wireReadsMatchSpecSpec).preRow enc Tryz.prog Tryz.f4 Rows.wireReadsMatchSpecRow.domain false Rows.wireReadsMatchSpecRow.laid) (((OpenSpec.ofChange Rows.wireReadsMatchSpecSpec).at F).post enc Tryz.prog Tryz.f4 false true false false):=by
 obtain⟨x,hx⟩:=reads os enc
 refine returnsInHanded_of_row (C:=Tryz.checked) (s:=OpenSpec.ofChange Rows.wireReadsMatchSpecSpec) UY a oK Tryz.func4
  (witness_row_at (enc:=enc) (C:=Tryz.checked) false (AZ os) KT rfl oK oK oK
   (OpenSpec.preRow_of_cond 8 hx rfl (fun k hk=>by cases hk) oK (Ov os))) ?_
 intro W g args J gs d m hW _ _ _ u hS _
 exact Nm (n:=2) (c:=Rows.wireReadsMatchSpecSpec) rfl (fun J L=>by
   rw[Tryz.params4] at L
   match J,L with
   |[_],_=>rfl) Qt oK oK oK Tryz.underlying4 m hW (fun cs r3 _=>law cs r3) (Qp u hS)
set_option maxHeartbeats 40000000 in
theorem closed:joinedFacts Tryz.prog 4 Tryz.f4 (OpenSpec.ofChange Rows.wireReadsMatchSpecSpec).bare Rows.wireReadsMatchSpecRow=true:=by
 unfold joinedFacts
 repeat'(with_reducible apply TU)
 all_goals(as_aux_lemma=>kernel_rfl)
theorem said:Rows.WireReadsMatchSpecSaid:=
 OpenClaim.holds_of_cond 4 Tryz.f4 rfl rfl rfl rfl rfl rfl rfl ⟨rfl,rfl,rfl,rfl,rfl⟩ rfl rfl rfl rfl rfl (by as_aux_lemma=>kernel_rfl) Tryz.func4 closed
  (Xy (by as_aux_lemma=>kernel_rfl)) (by unfold Func.isWrapper;first|(rw[Wy (by decide+kernel)];kernel_rfl)|(rw[WU (by decide+kernel)];exact⟨rfl,rfl⟩))
  (fun os a H enc _ F=>by rw[OpenClaim.pre_eq_preRow];exact SK os a H enc F)
theorem plain (f:FuncId) (fn:Func) (C:Tryz.pinned.checked.prog.funcNamed "interchange/interchangelaw2.WireReadsMatchSpec" =some f) (l:Tryz.pinned.checked.prog.funcs[f]?=some fn):
  true=Tryz.pinned.checked.prog.looks []/\∀ (j:Nat) t,fn.params[j]?=some t->Tryz.pinned.checked.prog.wantsStandIn t=false:=by
 obtain rfl:f=4:=W5 ((show Tryz.prog.funcNamed "interchange/interchangelaw2.WireReadsMatchSpec" =some 4 by kernel_rfl).symm.trans C)|>.symm
 obtain rfl:fn=Tryz.f4:=(W5 (Tryz.func4.symm.trans l)).symm
 refine⟨by kernel_rfl,fun j t ht=> ?_⟩
 have W:Tryz.f4.params.toList.all (fun t=> !Tryz.prog.wantsStandIn t)=true:=oK
 have:=VN.1 W t (by simpa using Array.mem_of_getElem? ht)
 exact(show Tryz.prog.wantsStandIn t=false by simpa using this)
end wireReadsMatchSpec
theorem wireReadsMatchSpec_card:Rows.WireReadsMatchSpecCardSaid:=
 Claim7.holds_tied_plain_at .later [] _ _ _ _ wireReadsMatchSpec.said (fun _ h=>by cases h) oK (fun _ h=>by cases h) wireReadsMatchSpec_row_tie rfl ⟨rfl,rfl⟩ oK rfl wireReadsMatchSpec.plain oK
#print axioms wireReadsMatchSpec_card
end Go.Proofs.YtgmnipfafmphaaaGreatDoor
