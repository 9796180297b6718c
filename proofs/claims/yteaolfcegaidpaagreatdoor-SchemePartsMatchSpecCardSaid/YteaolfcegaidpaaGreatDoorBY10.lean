/-
  SchemePartsMatchSpec: the row and the card.
-/
import Derived.Test.YteaolfcegaidpaaGreatDoorBY9
namespace Go.Proofs.YteaolfcegaidpaaGreatDoor
open Go.ChangeShapes Go.WideShapes Go.ChangeAt Go.RowKit
set_option linter.unusedSimpArgs false
set_option linter.unusedVariables false
namespace schemePartsMatchSpec
set_option maxRecDepth 100000 in
theorem law (cs:List DV) (h:D5 Tryz.prog 7 Tryz.f3.params.toList cs):aa Tryz.prog 3 cs (.bool true):=by
 rw[Tryz.params3] at h
 obtain⟨d0,_,rfl,h0,d1,_,rfl,h1,h⟩:=h
 obtain rfl:=h
 obtain⟨x0,rfl,o0⟩:=(Ol.up 0) 0 _ h0
 obtain⟨x1,rfl,o1⟩:=(On.up 1) 0 _ h1
 have e0:yh Tryz.prog 24 (ak x0)= .agg (ak x0):=by simp only[yh,Tryz.underlying24]
 rw[e0]
 have e1:yh Tryz.prog 27 (aN x1)= .agg (aN x1):=by simp only[yh,Tryz.underlying27]
 rw[e1]
 exact jE x0 x1 true ((fun(x0:ah) (x1:aj) (o0:nV x0) (o1:rr x1)=>GI x0 x1 o0 o1) x0 x1 o0 o1)
noncomputable def Ho:Array Value:= #[.agg #[.string ⟨#[]⟩,.slice none 0 0],.agg #[.string ⟨#[]⟩,.slice none 0 0]]
theorem LM {W:World} (h:laidMet Tryz.prog Rows.schemePartsMatchSpecRow.laid W) (hs:W.ShapedOpen Tryz.prog):wY W:=fun t ht=>by
 rcases ON.1 ht with rfl|ht
 ·exact Gl h (OE (i:=2) oK) (show Tryz.prog.globalNamed "internal/strconv.uint64pow10" =some 5 by kernel_rfl) oK Tryz.underlying310 Tryz.underlying262 oK oK (by first|decide|simp)
 rcases ON.1 ht with rfl|ht
 ·exact HW (cell_of_shapedOpen_int (P:=Tryz.prog) (g:=0) (t:=3) (zero:= #[.int .i64 0]) hs (of_decide_eq_true oK) oK rfl oK oK Tryz.underlying3)
 exact absurd ht Pv
theorem Kl (os:Os):laidMet Tryz.prog Rows.schemePartsMatchSpecRow.laid ((zG os).forCall (fun _ _=>0) ⟨#[],Ho,[]⟩).memory:=
 laidMet_of_run' 8 oK oK
theorem reads (os:Os) {H:Type} (enc:TypeId×Value->H):∃ x,DataW.whole enc Tryz.prog ((zG os).forCall (fun _ _=>0) ⟨#[],Ho,[]⟩).memory Tryz.f3.params.toList Rows.schemePartsMatchSpecSpec.vars false Ho.toList 8=some x:=
 Pu.1 oK
set_option maxRecDepth 100000 in
theorem M4 (os:Os) (started:os.Started) (H:Type) (enc:TypeId×Value->H) (F:Stop.Interp):
  ReturnsInHanded {} Tryz.checked os 3 .any ((OpenSpec.ofChange Rows.schemePartsMatchSpecSpec).preRow enc Tryz.prog Tryz.f3 Rows.schemePartsMatchSpecRow.domain false Rows.schemePartsMatchSpecRow.laid) (((OpenSpec.ofChange Rows.schemePartsMatchSpecSpec).at F).post enc Tryz.prog Tryz.f3 false true false false):=by
 obtain⟨x,hx⟩:=reads os enc
 refine returnsInHanded_of_row (C:=Tryz.checked) (s:=OpenSpec.ofChange Rows.schemePartsMatchSpecSpec) Oi started oK Tryz.func3
  (witness_row_at (enc:=enc) (C:=Tryz.checked) false (zG os) Ho rfl oK oK oK
   (OpenSpec.preRow_of_cond 8 hx rfl (fun k hk=>by cases hk) oK (Kl os))) ?_
 intro W base args ds gs before hval hW _ _ _ hL hS _
 exact Jw (n:=7) (spec:=Rows.schemePartsMatchSpecSpec) rfl (fun ds hds=>by
   rw[Tryz.params3] at hds
   match ds,hds with
   |[_,_],_=>rfl) LP oK oK oK Tryz.underlying4 hval hW (fun cs hcs _=>law cs hcs) (LM hL hS)
set_option maxHeartbeats 40000000 in
theorem closed:joinedFacts Tryz.prog 3 Tryz.f3 (OpenSpec.ofChange Rows.schemePartsMatchSpecSpec).bare Rows.schemePartsMatchSpecRow=true:=by
 unfold joinedFacts
 repeat'(with_reducible apply NL)
 all_goals(as_aux_lemma=>kernel_rfl)
theorem said:Rows.SchemePartsMatchSpecSaid:=
 OpenClaim.holds_of_cond 3 Tryz.f3 rfl rfl rfl rfl rfl rfl rfl ⟨rfl,rfl,rfl,rfl,rfl⟩ rfl rfl rfl rfl rfl (by as_aux_lemma=>kernel_rfl) Tryz.func3 closed
  (of_decide_eq_true (by as_aux_lemma=>kernel_rfl)) (by unfold Func.isWrapper;first|(rw[Qa (by decide+kernel)];kernel_rfl)|(rw[P7 (by decide+kernel)];exact⟨rfl,rfl⟩))
  (fun os started H enc _ F=>by rw[OpenClaim.pre_eq_preRow];exact M4 os started H enc F)
theorem plain (f:FuncId) (fn:Func) (hf:Tryz.pinned.checked.prog.funcNamed "interchange/interchangelaw3.SchemePartsMatchSpec" =some f) (hfn:Tryz.pinned.checked.prog.funcs[f]?=some fn):
  true=Tryz.pinned.checked.prog.looks []/\∀ (j:Nat) t,fn.params[j]?=some t->Tryz.pinned.checked.prog.wantsStandIn t=false:=by
 obtain rfl:f=3:=QD ((show Tryz.prog.funcNamed "interchange/interchangelaw3.SchemePartsMatchSpec" =some 3 by kernel_rfl).symm.trans hf)|>.symm
 obtain rfl:fn=Tryz.f3:=(QD (Tryz.func3.symm.trans hfn)).symm
 refine⟨by kernel_rfl,fun j t ht=> ?_⟩
 have hall:Tryz.f3.params.toList.all (fun t=> !Tryz.prog.wantsStandIn t)=true:=oK
 have:=Pa.1 hall t (by simpa using Array.mem_of_getElem? ht)
 exact(show Tryz.prog.wantsStandIn t=false by simpa using this)
end schemePartsMatchSpec
theorem schemePartsMatchSpec_card:Rows.SchemePartsMatchSpecCardSaid:=
 Claim7.holds_tied_plain_at .later [] _ _ _ _ schemePartsMatchSpec.said (fun _ h=>by cases h) oK (fun _ h=>by cases h) schemePartsMatchSpec_row_tie rfl ⟨rfl,rfl⟩ oK rfl schemePartsMatchSpec.plain oK
#print axioms schemePartsMatchSpec_card
end Go.Proofs.YteaolfcegaidpaaGreatDoor
