/-
  SchemeChecksMatchSpec: the row and the card.
-/
import Derived.Test.YtgocgdgknpdknaaGreatDoorBX7
namespace Go.Proofs.YtgocgdgknpdknaaGreatDoor
open Go.ChangeShapes Go.WideShapes Go.ChangeAt Go.RowKit
set_option linter.unusedSimpArgs false
set_option linter.unusedVariables false
namespace schemeChecksMatchSpec
set_option maxRecDepth 100000 in
theorem law (n:Nat) (cs:List DV) (h:vb Tryz.prog n Tryz.f3.params.toList cs):aa Tryz.prog 3 cs (.bool true):=by
 rw[Tryz.params3] at h
 obtain⟨d0,_,rfl,h0,h⟩:=h
 obtain rfl:=h
 obtain⟨x0,rfl,o0⟩:=JE n _ h0
 have e0:xC Tryz.prog 25 (aC x0)= .agg (aC x0):=by simp only[xC,Tryz.underlying25]
 rw[e0]
 exact gl x0 true ((fun(x0:ah) (o0:pl x0)=>BL x0 o0) x0 o0)
noncomputable def De:Array Value:= #[.agg #[.string ⟨#[]⟩,.string ⟨#[]⟩,.slice none 0 0,.slice none 0 0]]
theorem GT {W:World} (h:laidMet Tryz.prog Rows.schemeChecksMatchSpecRow.laid W) (hs:W.ShapedOpen Tryz.prog):sF W:=fun t ht=>by
 rcases J2.1 ht with rfl|ht
 ·exact Ci h (JU (i:=2) oK) (show Tryz.prog.globalNamed "internal/strconv.uint64pow10" =some 0 by kernel_rfl) oK Tryz.underlying152 Tryz.underlying133 oK oK (by first|decide|simp)
 rcases J2.1 ht with rfl|ht
 ·exact DT (cell_of_shapedOpen_int (P:=Tryz.prog) (g:=1) (t:=3) (zero:= #[.int .i64 0]) hs (of_decide_eq_true oK) oK rfl oK oK Tryz.underlying3)
 exact absurd ht KD
theorem FQ (os:Os):laidMet Tryz.prog Rows.schemeChecksMatchSpecRow.laid ((vF os).forCall (fun _ _=>0) ⟨#[],De,[]⟩).memory:=
 laidMet_of_run' 8 oK oK
theorem reads (os:Os) {H:Type} (enc:TypeId×Value->H):∃ x,DataW.whole enc Tryz.prog ((vF os).forCall (fun _ _=>0) ⟨#[],De,[]⟩).memory Tryz.f3.params.toList Rows.schemeChecksMatchSpecSpec.vars false De.toList 8=some x:=
 Kz.1 oK
set_option maxRecDepth 100000 in
theorem Ic (os:Os) (started:os.Started) (H:Type) (enc:TypeId×Value->H) (F:Stop.Interp):
  ReturnsInHanded {} Tryz.checked os 3 .any ((OpenSpec.ofChange Rows.schemeChecksMatchSpecSpec).preRow enc Tryz.prog Tryz.f3 Rows.schemeChecksMatchSpecRow.domain false Rows.schemeChecksMatchSpecRow.laid) (((OpenSpec.ofChange Rows.schemeChecksMatchSpecSpec).at F).post enc Tryz.prog Tryz.f3 false true false false):=by
 obtain⟨x,hx⟩:=reads os enc
 refine returnsInHanded_of_row (C:=Tryz.checked) (s:=OpenSpec.ofChange Rows.schemeChecksMatchSpecSpec) Ju started oK Tryz.func3
  (witness_row_at (enc:=enc) (C:=Tryz.checked) false (vF os) De rfl oK oK oK
   (OpenSpec.preRow_of_cond 8 hx rfl (fun k hk=>by cases hk) oK (FQ os))) ?_
 intro W base args ds gs before hval hW _ _ _ hL hS _
 exact DR (L:=[3,4,9,22,23,25,41,43,44,46,49,51,81]) oK (spec:=Rows.schemeChecksMatchSpecSpec) rfl (fun ds hds=>by
   rw[Tryz.params3] at hds
   match ds,hds with
   |[_],_=>rfl) GW oK oK oK Tryz.underlying4 hval hW (fun n cs hcs _=>law n cs hcs) (GT hL hS)
set_option maxHeartbeats 40000000 in
theorem closed:joinedFacts Tryz.prog 3 Tryz.f3 (OpenSpec.ofChange Rows.schemeChecksMatchSpecSpec).bare Rows.schemeChecksMatchSpecRow=true:=by
 unfold joinedFacts
 repeat'(with_reducible apply I1)
 all_goals(as_aux_lemma=>kernel_rfl)
theorem said:Rows.SchemeChecksMatchSpecSaid:=
 OpenClaim.holds_of_cond 3 Tryz.f3 rfl rfl rfl rfl rfl rfl rfl ⟨rfl,rfl,rfl,rfl,rfl⟩ rfl rfl rfl rfl rfl (by as_aux_lemma=>kernel_rfl) Tryz.func3 closed
  (of_decide_eq_true (by as_aux_lemma=>kernel_rfl)) (by unfold Func.isWrapper;first|(rw[Ll (by decide+kernel)];kernel_rfl)|(rw[if_neg (by decide+kernel)];exact⟨rfl,rfl⟩))
  (fun os started H enc _ F=>by rw[OpenClaim.pre_eq_preRow];exact Ic os started H enc F)
theorem plain (f:FuncId) (fn:Func) (hf:Tryz.pinned.checked.prog.funcNamed "interchange/interchangelaw3.SchemeChecksMatchSpec" =some f) (hfn:Tryz.pinned.checked.prog.funcs[f]?=some fn):
  true=Tryz.pinned.checked.prog.looks []/\∀ (j:Nat) t,fn.params[j]?=some t->Tryz.pinned.checked.prog.wantsStandIn t=false:=by
 obtain rfl:f=3:=LI ((show Tryz.prog.funcNamed "interchange/interchangelaw3.SchemeChecksMatchSpec" =some 3 by kernel_rfl).symm.trans hf)|>.symm
 obtain rfl:fn=Tryz.f3:=(LI (Tryz.func3.symm.trans hfn)).symm
 refine⟨by kernel_rfl,fun j t ht=> ?_⟩
 have hall:Tryz.f3.params.toList.all (fun t=> !Tryz.prog.wantsStandIn t)=true:=oK
 have:=Ke.1 hall t (by simpa using Array.mem_of_getElem? ht)
 exact(show Tryz.prog.wantsStandIn t=false by simpa using this)
end schemeChecksMatchSpec
theorem schemeChecksMatchSpec_card:Rows.SchemeChecksMatchSpecCardSaid:=
 Claim7.holds_tied_plain_at .later [] _ _ _ _ schemeChecksMatchSpec.said (fun _ h=>by cases h) oK (fun _ h=>by cases h) schemeChecksMatchSpec_row_tie rfl ⟨rfl,rfl⟩ oK rfl schemeChecksMatchSpec.plain oK
#print axioms schemeChecksMatchSpec_card
end Go.Proofs.YtgocgdgknpdknaaGreatDoor
