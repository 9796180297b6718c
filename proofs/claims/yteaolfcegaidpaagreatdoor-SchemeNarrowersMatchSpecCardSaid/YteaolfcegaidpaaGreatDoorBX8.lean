/-
  SchemeNarrowersMatchSpec: the row and the card.
-/
import Derived.Test.YteaolfcegaidpaaGreatDoorBX7
namespace Go.Proofs.YteaolfcegaidpaaGreatDoor
open Go.ChangeShapes Go.WideShapes Go.ChangeAt Go.RowKit
set_option linter.unusedSimpArgs false
set_option linter.unusedVariables false
namespace schemeNarrowersMatchSpec
set_option maxRecDepth 100000 in
theorem law (n:Nat) (cs:List DV) (h:xE Tryz.prog n Tryz.f4.params.toList cs):aa Tryz.prog 4 cs (.bool true):=by
 rw[Tryz.params4] at h
 obtain⟨d0,_,rfl,h0,d1,_,rfl,h1,h⟩:=h
 obtain rfl:=h
 obtain⟨x0,rfl,o0⟩:=LA n _ h0
 obtain⟨x1,rfl,o1⟩:=LA n _ h1
 have e0:wG Tryz.prog 42 (ai x0)= .agg (ai x0):=by simp only[wG,Tryz.underlying42]
 rw[e0]
 have e1:wG Tryz.prog 42 (ai x1)= .agg (ai x1):=by simp only[wG,Tryz.underlying42]
 rw[e1]
 exact gV x0 x1 true ((fun(x0 x1:ae) (o0:i_ x0) (o1:i_ x1)=>A2 x0 x1 o0 o1) x0 x1 o0 o1)
noncomputable def FE:Array Value:= #[.agg #[.string ⟨#[]⟩,.string ⟨#[]⟩,.slice none 0 0,.slice none 0 0],.agg #[.string ⟨#[]⟩,.string ⟨#[]⟩,.slice none 0 0,.slice none 0 0]]
theorem Jr {W:World} (h:laidMet Tryz.prog Rows.schemeNarrowersMatchSpecRow.laid W) (hs:W.ShapedOpen Tryz.prog):vz W:=fun t ht=>by
 rcases Ml.1 ht with rfl|ht
 ·exact EC h (Mb (i:=2) oK) (show Tryz.prog.globalNamed "internal/strconv.uint64pow10" =some 5 by kernel_rfl) oK Tryz.underlying310 Tryz.underlying262 oK oK (by first|decide|simp)
 rcases Ml.1 ht with rfl|ht
 ·exact Gg (cell_of_shapedOpen_int (P:=Tryz.prog) (g:=0) (t:=3) (zero:= #[.int .i64 0]) hs (of_decide_eq_true oK) oK rfl oK oK Tryz.underlying3)
 exact absurd ht MW
theorem Im (os:Os):laidMet Tryz.prog Rows.schemeNarrowersMatchSpecRow.laid ((x8 os).forCall (fun _ _=>0) ⟨#[],FE,[]⟩).memory:=
 laidMet_of_run' 8 oK oK
theorem reads (os:Os) {H:Type} (enc:TypeId×Value->H):∃ x,DataW.whole enc Tryz.prog ((x8 os).forCall (fun _ _=>0) ⟨#[],FE,[]⟩).memory Tryz.f4.params.toList Rows.schemeNarrowersMatchSpecSpec.vars false FE.toList 8=some x:=
 MV.1 oK
set_option maxRecDepth 100000 in
theorem KH (os:Os) (started:os.Started) (H:Type) (enc:TypeId×Value->H) (F:Stop.Interp):
  ReturnsInHanded {} Tryz.checked os 4 .any ((OpenSpec.ofChange Rows.schemeNarrowersMatchSpecSpec).preRow enc Tryz.prog Tryz.f4 Rows.schemeNarrowersMatchSpecRow.domain false Rows.schemeNarrowersMatchSpecRow.laid) (((OpenSpec.ofChange Rows.schemeNarrowersMatchSpecSpec).at F).post enc Tryz.prog Tryz.f4 false true false false):=by
 obtain⟨x,hx⟩:=reads os enc
 refine returnsInHanded_of_row (C:=Tryz.checked) (s:=OpenSpec.ofChange Rows.schemeNarrowersMatchSpecSpec) LU started oK Tryz.func4
  (witness_row_at (enc:=enc) (C:=Tryz.checked) false (x8 os) FE rfl oK oK oK
   (OpenSpec.preRow_of_cond 8 hx rfl (fun k hk=>by cases hk) oK (Im os))) ?_
 intro W base args ds gs before hval hW _ _ _ hL hS _
 exact Ge (L:=[3,4,9,22,24,39,40,42,69,111,119,121,178]) oK (spec:=Rows.schemeNarrowersMatchSpecSpec) rfl (fun ds hds=>by
   rw[Tryz.params4] at hds
   match ds,hds with
   |[_,_],_=>rfl) Ju oK oK oK Tryz.underlying4 hval hW (fun n cs hcs _=>law n cs hcs) (Jr hL hS)
set_option maxHeartbeats 40000000 in
theorem closed:joinedFacts Tryz.prog 4 Tryz.f4 (OpenSpec.ofChange Rows.schemeNarrowersMatchSpecSpec).bare Rows.schemeNarrowersMatchSpecRow=true:=by
 unfold joinedFacts
 repeat'(with_reducible apply Lu)
 all_goals(as_aux_lemma=>kernel_rfl)
theorem said:Rows.SchemeNarrowersMatchSpecSaid:=
 OpenClaim.holds_of_cond 4 Tryz.f4 rfl rfl rfl rfl rfl rfl rfl ⟨rfl,rfl,rfl,rfl,rfl⟩ rfl rfl rfl rfl rfl (by as_aux_lemma=>kernel_rfl) Tryz.func4 closed
  (of_decide_eq_true (by as_aux_lemma=>kernel_rfl)) (by unfold Func.isWrapper;first|(rw[NH (by decide+kernel)];kernel_rfl)|(rw[NY (by decide+kernel)];exact⟨rfl,rfl⟩))
  (fun os started H enc _ F=>by rw[OpenClaim.pre_eq_preRow];exact KH os started H enc F)
theorem plain (f:FuncId) (fn:Func) (hf:Tryz.pinned.checked.prog.funcNamed "interchange/interchangelaw3.SchemeNarrowersMatchSpec" =some f) (hfn:Tryz.pinned.checked.prog.funcs[f]?=some fn):
  true=Tryz.pinned.checked.prog.looks []/\∀ (j:Nat) t,fn.params[j]?=some t->Tryz.pinned.checked.prog.wantsStandIn t=false:=by
 obtain rfl:f=4:=NR ((show Tryz.prog.funcNamed "interchange/interchangelaw3.SchemeNarrowersMatchSpec" =some 4 by kernel_rfl).symm.trans hf)|>.symm
 obtain rfl:fn=Tryz.f4:=(NR (Tryz.func4.symm.trans hfn)).symm
 refine⟨by kernel_rfl,fun j t ht=> ?_⟩
 have hall:Tryz.f4.params.toList.all (fun t=> !Tryz.prog.wantsStandIn t)=true:=oK
 have:=MD.1 hall t (by simpa using Array.mem_of_getElem? ht)
 exact(show Tryz.prog.wantsStandIn t=false by simpa using this)
end schemeNarrowersMatchSpec
theorem schemeNarrowersMatchSpec_card:Rows.SchemeNarrowersMatchSpecCardSaid:=
 Claim7.holds_tied_plain_at .later [] _ _ _ _ schemeNarrowersMatchSpec.said (fun _ h=>by cases h) oK (fun _ h=>by cases h) schemeNarrowersMatchSpec_row_tie rfl ⟨rfl,rfl⟩ oK rfl schemeNarrowersMatchSpec.plain oK
#print axioms schemeNarrowersMatchSpec_card
end Go.Proofs.YteaolfcegaidpaaGreatDoor
