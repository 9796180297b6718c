/-
  SchemeTreesMatchSpec: the row and the card.
-/
import Derived.Test.YteaolfcegaidpaaGreatDoorBZ9
namespace Go.Proofs.YteaolfcegaidpaaGreatDoor
set_option maxRecDepth 100000
open Go.ChangeShapes Go.WideShapes Go.ChangeAt Go.RowKit
set_option linter.unusedSimpArgs false
set_option linter.unusedVariables false
namespace schemeTreesMatchSpec
theorem law (n:Nat) (cs:List DV) (h:Ba Tryz.prog n Tryz.f5.params.toList cs):aa Tryz.prog 5 cs (.bool true):=by
 rw[Tryz.params5] at h
 obtain⟨d0,_,rfl,h0,o,_,rfl,h1,h⟩:=h
 obtain rfl:=h
 obtain⟨D,rfl,a⟩:=Sw n _ h0
 obtain⟨x1,rfl,o1⟩:=SA n _ h1
 have K:z1 Tryz.prog 42 (aC D)= .agg (aC D):=by simp only[z1,Tryz.underlying42]
 rw[K]
 have e1:z1 Tryz.prog 50 ((fy ae) x1)= .slice (x1.map ae):=by simp only[z1,Tryz.underlying50,wB,EU,bS,Cn,fy,List.headD_cons]
 rw[e1]
 exact j4 D x1 true ((fun(D:aj) (x1:List ad) (a:pI D) (o1:EZ gx x1)=>JC D x1 a o1) D x1 a o1)
noncomputable def Ke:Array Value:= #[.agg #[.string ⟨#[]⟩,.string ⟨#[]⟩,.slice none 0 0,.slice none 0 0],.slice none 0 0]
theorem O9 {W:World} (h:laidMet Tryz.prog Rows.schemeTreesMatchSpecRow.laid W) (hs:W.ShapedOpen Tryz.prog):y0 W:=fun t Y=>by
 rcases S9.1 Y with rfl|Y
 ·exact I7 h (ST (i:=2) oK) (show Tryz.prog.globalNamed "internal/strconv.uint64pow10" =some 5 by kernel_rfl) oK Tryz.underlying310 Tryz.underlying262 oK oK (by first|decide|simp)
 rcases S9.1 Y with rfl|Y
 ·exact K1 (cell_of_shapedOpen_int (P:=Tryz.prog) (g:=0) (t:=3) (zero:= #[.int .i64 0]) hs (of_decide_eq_true oK) oK rfl oK oK Tryz.underlying3)
 exact absurd Y TQ
theorem Nr (os:Os):laidMet Tryz.prog Rows.schemeTreesMatchSpecRow.laid ((BF os).forCall (fun _ _=>0) ⟨#[],Ke,[]⟩).memory:=
 laidMet_of_run' 8 oK oK
theorem reads (os:Os) {H:Type} (enc:TypeId×Value->H):∃ x,DataW.whole enc Tryz.prog ((BF os).forCall (fun _ _=>0) ⟨#[],Ke,[]⟩).memory Tryz.f5.params.toList Rows.schemeTreesMatchSpecSpec.vars false Ke.toList 8=some x:=
 TX.1 oK
theorem QI (os:Os) (b:os.Started) (H:Type) (enc:TypeId×Value->H) (F:Stop.Interp):
  ReturnsInHanded {} Tryz.checked os 5 .any ((OpenSpec.ofChange Rows.schemeTreesMatchSpecSpec).preRow enc Tryz.prog Tryz.f5 Rows.schemeTreesMatchSpecRow.domain false Rows.schemeTreesMatchSpecRow.laid) (((OpenSpec.ofChange Rows.schemeTreesMatchSpecSpec).at F).post enc Tryz.prog Tryz.f5 false true false false):=by
 obtain⟨x,hx⟩:=reads os enc
 refine returnsInHanded_of_row (C:=Tryz.checked) (s:=OpenSpec.ofChange Rows.schemeTreesMatchSpecSpec) Sq b oK Tryz.func5
  (witness_row_at (enc:=enc) (C:=Tryz.checked) false (BF os) Ke rfl oK oK oK
   (OpenSpec.preRow_of_cond 8 hx rfl (fun k hk=>by cases hk) oK (Nr os))) ?_
 intro W a args O gs d g B _ _ _ z hS _
 exact KZ (L:=[3,4,9,22,24,25,27,39,40,42,50,69,73,111,112,114,119,121,178]) oK (c:=Rows.schemeTreesMatchSpecSpec) rfl (fun O r8=>by
   rw[Tryz.params5] at r8
   match O,r8 with
   |[_,_],_=>rfl) Pb oK oK oK Tryz.underlying4 g B (fun n cs r4 _=>law n cs r4) (O9 z hS)
set_option maxHeartbeats 40000000 in
theorem closed:joinedFacts Tryz.prog 5 Tryz.f5 (OpenSpec.ofChange Rows.schemeTreesMatchSpecSpec).bare Rows.schemeTreesMatchSpecRow=true:=by
 unfold joinedFacts
 repeat'(with_reducible apply RH)
 all_goals(as_aux_lemma=>kernel_rfl)
theorem said:Rows.SchemeTreesMatchSpecSaid:=
 OpenClaim.holds_of_cond 5 Tryz.f5 rfl rfl rfl rfl rfl rfl rfl ⟨rfl,rfl,rfl,rfl,rfl⟩ rfl rfl rfl rfl rfl (by as_aux_lemma=>kernel_rfl) Tryz.func5 closed
  (of_decide_eq_true (by as_aux_lemma=>kernel_rfl)) (by unfold Func.isWrapper;first|(rw[Ub (by decide+kernel)];kernel_rfl)|(rw[Ul (by decide+kernel)];exact⟨rfl,rfl⟩))
  (fun os b H enc _ F=>by rw[OpenClaim.pre_eq_preRow];exact QI os b H enc F)
theorem plain (f:FuncId) (fn:Func) (hf:Tryz.pinned.checked.prog.funcNamed "interchange/interchangelaw3.SchemeTreesMatchSpec" =some f) (l:Tryz.pinned.checked.prog.funcs[f]?=some fn):
  true=Tryz.pinned.checked.prog.looks []/\∀ (j:Nat) t,fn.params[j]?=some t->Tryz.pinned.checked.prog.wantsStandIn t=false:=by
 obtain rfl:f=5:=US ((show Tryz.prog.funcNamed "interchange/interchangelaw3.SchemeTreesMatchSpec" =some 5 by kernel_rfl).symm.trans hf)|>.symm
 obtain rfl:fn=Tryz.f5:=(US (Tryz.func5.symm.trans l)).symm
 refine⟨by kernel_rfl,fun j t Y=> ?_⟩
 have R:Tryz.f5.params.toList.all (fun t=> !Tryz.prog.wantsStandIn t)=true:=oK
 have:=Tp.1 R t (by simpa using Array.mem_of_getElem? Y)
 exact(show Tryz.prog.wantsStandIn t=false by simpa using this)
end schemeTreesMatchSpec
theorem schemeTreesMatchSpec_card:Rows.SchemeTreesMatchSpecCardSaid:=
 Claim7.holds_tied_plain_at .later [] _ _ _ _ schemeTreesMatchSpec.said (fun _ h=>by cases h) oK (fun _ h=>by cases h) schemeTreesMatchSpec_row_tie rfl ⟨rfl,rfl⟩ oK rfl schemeTreesMatchSpec.plain oK
#print axioms schemeTreesMatchSpec_card
end Go.Proofs.YteaolfcegaidpaaGreatDoor
