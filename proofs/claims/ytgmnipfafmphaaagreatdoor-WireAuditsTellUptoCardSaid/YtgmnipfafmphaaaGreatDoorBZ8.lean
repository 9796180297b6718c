/-
  WireAuditsTell: the row and the card (where what it reads is of bulk at most 1048576).
-/
import Derived.Test.YtgmnipfafmphaaaGreatDoorBZ4
import Derived.Test.YtgmnipfafmphaaaGreatDoorBZ5
import Derived.Test.YtgmnipfafmphaaaGreatDoorBZ7
namespace Go.Proofs.YtgmnipfafmphaaaGreatDoor
open Go.ChangeShapes Go.WideShapes Go.ChangeAt Go.RowKit
set_option linter.unusedSimpArgs false
set_option linter.unusedVariables false
mutual
theorem un {H:Type}:∀ d:DataW H,Rows.uptoBulk d=gO d
 | .lit (.string b)=>rfl
 | .lit (.int _ _)=>rfl
 | .lit (.bool _)=>rfl
 | .lit (.float _ _)=>rfl
 | .lit .nil=>rfl
 | .nil=>rfl
 | .ptr d=>by simp only[Rows.uptoBulk,gO,un d]
 | .slice a b=>by simp only[Rows.uptoBulk,gO,xd a,xd b]
 | .agg a=>by simp only[Rows.uptoBulk,gO,xd a]
 | .iface _ d=>by simp only[Rows.uptoBulk,gO,un d]
 | .map e=>by simp only[Rows.uptoBulk,gO,Gg e]
 | .held _=>rfl
theorem xd {H:Type}:∀ l:List (DataW H),Rows.uptoBulkAll l=j_ l
 |[]=>rfl
 |d::r=>by simp only[Rows.uptoBulkAll,j_,un d,xd r]
theorem Gg {H:Type}:∀ l:List (Lit×DataW H),Rows.uptoBulkEntries l=zo l
 |[]=>rfl
 |x::r=>by simp only[Rows.uptoBulkEntries,zo,Jj x,Gg r]
theorem Jj {H:Type}:∀ x:Lit×DataW H,Rows.uptoBulkEntry x=qR x
 |(.string b,d)=>by simp only[Rows.uptoBulkEntry,qR,un d]
 |(.int _ _,d)=>by simp only[Rows.uptoBulkEntry,qR,un d]
 |(.bool _,d)=>by simp only[Rows.uptoBulkEntry,qR,un d]
 |(.float _ _,d)=>by simp only[Rows.uptoBulkEntry,qR,un d]
 |(.nil,d)=>by simp only[Rows.uptoBulkEntry,qR,un d]
end
namespace wireAuditsTellUpto
set_option maxRecDepth 100000 in
theorem law (cs:List DV) (h:zu Tryz.prog 12 Tryz.f3.params.toList cs) (hb:eK cs<=1048576):ae Tryz.prog 3 cs (.bool true):=by
 rw[Tryz.params3] at h
 obtain⟨d0,_,rfl,h0,d1,_,rfl,h1,h⟩:=h
 obtain rfl:=h
 obtain⟨x0,rfl,o0⟩:=(KN.up 0) 0 _ h0
 obtain⟨x1,rfl,o1⟩:=(KB.up 11) 0 _ h1
 have e0:rT Tryz.prog 24 (ay x0)= .agg (ay x0):=by simp only[rT,Tryz.underlying24]
 rw[e0] at hb⊢
 have e1:rT Tryz.prog 3 (uA x1)= .int .i64 x1:=by simp only[rT,Tryz.underlying3,uA,ka,dB,zB,gf,List.headD_cons]
 rw[e1] at hb⊢
 exact iE x0 x1 true ((fun(x0:aG) (x1:Int) (o0:gk x0) (_:Jv x1) (hb:eK [.agg (ay x0),.int .i64 x1]<=1048576)=>Er x0 x1 (Ka x0 o0 (by simp only[eK,xn] at hb;omega)) (KO x0 o0 (by simp only[eK,xn] at hb;omega))) x0 x1 o0 o1 hb)
noncomputable def C2:Array Value:= #[.agg #[.string ⟨#[]⟩,.string ⟨#[]⟩,.string ⟨#[]⟩,.int .i64 0,.int .i64 0,.bool false,.slice none 0 0],.int .i64 0]
theorem HN {W:World} (h:laidMet Tryz.prog Rows.wireAuditsTellRow.laid W) (hs:W.ShapedOpen Tryz.prog):oF W:=fun t ht=>by
 rcases Li.1 ht with rfl|ht
 ·exact vT h (K8 (i:=6) oK) (show Tryz.prog.globalNamed "unicode/utf8.first" =some 4 by kernel_rfl) oK Tryz.underlying245 Tryz.underlying5 oK oK (by first|decide|simp)
 rcases Li.1 ht with rfl|ht
 ·exact AM [(128,191),(160,191),(128,159),(144,191),(128,143),(0,0),(0,0),(0,0),(0,0),(0,0),(0,0),(0,0),(0,0),(0,0),(0,0),(0,0)] h (K8 (i:=3) oK) (show Tryz.prog.globalNamed "unicode/utf8.acceptRanges" =some 5 by kernel_rfl) oK Tryz.underlying248 Tryz.underlying247 Tryz.underlying5 rfl rfl rfl rfl rfl oK oK oK rfl oS
 rcases Li.1 ht with rfl|ht
 ·exact Dp (cell_of_shapedOpen_int (P:=Tryz.prog) (g:=0) (t:=3) (zero:= #[.int .i64 0]) hs (MV oK) oK rfl oK oK Tryz.underlying3)
 rcases Li.1 ht with rfl|ht
 ·exact vT h (K8 (i:=2) oK) (show Tryz.prog.globalNamed "internal/strconv.uint64pow10" =some 3 by kernel_rfl) oK Tryz.underlying232 Tryz.underlying212 oK oK (by first|decide|simp)
 exact absurd ht LZ
theorem Gh (os:Os):laidMet Tryz.prog Rows.wireAuditsTellUptoRow.laid ((tI os).forCall (fun _ _=>0) ⟨#[],C2,[]⟩).memory:=
 laidMet_of_run' 8 oK oK
theorem reads (os:Os) {H:Type} (enc:TypeId×Value->H):∃ places,DataW.whole enc Tryz.prog ((tI os).forCall (fun _ _=>0) ⟨#[],C2,[]⟩).memory Tryz.f3.params.toList Rows.wireAuditsTellSpec.vars false C2.toList 8=some ([.agg [.lit (.string []),.lit (.string []),.lit (.string []),.lit (.int .i64 0),.lit (.int .i64 0),.lit (.bool false),.nil],.lit (.int .i64 0)],[],places):=
 ⟨[],by kernel_rfl⟩
set_option maxRecDepth 100000 in
theorem Jk (os:Os) (started:os.Started) (H:Type) (enc:TypeId×Value->H) (F:Stop.Interp):
  ReturnsInHanded {} Tryz.checked os 3 .any ((Rows.OpenSpec.upto Rows.wireAuditsTellSpec).preRow enc Tryz.prog Tryz.f3 Rows.wireAuditsTellUptoRow.domain false Rows.wireAuditsTellUptoRow.laid) (((Rows.OpenSpec.upto Rows.wireAuditsTellSpec).at F).post enc Tryz.prog Tryz.f3 false true false false):=by
 obtain⟨places,hx⟩:=reads os enc
 refine returnsInHanded_of_row (C:=Tryz.checked) (s:=Rows.OpenSpec.upto Rows.wireAuditsTellSpec) KA started oK Tryz.func3
  (witness_row_at (enc:=enc) (C:=Tryz.checked) false (tI os) C2 rfl oK oK oK
   (OpenSpec.preRow_of_cond 8 hx oK (fun k hk=>by cases hk;kernel_rfl) oK (Gh os))) ?_
 intro W base args ds gs before hval hW _ hcond _ hL hS _
 exact E4 (n:=12) (spec:=Rows.wireAuditsTellSpec) rfl (fun ds hds=>by
   rw[Tryz.params3] at hds
   match ds,hds with
   |[_,_],_=>rfl) HP oK oK oK Tryz.underlying4 hval hW (fun cs hcs hb=>law cs hcs (LO hb (by have hk:=MV (hcond _ rfl);rw[xd] at hk;exact hk))) (HN hL hS)
set_option maxHeartbeats 40000000 in
theorem closed:joinedFacts Tryz.prog 3 Tryz.f3 (Rows.OpenSpec.upto Rows.wireAuditsTellSpec).bare Rows.wireAuditsTellUptoRow=true:=by
 unfold joinedFacts
 repeat'(with_reducible apply J8)
 all_goals(as_aux_lemma=>kernel_rfl)
theorem said:Rows.WireAuditsTellUptoSaid:=
 OpenClaim.holds_of_cond 3 Tryz.f3 rfl rfl rfl rfl rfl rfl rfl ⟨rfl,rfl,rfl,rfl,rfl⟩ rfl rfl rfl rfl rfl (by as_aux_lemma=>kernel_rfl) Tryz.func3 closed
  (MV (by as_aux_lemma=>kernel_rfl)) (by unfold Func.isWrapper;first|(rw[if_pos (by decide+kernel)];kernel_rfl)|(rw[if_neg (by decide+kernel)];exact⟨rfl,rfl⟩))
  (fun os started H enc _ F=>by rw[OpenClaim.pre_eq_preRow];exact Jk os started H enc F)
theorem plain (f:FuncId) (fn:Func) (hf:Tryz.pinned.checked.prog.funcNamed "interchange/interchangelaw2.WireAuditsTell" =some f) (hfn:Tryz.pinned.checked.prog.funcs[f]?=some fn):
  true=Tryz.pinned.checked.prog.looks []/\∀ (j:Nat) t,fn.params[j]?=some t->Tryz.pinned.checked.prog.wantsStandIn t=false:=by
 obtain rfl:f=3:=Mj ((show Tryz.prog.funcNamed "interchange/interchangelaw2.WireAuditsTell" =some 3 by kernel_rfl).symm.trans hf)|>.symm
 obtain rfl:fn=Tryz.f3:=(Mj (Tryz.func3.symm.trans hfn)).symm
 refine⟨by kernel_rfl,fun j t ht=> ?_⟩
 have hall:Tryz.f3.params.toList.all (fun t=> !Tryz.prog.wantsStandIn t)=true:=oK
 have:=Lj.1 hall t (by simpa using Array.mem_of_getElem? ht)
 exact(show Tryz.prog.wantsStandIn t=false by simpa using this)
end wireAuditsTellUpto
theorem wireAuditsTellUpto_card:Rows.WireAuditsTellUptoCardSaid:=
 Claim7.holds_tied_plain_at .later [] _ _ _ _ wireAuditsTellUpto.said (fun _ h=>by cases h) oK (fun _ h=>by cases h) wireAuditsTellUpto_row_tie rfl ⟨rfl,rfl⟩ oK rfl wireAuditsTellUpto.plain oK
#print axioms wireAuditsTellUpto_card
end Go.Proofs.YtgmnipfafmphaaaGreatDoor
