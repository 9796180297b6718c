/-
  My text.
-/
import Derived.Lib.LaidTab
import Derived.Test.YteaolfcegaidpaaGreatDoorSYEngN
import Derived.ProofKit
import Derived.OpenShut
import Derived.ChangeOld
import Derived.Deep.DeepHandedRow
namespace Go.Proofs.YteaolfcegaidpaaGreatDoor
set_option linter.unusedSimpArgs false
set_option linter.unusedVariables false
open Go.ChangeShapes Go.WideShapes Go.ChangeAt Go.RowKit
def yh (P:Program) (t:TypeId) (ds:List DV):DV:=match P.underlying t with|some (.struct _)=> .agg ds|_=>ds.headD .any
def D5 (P:Program) (n:Nat):List TypeId->List DV->Prop
 |[],cs=>cs=[]
 |t::ts,cs=>∃ ds rest,cs=yh P t ds::rest/\WT P n t ds/\D5 P n ts rest
section
variable {H:Type} {enc:TypeId×Value->H} {P:Program}
theorem tn {W:World} {base:Nat} {t:TypeId} {v:Value} {d:TypeDesc} (ht:P.underlying t=some d) (hd:d= .bool\/(∃ k,d= .int k)\/d= .string\/∃ e,d= .slice e) (h:Value.okWide P W .any base t v):∀ vs,v≠ .agg vs:=by
 intro vs he
 subst he
 unfold Value.okWide at h
 simp only[ht] at h
 rcases hd with rfl|⟨k,rfl⟩|rfl|⟨e,rfl⟩<;>simp only[Cell.okWide,ht,Cell.ok] at h
theorem yi {n:Nat} {W:World} {base:Nat}:∀ {ts:List TypeId} {vs:List Value} {ds:List (DataW H)} {ps:List MemPlace},ts.all (xg P n)=true->(∀ (j:Nat) t v,ts[j]?=some t->vs[j]?=some v->Value.okWide P W .any base t v)->
  DataW.TrodAll enc P W 0 (fun _=>true) true ts vs ds ps->∃ cs,D5 P n ts cs/\aI W Me cs vs/\qj cs<=qA ds
 |[],vs,ds,ps,_,_,h=>by
  obtain⟨rfl,rfl,rfl⟩:=trodAll_nil h
  exact⟨[],rfl,by simp[aI],by simp[qj]⟩
 |t::ts,vs,ds,ps,hok,hval,h=>by
  obtain⟨v,vs',d,ds',p,q,rfl,rfl,rfl,h0,hr⟩:=trodAll_cons h
  simp only[Qs,Oz] at hok
  obtain⟨cs,h1,h2,h5⟩:=yi hok.2 (fun j t v ht hv=>hval (j+1) t v (by simpa using ht) (by simpa using hv)) hr
  obtain⟨es,hwt,hbk,hrep,hone⟩:=Js hok.1 h0
  have hv:=hval 0 t v rfl rfl
  have key:aQ W Me (yh P t es) v/\KQ (yh P t es)<=qj es:=by
   cases n with
   |zero=>simp[xg] at hok
   |succ n=>
    have hok1:=hok.1
    simp only[xg] at hok1
    unfold yh
    cases hu:P.underlying t with
    |none=>simp[hu] at hok1
    |some d=>
     cases d with
     |struct fs=>
      obtain⟨vs0,hv0⟩:=Gi hu hv
      exact⟨K_ hv0 hrep hone,by simp[KQ]⟩
     |bool=>
      simp only[WT,hu] at hwt
      obtain⟨b,rfl⟩:=hwt
      exact⟨AH (tn hu (.inl rfl) hv) hrep,by simp[qj]⟩
     |int k=>
      simp only[WT,hu] at hwt
      obtain⟨b,rfl,_⟩:=hwt
      exact⟨AH (tn hu (.inr (.inl ⟨_,rfl⟩)) hv) hrep,by simp[qj]⟩
     |string=>
      simp only[WT,hu] at hwt
      obtain⟨b,rfl,_⟩:=hwt
      exact⟨AH (tn hu (.inr (.inr (.inl rfl))) hv) hrep,by simp[qj]⟩
     |slice e=>
      simp only[WT,hu] at hwt
      obtain⟨b,rfl,_⟩:=hwt
      exact⟨AH (tn hu (.inr (.inr (.inr ⟨_,rfl⟩))) hv) hrep,by simp[qj]⟩
     |_=>simp[hu] at hok1
  refine⟨yh P t es::cs,⟨es,cs,rfl,hwt,h1⟩, ?_, ?_⟩
  ·unfold aI;exact⟨v,vs',rfl,key.1,h2⟩
  ·have:=key.2;simp only[qj,qA];omega
theorem wN {W W':World} (hl:laidOutB P=true) (bel:Below W.heap.size W W'):∀ {ts:List TypeId} {vs:List Value} {ds:List (DataW H)} {ps:List MemPlace},ts.all (fun t=>P.readableRec t&&decide (t<P.types.size))=true->
  DataW.TrodAll enc P W 0 (fun _=>true) true ts vs ds ps->DataW.TrodAll enc P W' 0 (fun b=>decide (b<W.heap.size)) true ts vs ds ps
 |[],vs,ds,ps,_,h=>by
  obtain⟨rfl,rfl,rfl⟩:=trodAll_nil h
  exact trodAll_mk0
 |t::ts,vs,ds,ps,hok,h=>by
  obtain⟨v,vs',d,ds',p,q,rfl,rfl,rfl,h0,hr⟩:=trodAll_cons h
  simp only[Qs,Oz,OC] at hok
  have lt0:∀ x∈p,x.block<W.heap.size:=by obtain⟨m,hm⟩:=h0;exact DataW.trod_lt m _ _ _ hm
  refine trodAll_cons_mk (Below.trod hl hok.1.1 hok.1.2 h0 bel lt0) (wN hl bel ?_ hr)
  simpa using hok.2
theorem z_ {W:World} {sp:Nat->Bool} {b:Nat} {hd:Bool}:∀ {ts:List TypeId} {vs:List Value} {ds:List (DataW H)} {ps:List MemPlace},DataW.TrodAll enc P W b sp hd ts vs ds ps->vs.length=ts.length/\ds.length=ts.length
 |[],vs,ds,ps,h=>by obtain⟨rfl,rfl,rfl⟩:=trodAll_nil h;simp
 |t::ts,vs,ds,ps,h=>by
  obtain⟨v,vs',d,ds',p,q,rfl,rfl,rfl,h0,hr⟩:=trodAll_cons h
  have:=z_ hr
  simp[this]
theorem G5 {P:Program} {w:World}:∀ {laid:List (String×DataW Unit)} {ps:List MemPlace},DataW.LaidVars P w laid ps->∀ {n:String} {d:DataW Unit},(n,d)∈laid->
  ∃ g t cs fuel p,P.globalNamed n=some g/\(P.globals[g]?).map (·.type)=some t/\w.var? P n=some cs/\DataW.trod (fun _=>()) P w 0 (fun _=>true) false fuel t cs.toList=some (d,p)
 |[],_,_,_,_,hm=>by cases hm
 |(n',d')::r,ps,h,n,d,hm=>by
  simp only[DataW.LaidVars] at h
  obtain⟨g,t,cs,fuel,p,q,h1,h2,h3,h4,h5,_⟩:=h
  rcases ON.1 hm with he|hm
  ·cases he;exact⟨g,t,cs,fuel,p,h1,h2,h3,h4⟩
  ·exact G5 h5 hm
theorem Gl {P:Program} {W:World} {laid:List (String×DataW Unit)} {name:String} {k:IntKind} {zs:List Int} {g:Nat} {t e:TypeId} {n:Nat} (h:laidMet P laid W) (hm:(name,Lib.tabData k zs)∈laid)
  (hg:P.globalNamed name=some g) (hty:(P.globals[g]?).map (·.type)=some t) (ht:P.underlying t=some (.array n e)) (he:P.underlying e=some (.int k)) (hce:P.cellsOf e=1) (hct:P.cellsOf t=n) (hz:zs≠[]):uz W (g,k,zs):=by
 obtain⟨ps,hl, -⟩:=h
 obtain⟨g',t',cs,fuel,p,hg',ht',hvar,hd⟩:=G5 hl hm
 obtain rfl:=QD (hg.symm.trans hg')
 obtain rfl:=QD (hty.symm.trans ht')
 have hc:=Lib.cells_of_tab ht he hce hct hd
 unfold World.var? at hvar
 rw[hg] at hvar
 simp only[OA] at hvar
 refine .inr ⟨hz, ?_⟩
 cases hb:W.heap[g]? with
 |none=>rw[hb] at hvar;cases hvar
 |some o=>
  rw[hb] at hvar
  cases o<;>first
   |(cases hvar;done)
   |(rename_i cs' ty fz
     have:cs'=cs:=by simpa using hvar
     subst this
     exact⟨ty,fz,by rw[<-hc]⟩)
theorem HW {W:World} {g:Nat} {k:IntKind} (h:∃ m,W.cell? ⟨g,0,none⟩=some (.int k m)):uz W (g,k,[]):= .inl ⟨rfl,h⟩
theorem Jw {n:Nat} {f:FuncId} {fn:Func} {spec:ChangeSpec} {tb:TypeId} {apart fresh handsOn:Bool} (hvars:spec.vars=[]) (hfn:∀ (ds:List (DataW H)),ds.length=fn.params.size->spec.fn H ds={results:=[.lit (.bool true)],args:=ds})
  (hl:laidOutB P=true) (hok:fn.params.toList.all (xg P n)=true) (hrd:fn.params.toList.all (fun t=>P.readableRec t&&decide (t<P.types.size))=true) (hres:fn.resultTypes= #[tb]) (htb:P.underlying tb=some .bool)
  {W:World} {base:Nat} {args:Array Value} {ds gs:List (DataW H)} {before:List MemPlace} (hval:∀ (j:Nat) t v,fn.params[j]?=some t->args[j]?=some v->Value.okWide P W .any base t v)
  (hW:DataW.Whole enc P fn.params.toList spec.vars apart W args.toList ds gs before) (law:∀ cs,D5 P n fn.params.toList cs->qj cs<=qA (ds++gs)->aa P f cs (.bool true)) (hgood:wY W):
  Calls P f args W fun e W'=>∃ v,e= .returned v/\spec.post enc P fn apart fresh handsOn false W args v W':=by
 have hW':=hW
 obtain⟨p,q,hA,hV,rfl,hfz,hnd⟩:=hW
 rw[hvars] at hV
 obtain⟨rfl,rfl⟩:=trodVars_none hV
 obtain⟨cs,hcs,hrep,hbk⟩:=yi (n:=n) (base:=base) hok (fun j t v ht hv=>hval j t v (by simpa using ht) (by simpa using hv)) hA
 have hlen:=(z_ hA).2
 have hs:=hfn ds (by simpa using hlen)
 have hc:=(law cs hcs (by simpa using hbk)).2 W Me args.toList (fun b hb=>hb.elim) hrep hgood
 rw[show args.toList.toArray=args by simp] at hc
 refine hc.mono fun e W' ⟨v,he,hv,bel⟩=> ?_
 simp only[aQ] at hv
 subst hv
 refine⟨_,he,ds,[],_,[],p,[],hW', ?_, ?_, ?_,bel.frame _,fun h=>by cases h⟩
 ·rw[OY,hs,hres]
  exact trodAll_cons_mk (shut_bool htb _) trodAll_mk0
 ·rw[OY,hs];exact wN hl bel hrd hA
 ·rw[OY,hs,hvars];rfl
end
