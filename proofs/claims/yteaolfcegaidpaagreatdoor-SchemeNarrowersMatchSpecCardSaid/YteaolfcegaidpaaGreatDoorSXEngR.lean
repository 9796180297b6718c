/-
  My text.
-/
import Derived.Lib.LaidTab
import Derived.Test.YteaolfcegaidpaaGreatDoorSXEngN
import Derived.ProofKit
import Derived.OpenShut
import Derived.ChangeOld
import Derived.Deep.DeepHandedRow
namespace Go.Proofs.YteaolfcegaidpaaGreatDoor
set_option linter.unusedSimpArgs false
set_option linter.unusedVariables false
open Go.ChangeShapes Go.WideShapes Go.ChangeAt Go.RowKit
def wG (P:Program) (t:TypeId) (ds:List DV):DV:=match P.underlying t with|some (.struct _)=> .agg ds|_=>ds.headD .any
def xE (P:Program) (n:Nat):List TypeId->List DV->Prop
 |[],cs=>cs=[]
 |t::ts,cs=>∃ ds rest,cs=wG P t ds::rest/\WT P n t ds/\xE P n ts rest
section
variable {H:Type} {enc:TypeId×Value->H} {P:Program}
theorem rN {W:World} {base:Nat} {t:TypeId} {v:Value} {d:TypeDesc} (ht:P.underlying t=some d) (hd:d= .bool\/(∃ k,d= .int k)\/d= .string\/∃ e,d= .slice e) (h:Value.okWide P W .any base t v):∀ vs,v≠ .agg vs:=by
 intro vs he
 subst he
 unfold Value.okWide at h
 simp only[ht] at h
 rcases hd with rfl|⟨k,rfl⟩|rfl|⟨e,rfl⟩<;>simp only[Cell.okWide,ht,Cell.ok] at h
theorem vm {W W':World} (hl:laidOutB P=true) (bel:Below W.heap.size W W'):∀ {ts:List TypeId} {vs:List Value} {ds:List (DataW H)} {ps:List MemPlace},ts.all (fun t=>P.readableRec t&&decide (t<P.types.size))=true->
  DataW.TrodAll enc P W 0 (fun _=>true) true ts vs ds ps->DataW.TrodAll enc P W' 0 (fun b=>decide (b<W.heap.size)) true ts vs ds ps
 |[],vs,ds,ps,_,h=>by
  obtain⟨rfl,rfl,rfl⟩:=trodAll_nil h
  exact trodAll_mk0
 |t::ts,vs,ds,ps,hok,h=>by
  obtain⟨v,vs',d,ds',p,q,rfl,rfl,rfl,h0,hr⟩:=trodAll_cons h
  simp only[NL,L9,Ma] at hok
  have lt0:∀ x∈p,x.block<W.heap.size:=by obtain⟨m,hm⟩:=h0;exact DataW.trod_lt m _ _ _ hm
  refine trodAll_cons_mk (Below.trod hl hok.1.1 hok.1.2 h0 bel lt0) (vm hl bel ?_ hr)
  simpa using hok.2
theorem yA {W:World} {sp:Nat->Bool} {b:Nat} {hd:Bool}:∀ {ts:List TypeId} {vs:List Value} {ds:List (DataW H)} {ps:List MemPlace},DataW.TrodAll enc P W b sp hd ts vs ds ps->vs.length=ts.length/\ds.length=ts.length
 |[],vs,ds,ps,h=>by obtain⟨rfl,rfl,rfl⟩:=trodAll_nil h;simp
 |t::ts,vs,ds,ps,h=>by
  obtain⟨v,vs',d,ds',p,q,rfl,rfl,rfl,h0,hr⟩:=trodAll_cons h
  have:=yA hr
  simp[this]
theorem Fk {P:Program} {w:World}:∀ {laid:List (String×DataW Unit)} {ps:List MemPlace},DataW.LaidVars P w laid ps->∀ {n:String} {d:DataW Unit},(n,d)∈laid->
  ∃ g t cs fuel p,P.globalNamed n=some g/\(P.globals[g]?).map (·.type)=some t/\w.var? P n=some cs/\DataW.trod (fun _=>()) P w 0 (fun _=>true) false fuel t cs.toList=some (d,p)
 |[],_,_,_,_,hm=>by cases hm
 |(n',d')::r,ps,h,n,d,hm=>by
  simp only[DataW.LaidVars] at h
  obtain⟨g,t,cs,fuel,p,q,h1,h2,h3,h4,h5,_⟩:=h
  rcases Ml.1 hm with he|hm
  ·cases he;exact⟨g,t,cs,fuel,p,h1,h2,h3,h4⟩
  ·exact Fk h5 hm
theorem EC {P:Program} {W:World} {laid:List (String×DataW Unit)} {name:String} {k:IntKind} {zs:List Int} {g:Nat} {t e:TypeId} {n:Nat} (h:laidMet P laid W) (hm:(name,Lib.tabData k zs)∈laid)
  (hg:P.globalNamed name=some g) (hty:(P.globals[g]?).map (·.type)=some t) (ht:P.underlying t=some (.array n e)) (he:P.underlying e=some (.int k)) (hce:P.cellsOf e=1) (hct:P.cellsOf t=n) (hz:zs≠[]):te W (g,k,zs):=by
 obtain⟨ps,hl, -⟩:=h
 obtain⟨g',t',cs,fuel,p,hg',ht',hvar,hd⟩:=Fk hl hm
 obtain rfl:=NR (hg.symm.trans hg')
 obtain rfl:=NR (hty.symm.trans ht')
 have hc:=Lib.cells_of_tab ht he hce hct hd
 unfold World.var? at hvar
 rw[hg] at hvar
 simp only[L8] at hvar
 refine .inr ⟨hz, ?_⟩
 cases hb:W.heap[g]? with
 |none=>rw[hb] at hvar;cases hvar
 |some o=>
  rw[hb] at hvar
  cases o<;>first
   |(cases hvar;done)
   |(rename_i cs' ty fz
     have:cs'=cs:=by simpa using hvar
     subst this
     exact⟨ty,fz,by rw[<-hc]⟩)
theorem Gg {W:World} {g:Nat} {k:IntKind} (h:∃ m,W.cell? ⟨g,0,none⟩=some (.int k m)):te W (g,k,[]):= .inl ⟨rfl,h⟩
end
