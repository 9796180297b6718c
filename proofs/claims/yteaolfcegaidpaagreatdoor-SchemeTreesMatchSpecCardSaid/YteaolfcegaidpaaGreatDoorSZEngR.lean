/-
  My text.
-/
import Derived.Lib.LaidTab
import Derived.Test.YteaolfcegaidpaaGreatDoorSZEngN
import Derived.ProofKit
import Derived.OpenShut
import Derived.ChangeOld
import Derived.Deep.DeepHandedRow
namespace Go.Proofs.YteaolfcegaidpaaGreatDoor
set_option linter.unusedSimpArgs false
set_option linter.unusedVariables false
open Go.ChangeShapes Go.WideShapes Go.ChangeAt Go.RowKit
variable {W:World} {g:Nat} {k:IntKind} {t:TypeId}
def z1 (P:Program) (t:TypeId) (O:List DV):DV:=match P.underlying t with|some (.struct _)=> .agg O|_=>O.headD .any
def Ba (P:Program) (n:Nat):List TypeId->List DV->Prop
 |[],cs=>cs=[]
 |t::ts,cs=>∃ O T,cs=z1 P t O::T/\WT P n t O/\Ba P n ts T
section
variable {H:Type} {enc:TypeId×Value->H} {P:Program}
theorem vo {a:Nat} {v:Value} {d:TypeDesc} (Y:P.underlying t=some d) (hd:d= .bool\/(∃ k,d= .int k)\/d= .string\/∃ e,d= .slice e) (h:Value.okWide P W .any a t v):∀ vs,v≠ .agg vs:=by
 intro vs J
 subst J
 unfold Value.okWide at h
 simp only[Y] at h
 rcases hd with rfl|⟨k,rfl⟩|rfl|⟨e,rfl⟩<;>simp only[Cell.okWide,Y,Cell.ok] at h
theorem yU {W o:World} (hl:laidOutB P=true) (s:Below W.heap.size W o):∀ {ts:List TypeId} {vs:List Value} {O:List (DataW H)} {ps:List MemPlace},ts.all (fun t=>P.readableRec t&&decide (t<P.types.size))=true->
  DataW.TrodAll enc P W 0 (fun _=>true) true ts vs O ps->DataW.TrodAll enc P o 0 (fun b=>decide (b<W.heap.size)) true ts vs O ps
 |[],vs,O,ps,_,h=>by
  obtain⟨rfl,rfl,rfl⟩:=trodAll_nil h
  exact trodAll_mk0
 |t::ts,vs,O,ps,N,h=>by
  obtain⟨v,A,d,i,p,q,rfl,rfl,rfl,h0,hr⟩:=trodAll_cons h
  simp only[Uy,SR,SU] at N
  have a:∀ x∈p,x.block<W.heap.size:=by obtain⟨m,Z⟩:=h0;exact DataW.trod_lt m _ _ _ Z
  refine trodAll_cons_mk (Below.trod hl N.1.1 N.1.2 h0 s a) (yU hl s ?_ hr)
  simpa using N.2
theorem B5 {W:World} {sp:Nat->Bool} {b:Nat} {hd:Bool}:∀ {ts:List TypeId} {vs:List Value} {O:List (DataW H)} {ps:List MemPlace},DataW.TrodAll enc P W b sp hd ts vs O ps->vs.length=ts.length/\O.length=ts.length
 |[],vs,O,ps,h=>by obtain⟨rfl,rfl,rfl⟩:=trodAll_nil h;simp
 |t::ts,vs,O,ps,h=>by
  obtain⟨v,A,d,i,p,q,rfl,rfl,rfl,h0,hr⟩:=trodAll_cons h
  have:=B5 hr
  simp[this]
theorem JU {P:Program} {w:World}:∀ {b:List (String×DataW Unit)} {ps:List MemPlace},DataW.LaidVars P w b ps->∀ {n:String} {d:DataW Unit},(n,d)∈b->
  ∃ g t cs u p,P.globalNamed n=some g/\(P.globals[g]?).map (·.type)=some t/\w.var? P n=some cs/\DataW.trod (fun _=>()) P w 0 (fun _=>true) false u t cs.toList=some (d,p)
 |[],_,_,_,_,Z=>by cases Z
 |(n',d')::r,ps,h,n,d,Z=>by
  simp only[DataW.LaidVars] at h
  obtain⟨g,t,cs,u,p,q,h1,h2,E,h4,h5,_⟩:=h
  rcases S9.1 Z with J|Z
  ·cases J;exact⟨g,t,cs,u,p,h1,h2,E,h4⟩
  ·exact JU h5 Z
theorem I7 {P:Program} {b:List (String×DataW Unit)} {name:String} {zs:List Int} {e:TypeId} {n:Nat} (h:laidMet P b W) (Z:(name,Lib.tabData k zs)∈b) (hg:P.globalNamed name=some g) (j:(P.globals[g]?).map (·.type)=some t) (Y:P.underlying t=some (.array n e)) (J:P.underlying e=some (.int k)) (c:P.cellsOf e=1) (f:P.cellsOf t=n) (hz:zs≠[]):wN W (g,k,zs):=by
 obtain⟨ps,hl, -⟩:=h
 obtain⟨i,t',cs,u,p,B,u5,a,hd⟩:=JU hl Z
 obtain rfl:=US (hg.symm.trans B)
 obtain rfl:=US (j.symm.trans u5)
 have hc:=Lib.cells_of_tab Y J c f hd
 unfold World.var? at a
 rw[hg] at a
 simp only[SQ] at a
 refine .inr ⟨hz, ?_⟩
 cases hb:W.heap[g]? with
 |none=>rw[hb] at a;cases a
 |some o=>
  rw[hb] at a
  cases o<;>first
   |(cases a;done)
   |(rename_i V ty d
     have:V=cs:=by simpa using a
     subst this
     exact⟨ty,d,by rw[<-hc]⟩)
theorem K1 (h:∃ m,W.cell? ⟨g,0,none⟩=some (.int k m)):wN W (g,k,[]):= .inl ⟨rfl,h⟩
end
