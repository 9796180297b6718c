/-
  My text.
-/
import Derived.Lib.LaidTab
import Derived.Test.YtgmnipfafmphaaaGreatDoorSXEngN
import Derived.ProofKit
import Derived.OpenShut
import Derived.ChangeOld
import Derived.Deep.DeepHandedRow
namespace Go.Proofs.YtgmnipfafmphaaaGreatDoor
set_option linter.unusedSimpArgs false
set_option linter.unusedVariables false
open Go.ChangeShapes Go.WideShapes Go.ChangeAt Go.RowKit
variable {W:World} {g:Nat} {k:IntKind} {t:TypeId}
def Dg (P:Program) (t:TypeId) (J:List DV):DV:=match P.underlying t with|some (.struct _)=> .agg J|_=>J.headD .any
def GK (P:Program) (n:Nat):List TypeId->List DV->Prop
 |[],cs=>cs=[]
 |t::ts,cs=>∃ J z,cs=Dg P t J::z/\WT P n t J/\GK P n ts z
section
variable {H:Type} {enc:TypeId×Value->H} {P:Program}
theorem uz {v:Value} {d:TypeDesc} (ht:P.underlying t=some d) (hd:d= .bool\/(∃ k,d= .int k)\/d= .string\/∃ e,d= .slice e) (h:Value.okWide P W .any g t v):∀ vs,v≠ .agg vs:=by
 intro vs he
 subst he
 unfold Value.okWide at h
 simp only[ht] at h
 rcases hd with rfl|⟨k,rfl⟩|rfl|⟨e,rfl⟩<;>simp only[Cell.okWide,ht,Cell.ok] at h
theorem zh {n:Nat} {W:World} {g:Nat}:∀ {ts:List TypeId} {vs:List Value} {J:List (DataW H)} {ps:List MemPlace},ts.all (yq P n)=true->(∀ (j:Nat) t v,ts[j]?=some t->vs[j]?=some v->Value.okWide P W .any g t v)->
  DataW.TrodAll enc P W 0 (fun _=>true) true ts vs J ps->∃ cs,GK P n ts cs/\aM W QV cs vs/\rh cs<=rP J
 |[],vs,J,ps,_,_,h=>by
  obtain⟨rfl,rfl,rfl⟩:=trodAll_nil h
  exact⟨[],rfl,by simp[aM],by simp[rh]⟩
 |t::ts,vs,J,ps,r5,m,h=>by
  obtain⟨v,A,d,i,p,q,rfl,rfl,rfl,h0,D⟩:=trodAll_cons h
  simp only[Wv,Vj] at r5
  obtain⟨cs,h1,h2,h5⟩:=zh r5.2 (fun j t v ht hv=>m (j+1) t v (by simpa using ht) (by simpa using hv)) D
  obtain⟨es,c,s,V,r1⟩:=Ni r5.1 h0
  have hv:=m 0 t v rfl rfl
  have key:bf W QV (Dg P t es) v/\OW (Dg P t es)<=rh es:=by
   cases n with
   |zero=>simp[yq] at r5
   |succ n=>
    have l:=r5.1
    simp only[yq] at l
    unfold Dg
    cases hu:P.underlying t with
    |none=>simp[hu] at l
    |some d=>
     cases d with
     |struct O=>
      obtain⟨a,r⟩:=Jx hu hv
      exact⟨PD r V r1,by simp[OW]⟩
     |bool=>
      simp only[WT,hu] at c
      obtain⟨b,rfl⟩:=c
      exact⟨Ci (uz hu (.inl rfl) hv) V,by simp[rh]⟩
     |int k=>
      simp only[WT,hu] at c
      obtain⟨b,rfl,_⟩:=c
      exact⟨Ci (uz hu (.inr (.inl ⟨_,rfl⟩)) hv) V,by simp[rh]⟩
     |string=>
      simp only[WT,hu] at c
      obtain⟨b,rfl,_⟩:=c
      exact⟨Ci (uz hu (.inr (.inr (.inl rfl))) hv) V,by simp[rh]⟩
     |slice e=>
      simp only[WT,hu] at c
      obtain⟨b,rfl,_⟩:=c
      exact⟨Ci (uz hu (.inr (.inr (.inr ⟨_,rfl⟩))) hv) V,by simp[rh]⟩
     |_=>simp[hu] at l
  refine⟨Dg P t es::cs,⟨es,cs,rfl,c,h1⟩, ?_, ?_⟩
  ·unfold aM;exact⟨v,A,rfl,key.1,h2⟩
  ·have:=key.2;simp only[rh,rP];omega
theorem xT {W w:World} (hl:laidOutB P=true) (a:Below W.heap.size W w):∀ {ts:List TypeId} {vs:List Value} {J:List (DataW H)} {ps:List MemPlace},ts.all (fun t=>P.readableRec t&&decide (t<P.types.size))=true->
  DataW.TrodAll enc P W 0 (fun _=>true) true ts vs J ps->DataW.TrodAll enc P w 0 (fun b=>decide (b<W.heap.size)) true ts vs J ps
 |[],vs,J,ps,_,h=>by
  obtain⟨rfl,rfl,rfl⟩:=trodAll_nil h
  exact trodAll_mk0
 |t::ts,vs,J,ps,r5,h=>by
  obtain⟨v,A,d,i,p,q,rfl,rfl,rfl,h0,D⟩:=trodAll_cons h
  simp only[Wv,Vj,Vv] at r5
  have c:∀ x∈p,x.block<W.heap.size:=by obtain⟨m,Z⟩:=h0;exact DataW.trod_lt m _ _ _ Z
  refine trodAll_cons_mk (Below.trod hl r5.1.1 r5.1.2 h0 a c) (xT hl a ?_ D)
  simpa using r5.2
theorem Bo {W:World} {sp:Nat->Bool} {b:Nat} {hd:Bool}:∀ {ts:List TypeId} {vs:List Value} {J:List (DataW H)} {ps:List MemPlace},DataW.TrodAll enc P W b sp hd ts vs J ps->vs.length=ts.length/\J.length=ts.length
 |[],vs,J,ps,h=>by obtain⟨rfl,rfl,rfl⟩:=trodAll_nil h;simp
 |t::ts,vs,J,ps,h=>by
  obtain⟨v,A,d,i,p,q,rfl,rfl,rfl,h0,D⟩:=trodAll_cons h
  have:=Bo D
  simp[this]
theorem GL {P:Program} {w:World}:∀ {b:List (String×DataW Unit)} {ps:List MemPlace},DataW.LaidVars P w b ps->∀ {n:String} {d:DataW Unit},(n,d)∈b->
  ∃ g t cs u p,P.globalNamed n=some g/\(P.globals[g]?).map (·.type)=some t/\w.var? P n=some cs/\DataW.trod (fun _=>()) P w 0 (fun _=>true) false u t cs.toList=some (d,p)
 |[],_,_,_,_,Z=>by cases Z
 |(n',d')::r,ps,h,n,d,Z=>by
  simp only[DataW.LaidVars] at h
  obtain⟨g,t,cs,u,p,q,h1,h2,E,h4,h5,_⟩:=h
  rcases VK.1 Z with he|Z
  ·cases he;exact⟨g,t,cs,u,p,h1,h2,E,h4⟩
  ·exact GL h5 Z
theorem Dh {P:Program} {b:List (String×DataW Unit)} {c:String} {zs:List Int} {e:TypeId} {n:Nat} (h:laidMet P b W) (Z:(c,Lib.tabData k zs)∈b) (L:P.globalNamed c=some g) (l:(P.globals[g]?).map (·.type)=some t) (ht:P.underlying t=some (.array n e)) (he:P.underlying e=some (.int k)) (m:P.cellsOf e=1) (s:P.cellsOf t=n) (hz:zs≠[]):rL W (g,k,zs):=by
 obtain⟨ps,hl, -⟩:=h
 obtain⟨r,t',cs,u,p,i,M,a,hd⟩:=GL hl Z
 obtain rfl:=W5 (L.symm.trans i)
 obtain rfl:=W5 (l.symm.trans M)
 have hc:=Lib.cells_of_tab ht he m s hd
 unfold World.var? at a
 rw[L] at a
 simp only[Vh] at a
 refine .inr ⟨hz, ?_⟩
 cases hb:W.heap[g]? with
 |none=>rw[hb] at a;cases a
 |some o=>
  rw[hb] at a
  cases o<;>first
   |(cases a;done)
   |(rename_i C ty d
     have:C=cs:=by simpa using a
     subst this
     exact⟨ty,d,by rw[<-hc]⟩)
theorem LD (h:∃ m,W.cell? ⟨g,0,none⟩=some (.int k m)):rL W (g,k,[]):= .inl ⟨rfl,h⟩
theorem Nm {n:Nat} {f:FuncId} {fn:Func} {c:ChangeSpec} {z:TypeId} {i u o:Bool} (r:c.vars=[]) (l:∀ (J:List (DataW H)),J.length=fn.params.size->c.fn H J={results:=[.lit (.bool true)],args:=J}) (hl:laidOutB P=true) (r5:fn.params.toList.all (yq P n)=true) (A:fn.params.toList.all (fun t=>P.readableRec t&&decide (t<P.types.size))=true) (F:fn.resultTypes= #[z]) (x:P.underlying z=some .bool) {W:World} {g:Nat} {args:Array Value} {J gs:List (DataW H)} {d:List MemPlace} (m:∀ (j:Nat) t v,fn.params[j]?=some t->args[j]?=some v->Value.okWide P W .any g t v) (hW:DataW.Whole enc P fn.params.toList c.vars i W args.toList J gs d) (law:∀ cs,GK P n fn.params.toList cs->rh cs<=rP (J++gs)->ac P f cs (.bool true)) (k:z6 W):
  Calls P f args W fun e w=>∃ v,e= .returned v/\c.post enc P fn i u o false W args v w:=by
 have y:=hW
 obtain⟨p,q,hA,hV,rfl,B,G⟩:=hW
 rw[r] at hV
 obtain⟨rfl,rfl⟩:=trodVars_none hV
 obtain⟨cs,r3,V,s⟩:=zh (n:=n) (g:=g) r5 (fun j t v ht hv=>m j t v (by simpa using ht) (by simpa using hv)) hA
 have I:=(Bo hA).2
 have hs:=l J (by simpa using I)
 have hc:=(law cs r3 (by simpa using s)).2 W QV args.toList (fun b hb=>hb.elim) V k
 rw[show args.toList.toArray=args by simp] at hc
 refine hc.mono fun e w ⟨v,he,hv,a⟩=> ?_
 simp only[bf] at hv
 subst hv
 refine⟨_,he,J,[],_,[],p,[],y, ?_, ?_, ?_,a.frame _,fun h=>by cases h⟩
 ·rw[VL,hs,F]
  exact trodAll_cons_mk (shut_bool x _) trodAll_mk0
 ·rw[VL,hs];exact xT hl a A hA
 ·rw[VL,hs,r];rfl
end
