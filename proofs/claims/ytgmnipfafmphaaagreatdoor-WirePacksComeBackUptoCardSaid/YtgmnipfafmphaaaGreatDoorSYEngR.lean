/-
  My text.
-/
import Derived.Lib.LaidTab
import Derived.Test.YtgmnipfafmphaaaGreatDoorSYEngN
import Derived.WalkKit
import Derived.ProofKit
import Derived.OpenShut
import Derived.ChangeOld
import Derived.Deep.DeepHandedRow
namespace Go.Proofs.YtgmnipfafmphaaaGreatDoor
set_option linter.unusedSimpArgs false
set_option linter.unusedVariables false
open Go.ChangeShapes Go.WideShapes Go.ChangeAt Go.RowKit
variable {W:World} {g:Nat} {k:IntKind} {t:TypeId}
def pP (P:Program) (t:TypeId) (J:List DV):DV:=match P.underlying t with|some (.struct _)=> .agg J|_=>J.headD .any
def Eh (P:Program) (n:Nat):List TypeId->List DV->Prop
 |[],cs=>cs=[]
 |t::ts,cs=>∃ J z,cs=pP P t J::z/\WT P n t J/\Eh P n ts z
section
variable {H:Type} {enc:TypeId×Value->H} {P:Program}
theorem rc {v:Value} {d:TypeDesc} (ht:P.underlying t=some d) (hd:d= .bool\/(∃ k,d= .int k)\/d= .string\/∃ e,d= .slice e) (h:Value.okWide P W .any g t v):∀ vs,v≠ .agg vs:=by
 intro vs he
 subst he
 unfold Value.okWide at h
 simp only[ht] at h
 rcases hd with rfl|⟨k,rfl⟩|rfl|⟨e,rfl⟩<;>simp only[Cell.okWide,ht,Cell.ok] at h
theorem wn {n:Nat} {W:World} {g:Nat}:∀ {ts:List TypeId} {vs:List Value} {J:List (DataW H)} {ps:List MemPlace},ts.all (vk P n)=true->(∀ (j:Nat) t v,ts[j]?=some t->vs[j]?=some v->Value.okWide P W .any g t v)->
  DataW.TrodAll enc P W 0 (fun _=>true) true ts vs J ps->∃ cs,Eh P n ts cs/\aC W O_ cs vs/\f_ cs<=mF J
 |[],vs,J,ps,_,_,h=>by
  obtain⟨rfl,rfl,rfl⟩:=trodAll_nil h
  exact⟨[],rfl,by simp[aC],by simp[f_]⟩
 |t::ts,vs,J,ps,r5,c,h=>by
  obtain⟨v,A,d,i,p,q,rfl,rfl,rfl,h0,D⟩:=trodAll_cons h
  simp only[Uk,SR] at r5
  obtain⟨cs,h1,h2,h5⟩:=wn r5.2 (fun j t v ht hv=>c (j+1) t v (by simpa using ht) (by simpa using hv)) D
  obtain⟨es,a,s,V,h9⟩:=Lh r5.1 h0
  have hv:=c 0 t v rfl rfl
  have key:aW W O_ (pP P t es) v/\B3 (pP P t es)<=f_ es:=by
   cases n with
   |zero=>simp[vk] at r5
   |succ n=>
    have m:=r5.1
    simp only[vk] at m
    unfold pP
    cases hu:P.underlying t with
    |none=>simp[hu] at m
    |some d=>
     cases d with
     |struct O=>
      obtain⟨f,r⟩:=G9 hu hv
      exact⟨NK r V h9,by simp[B3]⟩
     |bool=>
      simp only[WT,hu] at a
      obtain⟨b,rfl⟩:=a
      exact⟨zw (rc hu (.inl rfl) hv) V,by simp[f_]⟩
     |int k=>
      simp only[WT,hu] at a
      obtain⟨b,rfl,_⟩:=a
      exact⟨zw (rc hu (.inr (.inl ⟨_,rfl⟩)) hv) V,by simp[f_]⟩
     |string=>
      simp only[WT,hu] at a
      obtain⟨b,rfl,_⟩:=a
      exact⟨zw (rc hu (.inr (.inr (.inl rfl))) hv) V,by simp[f_]⟩
     |slice e=>
      simp only[WT,hu] at a
      obtain⟨b,rfl,_⟩:=a
      exact⟨zw (rc hu (.inr (.inr (.inr ⟨_,rfl⟩))) hv) V,by simp[f_]⟩
     |_=>simp[hu] at m
  refine⟨pP P t es::cs,⟨es,cs,rfl,a,h1⟩, ?_, ?_⟩
  ·unfold aC;exact⟨v,A,rfl,key.1,h2⟩
  ·have:=key.2;simp only[f_,mF];omega
theorem uC {W w:World} (hl:laidOutB P=true) (a:Below W.heap.size W w):∀ {ts:List TypeId} {vs:List Value} {J:List (DataW H)} {ps:List MemPlace},ts.all (fun t=>P.readableRec t&&decide (t<P.types.size))=true->
  DataW.TrodAll enc P W 0 (fun _=>true) true ts vs J ps->DataW.TrodAll enc P w 0 (fun b=>decide (b<W.heap.size)) true ts vs J ps
 |[],vs,J,ps,_,h=>by
  obtain⟨rfl,rfl,rfl⟩:=trodAll_nil h
  exact trodAll_mk0
 |t::ts,vs,J,ps,r5,h=>by
  obtain⟨v,A,d,i,p,q,rfl,rfl,rfl,h0,D⟩:=trodAll_cons h
  simp only[Uk,SR,S5] at r5
  have c:∀ x∈p,x.block<W.heap.size:=by obtain⟨m,Z⟩:=h0;exact DataW.trod_lt m _ _ _ Z
  refine trodAll_cons_mk (Below.trod hl r5.1.1 r5.1.2 h0 a c) (uC hl a ?_ D)
  simpa using r5.2
theorem yC {W:World} {sp:Nat->Bool} {b:Nat} {hd:Bool}:∀ {ts:List TypeId} {vs:List Value} {J:List (DataW H)} {ps:List MemPlace},DataW.TrodAll enc P W b sp hd ts vs J ps->vs.length=ts.length/\J.length=ts.length
 |[],vs,J,ps,h=>by obtain⟨rfl,rfl,rfl⟩:=trodAll_nil h;simp
 |t::ts,vs,J,ps,h=>by
  obtain⟨v,A,d,i,p,q,rfl,rfl,rfl,h0,D⟩:=trodAll_cons h
  have:=yC D
  simp[this]
theorem Ei {P:Program} {w:World}:∀ {b:List (String×DataW Unit)} {ps:List MemPlace},DataW.LaidVars P w b ps->∀ {n:String} {d:DataW Unit},(n,d)∈b->
  ∃ g t cs u p,P.globalNamed n=some g/\(P.globals[g]?).map (·.type)=some t/\w.var? P n=some cs/\DataW.trod (fun _=>()) P w 0 (fun _=>true) false u t cs.toList=some (d,p)
 |[],_,_,_,_,Z=>by cases Z
 |(n',d')::r,ps,h,n,d,Z=>by
  simp only[DataW.LaidVars] at h
  obtain⟨g,t,cs,u,p,q,h1,h2,E,h4,h5,_⟩:=h
  rcases Tf.1 Z with he|Z
  ·cases he;exact⟨g,t,cs,u,p,h1,h2,E,h4⟩
  ·exact Ei h5 Z
theorem Ay {P:Program} {b:List (String×DataW Unit)} {c:String} {zs:List Int} {e:TypeId} {n:Nat} (h:laidMet P b W) (Z:(c,Lib.tabData k zs)∈b) (hg:P.globalNamed c=some g) (i:(P.globals[g]?).map (·.type)=some t) (ht:P.underlying t=some (.array n e)) (he:P.underlying e=some (.int k)) (r:P.cellsOf e=1) (s:P.cellsOf t=n) (hz:zs≠[]):n_ W (g,k,zs):=by
 obtain⟨ps,hl, -⟩:=h
 obtain⟨F,t',cs,u,p,q,r8,a,hd⟩:=Ei hl Z
 obtain rfl:=Uq (hg.symm.trans q)
 obtain rfl:=Uq (i.symm.trans r8)
 have hc:=Lib.cells_of_tab ht he r s hd
 unfold World.var? at a
 rw[hg] at a
 simp only[SQ] at a
 refine .inr ⟨hz, ?_⟩
 cases hb:W.heap[g]? with
 |none=>rw[hb] at a;cases a
 |some o=>
  rw[hb] at a
  cases o<;>first
   |(cases a;done)
   |(rename_i C ty l
     have:C=cs:=by simpa using a
     subst this
     exact⟨ty,l,by rw[<-hc]⟩)
theorem Jw (h:∃ m,W.cell? ⟨g,0,none⟩=some (.int k m)):n_ W (g,k,[]):= .inl ⟨rfl,h⟩
theorem Ll {n:Nat} {f:FuncId} {fn:Func} {d:ChangeSpec} {z:TypeId} {k u m:Bool} (r:d.vars=[]) (l:∀ (J:List (DataW H)),J.length=fn.params.size->d.fn H J={results:=[.lit (.bool true)],args:=J}) (hl:laidOutB P=true) (r5:fn.params.toList.all (vk P n)=true) (A:fn.params.toList.all (fun t=>P.readableRec t&&decide (t<P.types.size))=true) (o:fn.resultTypes= #[z]) (x:P.underlying z=some .bool) {W:World} {g:Nat} {args:Array Value} {J gs:List (DataW H)} {i:List MemPlace} (c:∀ (j:Nat) t v,fn.params[j]?=some t->args[j]?=some v->Value.okWide P W .any g t v) (hW:DataW.Whole enc P fn.params.toList d.vars k W args.toList J gs i) (law:∀ cs,Eh P n fn.params.toList cs->f_ cs<=mF (J++gs)->ac P f cs (.bool true)) (S:vU W):
  Calls P f args W fun e w=>∃ v,e= .returned v/\d.post enc P fn k u m false W args v w:=by
 have y:=hW
 obtain⟨p,q,hA,hV,rfl,B,r6⟩:=hW
 rw[r] at hV
 obtain⟨rfl,rfl⟩:=trodVars_none hV
 obtain⟨cs,U,V,s⟩:=wn (n:=n) (g:=g) r5 (fun j t v ht hv=>c j t v (by simpa using ht) (by simpa using hv)) hA
 have I:=(yC hA).2
 have hs:=l J (by simpa using I)
 have hc:=(law cs U (by simpa using s)).2 W O_ args.toList (fun b hb=>hb.elim) V S
 rw[show args.toList.toArray=args by simp] at hc
 refine hc.mono fun e w ⟨v,he,hv,a⟩=> ?_
 simp only[aW] at hv
 subst hv
 refine⟨_,he,J,[],_,[],p,[],y, ?_, ?_, ?_,a.frame _,fun h=>by cases h⟩
 ·rw[Tg,hs,o]
  exact trodAll_cons_mk (shut_bool x _) trodAll_mk0
 ·rw[Tg,hs];exact uC hl a A hA
 ·rw[Tg,hs,r];rfl
end
end Go.Proofs.YtgmnipfafmphaaaGreatDoor

