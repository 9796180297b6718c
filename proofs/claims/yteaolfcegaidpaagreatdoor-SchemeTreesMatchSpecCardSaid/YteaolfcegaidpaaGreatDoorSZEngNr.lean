/-
  My text.
-/
import Derived.Test.YteaolfcegaidpaaGreatDoorSZEngR
namespace Go.Proofs.YteaolfcegaidpaaGreatDoor
set_option linter.unusedSimpArgs false
set_option linter.unusedVariables false
open Go.ChangeShapes Go.WideShapes Go.ChangeAt Go.RowKit
variable {L:List TypeId} {P:Program} {t:TypeId}
def Or (P:Program) (L:List TypeId) (t:TypeId):Bool:=match P.underlying t with
 |some .bool=>true
 |some (.int _)=>true
 |some .string=>true
 |some (.slice e)=>decide (0<P.cellsOf e)&&L.contains e
 |some (.struct fs)=>BZ P 0 fs.toList (P.cellsOf t)&&fs.toList.all (fun f=>L.contains f.type)
 |_=>false
def Mr (P:Program) (L:List TypeId):Bool:=L.all (Or P L)
theorem JS (h:Mr P L=true) (Y:L.contains t=true):Or P L t=true:=Tp.1 h t (by simpa using Y)
theorem HI {A B:TypeId->List DV->Prop} (h:∀ t O,A t O->B t O):∀ {fs:List Field} {O:List DV},JR A fs O->JR B fs O
 |[],_,G=>G
 |f::fs,_,⟨a,T,e,h1,h2⟩=>⟨a,T,e,h _ _ h1,HI h h2⟩
theorem GC {P:Program}:∀ (n:Nat) (t:TypeId) (O:List DV),WT P n t O->WT P (n+1) t O
 |0,t,O,h=>by simp[WT] at h
 |n+1,t,O,h=>by
  rw[WT] at h⊢
  cases hu:P.underlying t with
  |none=>rw[hu] at h;exact h
  |some d=>
   rw[hu] at h
   cases d with
   |slice e=>
    obtain⟨rows,h1,h2,E⟩:=h
    exact⟨rows,h1,h2,fun r hr=>GC n e r (E r hr)⟩
   |struct fs=>exact HI (fun t O=>GC n t O) h
   |_=>exact h
theorem GD {n m:Nat} (h:n<=m) {O:List DV} (G:WT P n t O):WT P m t O:=by
 induction h with
 |refl=>exact G
 |step _ ih=>exact GC _ _ _ ih
theorem B0 {P:Program} {n m:Nat} (h:n<=m):∀ {ts:List TypeId} {cs:List DV},Ba P n ts cs->Ba P m ts cs
 |[],_,ha=>ha
 |_::_,_,⟨O,T,e,h1,h2⟩=>⟨O,T,e,GD h h1,B0 h h2⟩
section
variable {H:Type} {enc:TypeId×Value->H} {P:Program} {w:World} {sp:Nat->Bool} {Q:Bool}
theorem yS {L:List TypeId} {n u:Nat} (ih:∀ t cs d ps,L.contains t=true->DataW.trod enc P w 0 sp Q u t cs=some (d,ps)->HG P w n t cs (pQ d)) (cs:List Value):
  ∀ (fs:List Field) (o:Nat) (xs:List (DataW H×List MemPlace)),BZ P o fs cs.length=true->fs.all (fun f=>L.contains f.type)=true->xs.length=fs.length->
  (∀ (i:Nat) (f:Field),fs[i]?=some f->DataW.trod enc P w 0 sp Q u f.type ((cs.drop f.offset).take (P.cellsOf f.type))=xs[i]?)->
  ∃ O,aN w PJ O (cs.drop o)/\(∀ x∈cs.drop o,x.oneCell'=true)/\JR (WT P n) fs O/\rB O<=sb (xs.map (·.1))
 |[],o,xs,Y,N,hl,hx=>by
  simp only[BZ,S1] at Y
  have:cs.drop o=[]:=UW.2 oM
  rw[this]
  exact⟨[],by simp[aN],by simp,rfl,by simp[rB]⟩
 |f::fs,o,[],Y,N,hl,hx=>by simp at hl
 |f::fs,o,y::zs,Y,N,hl,hx=>by
  simp only[BZ,SR,S1] at Y
  obtain⟨rfl,Y⟩:=Y
  simp only[Uy,SR] at N
  have hf:=hx 0 f oS
  simp only[Uq] at hf
  have r9:=HH fs _ _ Y
  obtain⟨b,h1,h2,E,h4⟩:=yS ih cs fs (f.offset+P.cellsOf f.type) zs Y N.2 (by simpa using hl) (fun i g hg=>by simpa using hx (i+1) g (by simpa using hg))
  obtain⟨c,g1,g2,g3,g4⟩:=ih f.type _ y.1 y.2 N.1 hf
  have a:cs.drop f.offset=(cs.drop f.offset).take (P.cellsOf f.type)++cs.drop (f.offset+P.cellsOf f.type):=by
   rw[<-Ua];exact(Tf _ _).symm
  refine⟨c++b,by rw[a];exact g1.append h1, ?_,⟨c,b,rfl,g3,E⟩,by rw[BX];simp[sb];omega⟩
  intro x hx
  rw[a] at hx
  rcases Ta.1 hx with hx|hx
  ·exact g2 x hx
  ·exact h2 x hx
theorem B1 {L:List TypeId} {n u e:Nat} (ih:∀ t cs d ps,L.contains t=true->DataW.trod enc P w 0 sp Q u t cs=some (d,ps)->HG P w n t cs (pQ d)) (N:L.contains e=true) (b o:Nat):
  ∀ (elems:List (DataW H×List MemPlace)) (k:Nat),(∀ i,i<elems.length->(w.cells? 0 ⟨b,o+(k+i) * P.cellsOf e,none⟩ (P.cellsOf e)).bind (DataW.trod enc P w 0 sp Q u e)=elems[i]?)->
  ∃ rows,rows.length=elems.length/\bi w PJ rows b (o+k * P.cellsOf e) (P.cellsOf e)/\(∀ r∈rows,WT P n e r)/\I4 rows<=sb (elems.map (·.1))
 |[],k,h=>⟨[],rfl,by simp[bi],by simp,by simp[I4]⟩
 |y::elems,k,h=>by
  have h0:=h 0 oS
  simp only[UC,Uq] at h0
  cases hc:w.cells? 0 ⟨b,o+k * P.cellsOf e,none⟩ (P.cellsOf e) with
  |none=>simp[hc] at h0
  |some vs=>
   simp only[hc,SQ] at h0
   obtain⟨hl,F⟩:=Fw hc
   obtain⟨O,g1,g2,g3,g4⟩:=ih e vs y.1 y.2 N h0
   obtain⟨rows,r1,r2,r3,r4⟩:=B1 ih N b o elems (k+1) (fun i hi=>by
    have:=h (i+1) (by simp only[S6];omega)
    rw[show k+1+i=k+(i+1) by omega];simpa using this)
   have h8:=g1.length
   refine⟨O::rows,by simp[r1], ?_,by simpa using⟨g3,r3⟩,by simp only[I4,S5,sb];omega⟩
   unfold bi
   refine⟨by omega, ?_, ?_⟩
   ·rw[b4.iff]
    intro i c hi
    obtain⟨v,hv,hr⟩:=g1.get hi
    have:=F i v hv
    rw[gy] at this
    exact⟨v,this,g2 v (ST hv),hr⟩
   ·rw[show o+k * P.cellsOf e+P.cellsOf e=o+(k+1) * P.cellsOf e by rw[T2];omega];exact r2
theorem B2 {L:List TypeId} (z:Mr P L=true):∀ (u:Nat) (t:TypeId) (cs:List Value) (d:DataW H) (ps:List MemPlace),L.contains t=true->DataW.trod enc P w 0 sp Q u t cs=some (d,ps)->HG P w u t cs (pQ d)
 |0,t,cs,d,ps,N,h=>by simp[DataW.trod] at h
 |n+1,t,cs,d,ps,hc,h=>by
  have N:=JS z hc
  have one:∀ (c:DV) (v:Value) (b:Nat),ba w PJ c v->v.oneCell'=true->WT P (n+1) t [c]->N5 c<=b->HG P w (n+1) t [v] b:=fun c v b h1 h2 E h4=>
   ⟨[c],aN.one h1,by simpa using h2,E,by simpa[rB] using h4⟩
  have ih:∀ t cs d ps,L.contains t=true->DataW.trod enc P w 0 sp Q n t cs=some (d,ps)->HG P w n t cs (pQ d):=fun t cs d ps=>B2 z n t cs d ps
  unfold Or at N
  cases hu:P.underlying t with
  |none=>simp[hu] at N
  |some J=>
   cases J with
   |bool=>
    obtain⟨b,rfl,hx⟩:=DataW.trod_bool hu h
    simp only[SS] at hx
    obtain⟨rfl,rfl⟩:=hx
    exact one (.bool b) _ _ (by simp[ba]) rfl (by simp only[WT,hu];exact⟨b,rfl⟩) (by simp[N5,pQ])
   |int k=>
    obtain⟨m,rfl,hx,q⟩:=DataW.trod_int hu h
    simp only[SS] at hx
    obtain⟨rfl,rfl⟩:=hx
    exact one (.int k m) _ _ (by simp[ba]) rfl (by simp only[WT,hu];exact⟨m,rfl,q⟩) (by simp[N5,pQ])
   |string=>
    obtain⟨s,rfl,hx,r9⟩:=DataW.trod_string hu h
    simp only[SS] at hx
    obtain⟨rfl,rfl⟩:=hx
    have hs:s=⟨s.data.toList.toArray⟩:=(Lib.mk_data s).symm
    have I:s.data.toList.length=s.size:=by rw[Lib.size_eq]
    exact one (.str s.data.toList) _ _ (by unfold ba;exact congrArg Value.string hs) rfl (by simp only[WT,hu];exact⟨_,rfl,by omega⟩) (by simp[N5,pQ])
   |slice e=>
    simp only[hu,SR,SU] at N
    obtain⟨r6,N⟩:=N
    rcases DataW.trod_slice hu h with⟨rfl,hx⟩|⟨a,len,D,elems,T,n',C,rfl,hx,_,x,V,p,R,_,_⟩
    ·simp only[SS] at hx
     obtain⟨rfl,rfl⟩:=hx
     refine one (.slice []) _ _ ?_ rfl (by simp only[WT,hu];exact⟨[],rfl,by simp,by simp⟩) (by simp[N5,I4,pQ])
     unfold ba
     exact⟨none,0,rfl,S0 _,fun _=>rfl,.inl rfl⟩
    ·simp only[SS] at hx
     obtain⟨rfl,rfl⟩:=hx
     have j:n'=n:=by omega
     subst j
     by_cases g:len=0
     ·subst g
      have:elems=[]:=Te.1 p
      subst this
      refine one (.slice []) _ _ ?_ rfl (by simp only[WT,hu];exact⟨[],rfl,by simp,by simp⟩) (by simp[N5,I4,pQ])
      unfold ba
      exact⟨some a,D,rfl,To _,by simp,.inl rfl⟩
     ·
      have l:a.spot=none:=by
       have h0:=R 0 oM
       simp only[Nat.zero_mul] at h0
       have K:a.add 0=a:=by simp[Addr.add]
       rw[K] at h0
       cases hc:w.cells? 0 a (P.cellsOf e) with
       |none=>
        simp only[hc,Option.bind_none] at h0
        rw[S3 oM] at h0
        cases h0
       |some vs=>
        obtain⟨hl,F⟩:=Fw hc
        obtain⟨v,hv⟩:∃ v,vs[0]?=some v:=⟨_,S3 oM⟩
        have:=F 0 v hv
        rw[K] at this
        unfold World.cell? at this
        split at this
        ·split at this
         ·cases this
         ·rename_i hs;simpa using hs
        ·cases this
      obtain⟨b,o,y⟩:=a
      simp only at l
      subst l
      obtain⟨rows,r1,r2,r3,r4⟩:=B1 ih N b o elems 0 (fun i hi=>by
       have:=R i oM
       rw[gy] at this
       simpa using this)
      simp only[Nat.zero_mul,UC] at r2
      have hb:b<w.heap.size:=by
       have A:rows≠[]:=fun e=>by subst e;simp at r1;omega
       obtain⟨r,rs,rfl⟩:=List.exists_cons_of_ne_nil A
       unfold bi at r2
       obtain⟨h1,h2,_⟩:=r2
       rw[b4.iff] at h2
       obtain⟨c,hc⟩:∃ c,r[0]?=some c:=⟨_,S3 oM⟩
       obtain⟨v,hv,_⟩:=h2 0 c hc
       exact World.block_lt_of_cell? w _ hv
      refine one (.slice rows) _ _ ?_ rfl (by simp only[WT,hu];exact⟨rows,rfl,by omega,r3⟩) (by simp only[N5,pQ];omega)
      unfold ba
      exact⟨some ⟨b,o,none⟩,D,by rw[r1,p],by omega,by simp,.inr ⟨b,o,P.cellsOf e,rfl,fun h=>h,hb,r2⟩⟩
   |struct fs=>
    simp only[hu,SR] at N
    obtain⟨xs,n',C,hx,hl,Y,R⟩:=DataW.trod_struct hu h
    simp only[SS] at hx
    obtain⟨rfl,rfl⟩:=hx
    have j:n'=n:=by omega
    subst j
    obtain⟨O,h1,h2,E,h4⟩:=yS ih cs fs.toList 0 xs (by rw[hl];exact N.1) N.2 (by simpa using Y) (fun i f hf=>R i f (by simpa using hf))
    simp only[Vb] at h1 h2
    exact⟨O,h1,h2,by simp only[WT,hu];exact E,by simp only[pQ];omega⟩
   |_=>simp[hu] at N
theorem KY (z:Mr P L=true) {v:Value} {d:DataW H} {ps:List MemPlace} (N:L.contains t=true) (h:DataW.Trod enc P w 0 sp Q t v d ps):∃ n O,WT P n t O/\rB O<=pQ d/\aN w PJ O v.cells.toList/\(∀ x∈v.cells.toList,x.oneCell'=true):=by
 obtain⟨u,h⟩:=h
 obtain⟨O,h1,h2,E,h4⟩:=B2 z u t _ d ps N h
 exact⟨u,O,E,h4,h1,h2⟩
end
section
variable {H:Type} {enc:TypeId×Value->H} {P:Program}
theorem yT {L:List TypeId} (z:Mr P L=true) {W:World} {a:Nat}:∀ {ts:List TypeId} {vs:List Value} {O:List (DataW H)} {ps:List MemPlace},ts.all (fun t=>L.contains t)=true->(∀ (j:Nat) t v,ts[j]?=some t->vs[j]?=some v->Value.okWide P W .any a t v)->
  DataW.TrodAll enc P W 0 (fun _=>true) true ts vs O ps->∃ n cs,Ba P n ts cs/\aN W PJ cs vs/\rB cs<=sb O
 |[],vs,O,ps,_,_,h=>by
  obtain⟨rfl,rfl,rfl⟩:=trodAll_nil h
  exact⟨0,[],rfl,by simp[aN],by simp[rB]⟩
 |t::ts,vs,O,ps,N,g,h=>by
  obtain⟨v,A,d,i,p,q,rfl,rfl,rfl,h0,hr⟩:=trodAll_cons h
  simp only[Uy,SR] at N
  obtain⟨U,cs,h1,h2,h5⟩:=yT z N.2 (fun j t v Y hv=>g (j+1) t v (by simpa using Y) (by simpa using hv)) hr
  obtain⟨n,es,c,u,r0,s⟩:=KY z N.1 h0
  have l:=c
  have hv:=g 0 t v rfl rfl
  have key:ba W PJ (z1 P t es) v/\N5 (z1 P t es)<=rB es:=by
   cases n with
   |zero=>simp[WT] at c
   |succ n=>
    have f:=JS z N.1
    unfold Or at f
    unfold z1
    cases hu:P.underlying t with
    |none=>simp[hu] at f
    |some d=>
     cases d with
     |struct fs=>
      obtain⟨o,m⟩:=I5 hu hv
      exact⟨Oq m r0 s,by simp[N5]⟩
     |bool=>
      simp only[WT,hu] at c
      obtain⟨b,rfl⟩:=c
      exact⟨CL (vo hu (.inl rfl) hv) r0,by simp[rB]⟩
     |int k=>
      simp only[WT,hu] at c
      obtain⟨b,rfl,_⟩:=c
      exact⟨CL (vo hu (.inr (.inl ⟨_,rfl⟩)) hv) r0,by simp[rB]⟩
     |string=>
      simp only[WT,hu] at c
      obtain⟨b,rfl,_⟩:=c
      exact⟨CL (vo hu (.inr (.inr (.inl rfl))) hv) r0,by simp[rB]⟩
     |slice e=>
      simp only[WT,hu] at c
      obtain⟨b,rfl,_⟩:=c
      exact⟨CL (vo hu (.inr (.inr (.inr ⟨_,rfl⟩))) hv) r0,by simp[rB]⟩
     |_=>simp[hu] at f
  refine⟨max n U,z1 P t es::cs,⟨es,cs,rfl,GD (Nat.le_max_left _ _) l,B0 (Nat.le_max_right _ _) h1⟩, ?_, ?_⟩
  ·unfold aN;exact⟨v,A,rfl,key.1,h2⟩
  ·have:=key.2;simp only[rB,sb];omega
theorem KZ {L:List TypeId} (z:Mr P L=true) {f:FuncId} {fn:Func} {c:ChangeSpec} {F:TypeId} {i x m:Bool} (r:c.vars=[]) (l:∀ (O:List (DataW H)),O.length=fn.params.size->c.fn H O={results:=[.lit (.bool true)],args:=O}) (hl:laidOutB P=true) (N:fn.params.toList.all (fun t=>L.contains t)=true) (A:fn.params.toList.all (fun t=>P.readableRec t&&decide (t<P.types.size))=true) (h3:fn.resultTypes= #[F]) (C:P.underlying F=some .bool) {W:World} {a:Nat} {args:Array Value} {O gs:List (DataW H)} {d:List MemPlace} (g:∀ (j:Nat) t v,fn.params[j]?=some t->args[j]?=some v->Value.okWide P W .any a t v) (B:DataW.Whole enc P fn.params.toList c.vars i W args.toList O gs d) (law:∀ n cs,Ba P n fn.params.toList cs->rB cs<=sb (O++gs)->aa P f cs (.bool true)) (k:y0 W):
  Calls P f args W fun e o=>∃ v,e= .returned v/\c.post enc P fn i x m false W args v o:=by
 have D:=B
 obtain⟨p,q,E,hV,rfl,G,y⟩:=B
 rw[r] at hV
 obtain⟨rfl,rfl⟩:=trodVars_none hV
 obtain⟨n,cs,r4,r0,u⟩:=yT (a:=a) z N (fun j t v Y hv=>g j t v (by simpa using Y) (by simpa using hv)) E
 have h8:=(B5 E).2
 have hs:=l O (by simpa using h8)
 have hc:=(law n cs r4 (by simpa using u)).2 W PJ args.toList (fun b hb=>hb.elim) r0 k
 rw[show args.toList.toArray=args by simp] at hc
 refine hc.mono fun e o ⟨v,J,hv,s⟩=> ?_
 simp only[ba] at hv
 subst hv
 refine⟨_,J,O,[],_,[],p,[],D, ?_, ?_, ?_,s.frame _,fun h=>by cases h⟩
 ·rw[Tg,hs,h3]
  exact trodAll_cons_mk (shut_bool C _) trodAll_mk0
 ·rw[Tg,hs];exact yU hl s A E
 ·rw[Tg,hs,r];rfl
end
