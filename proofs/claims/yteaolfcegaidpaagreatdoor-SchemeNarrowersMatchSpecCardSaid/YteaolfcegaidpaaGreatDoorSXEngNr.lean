/-
  My text.
-/
import Derived.Test.YteaolfcegaidpaaGreatDoorSXEngR
namespace Go.Proofs.YteaolfcegaidpaaGreatDoor
set_option linter.unusedSimpArgs false
set_option linter.unusedVariables false
open Go.ChangeShapes Go.WideShapes Go.ChangeAt Go.RowKit
def IV (P:Program) (L:List TypeId) (t:TypeId):Bool:=match P.underlying t with
 |some .bool=>true
 |some (.int _)=>true
 |some .string=>true
 |some (.slice e)=>decide (0<P.cellsOf e)&&L.contains e
 |some (.struct fs)=>yu P 0 fs.toList (P.cellsOf t)&&fs.toList.all (fun f=>L.contains f.type)
 |_=>false
def Hu (P:Program) (L:List TypeId):Bool:=L.all (IV P L)
theorem Fi {P:Program} {L:List TypeId} (h:Hu P L=true) {t:TypeId} (ht:L.contains t=true):IV P L t=true:=MD.1 h t (by simpa using ht)
theorem Dk {A B:TypeId->List DV->Prop} (h:∀ t ds,A t ds->B t ds):∀ {fs:List Field} {ds:List DV},Ht A fs ds->Ht B fs ds
 |[],_,hw=>hw
 |f::fs,_,⟨a,rest,e,h1,h2⟩=>⟨a,rest,e,h _ _ h1,Dk h h2⟩
theorem Ci {P:Program}:∀ (n:Nat) (t:TypeId) (ds:List DV),WT P n t ds->WT P (n+1) t ds
 |0,t,ds,h=>by simp[WT] at h
 |n+1,t,ds,h=>by
  rw[WT] at h⊢
  cases hu:P.underlying t with
  |none=>rw[hu] at h;exact h
  |some d=>
   rw[hu] at h
   cases d with
   |slice e=>
    obtain⟨rows,h1,h2,h3⟩:=h
    exact⟨rows,h1,h2,fun r hr=>Ci n e r (h3 r hr)⟩
   |struct fs=>exact Dk (fun t ds=>Ci n t ds) h
   |_=>exact h
theorem Cj {P:Program} {n m:Nat} (h:n<=m) {t:TypeId} {ds:List DV} (hw:WT P n t ds):WT P m t ds:=by
 induction h with
 |refl=>exact hw
 |step _ ih=>exact Ci _ _ _ ih
theorem yv {P:Program} {n m:Nat} (h:n<=m):∀ {ts:List TypeId} {cs:List DV},xE P n ts cs->xE P m ts cs
 |[],_,ha=>ha
 |_::_,_,⟨ds,rest,e,h1,h2⟩=>⟨ds,rest,e,Cj h h1,yv h h2⟩
section
variable {H:Type} {enc:TypeId×Value->H} {P:Program} {w:World} {sp:Nat->Bool} {held:Bool}
theorem vj {L:List TypeId} {n fuel:Nat} (ih:∀ t cs d ps,L.contains t=true->DataW.trod enc P w 0 sp held fuel t cs=some (d,ps)->Di P w n t cs (nY d)) (cs:List Value):
  ∀ (fs:List Field) (o:Nat) (xs:List (DataW H×List MemPlace)),yu P o fs cs.length=true->fs.all (fun f=>L.contains f.type)=true->xs.length=fs.length->
  (∀ (i:Nat) (f:Field),fs[i]?=some f->DataW.trod enc P w 0 sp held fuel f.type ((cs.drop f.offset).take (P.cellsOf f.type))=xs[i]?)->
  ∃ ds,aB w JL ds (cs.drop o)/\(∀ x∈cs.drop o,x.oneCell'=true)/\Ht (WT P n) fs ds/\ph ds<=pB (xs.map (·.1))
 |[],o,xs,ht,hok,hl,hx=>by
  simp only[yu,Mc] at ht
  have:cs.drop o=[]:=List.drop_eq_nil_iff.2 oM
  rw[this]
  exact⟨[],by simp[aB],by simp,rfl,by simp[ph]⟩
 |f::fs,o,[],ht,hok,hl,hx=>by simp at hl
 |f::fs,o,y::zs,ht,hok,hl,hx=>by
  simp only[yu,L9,Mc] at ht
  obtain⟨rfl,ht⟩:=ht
  simp only[NL,L9] at hok
  have hf:=hx 0 f oS
  simp only[Nu] at hf
  have hle:=Dj fs _ _ ht
  obtain⟨ds2,h1,h2,h3,h4⟩:=vj ih cs fs (f.offset+P.cellsOf f.type) zs ht hok.2 (by simpa using hl) (fun i g hg=>by simpa using hx (i+1) g (by simpa using hg))
  obtain⟨ds1,g1,g2,g3,g4⟩:=ih f.type _ y.1 y.2 hok.1 hf
  have hsplit:cs.drop f.offset=(cs.drop f.offset).take (P.cellsOf f.type)++cs.drop (f.offset+P.cellsOf f.type):=by
   rw[<-Ns];exact(MM _ _).symm
  refine⟨ds1++ds2,by rw[hsplit];exact g1.append h1, ?_,⟨ds1,ds2,rfl,g3,h3⟩,by rw[yt];simp[pB];omega⟩
  intro x hx
  rw[hsplit] at hx
  rcases Mt.1 hx with hx|hx
  ·exact g2 x hx
  ·exact h2 x hx
theorem yw {L:List TypeId} {n fuel e:Nat} (ih:∀ t cs d ps,L.contains t=true->DataW.trod enc P w 0 sp held fuel t cs=some (d,ps)->Di P w n t cs (nY d)) (hok:L.contains e=true) (b o:Nat):
  ∀ (elems:List (DataW H×List MemPlace)) (k:Nat),(∀ i,i<elems.length->(w.cells? 0 ⟨b,o+(k+i) * P.cellsOf e,none⟩ (P.cellsOf e)).bind (DataW.trod enc P w 0 sp held fuel e)=elems[i]?)->
  ∃ rows,rows.length=elems.length/\aL w JL rows b (o+k * P.cellsOf e) (P.cellsOf e)/\(∀ r∈rows,WT P n e r)/\Ey rows<=pB (elems.map (·.1))
 |[],k,h=>⟨[],rfl,by simp[aL],by simp,by simp[Ey]⟩
 |y::elems,k,h=>by
  have h0:=h 0 oS
  simp only[NI,Nu] at h0
  cases hc:w.cells? 0 ⟨b,o+k * P.cellsOf e,none⟩ (P.cellsOf e) with
  |none=>simp[hc] at h0
  |some vs=>
   simp only[hc,L8] at h0
   obtain⟨hl,hcell⟩:=Bo hc
   obtain⟨ds,g1,g2,g3,g4⟩:=ih e vs y.1 y.2 hok h0
   obtain⟨rows,r1,r2,r3,r4⟩:=yw ih hok b o elems (k+1) (fun i hi=>by
    have:=h (i+1) (by simp only[Mv];omega)
    rw[show k+1+i=k+(i+1) by omega];simpa using this)
   have hlen:=g1.length
   refine⟨ds::rows,by simp[r1], ?_,by simpa using⟨g3,r3⟩,by simp only[Ey,Mk,pB];omega⟩
   unfold aL
   refine⟨by omega, ?_, ?_⟩
   ·rw[bq.iff]
    intro i c hi
    obtain⟨v,hv,hr⟩:=g1.get hi
    have:=hcell i v hv
    rw[fE] at this
    exact⟨v,this,g2 v (Mb hv),hr⟩
   ·rw[show o+k * P.cellsOf e+P.cellsOf e=o+(k+1) * P.cellsOf e by rw[M4];omega];exact r2
theorem yx {L:List TypeId} (hL:Hu P L=true):∀ (fuel:Nat) (t:TypeId) (cs:List Value) (d:DataW H) (ps:List MemPlace),L.contains t=true->DataW.trod enc P w 0 sp held fuel t cs=some (d,ps)->Di P w fuel t cs (nY d)
 |0,t,cs,d,ps,hok,h=>by simp[DataW.trod] at h
 |n+1,t,cs,d,ps,hc,h=>by
  have hok:=Fi hL hc
  have one:∀ (c:DV) (v:Value) (b:Nat),aK w JL c v->v.oneCell'=true->WT P (n+1) t [c]->IA c<=b->Di P w (n+1) t [v] b:=fun c v b h1 h2 h3 h4=>
   ⟨[c],aB.one h1,by simpa using h2,h3,by simpa[ph] using h4⟩
  have ih:∀ t cs d ps,L.contains t=true->DataW.trod enc P w 0 sp held n t cs=some (d,ps)->Di P w n t cs (nY d):=fun t cs d ps=>yx hL n t cs d ps
  unfold IV at hok
  cases hu:P.underlying t with
  |none=>simp[hu] at hok
  |some td=>
   cases td with
   |bool=>
    obtain⟨b,rfl,hx⟩:=DataW.trod_bool hu h
    simp only[L_] at hx
    obtain⟨rfl,rfl⟩:=hx
    exact one (.bool b) _ _ (by simp[aK]) rfl (by simp only[WT,hu];exact⟨b,rfl⟩) (by simp[IA,nY])
   |int k=>
    obtain⟨m,rfl,hx,hwf⟩:=DataW.trod_int hu h
    simp only[L_] at hx
    obtain⟨rfl,rfl⟩:=hx
    exact one (.int k m) _ _ (by simp[aK]) rfl (by simp only[WT,hu];exact⟨m,rfl,hwf⟩) (by simp[IA,nY])
   |string=>
    obtain⟨s,rfl,hx,hle⟩:=DataW.trod_string hu h
    simp only[L_] at hx
    obtain⟨rfl,rfl⟩:=hx
    have hs:s=⟨s.data.toList.toArray⟩:=(Lib.mk_data s).symm
    have hsz:s.data.toList.length=s.size:=by rw[Lib.size_eq]
    exact one (.str s.data.toList) _ _ (by unfold aK;exact congrArg Value.string hs) rfl (by simp only[WT,hu];exact⟨_,rfl,by omega⟩) (by simp[IA,nY])
   |slice e=>
    simp only[hu,L9,Ma] at hok
    obtain⟨hpos,hok⟩:=hok
    rcases DataW.trod_slice hu h with⟨rfl,hx⟩|⟨a,len,cap,elems,rest,n',hn',rfl,hx,_,hlc,hcm,hel,hget,_,_⟩
    ·simp only[L_] at hx
     obtain⟨rfl,rfl⟩:=hx
     refine one (.slice []) _ _ ?_ rfl (by simp only[WT,hu];exact⟨[],rfl,by simp,by simp⟩) (by simp[IA,Ey,nY])
     unfold aK
     exact⟨none,0,rfl,Me _,fun _=>rfl,.inl rfl⟩
    ·simp only[L_] at hx
     obtain⟨rfl,rfl⟩:=hx
     have hn'':n'=n:=by omega
     subst hn''
     by_cases hl0:len=0
     ·subst hl0
      have:elems=[]:=Ms.1 hel
      subst this
      refine one (.slice []) _ _ ?_ rfl (by simp only[WT,hu];exact⟨[],rfl,by simp,by simp⟩) (by simp[IA,Ey,nY])
      unfold aK
      exact⟨some a,cap,rfl,ME _,by simp,.inl rfl⟩
     ·
      have hspot:a.spot=none:=by
       have h0:=hget 0 oM
       simp only[Nat.zero_mul] at h0
       have e0:a.add 0=a:=by simp[Addr.add]
       rw[e0] at h0
       cases hc:w.cells? 0 a (P.cellsOf e) with
       |none=>
        simp only[hc,Option.bind_none] at h0
        rw[Mi oM] at h0
        cases h0
       |some vs=>
        obtain⟨hl,hcell⟩:=Bo hc
        obtain⟨v,hv⟩:∃ v,vs[0]?=some v:=⟨_,Mi oM⟩
        have:=hcell 0 v hv
        rw[e0] at this
        unfold World.cell? at this
        split at this
        ·split at this
         ·cases this
         ·rename_i hs;simpa using hs
        ·cases this
      obtain⟨b,o,spt⟩:=a
      simp only at hspot
      subst hspot
      obtain⟨rows,r1,r2,r3,r4⟩:=yw ih hok b o elems 0 (fun i hi=>by
       have:=hget i oM
       rw[fE] at this
       simpa using this)
      simp only[Nat.zero_mul,NI] at r2
      have hb:b<w.heap.size:=by
       have hne:rows≠[]:=fun e=>by subst e;simp at r1;omega
       obtain⟨r,rs,rfl⟩:=List.exists_cons_of_ne_nil hne
       unfold aL at r2
       obtain⟨h1,h2,_⟩:=r2
       rw[bq.iff] at h2
       obtain⟨c,hc⟩:∃ c,r[0]?=some c:=⟨_,Mi oM⟩
       obtain⟨v,hv,_⟩:=h2 0 c hc
       exact World.block_lt_of_cell? w _ hv
      refine one (.slice rows) _ _ ?_ rfl (by simp only[WT,hu];exact⟨rows,rfl,by omega,r3⟩) (by simp only[IA,nY];omega)
      unfold aK
      exact⟨some ⟨b,o,none⟩,cap,by rw[r1,hel],by omega,by simp,.inr ⟨b,o,P.cellsOf e,rfl,fun h=>h,hb,r2⟩⟩
   |struct fs=>
    simp only[hu,L9] at hok
    obtain⟨xs,n',hn',hx,hl,hxl,hget⟩:=DataW.trod_struct hu h
    simp only[L_] at hx
    obtain⟨rfl,rfl⟩:=hx
    have hn'':n'=n:=by omega
    subst hn''
    obtain⟨ds,h1,h2,h3,h4⟩:=vj ih cs fs.toList 0 xs (by rw[hl];exact hok.1) hok.2 (by simpa using hxl) (fun i f hf=>hget i f (by simpa using hf))
    simp only[List.drop_zero] at h1 h2
    exact⟨ds,h1,h2,by simp only[WT,hu];exact h3,by simp only[nY];omega⟩
   |_=>simp[hu] at hok
theorem Gd {L:List TypeId} (hL:Hu P L=true) {t:TypeId} {v:Value} {d:DataW H} {ps:List MemPlace} (hok:L.contains t=true) (h:DataW.Trod enc P w 0 sp held t v d ps):∃ n ds,WT P n t ds/\ph ds<=nY d/\aB w JL ds v.cells.toList/\(∀ x∈v.cells.toList,x.oneCell'=true):=by
 obtain⟨fuel,h⟩:=h
 obtain⟨ds,h1,h2,h3,h4⟩:=yx hL fuel t _ d ps hok h
 exact⟨fuel,ds,h3,h4,h1,h2⟩
end
section
variable {H:Type} {enc:TypeId×Value->H} {P:Program}
theorem vl {L:List TypeId} (hL:Hu P L=true) {W:World} {base:Nat}:∀ {ts:List TypeId} {vs:List Value} {ds:List (DataW H)} {ps:List MemPlace},ts.all (fun t=>L.contains t)=true->(∀ (j:Nat) t v,ts[j]?=some t->vs[j]?=some v->Value.okWide P W .any base t v)->
  DataW.TrodAll enc P W 0 (fun _=>true) true ts vs ds ps->∃ n cs,xE P n ts cs/\aB W JL cs vs/\ph cs<=pB ds
 |[],vs,ds,ps,_,_,h=>by
  obtain⟨rfl,rfl,rfl⟩:=trodAll_nil h
  exact⟨0,[],rfl,by simp[aB],by simp[ph]⟩
 |t::ts,vs,ds,ps,hok,hval,h=>by
  obtain⟨v,vs',d,ds',p,q,rfl,rfl,rfl,h0,hr⟩:=trodAll_cons h
  simp only[NL,L9] at hok
  obtain⟨n1,cs,h1,h2,h5⟩:=vl hL hok.2 (fun j t v ht hv=>hval (j+1) t v (by simpa using ht) (by simpa using hv)) hr
  obtain⟨n,es,hwt,hbk,hrep,hone⟩:=Gd hL hok.1 h0
  have hwt0:=hwt
  have hv:=hval 0 t v rfl rfl
  have key:aK W JL (wG P t es) v/\IA (wG P t es)<=ph es:=by
   cases n with
   |zero=>simp[WT] at hwt
   |succ n=>
    have hok1:=Fi hL hok.1
    unfold IV at hok1
    unfold wG
    cases hu:P.underlying t with
    |none=>simp[hu] at hok1
    |some d=>
     cases d with
     |struct fs=>
      obtain⟨vs0,hv0⟩:=Ez hu hv
      exact⟨IU hv0 hrep hone,by simp[IA]⟩
     |bool=>
      simp only[WT,hu] at hwt
      obtain⟨b,rfl⟩:=hwt
      exact⟨yY (rN hu (.inl rfl) hv) hrep,by simp[ph]⟩
     |int k=>
      simp only[WT,hu] at hwt
      obtain⟨b,rfl,_⟩:=hwt
      exact⟨yY (rN hu (.inr (.inl ⟨_,rfl⟩)) hv) hrep,by simp[ph]⟩
     |string=>
      simp only[WT,hu] at hwt
      obtain⟨b,rfl,_⟩:=hwt
      exact⟨yY (rN hu (.inr (.inr (.inl rfl))) hv) hrep,by simp[ph]⟩
     |slice e=>
      simp only[WT,hu] at hwt
      obtain⟨b,rfl,_⟩:=hwt
      exact⟨yY (rN hu (.inr (.inr (.inr ⟨_,rfl⟩))) hv) hrep,by simp[ph]⟩
     |_=>simp[hu] at hok1
  refine⟨max n n1,wG P t es::cs,⟨es,cs,rfl,Cj (Nat.le_max_left _ _) hwt0,yv (Nat.le_max_right _ _) h1⟩, ?_, ?_⟩
  ·unfold aB;exact⟨v,vs',rfl,key.1,h2⟩
  ·have:=key.2;simp only[ph,pB];omega
theorem Ge {L:List TypeId} (hL:Hu P L=true) {f:FuncId} {fn:Func} {spec:ChangeSpec} {tb:TypeId} {apart fresh handsOn:Bool} (hvars:spec.vars=[]) (hfn:∀ (ds:List (DataW H)),ds.length=fn.params.size->spec.fn H ds={results:=[.lit (.bool true)],args:=ds})
  (hl:laidOutB P=true) (hok:fn.params.toList.all (fun t=>L.contains t)=true) (hrd:fn.params.toList.all (fun t=>P.readableRec t&&decide (t<P.types.size))=true) (hres:fn.resultTypes= #[tb]) (htb:P.underlying tb=some .bool)
  {W:World} {base:Nat} {args:Array Value} {ds gs:List (DataW H)} {before:List MemPlace} (hval:∀ (j:Nat) t v,fn.params[j]?=some t->args[j]?=some v->Value.okWide P W .any base t v)
  (hW:DataW.Whole enc P fn.params.toList spec.vars apart W args.toList ds gs before) (law:∀ n cs,xE P n fn.params.toList cs->ph cs<=pB (ds++gs)->aa P f cs (.bool true)) (hgood:vz W):
  Calls P f args W fun e W'=>∃ v,e= .returned v/\spec.post enc P fn apart fresh handsOn false W args v W':=by
 have hW':=hW
 obtain⟨p,q,hA,hV,rfl,hfz,hnd⟩:=hW
 rw[hvars] at hV
 obtain⟨rfl,rfl⟩:=trodVars_none hV
 obtain⟨n,cs,hcs,hrep,hbk⟩:=vl (base:=base) hL hok (fun j t v ht hv=>hval j t v (by simpa using ht) (by simpa using hv)) hA
 have hlen:=(yA hA).2
 have hs:=hfn ds (by simpa using hlen)
 have hc:=(law n cs hcs (by simpa using hbk)).2 W JL args.toList (fun b hb=>hb.elim) hrep hgood
 rw[show args.toList.toArray=args by simp] at hc
 refine hc.mono fun e W' ⟨v,he,hv,bel⟩=> ?_
 simp only[aK] at hv
 subst hv
 refine⟨_,he,ds,[],_,[],p,[],hW', ?_, ?_, ?_,bel.frame _,fun h=>by cases h⟩
 ·rw[Mw,hs,hres]
  exact trodAll_cons_mk (shut_bool htb _) trodAll_mk0
 ·rw[Mw,hs];exact vm hl bel hrd hA
 ·rw[Mw,hs,hvars];rfl
end
