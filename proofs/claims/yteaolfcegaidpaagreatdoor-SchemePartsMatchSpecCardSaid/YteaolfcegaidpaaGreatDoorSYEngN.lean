/-
  My text.
-/
import Derived.Test.YteaolfcegaidpaaGreatDoorSYEngM
import GoSem.ClaimChange
import GoSem.ClaimWide
import Derived.ChangeArms
namespace Go.Proofs.YteaolfcegaidpaaGreatDoor
set_option linter.unusedSimpArgs false
set_option linter.unusedVariables false
open Go.RowKit
mutual
def pd {H:Type}:DataW H->Nat
 | .lit (.string bytes)=>bytes.length+1
 | .lit _=>1
 | .nil=>1
 | .ptr d=>pd d+1
 | .slice elems spare=>qA elems+qA spare+1
 | .agg parts=>qA parts+1
 | .iface _ d=>pd d+1
 | .map entries=>Jr entries+1
 | .held _=>1
def qA {H:Type}:List (DataW H)->Nat
 |[]=>0
 |d::r=>pd d+qA r
def Jr {H:Type}:List (Lit×DataW H)->Nat
 |[]=>0
 |x::r=>MC x+Jr r
def MC {H:Type}:Lit×DataW H->Nat
 |(.string bytes,d)=>bytes.length+pd d+1
 |(_,d)=>pd d+1
end
mutual
def KQ:DV->Nat
 | .str s=>s.length+1
 | .slice rows=>Gh rows+1
 | .agg cs=>qj cs
 | .tup cs=>qj cs
 | .ptr cs=>qj cs+1
 | .fn _ _=>1
 | .int _ _=>1
 | .bool _=>1
 | .raw _=>1
 | .map _ _=>1
 | .err=>1
 | .any=>1
def qj:List DV->Nat
 |[]=>0
 |c::cs=>KQ c+qj cs
def Gh:List (List DV)->Nat
 |[]=>0
 |r::rs=>qj r+Gh rs
end
theorem zZ:∀ (a b:List DV),qj (a++b)=qj a+qj b
 |[],b=>by simp[qj]
 |c::a,b=>by simp[qj,zZ a b];omega
def z6 (P:Program):Nat->List Field->Nat->Bool
 |o,[],n=>o==n
 |o,f::fs,n=>f.offset==o&&z6 P (o+P.cellsOf f.type) fs n
def xg (P:Program):Nat->TypeId->Bool
 |0,_=>false
 |n+1,t=>match P.underlying t with
  |some .bool=>true
  |some (.int _)=>true
  |some .string=>true
  |some (.slice e)=>decide (0<P.cellsOf e)&&xg P n e
  |some (.struct fs)=>z6 P 0 fs.toList (P.cellsOf t)&&fs.toList.all (fun f=>xg P n f.type)
  |_=>false
def K9 (W:TypeId->List DV->Prop):List Field->List DV->Prop
 |[],ds=>ds=[]
 |f::fs,ds=>∃ a rest,ds=a++rest/\W f.type a/\K9 W fs rest
def WT (P:Program):Nat->TypeId->List DV->Prop
 |0,_,_=>False
 |n+1,t,ds=>match P.underlying t with
  |some .bool=>∃ b,ds=[.bool b]
  |some (.int k)=>∃ m,ds=[.int k m]/\(Lit.int k m).wf=true
  |some .string=>∃ s,ds=[.str s]/\s.length<=maxLen
  |some (.slice e)=>∃ rows,ds=[.slice rows]/\rows.length<=maxLen/\∀ r∈rows,WT P n e r
  |some (.struct fs)=>K9 (WT P n) fs.toList ds
  |_=>False
def Me:Nat->Prop:=fun _=>False
theorem Bs {α:Type} {f:Nat->Option α}:∀ (m k:Nat) {ys:List α},(List.range' k m).mapM f=some ys->ys.length=m/\∀ j,j<m->∃ y,f (k+j)=some y/\ys[j]?=some y
 |0,k,ys,h=>by simp at h;subst h;simp
 |m+1,k,ys,h=>by
  rw[List.range'_succ,List.mapM_cons] at h
  cases hf:f k with
  |none=>simp[hf] at h
  |some y=>
   cases hr:(List.range' (k+1) m).mapM f with
   |none=>simp[hf,hr] at h
   |some zs=>
    simp[hf,hr] at h
    subst h
    obtain⟨h1,h2⟩:=Bs m (k+1) hr
    refine⟨by simp[h1],fun j hj=> ?_⟩
    cases j with
    |zero=>exact⟨y,by simpa using hf,by simp⟩
    |succ j=>
     obtain⟨z,hz1,hz2⟩:=h2 j oM
     exact⟨z,by rw[show k+(j+1)=k+1+j by omega];exact hz1,by simpa using hz2⟩
theorem EW {α:Type} {f:Nat->Option α} {m:Nat} {ys:List α} (h:(List.range m).mapM f=some ys):ys.length=m/\∀ j,j<m->∃ y,f j=some y/\ys[j]?=some y:=by
 rw[Qr] at h
 simpa using Bs m 0 h
theorem C8 {w:World} {a:Addr} {n:Nat} {vs:List Value} (h:w.cells? 0 a n=some vs):vs.length=n/\∀ j v,vs[j]?=some v->w.cell? (a.add j)=some v:=by
 simp only[World.cells?,Pi,PR] at h
 obtain⟨h1,h2⟩:=EW h
 refine⟨h1,fun j v hj=> ?_⟩
 have hlt:=(OG.1 hj).1
 obtain⟨y,hy1,hy2⟩:=h2 j oM
 rw[hj] at hy2;simp at hy2;subst hy2;exact hy1
section
variable {H:Type} {enc:TypeId×Value->H} {P:Program} {w:World} {sp:Nat->Bool} {held:Bool}
def EX (P:Program) (w:World) (n:Nat) (t:TypeId) (cs:List Value) (bulk:Nat):Prop:=
 ∃ ds,aI w Me ds cs/\(∀ x∈cs,x.oneCell'=true)/\WT P n t ds/\qj ds<=bulk
theorem EY:∀ (fs:List Field) (o n:Nat),z6 P o fs n=true->o<=n
 |[],o,n,h=>by simp[z6] at h;omega
 |f::fs,o,n,h=>by
  simp only[z6,Oz] at h
  have:=EY fs _ _ h.2
  omega
theorem ye {n fuel:Nat} (ih:∀ t cs d ps,xg P n t=true->DataW.trod enc P w 0 sp held fuel t cs=some (d,ps)->EX P w n t cs (pd d)) (cs:List Value):
  ∀ (fs:List Field) (o:Nat) (xs:List (DataW H×List MemPlace)),z6 P o fs cs.length=true->fs.all (fun f=>xg P n f.type)=true->xs.length=fs.length->
  (∀ (i:Nat) (f:Field),fs[i]?=some f->DataW.trod enc P w 0 sp held fuel f.type ((cs.drop f.offset).take (P.cellsOf f.type))=xs[i]?)->
  ∃ ds,aI w Me ds (cs.drop o)/\(∀ x∈cs.drop o,x.oneCell'=true)/\K9 (WT P n) fs ds/\qj ds<=qA (xs.map (·.1))
 |[],o,xs,ht,hok,hl,hx=>by
  simp only[z6,OI] at ht
  have:cs.drop o=[]:=List.drop_eq_nil_iff.2 oM
  rw[this]
  exact⟨[],by simp[aI],by simp,rfl,by simp[qj]⟩
 |f::fs,o,[],ht,hok,hl,hx=>by simp at hl
 |f::fs,o,y::zs,ht,hok,hl,hx=>by
  simp only[z6,Oz,OI] at ht
  obtain⟨rfl,ht⟩:=ht
  simp only[Qs,Oz] at hok
  have hf:=hx 0 f oS
  simp only[PY] at hf
  have hle:=EY fs _ _ ht
  obtain⟨ds2,h1,h2,h3,h4⟩:=ye ih cs fs (f.offset+P.cellsOf f.type) zs ht hok.2 (by simpa using hl) (fun i g hg=>by simpa using hx (i+1) g (by simpa using hg))
  obtain⟨ds1,g1,g2,g3,g4⟩:=ih f.type _ y.1 y.2 hok.1 hf
  have hsplit:cs.drop f.offset=(cs.drop f.offset).take (P.cellsOf f.type)++cs.drop (f.offset+P.cellsOf f.type):=by
   rw[<-PX];exact(OU _ _).symm
  refine⟨ds1++ds2,by rw[hsplit];exact g1.append h1, ?_,⟨ds1,ds2,rfl,g3,h3⟩,by rw[zZ];simp[qA];omega⟩
  intro x hx
  rw[hsplit] at hx
  rcases OV.1 hx with hx|hx
  ·exact g2 x hx
  ·exact h2 x hx
theorem Bt {n fuel e:Nat} (ih:∀ t cs d ps,xg P n t=true->DataW.trod enc P w 0 sp held fuel t cs=some (d,ps)->EX P w n t cs (pd d)) (hok:xg P n e=true) (b o:Nat):
  ∀ (elems:List (DataW H×List MemPlace)) (k:Nat),(∀ i,i<elems.length->(w.cells? 0 ⟨b,o+(k+i) * P.cellsOf e,none⟩ (P.cellsOf e)).bind (DataW.trod enc P w 0 sp held fuel e)=elems[i]?)->
  ∃ rows,rows.length=elems.length/\aS w Me rows b (o+k * P.cellsOf e) (P.cellsOf e)/\(∀ r∈rows,WT P n e r)/\Gh rows<=qA (elems.map (·.1))
 |[],k,h=>⟨[],rfl,by simp[aS],by simp,by simp[Gh]⟩
 |y::elems,k,h=>by
  have h0:=h 0 oS
  simp only[Qb,PY] at h0
  cases hc:w.cells? 0 ⟨b,o+k * P.cellsOf e,none⟩ (P.cellsOf e) with
  |none=>simp[hc] at h0
  |some vs=>
   simp only[hc,OA] at h0
   obtain⟨hl,hcell⟩:=C8 hc
   obtain⟨ds,g1,g2,g3,g4⟩:=ih e vs y.1 y.2 hok h0
   obtain⟨rows,r1,r2,r3,r4⟩:=Bt ih hok b o elems (k+1) (fun i hi=>by
    have:=h (i+1) (by simp only[OW];omega)
    rw[show k+1+i=k+(i+1) by omega];simpa using this)
   have hlen:=g1.length
   refine⟨ds::rows,by simp[r1], ?_,by simpa using⟨g3,r3⟩,by simp only[Gh,OQ,qA];omega⟩
   unfold aS
   refine⟨by omega, ?_, ?_⟩
   ·rw[bO.iff]
    intro i c hi
    obtain⟨v,hv,hr⟩:=g1.get hi
    have:=hcell i v hv
    rw[gm] at this
    exact⟨v,this,g2 v (OE hv),hr⟩
   ·rw[show o+k * P.cellsOf e+P.cellsOf e=o+(k+1) * P.cellsOf e by rw[PD];omega];exact r2
theorem Bu:∀ (fuel n:Nat) (t:TypeId) (cs:List Value) (d:DataW H) (ps:List MemPlace),xg P n t=true->DataW.trod enc P w 0 sp held fuel t cs=some (d,ps)->EX P w n t cs (pd d)
 |0,n,t,cs,d,ps,hok,h=>by simp[DataW.trod] at h
 |fuel+1,0,t,cs,d,ps,hok,h=>by simp[xg] at hok
 |fuel+1,n+1,t,cs,d,ps,hok,h=>by
  have one:∀ (c:DV) (v:Value) (b:Nat),aQ w Me c v->v.oneCell'=true->WT P (n+1) t [c]->KQ c<=b->EX P w (n+1) t [v] b:=fun c v b h1 h2 h3 h4=>
   ⟨[c],aI.one h1,by simpa using h2,h3,by simpa[qj] using h4⟩
  have ih:∀ t cs d ps,xg P n t=true->DataW.trod enc P w 0 sp held fuel t cs=some (d,ps)->EX P w n t cs (pd d):=fun t cs d ps=>Bu fuel n t cs d ps
  simp only[xg] at hok
  cases hu:P.underlying t with
  |none=>simp[hu] at hok
  |some td=>
   cases td with
   |bool=>
    obtain⟨b,rfl,hx⟩:=DataW.trod_bool hu h
    simp only[OB] at hx
    obtain⟨rfl,rfl⟩:=hx
    exact one (.bool b) _ _ (by simp[aQ]) rfl (by simp only[WT,hu];exact⟨b,rfl⟩) (by simp[KQ,pd])
   |int k=>
    obtain⟨m,rfl,hx,hwf⟩:=DataW.trod_int hu h
    simp only[OB] at hx
    obtain⟨rfl,rfl⟩:=hx
    exact one (.int k m) _ _ (by simp[aQ]) rfl (by simp only[WT,hu];exact⟨m,rfl,hwf⟩) (by simp[KQ,pd])
   |string=>
    obtain⟨s,rfl,hx,hle⟩:=DataW.trod_string hu h
    simp only[OB] at hx
    obtain⟨rfl,rfl⟩:=hx
    have hs:s=⟨s.data.toList.toArray⟩:=(Lib.mk_data s).symm
    have hsz:s.data.toList.length=s.size:=by rw[Lib.size_eq]
    exact one (.str s.data.toList) _ _ (by unfold aQ;exact congrArg Value.string hs) rfl (by simp only[WT,hu];exact⟨_,rfl,by omega⟩) (by simp[KQ,pd])
   |slice e=>
    simp only[hu,Oz,OC] at hok
    obtain⟨hpos,hok⟩:=hok
    rcases DataW.trod_slice hu h with⟨rfl,hx⟩|⟨a,len,cap,elems,rest,n',hn',rfl,hx,_,hlc,hcm,hel,hget,_,_⟩
    ·simp only[OB] at hx
     obtain⟨rfl,rfl⟩:=hx
     refine one (.slice []) _ _ ?_ rfl (by simp only[WT,hu];exact⟨[],rfl,by simp,by simp⟩) (by simp[KQ,Gh,pd])
     unfold aQ
     exact⟨none,0,rfl,OH _,fun _=>rfl,.inl rfl⟩
    ·simp only[OB] at hx
     obtain⟨rfl,rfl⟩:=hx
     have hn'':n'=fuel:=by omega
     subst hn''
     by_cases hl0:len=0
     ·subst hl0
      have:elems=[]:=OX.1 hel
      subst this
      refine one (.slice []) _ _ ?_ rfl (by simp only[WT,hu];exact⟨[],rfl,by simp,by simp⟩) (by simp[KQ,Gh,pd])
      unfold aQ
      exact⟨some a,cap,rfl,Pi _,by simp,.inl rfl⟩
     ·
      have hspot:a.spot=none:=by
       have h0:=hget 0 oM
       simp only[Nat.zero_mul] at h0
       have e0:a.add 0=a:=by simp[Addr.add]
       rw[e0] at h0
       cases hc:w.cells? 0 a (P.cellsOf e) with
       |none=>
        simp only[hc,Option.bind_none] at h0
        rw[OJ oM] at h0
        cases h0
       |some vs=>
        obtain⟨hl,hcell⟩:=C8 hc
        obtain⟨v,hv⟩:∃ v,vs[0]?=some v:=⟨_,OJ oM⟩
        have:=hcell 0 v hv
        rw[e0] at this
        unfold World.cell? at this
        split at this
        ·split at this
         ·cases this
         ·rename_i hs;simpa using hs
        ·cases this
      obtain⟨b,o,spt⟩:=a
      simp only at hspot
      subst hspot
      obtain⟨rows,r1,r2,r3,r4⟩:=Bt ih hok b o elems 0 (fun i hi=>by
       have:=hget i oM
       rw[gm] at this
       simpa using this)
      simp only[Nat.zero_mul,Qb] at r2
      have hb:b<w.heap.size:=by
       have hne:rows≠[]:=fun e=>by subst e;simp at r1;omega
       obtain⟨r,rs,rfl⟩:=List.exists_cons_of_ne_nil hne
       unfold aS at r2
       obtain⟨h1,h2,_⟩:=r2
       rw[bO.iff] at h2
       obtain⟨c,hc⟩:∃ c,r[0]?=some c:=⟨_,OJ oM⟩
       obtain⟨v,hv,_⟩:=h2 0 c hc
       exact World.block_lt_of_cell? w _ hv
      refine one (.slice rows) _ _ ?_ rfl (by simp only[WT,hu];exact⟨rows,rfl,by omega,r3⟩) (by simp only[KQ,pd];omega)
      unfold aQ
      exact⟨some ⟨b,o,none⟩,cap,by rw[r1,hel],by omega,by simp,.inr ⟨b,o,P.cellsOf e,rfl,fun h=>h,hb,r2⟩⟩
   |struct fs=>
    simp only[hu,Oz] at hok
    obtain⟨xs,n',hn',hx,hl,hxl,hget⟩:=DataW.trod_struct hu h
    simp only[OB] at hx
    obtain⟨rfl,rfl⟩:=hx
    have hn'':n'=fuel:=by omega
    subst hn''
    obtain⟨ds,h1,h2,h3,h4⟩:=ye ih cs fs.toList 0 xs (by rw[hl];exact hok.1) hok.2 (by simpa using hxl) (fun i f hf=>hget i f (by simpa using hf))
    simp only[List.drop_zero] at h1 h2
    exact⟨ds,h1,h2,by simp only[WT,hu];exact h3,by simp only[pd];omega⟩
   |_=>simp[hu] at hok
theorem Js {n:Nat} {t:TypeId} {v:Value} {d:DataW H} {ps:List MemPlace} (hok:xg P n t=true) (h:DataW.Trod enc P w 0 sp held t v d ps):∃ ds,WT P n t ds/\qj ds<=pd d/\aI w Me ds v.cells.toList/\(∀ x∈v.cells.toList,x.oneCell'=true):=by
 obtain⟨fuel,h⟩:=h
 obtain⟨ds,h1,h2,h3,h4⟩:=Bu fuel n t _ d ps hok h
 exact⟨ds,h3,h4,h1,h2⟩
theorem Gi {W:World} {base:Nat} {t:TypeId} {fs:Array Field} {v:Value} (ht:P.underlying t=some (.struct fs)) (h:Value.okWide P W .any base t v):∃ vs,v= .agg vs:=by
 unfold Value.okWide at h
 simp only[ht] at h
 obtain⟨cs,h,_⟩:=h
 exact⟨cs,h⟩
theorem K_ {M:Nat->Prop} {v:Value} {vs:Array Value} {ds:List DV} (hv:v= .agg vs) (h:aI w M ds v.cells.toList) (h1:∀ x∈v.cells.toList,x.oneCell'=true):aQ w M (.agg ds) v:=by
 subst hv
 unfold aQ
 exact⟨vs.toList,by simp,h1,h⟩
theorem AH {M:Nat->Prop} {v:Value} {c:DV} (hv:∀ vs,v≠ .agg vs) (h:aI w M [c] v.cells.toList):aQ w M c v:=by
 have:v.cells= #[v]:=by
  cases v with
  |agg vs=>exact absurd rfl (hv vs)
  |_=>rfl
 rw[this] at h
 simp only[aI] at h
 obtain⟨u,us,he,hr,_⟩:=h
 simp at he
 rw[he.1];exact hr
end
