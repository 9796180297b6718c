/-
  My text.
-/
import Derived.Test.YtgmnipfafmphaaaGreatDoorSYEngE
namespace Go.Proofs.YtgmnipfafmphaaaGreatDoor
set_option linter.unusedSimpArgs false
set_option linter.unusedVariables false
open Go.RowKit
inductive wb {α β:Type} (R:α->β->Prop):List α->List β->Prop
 |nil:wb R [] []
 |cons {a:α} {b:β} {as:List α} {bs:List β}:R a b->wb R as bs->wb R (a::as) (b::bs)
variable {N b:Nat} {cs:List SV} {e:Nat} {h:Option Int} {hi:Option Operand} {i:TypeInfo} {j:Bool} {k k':IntKind} {l:Option Int} {len:Nat} {lo:Option Operand} {m:Int} {n:Nat} {o:Array (Nat×Operand)} {ps:List (Nat×Nat×SV)} {rows:List (List DV)} {sz t:Nat} {x:Operand} {xs:List SV} {z:Value} {zs:List SV}
theorem K1 (off:Nat):∀ (vs:List Value) (k:Nat) (zs:List Value),off+k+vs.length<=zs.length->
  (vs.zipIdx k).foldl (fun(cs:Array Value) (p:Value×Nat)=>cs.setIfInBounds (off+p.2) p.1) zs.toArray=(zs.take (off+k)++vs++zs.drop (off+k+vs.length)).toArray
 |[],k,zs,_=>by simp
 |v::vs,k,zs,h=>by
  simp only[ST] at h
  simp only[List.zipIdx_cons,US,List.setIfInBounds_toArray]
  rw[K1 off vs (k+1) (zs.set (off+k) v) oT]
  congr 1
  have e1:(zs.set (off+k) v).take (off+(k+1))=zs.take (off+k)++[v]:=by
   rw[<-U7,List.take_add_one]
   simp[List.take_set_of_le,List.getElem?_set,show off+k<zs.length by omega]
  have e2:(zs.set (off+k) v).drop (off+(k+1)+vs.length)=zs.drop (off+k+(v::vs).length):=by
   rw[List.drop_set_of_lt oM]
   congr 1
   simp;omega
  rw[e1,e2]
  simp
theorem yo (b:Nat->Option (Nat×Nat)) (zs vs:List Value) (i off:Nat) (v:Value) (z:List (Nat×Value)) (Y:b i=some (off,vs.length)) (hv:v.cells=vs.toArray) (hl:off+vs.length<=zs.length):
  Instr.fill b zs.toArray ((i,v)::z)=Instr.fill b (zs.take off++vs++zs.drop (off+vs.length)).toArray z:=by
 have:=K1 off vs 0 zs (by simpa using hl)
 simp only[Ul] at this
 rw[Instr.fill]
 simp only[Y,hv,List.size_toArray]
 rw[if_neg oT]
 congr 1
 rw[<-this]
 simp
section
variable {P:Program} {w:World} {M:Nat->Prop} {κ:Nat->Value}
theorem xt (hk:O6 κ) (b:Nat->Option (Nat×Nat)):∀ (ps:List (Nat×Nat×SV)) (qs:List (Nat×Value)) (zs cs:List SV) (c:List Value),an w M κ zs c->(∀ x∈c,x.oneCell'=true)->yj zs ps=some cs->
  wb (fun(p:Nat×Nat×SV) (q:Nat×Value)=>b q.1=some (p.1,p.2.1)/\ai w M κ p.2.2 q.2) ps qs->
  ∃ vs:List Value,Instr.fill b c.toArray qs=some vs.toArray/\an w M κ cs vs/\(∀ x∈vs,x.oneCell'=true)
 |[],qs,zs,cs,c,hz,h1,C,hq=>by
  cases hq
  simp only[yj,SN] at C
  subst C
  exact⟨c,by simp[Instr.fill],hz,h1⟩
 |(off,n,x)::ps,qs,zs,cs,c,hz,h1,C,hq=>by
  cases hq with
  |cons hq d=>
   rename_i q qs
   obtain⟨i,v⟩:=q
   simp only at hq
   obtain⟨Y,D⟩:=hq
   unfold yj at C
   cases hc:x.cells? with
   |none=>simp[hc] at C
   |some J=>
    simp only[hc] at C
    split at C
    ·rename_i hn
     obtain⟨hn,s0⟩:=hn
     obtain⟨R,hu,j,K⟩:=D.cells hk hc
     have I:=K.length
     have F:=hz.length
     have A:R.length=n:=by omega
     subst A
     rw[yo b c R i off v qs Y hu oM]
     refine xt hk b ps qs _ cs _ ((hz.take off).append K|>.append (hz.drop _)) ?_ C d
     intro y hy
     simp only[Te] at hy
     rcases hy with(hy|hy)|hy
     ·exact h1 y (Tv hy)
     ·exact j y hy
     ·exact h1 y (Ua hy)
    ·cases C
theorem GW (O:List Field) (h:∀ f∈O,(P.info? f.type).isSome=true):O.mapM (fun f=>(P.info? f.type).map fun i=>(f.offset,i.size))=some (O.map fun f=>(f.offset,P.cellsOf f.type)):=by
 induction O with
 |nil=>rfl
 |cons f O ih=>
  obtain⟨i,hi⟩:=T0.1 (h f oS)
  simp[List.mapM_cons,ih fun g hg=>h g (by simp[hg]),hi,Program.cellsOf]
variable {a:Act} {dst:Option Tmp} {ty:TypeId} {pos:String} {S:Array Edge} {gd:Option (Nat×Bool)}
theorem Fl (hk:O6 κ) {t:TypeId} {O:Array Field} (hu:P.underlying t=some (.struct O)) (hi:P.info? t=some i) (hz:i.zero=some z) (Q:jX z.cells.toList zs=true) (s8:O.all (fun f=>(P.info? f.type).isSome)=true) (A:wb (fun(p:Nat×Nat×SV) (q:Nat×Operand)=>(∃ f,O[q.1]?=some f/\f.offset=p.1/\P.cellsOf f.type=p.2.1)/\ai w M κ p.2.2 (a.eval q.2)) ps o.toList) (C:yj zs ps=some cs):
  eJ P a ⟨dst,.build t o,ty,pos,S,gd⟩ w M κ (.agg cs):=by
 obtain⟨K,d⟩:=nF (w:=w) (M:=M) (κ:=κ) Q
 have J:=GW (P:=P) O.toList (fun f C=>by
  have:=Un.1 s8 f (by simpa using C)
  simpa using this)
 have hq:wb (fun(p:Nat×Nat×SV) (q:Nat×Value)=>((O.toList.map fun f=>(f.offset,P.cellsOf f.type)).toArray[·]?:Nat->Option (Nat×Nat)) q.1=some (p.1,p.2.1)/\ai w M κ p.2.2 q.2) ps (o.toList.map fun q=>(q.1,a.eval q.2)):=by
  clear C
  generalize o.toList=l at A
  induction A with
  |nil=>exact .nil
  | @cons p q ps qs h _ ih=>
   refine .cons ⟨?_,h.2⟩ ih
   obtain⟨⟨f,j,b,c⟩,_⟩:=h
   have:O.toList[q.1]?=some f:=by simpa using j
   simp only[List.getElem?_toArray,TC,this,Uf,b,c]
 obtain⟨vs,h1,h2,E⟩:=xt hk _ ps _ zs cs _ K d C hq
 have hb:P.built t (o.toList.map fun q=>(q.1,a.eval q.2))=some vs.toArray:=by
  simp only[Program.built,hi,hu,hz,J]
  exact h1
 refine aI (v:= .agg vs.toArray) ?_ (by simp only[ai];exact⟨vs,rfl,E,h2⟩)
 have D:=run_build (P:=P) w t (o.map fun q=>(q.1,a.eval q.2)) vs.toArray (by simpa using hb)
 simp only[execOp,Sem.run_bind]
 have e:(o.map fun(x:Nat×Operand)=>match x with|(i,x)=>(i,a.eval x))=o.map fun q=>(q.1,a.eval q.2):=rfl
 rw[e,D]
 rfl
theorem DU (hk:O6 κ) {t:TypeId} {e:TypeId} {ie:TypeInfo} (hu:P.underlying t=some (.array len e)) (hi:P.info? t=some i) (v8:P.info? e=some ie) (hz:i.zero=some z) (Q:jX z.cells.toList zs=true) (A:wb (fun(p:Nat×Nat×SV) (q:Nat×Operand)=>(p.1=q.1 * ie.size/\p.2.1=ie.size)/\ai w M κ p.2.2 (a.eval q.2)) ps o.toList) (C:yj zs ps=some cs):
  eJ P a ⟨dst,.build t o,ty,pos,S,gd⟩ w M κ (.agg cs):=by
 obtain⟨K,d⟩:=nF (w:=w) (M:=M) (κ:=κ) Q
 have hq:wb (fun(p:Nat×Nat×SV) (q:Nat×Value)=>(fun i:Nat=>some (i * ie.size,ie.size)) q.1=some (p.1,p.2.1)/\ai w M κ p.2.2 q.2) ps (o.toList.map fun q=>(q.1,a.eval q.2)):=by
  clear C
  generalize o.toList=l at A
  induction A with
  |nil=>exact .nil
  | @cons p q ps qs h _ ih=>
   refine .cons ⟨?_,h.2⟩ ih
   obtain⟨⟨h1,h2⟩,_⟩:=h
   simp only[h1,h2]
 obtain⟨vs,h1,h2,E⟩:=xt hk (fun i:Nat=>some (i * ie.size,ie.size)) ps _ zs cs _ K d C hq
 have hb:P.built t (o.toList.map fun q=>(q.1,a.eval q.2))=some vs.toArray:=by
  simp only[Program.built,hi,hu,hz,v8]
  exact h1
 refine aI (v:= .agg vs.toArray) ?_ (by simp only[ai];exact⟨vs,rfl,E,h2⟩)
 have D:=run_build (P:=P) w t (o.map fun q=>(q.1,a.eval q.2)) vs.toArray (by simpa using hb)
 simp only[execOp,Sem.run_bind]
 have e:(o.map fun(x:Nat×Operand)=>match x with|(i,x)=>(i,a.eval x))=o.map fun q=>(q.1,a.eval q.2):=rfl
 rw[e,D]
 rfl
theorem xu (sz:Nat):∀ (rows:List (List Value)) (qs:List (Nat×Value)) (done z:List Value) (k:Nat),done.length=k * sz->z.length=rows.length * sz->
  wb (fun(r:List Value) (q:Nat×Value)=>r.length=sz/\q.2.cells=r.toArray) rows qs->(∀ j q,qs[j]?=some q->q.1=k+j)->
  Instr.fill (fun i=>some (i * sz,sz)) (done++z).toArray qs=some (done++rows.flatten).toArray
 |[],qs,done,z,k,hd,D,hq,hj=>by
  cases hq
  have:z=[]:=Ta.1 (by simpa using D)
  subst this
  simp[Instr.fill]
 |r::rows,qs,done,z,k,hd,D,hq,hj=>by
  cases hq with
  |cons h d=>
   rename_i q qs
   obtain⟨i,v⟩:=q
   obtain⟨h1,h2⟩:=h
   have hi:i=k:=by simpa using hj 0 (i,v) oS
   subst hi
   simp only[ST,T8,Nat.one_mul] at D
   subst h1
   rw[yo _ (done++z) r i (i * r.length) v qs rfl h2 oT]
   have e1:(done++z).take (i * r.length)=done:=by rw[Ur oM,Tt oM]
   have e2:(done++z).drop (i * r.length+r.length)=z.drop r.length:=by
    rw[List.drop_append,Ui oM]
    simp;congr 1;omega
   rw[e1,e2]
   have:=xu r.length rows qs (done++r) (z.drop r.length) (i+1) (by simp[hd,T8]) oT d (fun j q b=>by
    have:=hj (j+1) q (by simpa using b)
    omega)
   rw[this]
   simp
theorem q_ (hk:O6 κ) {sz:Nat}:∀ {xs cs:List SV} {vs:List Value},iX sz xs=some cs->an w M κ xs vs->∃ rs:List (List Value),wb (fun(r:List Value) (v:Value)=>r.length=sz/\v.cells=r.toArray) rs vs/\
   an w M κ cs rs.flatten/\(∀ x∈rs.flatten,x.oneCell'=true)/\rs.length=vs.length/\rs.flatten.length=xs.length * sz
 |[],cs,vs,h,D=>by
  simp only[iX,SN] at h;subst h
  unfold an at D;subst D
  exact⟨[],.nil,by simp[an],by simp,rfl,by simp⟩
 |x::xs,cs,vs,h,D=>by
  unfold an at D
  obtain⟨u,R,rfl,h1,h2⟩:=D
  unfold iX at h
  cases c:x.cells? with
  |none=>simp[c] at h
  |some r=>
   cases q:iX sz xs with
   |none=>simp[c,q] at h
   |some rs=>
    simp only[c,q] at h
    split at h
    ·rename_i F
     simp only[SN] at h;subst h
     obtain⟨ys,b,m,d⟩:=h1.cells hk c
     obtain⟨e,k1,k2,k3,k4,k5⟩:=q_ hk q h2
     have o:=d.length
     refine⟨ys::e,.cons ⟨by omega,b⟩ k1,by simpa using d.append k2, ?_,by simp[k4], ?_⟩
     ·intro z hz
      simp only[TF,Te] at hz
      rcases hz with hz|hz
      ·exact m z hz
      ·exact k3 z hz
     ·simp only[TF,SS,ST,k5,T8];omega
    ·cases h
theorem DW (hk:O6 κ) (hM:∀ b,M b->b<w.heap.size) (hu:P.underlying t=some (.slice e)) (hi:P.info? e=some i) (F:i.size=sz) (r8:0<sz) (J:n * sz<=16777216) (hz:i.zero=some z) (Q:z.cells.size=sz) (hn:n=o.size) (T:an w M κ xs (o.toList.map fun q=>a.eval q.2)) (s1:∀ (j:Nat) q,o.toList[j]?=some q->q.1=j) (K:iX sz xs=some cs):
  eJ P a ⟨dst,.buildSlice t n o,ty,pos,S,gd⟩ w M κ (.lit sz xs.length cs):=by
 obtain⟨rs,h1,h2,E,h6,h7⟩:=q_ hk K T
 have r6:xs.length=n:=by have:=T.length;simp[hn] at this⊢;omega
 have s:∃ d:List Value,d.length=n * sz/\((Array.range (n * sz)).map (z.cells[· %z.cells.size]!))=d.toArray:=⟨((Array.range (n * sz)).map (z.cells[· %z.cells.size]!)).toList,by simp,(Array.toArray_toList).symm⟩
 obtain⟨d,k,f⟩:=s
 have I:(o.toList.map fun q=>a.eval q.2).length=n:=by simp[hn]
 have hq:wb (fun(r:List Value) (q:Nat×Value)=>r.length=sz/\q.2.cells=r.toArray) rs (o.toList.map fun q=>(q.1,a.eval q.2)):=by
  clear h2 E h6 h7 s1 T I hn K r6
  generalize o.toList=l at h1
  revert h1
  induction rs generalizing l with
  |nil=>intro h;cases l with|nil=>exact .nil|cons _ _=>cases h
  |cons r rs ih=>
   intro h
   cases l with
   |nil=>cases h
   |cons q l=>cases h with|cons g gs=>exact .cons g (ih l gs)
 have s4:=xu sz rs _ [] d 0 oS (by rw[k,h6,I]) hq (fun j q hj=>by
  rw[TC] at hj
  cases Y:o.toList[j]? with
  |none=>simp[Y] at hj
  |some p=>simp[Y] at hj;subst hj;simp[s1 j p Y])
 simp only[S8] at s4
 refine⟨.slice (some ⟨w.heap.size,0,none⟩) n n,w.alloc (.cells rs.flatten.toArray e), ?_,(Below.refl _ _).alloc (SZ _) _, ?_⟩
 ·have e1:(o.map fun(x:Nat×Operand)=>match x with|(i,x)=>(i,a.eval x)).toList=o.toList.map fun q=>(q.1,a.eval q.2):=by simp
  have hs:(sizeOf e).run P w= .ok sz w:=by simp[sizeOf,typeInfo,hi,F]
  have c:(zeroValue e).run P w= .ok z w:=by simp[zeroValue,typeInfo,hi,hz]
  simp only[execOp,Instr.buildSlice,Sem.run_bind,run_underlying hu,Result.andThen_ok,hs]
  rw[if_neg oM]
  by_cases h0:n * sz=0
  ·have G:d=[]:=Ta.1 oM
   subst G
   simp only[h0,TB,Sem.run_bind,Sem.run_pure,Result.andThen_ok,e1]
   have:((Array.range 0).map (fun x=>(#[]:Array Value)[x%(#[]:Array Value).size]!))=(([]:List Value).toArray):=by simp
   rw[this,s4]
   rfl
  ·simp only[h0,Tq,Sem.run_bind,c,Sem.run_pure,Result.andThen_ok,e1,f,s4]
   rfl
 ·have hB:Below w.heap.size w (w.alloc (.cells rs.flatten.toArray e)):=(Below.refl _ _).alloc (SZ _) _
  simp only[ai]
  rw[r6] at h7⊢
  exact⟨w.heap.size,rs.flatten,rfl,fun h=>Nat.lt_irrefl _ (hM _ h),by simp,h7,E,fun j v hj=>by rw[cell_of_row _ _ _ _ _ _ (heap_alloc_new w _)];simpa using hj,an.ext (jE.of_below hB) _ _ h2⟩
theorem GX (hk:O6 κ) (hu:P.underlying t=some (.slice e)) (hi:P.info? e=some i) (F:i.size=sz) (r8:0<sz) (J:n * sz<=16777216) (hz:i.zero=some z) (Q:z.cells.size=sz) (hn:n=o.size) (T:an w M κ xs (o.toList.map fun q=>a.eval q.2)) (s1:∀ (j:Nat) q,o.toList[j]?=some q->q.1=j) (K:iX sz xs=some cs):
  ∃ rs:List (List Value),(execOp a.eval ⟨dst,.buildSlice t n o,ty,pos,S,gd⟩).run P w= .ok (.value (.slice (some ⟨w.heap.size,0,none⟩) n n)) (w.alloc (.cells rs.flatten.toArray e))/\rs.flatten.length=n * sz/\(∀ x∈rs.flatten,x.oneCell'=true)/\an w M κ cs rs.flatten:=by
 obtain⟨rs,h1,h2,E,h6,h7⟩:=q_ hk K T
 have r6:xs.length=n:=by have:=T.length;simp[hn] at this⊢;omega
 have s:∃ d:List Value,d.length=n * sz/\((Array.range (n * sz)).map (z.cells[· %z.cells.size]!))=d.toArray:=⟨((Array.range (n * sz)).map (z.cells[· %z.cells.size]!)).toList,by simp,(Array.toArray_toList).symm⟩
 obtain⟨d,k,f⟩:=s
 have I:(o.toList.map fun q=>a.eval q.2).length=n:=by simp[hn]
 have hq:wb (fun(r:List Value) (q:Nat×Value)=>r.length=sz/\q.2.cells=r.toArray) rs (o.toList.map fun q=>(q.1,a.eval q.2)):=by
  clear h2 E h6 h7 s1 T I hn K r6
  generalize o.toList=l at h1
  revert h1
  induction rs generalizing l with
  |nil=>intro h;cases l with|nil=>exact .nil|cons _ _=>cases h
  |cons r rs ih=>
   intro h
   cases l with
   |nil=>cases h
   |cons q l=>cases h with|cons g gs=>exact .cons g (ih l gs)
 have s4:=xu sz rs _ [] d 0 oS (by rw[k,h6,I]) hq (fun j q hj=>by
  rw[TC] at hj
  cases Y:o.toList[j]? with
  |none=>simp[Y] at hj
  |some p=>simp[Y] at hj;subst hj;simp[s1 j p Y])
 simp only[S8] at s4
 refine⟨rs, ?_,by rw[<-r6];exact h7,E,h2⟩
 have e1:(o.map fun(x:Nat×Operand)=>match x with|(i,x)=>(i,a.eval x)).toList=o.toList.map fun q=>(q.1,a.eval q.2):=by simp
 have hs:(sizeOf e).run P w= .ok sz w:=by simp[sizeOf,typeInfo,hi,F]
 have c:(zeroValue e).run P w= .ok z w:=by simp[zeroValue,typeInfo,hi,hz]
 simp only[execOp,Instr.buildSlice,Sem.run_bind,run_underlying hu,Result.andThen_ok,hs]
 rw[if_neg oM]
 by_cases h0:n * sz=0
 ·have G:d=[]:=Ta.1 oM
  subst G
  simp only[h0,TB,Sem.run_bind,Sem.run_pure,Result.andThen_ok,e1]
  have:((Array.range 0).map (fun x=>(#[]:Array Value)[x%(#[]:Array Value).size]!))=(([]:List Value).toArray):=by simp
  rw[this,s4]
  rfl
 ·simp only[h0,Tq,Sem.run_bind,c,Sem.run_pure,Result.andThen_ok,e1,f,s4]
  rfl
theorem aQ.drop {o:Nat} (h:aQ w M rows b o sz) (l:Nat):aQ w M (rows.drop l) b (o+l * sz) sz:=by
 induction l generalizing rows o with
 |zero=>simpa using h
 |succ l ih=>
  cases rows with
  |nil=>simp[aQ]
  |cons r rows=>
   unfold aQ at h
   have:=ih h.2.2
   rw[U_,show o+(l+1) * sz=o+sz+l * sz by rw[T8];omega]
   exact this
theorem aQ.take {o:Nat} (h:aQ w M rows b o sz) (l:Nat):aQ w M (rows.take l) b o sz:=by
 induction l generalizing rows o with
 |zero=>simp[aQ]
 |succ l ih=>
  cases rows with
  |nil=>simp[aQ]
  |cons r rows=>
   unfold aQ at h
   rw[UH]
   unfold aQ
   exact⟨h.1,h.2.1,ih h.2.2⟩
theorem nH {s:Nat->SV} {l:Option SX} {r:Option Int} (V:∀ x y,lo=some x->l=some y->ai w M κ (ev s y) (a.eval x)) (Z:jq N lo l=true) (h:zu s l=some r):
  (lo.map a.eval=none/\r=none)\/∃ k n,lo.map a.eval=some (.int k n)/\r=some n:=by
 cases lo with
 |none=>cases l with
  |none=>simp only[zu,SN] at h;subst h;exact .inl ⟨rfl,rfl⟩
  |some y=>simp[jq] at Z
 |some x=>cases l with
  |none=>simp[jq] at Z
  |some y=>
   have:=V x y rfl rfl
   unfold zu at h
   simp only at h
   split at h
   ·rename_i k n B
    rw[B] at this
    simp only[ai,aW] at this
    simp only[SN] at h
    exact .inr ⟨k,n,by simp[this],h.symm⟩
   ·cases h
theorem nN (k:IntKind) (n:Int) (y:Nat) (c:BoundsCode) (h0:0<=n) (h1:n<=y):(Instr.sliceBound (.int k n) y c).run P w= .ok n.toNat w:=by
 simp[Instr.sliceBound,asIntOf,h0,h1]
theorem oc {lo hi:Option Value} (hl:(lo=none/\l=none)\/∃ k n,lo=some (.int k n)/\l=some n) (hh:(hi=none/\h=none)\/∃ k n,hi=some (.int k n)/\h=some n) (h0:0<=l.getD 0) (h1:l.getD 0<=h.getD len) (h2:h.getD len<=len) (hc:len<=N):(Instr.sliceBounds j len N lo hi none).run P w= .ok ((l.getD 0).toNat,(h.getD len).toNat,N) w:=by
 rcases hh with⟨rfl,rfl⟩|⟨k,n,rfl,rfl⟩
 ·simp only[UL] at *
  rcases hl with⟨rfl,rfl⟩|⟨k',n',rfl,rfl⟩
  ·simp[Instr.sliceBounds]
  ·simp only[TU] at *
   have hb:=nN (P:=P) (w:=w) k' n' len .sliceB h0 h1
   simp[Instr.sliceBounds,hb]
 ·simp only[TU] at *
  have hb:=nN (P:=P) (w:=w) k n N (if j then .sliceAcap else .sliceAlen) oM oM
  rcases hl with⟨rfl,rfl⟩|⟨k',n',rfl,rfl⟩
  ·simp[Instr.sliceBounds,hb]
  ·simp only[TU] at *
   have h6:=nN (P:=P) (w:=w) k' n' n.toNat .sliceB h0 oM
   simp[Instr.sliceBounds,hb,h6]
theorem CN (hu:P.underlying t=some (.slice e)) (h5:(P.info? e).isSome=true) (F:P.cellsOf e=sz) (r8:0<sz) (hx:aW w M (.slice rows) (a.eval x)) (hl:(lo.map a.eval=none/\l=none)\/∃ k n,lo.map a.eval=some (.int k n)/\l=some n) (hh:(hi.map a.eval=none/\h=none)\/∃ k n,hi.map a.eval=some (.int k n)/\h=some n) (W:∀ r∈rows,r.length=sz) (h0:0<=l.getD 0) (h1:l.getD 0<=h.getD rows.length) (h2:h.getD rows.length<=rows.length):
  eJ P a ⟨dst,.slice t x lo hi none,ty,pos,S,gd⟩ w M κ (.d (.slice ((rows.take (h.getD rows.length).toNat).drop (l.getD 0).toNat))):=by
 unfold aW at hx
 obtain⟨ad,N,hv,hc,hn,D⟩:=hx
 have hb:=oc (P:=P) (w:=w) (j:=true) hl hh h0 h1 h2 hc
 generalize u:(l.getD 0).toNat=L at *
 generalize i:(h.getD rows.length).toNat=H at *
 have f:L<=H:=by omega
 have g:H<=rows.length:=by omega
 refine aI (v:= .slice (if N=L then ad else ad.map (·.add (L * sz))) (H - L) (N - L)) ?_ ?_
 ·simp only[execOp,Instr.sliceAt,Instr.slice,Sem.run_bind,run_underlying hu,Result.andThen_ok,hv,U2,hb,eK h5,F]
  rfl
 ·simp only[ai,aW]
  refine⟨if N=L then ad else ad.map (·.add (L * sz)),N - L, ?_, ?_, ?_, ?_⟩
  ·have:(List.drop L (List.take H rows)).length=H - L:=by simp;omega
   rw[this]
  ·simp;omega
  ·intro d
   by_cases h6:N=L
   ·omega
   ·simp only[h6,Tq] at d
    have:ad=none:=by simpa using d
    have:=hn this
    omega
  ·rcases D with D|⟨b,o,Q,rfl,Z,X,K⟩
   ·left;subst D;simp
   ·by_cases U:rows=[]
    ·left;subst U;simp
    ·have c:Q=sz:=by
      obtain⟨r,rs,rfl⟩:=List.exists_cons_of_ne_nil U
      unfold aQ at K
      rw[<-K.1];exact W r oS
     subst c
     by_cases I:H=L
     ·left
      rw[List.drop_eq_nil_iff];simp;omega
     ·right
      refine⟨b,o+L * Q,Q, ?_,Z,X,(K.take H).drop L⟩
      rw[if_neg oM]
      simp[gi]
theorem Fm {lo:Option Value} {h:Int} (hl:(lo=none/\l=none)\/∃ k n,lo=some (.int k n)/\l=some n) (h0:0<=l.getD 0) (h1:l.getD 0<=h) (h2:h<=m) (E:m<=N):(Instr.sliceBounds j len N lo (some (.int k h)) (some (.int k' m))).run P w= .ok ((l.getD 0).toNat,h.toNat,m.toNat) w:=by
 have hb:=nN (P:=P) (w:=w) k' m N (if j then .slice3Acap else .slice3Alen) oM E
 have r8:=nN (P:=P) (w:=w) k h m.toNat .slice3B oM oM
 rcases hl with⟨rfl,rfl⟩|⟨k',n',rfl,rfl⟩
 ·simp[Instr.sliceBounds,hb,r8]
 ·simp only[TU] at *
  have h6:=nN (P:=P) (w:=w) k' n' h.toNat .slice3C h0 oM
  simp[Instr.sliceBounds,hb,r8,h6]
theorem Ab {w:World} {M:Nat->Prop} {b:Nat}:∀ (k:Nat) (cs:List DV) (o:Nat),bw w M cs b o->bw w M (cs.drop k) b (o+k)
 |0,cs,o,h=>h
 |k+1,[],o,h=>by simp only[List.drop_nil];unfold bw;trivial
 |k+1,c::cs,o,h=>by
  unfold bw at h
  have:=Ab k cs (o+1) h.2
  rwa[show o+1+k=o+(k+1) by omega] at this
theorem yp {w:World} {M:Nat->Prop} {b:Nat}:∀ (cs:List DV) (o:Nat),bw w M cs b o->aQ w M (cs.map fun c=>[c]) b o 1
 |[],o,h=>by simp only[Ug];unfold aQ;trivial
 |c::cs,o,h=>by
  unfold bw at h
  simp only[Tc]
  unfold aQ
  refine⟨rfl, ?_,yp cs (o+1) h.2⟩
  unfold bw
  exact⟨h.1,by unfold bw;trivial⟩
theorem GY {lo:Operand} {cs:List DV} {i:Int} (hu:P.underlying t=some (.array n e)) (h5:(P.info? e).isSome=true) (F:P.cellsOf e=1) (hx:aW w M (.ptr cs) (a.eval x)) (hl:a.eval lo= .int k i) (I:cs.length=n) (h0:0<=i) (h1:i<=n):
  eJ P a ⟨dst,.slice t x (some lo) none none,ty,pos,S,gd⟩ w M κ (.d (.slice ((cs.drop i.toNat).map fun c=>[c]))):=by
 unfold aW at hx
 obtain⟨b,o,hv,Z,hb,D⟩:=hx
 have w2:=oc (P:=P) (w:=w) (j:=false) (len:=n) (N:=n) (lo:=some (.int k i)) (hi:=none) (l:=some i) (h:=none) (.inr ⟨k,i,rfl,rfl⟩) (.inl ⟨rfl,rfl⟩) (by simpa using h0) (by simpa using h1) oS (SZ _)
 simp only[TU,UL,Ue] at w2
 refine aI (v:= .slice (some (if n=i.toNat then⟨b,o,none⟩ else(⟨b,o,none⟩:Addr).add (i.toNat * 1))) (n - i.toNat) (n - i.toNat)) ?_ ?_
 ·simp only[execOp,Instr.sliceAt,Sem.run_bind,run_underlying hu,Result.andThen_ok,hv,hl,Uf,U2,Instr.sureAddr,w2,eK h5,F,Sem.run_pure]
 ·simp only[ai,aW]
  have G:((cs.drop i.toNat).map fun c=>[c]).length=n - i.toNat:=by simp[I]
  refine⟨some (if n=i.toNat then⟨b,o,none⟩ else(⟨b,o,none⟩:Addr).add (i.toNat * 1)),n - i.toNat,by rw[G],by rw[G];exact SZ _,(fun h=>by cases h), ?_⟩
  by_cases hn:n=i.toNat
  ·refine .inl ?_
   rw[Ui oM,Ug]
  ·refine .inr ⟨b,o+i.toNat * 1,1, ?_,Z,hb, ?_⟩
   ·rw[if_neg hn,gi]
   ·rw[Nat.mul_one]
    exact yp _ _ (Ab _ _ _ D)
theorem GZ {hi mx:Operand} {h:Int} (hu:P.underlying t=some (.slice e)) (h5:(P.info? e).isSome=true) (F:P.cellsOf e=sz) (hx:aW w M (.slice rows) (a.eval x)) (hl:(lo.map a.eval=none/\l=none)\/∃ k n,lo.map a.eval=some (.int k n)/\l=some n) (hh:a.eval hi= .int k h) (Z:a.eval mx= .int k' m) (W:∀ r∈rows,r.length=sz) (h0:0<=l.getD 0) (h1:l.getD 0<=h) (h2:h<=m) (E:m<=rows.length):
  eJ P a ⟨dst,.slice t x lo (some hi) (some mx),ty,pos,S,gd⟩ w M κ (.d (.slice ((rows.take h.toNat).drop (l.getD 0).toNat))):=by
 unfold aW at hx
 obtain⟨ad,N,hv,hc,hn,D⟩:=hx
 have hb:=Fm (P:=P) (w:=w) (j:=true) (len:=rows.length) (N:=N) (k:=k) (k':=k') hl h0 h1 h2 oM
 generalize u:(l.getD 0).toNat=L at *
 have f:L<=h.toNat:=by omega
 have g:h.toNat<=rows.length:=by omega
 refine aI (v:= .slice (if m.toNat=L then ad else ad.map (·.add (L * sz))) (h.toNat - L) (m.toNat - L)) ?_ ?_
 ·simp only[execOp,Instr.sliceAt,Instr.slice,Sem.run_bind,run_underlying hu,Result.andThen_ok,hv,Uf,hh,Z,hb,eK h5,F]
  rfl
 ·simp only[ai,aW]
  refine⟨if m.toNat=L then ad else ad.map (·.add (L * sz)),m.toNat - L, ?_, ?_, ?_, ?_⟩
  ·have:(List.drop L (List.take h.toNat rows)).length=h.toNat - L:=by simp;omega
   rw[this]
  ·simp;omega
  ·intro d
   by_cases h6:m.toNat=L
   ·omega
   ·simp only[h6,Tq] at d
    have:ad=none:=by simpa using d
    have:=hn this
    omega
  ·rcases D with D|⟨b,o,Q,rfl,r7,X,K⟩
   ·left;subst D;simp
   ·by_cases U:rows=[]
    ·left;subst U;simp
    ·have c:Q=sz:=by
      obtain⟨r,rs,rfl⟩:=List.exists_cons_of_ne_nil U
      unfold aQ at K
      rw[<-K.1];exact W r oS
     subst c
     by_cases I:h.toNat=L
     ·left
      rw[List.drop_eq_nil_iff];simp;omega
     ·right
      refine⟨b,o+L * Q,Q, ?_,r7,X,(K.take h.toNat).drop L⟩
      rw[if_neg oM]
      simp[gi]
theorem Cc (hu:P.underlying t=some (.slice e)) (h5:(P.info? e).isSome=true) (hx:a.eval x= .slice none 0 0) (hl:(lo.map a.eval=none/\l=none)\/∃ k n,lo.map a.eval=some (.int k n)/\l=some n) (hh:(hi.map a.eval=none/\h=none)\/∃ k n,hi.map a.eval=some (.int k n)/\h=some n) (h0:l.getD 0=0) (h1:h.getD 0=0):eJ P a ⟨dst,.slice t x lo hi none,ty,pos,S,gd⟩ w M κ .nils:=by
 have hb:=oc (P:=P) (w:=w) (j:=true) (len:=0) (N:=0) hl hh oM (by simp only[Int.natCast_zero] at *;omega) (by simp only[Int.natCast_zero] at *;omega) (SZ _)
 refine aI (v:= .slice none 0 0) ?_ (by simp[ai])
 simp only[execOp,Instr.sliceAt,Instr.slice,Sem.run_bind,run_underlying hu,Result.andThen_ok,hx,U2,hb,eK h5]
 simp only[Int.natCast_zero] at *
 simp[h0,h1]
theorem G0 {s:List UInt8} (hu:P.underlying t=some .string) (hx:a.eval x= .string ⟨s.toArray⟩) (hl:(lo.map a.eval=none/\l=none)\/∃ k n,lo.map a.eval=some (.int k n)/\l=some n) (hh:(hi.map a.eval=none/\h=none)\/∃ k n,hi.map a.eval=some (.int k n)/\h=some n) (h0:0<=l.getD 0) (h1:l.getD 0<=h.getD s.length) (h2:h.getD s.length<=s.length):
  eJ P a ⟨dst,.slice t x lo hi none,ty,pos,S,gd⟩ w M κ (.d (.str ((s.take (h.getD s.length).toNat).drop (l.getD 0).toNat))):=by
 have hb:=oc (P:=P) (w:=w) (j:=false) hl hh h0 h1 h2 (SZ _)
 refine aI (v:= .string ⟨((s.take (h.getD s.length).toNat).drop (l.getD 0).toNat).toArray⟩) ?_ (by simp[ai,aW])
 simp only[execOp,Instr.sliceAt,Instr.slice,Sem.run_bind,run_underlying hu,Result.andThen_ok,hx,U2,H4,hb,Option.isSome_none,Tb,Tq]
 rw[Lib.extract_eq]
 simp only[List.drop_take]
 rfl
end
end Go.Proofs.YtgmnipfafmphaaaGreatDoor

