/-
  My text.
-/
import Derived.Test.YtgmnipfafmphaaaGreatDoorSXEngE
namespace Go.Proofs.YtgmnipfafmphaaaGreatDoor
set_option linter.unusedVariables false
open Go.RowKit
inductive y8 {α β:Type} (R:α->β->Prop):List α->List β->Prop
 |nil:y8 R [] []
 |cons {a:α} {b:β} {as:List α} {bs:List β}:R a b->y8 R as bs->y8 R (a::as) (b::bs)
variable {N b:Nat} {cs:List SV} {e:Nat} {h:Option Int} {hi:Option Operand} {i:TypeInfo} {k k':IntKind} {l:Option Int} {len:Nat} {lo:Option Operand} {m:Int} {n:Nat} {o:Array (Nat×Operand)} {p:Bool} {ps:List (Nat×Nat×SV)} {rows:List (List DV)} {sz t:Nat} {x:Operand} {xs:List SV} {z:Value} {zs:List SV}
theorem MZ (off:Nat):∀ (vs:List Value) (k:Nat) (zs:List Value),off+k+vs.length<=zs.length->
  (vs.zipIdx k).foldl (fun(cs:Array Value) (p:Value×Nat)=>cs.setIfInBounds (off+p.2) p.1) zs.toArray=(zs.take (off+k)++vs++zs.drop (off+k+vs.length)).toArray
 |[],k,zs,_=>by simp
 |v::vs,k,zs,h=>by
  simp only[Vk] at h
  simp only[List.zipIdx_cons,List.foldl_cons,List.setIfInBounds_toArray]
  rw[MZ off vs (k+1) (zs.set (off+k) v) oT]
  congr 1
  have e1:(zs.set (off+k) v).take (off+(k+1))=zs.take (off+k)++[v]:=by
   rw[<-Xc,Xz]
   simp[List.take_set_of_le,show off+k<zs.length by omega]
  have e2:(zs.set (off+k) v).drop (off+(k+1)+vs.length)=zs.drop (off+k+(v::vs).length):=by
   rw[List.drop_set_of_lt oM]
   congr 1
   simp;omega
  rw[e1,e2]
  simp
theorem A_ (b:Nat->Option (Nat×Nat)) (zs vs:List Value) (i off:Nat) (v:Value) (z:List (Nat×Value)) (Y:b i=some (off,vs.length)) (hv:v.cells=vs.toArray) (hl:off+vs.length<=zs.length):
  Instr.fill b zs.toArray ((i,v)::z)=Instr.fill b (zs.take off++vs++zs.drop (off+vs.length)).toArray z:=by
 have:=MZ off vs 0 zs (by simpa using hl)
 simp only[WO] at this
 rw[Instr.fill]
 simp only[Y,hv,List.size_toArray]
 rw[WU oT]
 congr 1
 rw[<-this]
 simp
section
variable {P:Program} {w:World} {M:Nat->Prop} {κ:Nat->Value}
theorem Af (hk:QR κ) (b:Nat->Option (Nat×Nat)):∀ (ps:List (Nat×Nat×SV)) (qs:List (Nat×Value)) (zs cs:List SV) (c:List Value),av w M κ zs c->(∀ x∈c,x.oneCell'=true)->A5 zs ps=some cs->
  y8 (fun(p:Nat×Nat×SV) (q:Nat×Value)=>b q.1=some (p.1,p.2.1)/\al w M κ p.2.2 q.2) ps qs->
  ∃ vs:List Value,Instr.fill b c.toArray qs=some vs.toArray/\av w M κ cs vs/\(∀ x∈vs,x.oneCell'=true)
 |[],qs,zs,cs,c,hz,h1,C,hq=>by
  cases hq
  simp only[A5,Vi] at C
  subst C
  exact⟨c,by simp[Instr.fill],hz,h1⟩
 |(off,n,x)::ps,qs,zs,cs,c,hz,h1,C,hq=>by
  cases hq with
  |cons hq d=>
   rename_i q qs
   obtain⟨i,v⟩:=q
   simp only at hq
   obtain⟨Y,D⟩:=hq
   unfold A5 at C
   cases hc:x.cells? with
   |none=>simp[hc] at C
   |some J=>
    simp only[hc] at C
    split at C
    ·rename_i hn
     obtain⟨hn,s0⟩:=hn
     obtain⟨X,hu,j,h0⟩:=D.cells hk hc
     have I:=h0.length
     have r:=hz.length
     have A:X.length=n:=by omega
     subst A
     rw[A_ b c X i off v qs Y hu oM]
     refine Af hk b ps qs _ cs _ ((hz.take off).append h0|>.append (hz.drop _)) ?_ C d
     intro y hy
     simp only[VM] at hy
     rcases hy with(hy|hy)|hy
     ·exact h1 y (VU hy)
     ·exact j y hy
     ·exact h1 y (WD hy)
    ·cases C
theorem Jj (O:List Field) (h:∀ f∈O,(P.info? f.type).isSome=true):O.mapM (fun f=>(P.info? f.type).map fun i=>(f.offset,i.size))=some (O.map fun f=>(f.offset,P.cellsOf f.type)):=by
 induction O with
 |nil=>rfl
 |cons f O ih=>
  obtain⟨i,hi⟩:=Wo.1 (h f oS)
  simp[List.mapM_cons,ih fun g L=>h g (by simp[L]),hi,Program.cellsOf]
variable {a:Act} {dst:Option Tmp} {ty:TypeId} {pos:String} {S:Array Edge} {gd:Option (Nat×Bool)}
theorem HI (hk:QR κ) {t:TypeId} {O:Array Field} (hu:P.underlying t=some (.struct O)) (hi:P.info? t=some i) (hz:i.zero=some z) (R:mW z.cells.toList zs=true) (s7:O.all (fun f=>(P.info? f.type).isSome)=true) (A:y8 (fun(p:Nat×Nat×SV) (q:Nat×Operand)=>(∃ f,O[q.1]?=some f/\f.offset=p.1/\P.cellsOf f.type=p.2.1)/\al w M κ p.2.2 (a.eval q.2)) ps o.toList) (C:A5 zs ps=some cs):
  f3 P a ⟨dst,.build t o,ty,pos,S,gd⟩ w M κ (.agg cs):=by
 obtain⟨G,d⟩:=rc (w:=w) (M:=M) (κ:=κ) R
 have J:=Jj (P:=P) O.toList (fun f C=>by
  have:=WR.1 s7 f (by simpa using C)
  simpa using this)
 have hq:y8 (fun(p:Nat×Nat×SV) (q:Nat×Value)=>((O.toList.map fun f=>(f.offset,P.cellsOf f.type)).toArray[·]?:Nat->Option (Nat×Nat)) q.1=some (p.1,p.2.1)/\al w M κ p.2.2 q.2) ps (o.toList.map fun q=>(q.1,a.eval q.2)):=by
  clear C
  generalize o.toList=l at A
  induction A with
  |nil=>exact .nil
  | @cons p q ps qs h _ ih=>
   refine .cons ⟨?_,h.2⟩ ih
   obtain⟨⟨f,j,b,c⟩,_⟩:=h
   have:O.toList[q.1]?=some f:=by simpa using j
   simp only[List.getElem?_toArray,V5,this,WJ,b,c]
 obtain⟨vs,h1,h2,E⟩:=Af hk _ ps _ zs cs _ G d C hq
 have hb:P.built t (o.toList.map fun q=>(q.1,a.eval q.2))=some vs.toArray:=by
  simp only[Program.built,hi,hu,hz,J]
  exact h1
 refine aQ (v:= .agg vs.toArray) ?_ (by simp only[al];exact⟨vs,rfl,E,h2⟩)
 have D:=run_build (P:=P) w t (o.map fun q=>(q.1,a.eval q.2)) vs.toArray (by simpa using hb)
 simp only[execOp,Sem.run_bind]
 have e:(o.map fun(x:Nat×Operand)=>match x with|(i,x)=>(i,a.eval x))=o.map fun q=>(q.1,a.eval q.2):=rfl
 rw[e,D]
 rfl
theorem Gl (hk:QR κ) {t:TypeId} {e:TypeId} {ie:TypeInfo} (hu:P.underlying t=some (.array len e)) (hi:P.info? t=some i) (v7:P.info? e=some ie) (hz:i.zero=some z) (R:mW z.cells.toList zs=true) (A:y8 (fun(p:Nat×Nat×SV) (q:Nat×Operand)=>(p.1=q.1 * ie.size/\p.2.1=ie.size)/\al w M κ p.2.2 (a.eval q.2)) ps o.toList) (C:A5 zs ps=some cs):
  f3 P a ⟨dst,.build t o,ty,pos,S,gd⟩ w M κ (.agg cs):=by
 obtain⟨G,d⟩:=rc (w:=w) (M:=M) (κ:=κ) R
 have hq:y8 (fun(p:Nat×Nat×SV) (q:Nat×Value)=>(fun i:Nat=>some (i * ie.size,ie.size)) q.1=some (p.1,p.2.1)/\al w M κ p.2.2 q.2) ps (o.toList.map fun q=>(q.1,a.eval q.2)):=by
  clear C
  generalize o.toList=l at A
  induction A with
  |nil=>exact .nil
  | @cons p q ps qs h _ ih=>
   refine .cons ⟨?_,h.2⟩ ih
   obtain⟨⟨h1,h2⟩,_⟩:=h
   simp only[h1,h2]
 obtain⟨vs,h1,h2,E⟩:=Af hk (fun i:Nat=>some (i * ie.size,ie.size)) ps _ zs cs _ G d C hq
 have hb:P.built t (o.toList.map fun q=>(q.1,a.eval q.2))=some vs.toArray:=by
  simp only[Program.built,hi,hu,hz,v7]
  exact h1
 refine aQ (v:= .agg vs.toArray) ?_ (by simp only[al];exact⟨vs,rfl,E,h2⟩)
 have D:=run_build (P:=P) w t (o.map fun q=>(q.1,a.eval q.2)) vs.toArray (by simpa using hb)
 simp only[execOp,Sem.run_bind]
 have e:(o.map fun(x:Nat×Operand)=>match x with|(i,x)=>(i,a.eval x))=o.map fun q=>(q.1,a.eval q.2):=rfl
 rw[e,D]
 rfl
theorem Ag (sz:Nat):∀ (rows:List (List Value)) (qs:List (Nat×Value)) (done z:List Value) (k:Nat),done.length=k * sz->z.length=rows.length * sz->
  y8 (fun(r:List Value) (q:Nat×Value)=>r.length=sz/\q.2.cells=r.toArray) rows qs->(∀ j q,qs[j]?=some q->q.1=k+j)->
  Instr.fill (fun i=>some (i * sz,sz)) (done++z).toArray qs=some (done++rows.flatten).toArray
 |[],qs,done,z,k,hd,D,hq,hj=>by
  cases hq
  have:z=[]:=Vx.1 (by simpa using D)
  subst this
  simp[Instr.fill]
 |r::rows,qs,done,z,k,hd,D,hq,hj=>by
  cases hq with
  |cons h d=>
   rename_i q qs
   obtain⟨i,v⟩:=q
   obtain⟨h1,h2⟩:=h
   have hi:i=k:=by simpa using hj 0 (i,v) oS
   subst hi
   simp only[Vk,WA,Nat.one_mul] at D
   subst h1
   rw[A_ _ (done++z) r i (i * r.length) v qs rfl h2 oT]
   have e1:(done++z).take (i * r.length)=done:=by rw[WY oM,VO oM]
   have e2:(done++z).drop (i * r.length+r.length)=z.drop r.length:=by
    rw[List.drop_append,WL oM]
    simp;congr 1;omega
   rw[e1,e2]
   have:=Ag r.length rows qs (done++r) (z.drop r.length) (i+1) (by simp[hd,WA]) oT d (fun j q b=>by
    have:=hj (j+1) q (by simpa using b)
    omega)
   rw[this]
   simp
theorem uu (hk:QR κ) {sz:Nat}:∀ {xs cs:List SV} {vs:List Value},lY sz xs=some cs->av w M κ xs vs->∃ rs:List (List Value),y8 (fun(r:List Value) (v:Value)=>r.length=sz/\v.cells=r.toArray) rs vs/\
   av w M κ cs rs.flatten/\(∀ x∈rs.flatten,x.oneCell'=true)/\rs.length=vs.length/\rs.flatten.length=xs.length * sz
 |[],cs,vs,h,D=>by
  simp only[lY,Vi] at h;subst h
  unfold av at D;subst D
  exact⟨[],.nil,by simp[av],by simp,rfl,by simp⟩
 |x::xs,cs,vs,h,D=>by
  unfold av at D
  obtain⟨u,X,rfl,h1,h2⟩:=D
  unfold lY at h
  cases c:x.cells? with
  |none=>simp[c] at h
  |some r=>
   cases g:lY sz xs with
   |none=>simp[c,g] at h
   |some rs=>
    simp only[c,g] at h
    split at h
    ·rename_i F
     simp only[Vi] at h;subst h
     obtain⟨ys,b,d,e⟩:=h1.cells hk c
     obtain⟨f,k1,k2,k3,k4,k5⟩:=uu hk g h2
     have o:=e.length
     refine⟨ys::f,.cons ⟨by omega,b⟩ k1,by simpa using e.append k2, ?_,by simp[k4], ?_⟩
     ·intro z hz
      simp only[V4,VM] at hz
      rcases hz with hz|hz
      ·exact d z hz
      ·exact k3 z hz
     ·simp only[V4,Vl,Vk,k5,WA];omega
    ·cases h
theorem Gm (hk:QR κ) (hM:∀ b,M b->b<w.heap.size) (hu:P.underlying t=some (.slice e)) (hi:P.info? e=some i) (F:i.size=sz) (X:0<sz) (K:n * sz<=16777216) (hz:i.zero=some z) (R:z.cells.size=sz) (hn:n=o.size) (T:av w M κ xs (o.toList.map fun q=>a.eval q.2)) (s1:∀ (j:Nat) q,o.toList[j]?=some q->q.1=j) (Q:lY sz xs=some cs):
  f3 P a ⟨dst,.buildSlice t n o,ty,pos,S,gd⟩ w M κ (.lit sz xs.length cs):=by
 obtain⟨rs,h1,h2,E,h6,h7⟩:=uu hk Q T
 have r6:xs.length=n:=by have:=T.length;simp[hn] at this⊢;omega
 have s:∃ d:List Value,d.length=n * sz/\((Array.range (n * sz)).map (z.cells[· %z.cells.size]!))=d.toArray:=⟨((Array.range (n * sz)).map (z.cells[· %z.cells.size]!)).toList,by simp,(Array.toArray_toList).symm⟩
 obtain⟨d,k,f⟩:=s
 have I:(o.toList.map fun q=>a.eval q.2).length=n:=by simp[hn]
 have hq:y8 (fun(r:List Value) (q:Nat×Value)=>r.length=sz/\q.2.cells=r.toArray) rs (o.toList.map fun q=>(q.1,a.eval q.2)):=by
  clear h2 E h6 h7 s1 T I hn Q r6
  generalize o.toList=l at h1
  revert h1
  induction rs generalizing l with
  |nil=>intro h;cases l with|nil=>exact .nil|cons _ _=>cases h
  |cons r rs ih=>
   intro h
   cases l with
   |nil=>cases h
   |cons q l=>cases h with|cons g gs=>exact .cons g (ih l gs)
 have s2:=Ag sz rs _ [] d 0 oS (by rw[k,h6,I]) hq (fun j q hj=>by
  rw[V5] at hj
  cases Y:o.toList[j]? with
  |none=>simp[Y] at hj
  |some p=>simp[Y] at hj;subst hj;simp[s1 j p Y])
 simp only[VC] at s2
 refine⟨.slice (some ⟨w.heap.size,0,none⟩) n n,w.alloc (.cells rs.flatten.toArray e), ?_,(Below.refl _ _).alloc (Vs _) _, ?_⟩
 ·have e1:(o.map fun(x:Nat×Operand)=>match x with|(i,x)=>(i,a.eval x)).toList=o.toList.map fun q=>(q.1,a.eval q.2):=by simp
  have hs:(sizeOf e).run P w= .ok sz w:=by simp[sizeOf,typeInfo,hi,F]
  have c:(zeroValue e).run P w= .ok z w:=by simp[zeroValue,typeInfo,hi,hz]
  simp only[execOp,Instr.buildSlice,Sem.run_bind,run_underlying hu,Result.andThen_ok,hs]
  rw[WU oM]
  by_cases h0:n * sz=0
  ·have y:d=[]:=Vx.1 oM
   subst y
   simp only[h0,VW,Sem.run_bind,Sem.run_pure,Result.andThen_ok,e1]
   have:((Array.range 0).map (fun x=>(#[]:Array Value)[x%(#[]:Array Value).size]!))=(([]:List Value).toArray):=by simp
   rw[this,s2]
   rfl
  ·simp only[h0,VQ,Sem.run_bind,c,Sem.run_pure,Result.andThen_ok,e1,f,s2]
   rfl
 ·have hB:Below w.heap.size w (w.alloc (.cells rs.flatten.toArray e)):=(Below.refl _ _).alloc (Vs _) _
  simp only[al]
  rw[r6] at h7⊢
  exact⟨w.heap.size,rs.flatten,rfl,fun h=>Nat.lt_irrefl _ (hM _ h),by simp,h7,E,fun j v hj=>by rw[cell_of_row _ _ _ _ _ _ (heap_alloc_new w _)];simpa using hj,av.ext (mG.of_below hB) _ _ h2⟩
theorem Jk (hk:QR κ) (hu:P.underlying t=some (.slice e)) (hi:P.info? e=some i) (F:i.size=sz) (X:0<sz) (K:n * sz<=16777216) (hz:i.zero=some z) (R:z.cells.size=sz) (hn:n=o.size) (T:av w M κ xs (o.toList.map fun q=>a.eval q.2)) (s1:∀ (j:Nat) q,o.toList[j]?=some q->q.1=j) (Q:lY sz xs=some cs):
  ∃ rs:List (List Value),(execOp a.eval ⟨dst,.buildSlice t n o,ty,pos,S,gd⟩).run P w= .ok (.value (.slice (some ⟨w.heap.size,0,none⟩) n n)) (w.alloc (.cells rs.flatten.toArray e))/\rs.flatten.length=n * sz/\(∀ x∈rs.flatten,x.oneCell'=true)/\av w M κ cs rs.flatten:=by
 obtain⟨rs,h1,h2,E,h6,h7⟩:=uu hk Q T
 have r6:xs.length=n:=by have:=T.length;simp[hn] at this⊢;omega
 have s:∃ d:List Value,d.length=n * sz/\((Array.range (n * sz)).map (z.cells[· %z.cells.size]!))=d.toArray:=⟨((Array.range (n * sz)).map (z.cells[· %z.cells.size]!)).toList,by simp,(Array.toArray_toList).symm⟩
 obtain⟨d,k,f⟩:=s
 have I:(o.toList.map fun q=>a.eval q.2).length=n:=by simp[hn]
 have hq:y8 (fun(r:List Value) (q:Nat×Value)=>r.length=sz/\q.2.cells=r.toArray) rs (o.toList.map fun q=>(q.1,a.eval q.2)):=by
  clear h2 E h6 h7 s1 T I hn Q r6
  generalize o.toList=l at h1
  revert h1
  induction rs generalizing l with
  |nil=>intro h;cases l with|nil=>exact .nil|cons _ _=>cases h
  |cons r rs ih=>
   intro h
   cases l with
   |nil=>cases h
   |cons q l=>cases h with|cons g gs=>exact .cons g (ih l gs)
 have s2:=Ag sz rs _ [] d 0 oS (by rw[k,h6,I]) hq (fun j q hj=>by
  rw[V5] at hj
  cases Y:o.toList[j]? with
  |none=>simp[Y] at hj
  |some p=>simp[Y] at hj;subst hj;simp[s1 j p Y])
 simp only[VC] at s2
 refine⟨rs, ?_,by rw[<-r6];exact h7,E,h2⟩
 have e1:(o.map fun(x:Nat×Operand)=>match x with|(i,x)=>(i,a.eval x)).toList=o.toList.map fun q=>(q.1,a.eval q.2):=by simp
 have hs:(sizeOf e).run P w= .ok sz w:=by simp[sizeOf,typeInfo,hi,F]
 have c:(zeroValue e).run P w= .ok z w:=by simp[zeroValue,typeInfo,hi,hz]
 simp only[execOp,Instr.buildSlice,Sem.run_bind,run_underlying hu,Result.andThen_ok,hs]
 rw[WU oM]
 by_cases h0:n * sz=0
 ·have y:d=[]:=Vx.1 oM
  subst y
  simp only[h0,VW,Sem.run_bind,Sem.run_pure,Result.andThen_ok,e1]
  have:((Array.range 0).map (fun x=>(#[]:Array Value)[x%(#[]:Array Value).size]!))=(([]:List Value).toArray):=by simp
  rw[this,s2]
  rfl
 ·simp only[h0,VQ,Sem.run_bind,c,Sem.run_pure,Result.andThen_ok,e1,f,s2]
  rfl
theorem bd.drop {o:Nat} (h:bd w M rows b o sz) (l:Nat):bd w M (rows.drop l) b (o+l * sz) sz:=by
 induction l generalizing rows o with
 |zero=>simpa using h
 |succ l ih=>
  cases rows with
  |nil=>simp[bd]
  |cons r rows=>
   unfold bd at h
   have:=ih h.2.2
   rw[XE,show o+(l+1) * sz=o+sz+l * sz by rw[WA];omega]
   exact this
theorem bd.take {o:Nat} (h:bd w M rows b o sz) (l:Nat):bd w M (rows.take l) b o sz:=by
 induction l generalizing rows o with
 |zero=>simp[bd]
 |succ l ih=>
  cases rows with
  |nil=>simp[bd]
  |cons r rows=>
   unfold bd at h
   rw[Xd]
   unfold bd
   exact⟨h.1,h.2.1,ih h.2.2⟩
theorem re {s:Nat->SV} {l:Option SX} {r:Option Int} (V:∀ x y,lo=some x->l=some y->al w M κ (ev s y) (a.eval x)) (Z:mi N lo l=true) (h:Cf s l=some r):
  (lo.map a.eval=none/\r=none)\/∃ k n,lo.map a.eval=some (.int k n)/\r=some n:=by
 cases lo with
 |none=>cases l with
  |none=>simp only[Cf,Vi] at h;subst h;exact .inl ⟨rfl,rfl⟩
  |some y=>simp[mi] at Z
 |some x=>cases l with
  |none=>simp[mi] at Z
  |some y=>
   have:=V x y rfl rfl
   unfold Cf at h
   simp only at h
   split at h
   ·rename_i k n B
    rw[B] at this
    simp only[al,bf] at this
    simp only[Vi] at h
    exact .inr ⟨k,n,by simp[this],h.symm⟩
   ·cases h
theorem ru (k:IntKind) (n:Int) (y:Nat) (c:BoundsCode) (h0:0<=n) (h1:n<=y):(Instr.sliceBound (.int k n) y c).run P w= .ok n.toNat w:=by
 simp[Instr.sliceBound,asIntOf,h0,h1]
theorem rO {lo hi:Option Value} (hl:(lo=none/\l=none)\/∃ k n,lo=some (.int k n)/\l=some n) (hh:(hi=none/\h=none)\/∃ k n,hi=some (.int k n)/\h=some n) (h0:0<=l.getD 0) (h1:l.getD 0<=h.getD len) (h2:h.getD len<=len) (hc:len<=N):(Instr.sliceBounds p len N lo hi none).run P w= .ok ((l.getD 0).toNat,(h.getD len).toNat,N) w:=by
 rcases hh with⟨rfl,rfl⟩|⟨k,n,rfl,rfl⟩
 ·simp only[W8] at *
  rcases hl with⟨rfl,rfl⟩|⟨k',n',rfl,rfl⟩
  ·simp[Instr.sliceBounds]
  ·simp only[Wi] at *
   have hb:=ru (P:=P) (w:=w) k' n' len .sliceB h0 h1
   simp[Instr.sliceBounds,hb]
 ·simp only[Wi] at *
  have hb:=ru (P:=P) (w:=w) k n N (if p then .sliceAcap else .sliceAlen) oM oM
  rcases hl with⟨rfl,rfl⟩|⟨k',n',rfl,rfl⟩
  ·simp[Instr.sliceBounds,hb]
  ·simp only[Wi] at *
   have h6:=ru (P:=P) (w:=w) k' n' n.toNat .sliceB h0 oM
   simp[Instr.sliceBounds,hb,h6]
theorem Ff (hu:P.underlying t=some (.slice e)) (h5:(P.info? e).isSome=true) (F:P.cellsOf e=sz) (X:0<sz) (hx:bf w M (.slice rows) (a.eval x)) (hl:(lo.map a.eval=none/\l=none)\/∃ k n,lo.map a.eval=some (.int k n)/\l=some n) (hh:(hi.map a.eval=none/\h=none)\/∃ k n,hi.map a.eval=some (.int k n)/\h=some n) (W:∀ r∈rows,r.length=sz) (h0:0<=l.getD 0) (h1:l.getD 0<=h.getD rows.length) (h2:h.getD rows.length<=rows.length):
  f3 P a ⟨dst,.slice t x lo hi none,ty,pos,S,gd⟩ w M κ (.d (.slice ((rows.take (h.getD rows.length).toNat).drop (l.getD 0).toNat))):=by
 unfold bf at hx
 obtain⟨ad,N,hv,hc,hn,D⟩:=hx
 have hb:=rO (P:=P) (w:=w) (p:=true) hl hh h0 h1 h2 hc
 generalize u:(l.getD 0).toNat=L at *
 generalize i:(h.getD rows.length).toNat=H at *
 have f:L<=H:=by omega
 have g:H<=rows.length:=by omega
 refine aQ (v:= .slice (if N=L then ad else ad.map (·.add (L * sz))) (H - L) (N - L)) ?_ ?_
 ·simp only[execOp,Instr.sliceAt,Instr.slice,Sem.run_bind,run_underlying hu,Result.andThen_ok,hv,Xw,hb,f5 h5,F]
  rfl
 ·simp only[al,bf]
  refine⟨if N=L then ad else ad.map (·.add (L * sz)),N - L, ?_, ?_, ?_, ?_⟩
  ·have:(List.drop L (List.take H rows)).length=H - L:=by simp;omega
   rw[this]
  ·simp;omega
  ·intro d
   by_cases h6:N=L
   ·omega
   ·simp only[h6,VQ] at d
    have:ad=none:=by simpa using d
    have:=hn this
    omega
  ·rcases D with D|⟨b,o,R,rfl,Z,h9,Q⟩
   ·left;subst D;simp
   ·by_cases U:rows=[]
    ·left;subst U;simp
    ·have c:R=sz:=by
      obtain⟨r,rs,rfl⟩:=List.exists_cons_of_ne_nil U
      unfold bd at Q
      rw[<-Q.1];exact W r oS
     subst c
     by_cases q:H=L
     ·left
      rw[List.drop_eq_nil_iff];simp;omega
     ·right
      refine⟨b,o+L * R,R, ?_,Z,h9,(Q.take H).drop L⟩
      rw[WU oM]
      simp[iC]
theorem HJ {lo:Option Value} {h:Int} (hl:(lo=none/\l=none)\/∃ k n,lo=some (.int k n)/\l=some n) (h0:0<=l.getD 0) (h1:l.getD 0<=h) (h2:h<=m) (E:m<=N):(Instr.sliceBounds p len N lo (some (.int k h)) (some (.int k' m))).run P w= .ok ((l.getD 0).toNat,h.toNat,m.toNat) w:=by
 have hb:=ru (P:=P) (w:=w) k' m N (if p then .slice3Acap else .slice3Alen) oM E
 have s5:=ru (P:=P) (w:=w) k h m.toNat .slice3B oM oM
 rcases hl with⟨rfl,rfl⟩|⟨k',n',rfl,rfl⟩
 ·simp[Instr.sliceBounds,hb,s5]
 ·simp only[Wi] at *
  have h6:=ru (P:=P) (w:=w) k' n' h.toNat .slice3C h0 oM
  simp[Instr.sliceBounds,hb,s5,h6]
theorem CV {w:World} {M:Nat->Prop} {b:Nat}:∀ (k:Nat) (cs:List DV) (o:Nat),b4 w M cs b o->b4 w M (cs.drop k) b (o+k)
 |0,cs,o,h=>h
 |k+1,[],o,h=>by simp only[List.drop_nil];unfold b4;trivial
 |k+1,c::cs,o,h=>by
  unfold b4 at h
  have:=CV k cs (o+1) h.2
  rwa[show o+1+k=o+(k+1) by omega] at this
theorem Ba {w:World} {M:Nat->Prop} {b:Nat}:∀ (cs:List DV) (o:Nat),b4 w M cs b o->bd w M (cs.map fun c=>[c]) b o 1
 |[],o,h=>by simp only[WG];unfold bd;trivial
 |c::cs,o,h=>by
  unfold b4 at h
  simp only[VF]
  unfold bd
  refine⟨rfl, ?_,Ba cs (o+1) h.2⟩
  unfold b4
  exact⟨h.1,by unfold b4;trivial⟩
theorem Jl {lo:Operand} {cs:List DV} {i:Int} (hu:P.underlying t=some (.array n e)) (h5:(P.info? e).isSome=true) (F:P.cellsOf e=1) (hx:bf w M (.ptr cs) (a.eval x)) (hl:a.eval lo= .int k i) (I:cs.length=n) (h0:0<=i) (h1:i<=n):
  f3 P a ⟨dst,.slice t x (some lo) none none,ty,pos,S,gd⟩ w M κ (.d (.slice ((cs.drop i.toNat).map fun c=>[c]))):=by
 unfold bf at hx
 obtain⟨b,o,hv,Z,hb,D⟩:=hx
 have w1:=rO (P:=P) (w:=w) (p:=false) (len:=n) (N:=n) (lo:=some (.int k i)) (hi:=none) (l:=some i) (h:=none) (.inr ⟨k,i,rfl,rfl⟩) (.inl ⟨rfl,rfl⟩) (by simpa using h0) (by simpa using h1) oS (Vs _)
 simp only[Wi,W8,Ww] at w1
 refine aQ (v:= .slice (some (if n=i.toNat then⟨b,o,none⟩ else(⟨b,o,none⟩:Addr).add (i.toNat * 1))) (n - i.toNat) (n - i.toNat)) ?_ ?_
 ·simp only[execOp,Instr.sliceAt,Sem.run_bind,run_underlying hu,Result.andThen_ok,hv,hl,WJ,Xw,Instr.sureAddr,w1,f5 h5,F,Sem.run_pure]
 ·simp only[al,bf]
  have B:((cs.drop i.toNat).map fun c=>[c]).length=n - i.toNat:=by simp[I]
  refine⟨some (if n=i.toNat then⟨b,o,none⟩ else(⟨b,o,none⟩:Addr).add (i.toNat * 1)),n - i.toNat,by rw[B],by rw[B];exact Vs _,(fun h=>by cases h), ?_⟩
  by_cases hn:n=i.toNat
  ·refine .inl ?_
   rw[WL oM,WG]
  ·refine .inr ⟨b,o+i.toNat * 1,1, ?_,Z,hb, ?_⟩
   ·rw[WU hn,iC]
   ·rw[Nat.mul_one]
    exact Ba _ _ (CV _ _ _ D)
theorem Jm {hi mx:Operand} {h:Int} (hu:P.underlying t=some (.slice e)) (h5:(P.info? e).isSome=true) (F:P.cellsOf e=sz) (hx:bf w M (.slice rows) (a.eval x)) (hl:(lo.map a.eval=none/\l=none)\/∃ k n,lo.map a.eval=some (.int k n)/\l=some n) (hh:a.eval hi= .int k h) (Z:a.eval mx= .int k' m) (W:∀ r∈rows,r.length=sz) (h0:0<=l.getD 0) (h1:l.getD 0<=h) (h2:h<=m) (E:m<=rows.length):
  f3 P a ⟨dst,.slice t x lo (some hi) (some mx),ty,pos,S,gd⟩ w M κ (.d (.slice ((rows.take h.toNat).drop (l.getD 0).toNat))):=by
 unfold bf at hx
 obtain⟨ad,N,hv,hc,hn,D⟩:=hx
 have hb:=HJ (P:=P) (w:=w) (p:=true) (len:=rows.length) (N:=N) (k:=k) (k':=k') hl h0 h1 h2 oM
 generalize u:(l.getD 0).toNat=L at *
 have f:L<=h.toNat:=by omega
 have g:h.toNat<=rows.length:=by omega
 refine aQ (v:= .slice (if m.toNat=L then ad else ad.map (·.add (L * sz))) (h.toNat - L) (m.toNat - L)) ?_ ?_
 ·simp only[execOp,Instr.sliceAt,Instr.slice,Sem.run_bind,run_underlying hu,Result.andThen_ok,hv,WJ,hh,Z,hb,f5 h5,F]
  rfl
 ·simp only[al,bf]
  refine⟨if m.toNat=L then ad else ad.map (·.add (L * sz)),m.toNat - L, ?_, ?_, ?_, ?_⟩
  ·have:(List.drop L (List.take h.toNat rows)).length=h.toNat - L:=by simp;omega
   rw[this]
  ·simp;omega
  ·intro d
   by_cases h6:m.toNat=L
   ·omega
   ·simp only[h6,VQ] at d
    have:ad=none:=by simpa using d
    have:=hn this
    omega
  ·rcases D with D|⟨b,o,R,rfl,r6,h9,Q⟩
   ·left;subst D;simp
   ·by_cases U:rows=[]
    ·left;subst U;simp
    ·have c:R=sz:=by
      obtain⟨r,rs,rfl⟩:=List.exists_cons_of_ne_nil U
      unfold bd at Q
      rw[<-Q.1];exact W r oS
     subst c
     by_cases q:h.toNat=L
     ·left
      rw[List.drop_eq_nil_iff];simp;omega
     ·right
      refine⟨b,o+L * R,R, ?_,r6,h9,(Q.take h.toNat).drop L⟩
      rw[WU oM]
      simp[iC]
theorem EH (hu:P.underlying t=some (.slice e)) (h5:(P.info? e).isSome=true) (hx:a.eval x= .slice none 0 0) (hl:(lo.map a.eval=none/\l=none)\/∃ k n,lo.map a.eval=some (.int k n)/\l=some n) (hh:(hi.map a.eval=none/\h=none)\/∃ k n,hi.map a.eval=some (.int k n)/\h=some n) (h0:l.getD 0=0) (h1:h.getD 0=0):f3 P a ⟨dst,.slice t x lo hi none,ty,pos,S,gd⟩ w M κ .nils:=by
 have hb:=rO (P:=P) (w:=w) (p:=true) (len:=0) (N:=0) hl hh oM (by simp only[Int.natCast_zero] at *;omega) (by simp only[Int.natCast_zero] at *;omega) (Vs _)
 refine aQ (v:= .slice none 0 0) ?_ (by simp[al])
 simp only[execOp,Instr.sliceAt,Instr.slice,Sem.run_bind,run_underlying hu,Result.andThen_ok,hx,Xw,hb,f5 h5]
 simp only[Int.natCast_zero] at *
 simp[h0,h1]
theorem Jn {s:List UInt8} (hu:P.underlying t=some .string) (hx:a.eval x= .string ⟨s.toArray⟩) (hl:(lo.map a.eval=none/\l=none)\/∃ k n,lo.map a.eval=some (.int k n)/\l=some n) (hh:(hi.map a.eval=none/\h=none)\/∃ k n,hi.map a.eval=some (.int k n)/\h=some n) (h0:0<=l.getD 0) (h1:l.getD 0<=h.getD s.length) (h2:h.getD s.length<=s.length):
  f3 P a ⟨dst,.slice t x lo hi none,ty,pos,S,gd⟩ w M κ (.d (.str ((s.take (h.getD s.length).toNat).drop (l.getD 0).toNat))):=by
 have hb:=rO (P:=P) (w:=w) (p:=false) hl hh h0 h1 h2 (Vs _)
 refine aQ (v:= .string ⟨((s.take (h.getD s.length).toNat).drop (l.getD 0).toNat).toArray⟩) ?_ (by simp[al,bf])
 simp only[execOp,Instr.sliceAt,Instr.slice,Sem.run_bind,run_underlying hu,Result.andThen_ok,hx,Xw,Kq,hb,Option.isSome_none,Vw,VQ]
 rw[Lib.extract_eq]
 simp only[List.drop_take]
 rfl
end
