/-
  My text.
-/
import Derived.Test.YteaolfcegaidpaaGreatDoorSZEngE
namespace Go.Proofs.YteaolfcegaidpaaGreatDoor
set_option linter.unusedSimpArgs false
set_option linter.unusedVariables false
open Go.RowKit
inductive zS {α β:Type} (R:α->β->Prop):List α->List β->Prop
 |nil:zS R [] []
 |cons {a:α} {b:β} {as:List α} {bs:List β}:R a b->zS R as bs->zS R (a::as) (b::bs)
variable {D b:Nat} {cs:List SV} {e:Nat} {h:Option Int} {hi:Option Operand} {i:TypeInfo} {k k':IntKind} {l:Option Int} {len:Nat} {lo:Option Operand} {m:Int} {n o:Nat} {p:Bool} {parts:Array (Nat×Operand)} {ps:List (Nat×Nat×SV)} {rows:List (List DV)} {sz t:Nat} {x:Operand} {xs:List SV} {z:Value} {zs:List SV}
theorem L7 (off:Nat):∀ (vs:List Value) (k:Nat) (zs:List Value),off+k+vs.length<=zs.length->
  (vs.zipIdx k).foldl (fun(cs:Array Value) (p:Value×Nat)=>cs.setIfInBounds (off+p.2) p.1) zs.toArray=(zs.take (off+k)++vs++zs.drop (off+k+vs.length)).toArray
 |[],k,zs,_=>by simp
 |v::vs,k,zs,h=>by
  simp only[S6] at h
  simp only[List.zipIdx_cons,List.foldl_cons,List.setIfInBounds_toArray]
  rw[L7 off vs (k+1) (zs.set (off+k) v) oT]
  congr 1
  have e1:(zs.set (off+k) v).take (off+(k+1))=zs.take (off+k)++[v]:=by
   rw[<-UZ,List.take_add_one]
   simp[List.take_set_of_le,List.getElem?_set,show off+k<zs.length by omega]
  have e2:(zs.set (off+k) v).drop (off+(k+1)+vs.length)=zs.drop (off+k+(v::vs).length):=by
   rw[List.drop_set_of_lt oM]
   congr 1
   simp;omega
  rw[e1,e2]
  simp
theorem BQ (b:Nat->Option (Nat×Nat)) (zs vs:List Value) (i off:Nat) (v:Value) (T:List (Nat×Value)) (hp:b i=some (off,vs.length)) (hv:v.cells=vs.toArray) (hl:off+vs.length<=zs.length):
  Instr.fill b zs.toArray ((i,v)::T)=Instr.fill b (zs.take off++vs++zs.drop (off+vs.length)).toArray T:=by
 have:=L7 off vs 0 zs (by simpa using hl)
 simp only[UC] at this
 rw[Instr.fill]
 simp only[hp,hv,List.size_toArray]
 rw[Ul oT]
 congr 1
 rw[<-this]
 simp
section
variable {P:Program} {w:World} {M:Nat->Prop} {κ:Nat->Value}
theorem A1 (hk:PF κ) (b:Nat->Option (Nat×Nat)):∀ (ps:List (Nat×Nat×SV)) (qs:List (Nat×Value)) (zs cs:List SV) (c:List Value),an w M κ zs c->(∀ x∈c,x.oneCell'=true)->BK zs ps=some cs->
  zS (fun(p:Nat×Nat×SV) (q:Nat×Value)=>b q.1=some (p.1,p.2.1)/\ah w M κ p.2.2 q.2) ps qs->
  ∃ vs:List Value,Instr.fill b c.toArray qs=some vs.toArray/\an w M κ cs vs/\(∀ x∈vs,x.oneCell'=true)
 |[],qs,zs,cs,c,hz,h1,hf,hq=>by
  cases hq
  simp only[BK,SN] at hf
  subst hf
  exact⟨c,by simp[Instr.fill],hz,h1⟩
 |(off,n,x)::ps,qs,zs,cs,c,hz,h1,hf,hq=>by
  cases hq with
  |cons hq d=>
   rename_i q qs
   obtain⟨i,v⟩:=q
   simp only at hq
   obtain⟨hp,hr⟩:=hq
   unfold BK at hf
   cases hc:x.cells? with
   |none=>simp[hc] at hf
   |some O=>
    simp only[hc] at hf
    split at hf
    ·rename_i hn
     obtain⟨hn,r9⟩:=hn
     obtain⟨us,hu,E,s1⟩:=hr.cells hk hc
     have h8:=s1.length
     have e:=hz.length
     have C:us.length=n:=by omega
     subst C
     rw[BQ b c us i off v qs hp hu oM]
     refine A1 hk b ps qs _ cs _ ((hz.take off).append s1|>.append (hz.drop _)) ?_ hf d
     intro y hy
     simp only[Ta] at hy
     rcases hy with(hy|hy)|hy
     ·exact h1 y (Tm hy)
     ·exact E y hy
     ·exact h1 y (TE hy)
    ·cases hf
theorem IQ (fs:List Field) (h:∀ f∈fs,(P.info? f.type).isSome=true):fs.mapM (fun f=>(P.info? f.type).map fun i=>(f.offset,i.size))=some (fs.map fun f=>(f.offset,P.cellsOf f.type)):=by
 induction fs with
 |nil=>rfl
 |cons f fs ih=>
  obtain⟨i,hi⟩:=TX.1 (h f oS)
  simp[List.mapM_cons,ih fun g hg=>h g (by simp[hg]),hi,Program.cellsOf]
variable {a:Act} {dst:Option Tmp} {ty:TypeId} {S:String} {U:Array Edge} {gd:Option (Nat×Bool)}
theorem Ht (hk:PF κ) {t:TypeId} {fs:Array Field} (hu:P.underlying t=some (.struct fs)) (hi:P.info? t=some i) (hz:i.zero=some z) (H:mi z.cells.toList zs=true) (u4:fs.all (fun f=>(P.info? f.type).isSome)=true) (b:zS (fun(p:Nat×Nat×SV) (q:Nat×Operand)=>(∃ f,fs[q.1]?=some f/\f.offset=p.1/\P.cellsOf f.type=p.2.1)/\ah w M κ p.2.2 (a.eval q.2)) ps parts.toList) (hf:BK zs ps=some cs):
  dO P a ⟨dst,.build t parts,ty,S,U,gd⟩ w M κ (.agg cs):=by
 obtain⟨A,B⟩:=rx (w:=w) (M:=M) (κ:=κ) H
 have o:=IQ (P:=P) fs.toList (fun f hf=>by
  have:=Ut.1 u4 f (by simpa using hf)
  simpa using this)
 have hq:zS (fun(p:Nat×Nat×SV) (q:Nat×Value)=>((fs.toList.map fun f=>(f.offset,P.cellsOf f.type)).toArray[·]?:Nat->Option (Nat×Nat)) q.1=some (p.1,p.2.1)/\ah w M κ p.2.2 q.2) ps (parts.toList.map fun q=>(q.1,a.eval q.2)):=by
  clear hf
  generalize parts.toList=l at b
  induction b with
  |nil=>exact .nil
  | @cons p q ps qs h _ ih=>
   refine .cons ⟨?_,h.2⟩ ih
   obtain⟨⟨f,c,d,g⟩,_⟩:=h
   have:fs.toList[q.1]?=some f:=by simpa using c
   simp only[List.getElem?_toArray,Tk,this,TL,d,g]
 obtain⟨vs,h1,h2,E⟩:=A1 hk _ ps _ zs cs _ A B hf hq
 have hb:P.built t (parts.toList.map fun q=>(q.1,a.eval q.2))=some vs.toArray:=by
  simp only[Program.built,hi,hu,hz,o]
  exact h1
 refine aH (v:= .agg vs.toArray) ?_ (by simp only[ah];exact⟨vs,rfl,E,h2⟩)
 have hr:=run_build (P:=P) w t (parts.map fun q=>(q.1,a.eval q.2)) vs.toArray (by simpa using hb)
 simp only[execOp,Sem.run_bind]
 have e:(parts.map fun(x:Nat×Operand)=>match x with|(i,x)=>(i,a.eval x))=parts.map fun q=>(q.1,a.eval q.2):=rfl
 rw[e,hr]
 rfl
theorem Gj (hk:PF κ) {t:TypeId} {e:TypeId} {ie:TypeInfo} (hu:P.underlying t=some (.array len e)) (hi:P.info? t=some i) (v9:P.info? e=some ie) (hz:i.zero=some z) (H:mi z.cells.toList zs=true) (b:zS (fun(p:Nat×Nat×SV) (q:Nat×Operand)=>(p.1=q.1 * ie.size/\p.2.1=ie.size)/\ah w M κ p.2.2 (a.eval q.2)) ps parts.toList) (hf:BK zs ps=some cs):
  dO P a ⟨dst,.build t parts,ty,S,U,gd⟩ w M κ (.agg cs):=by
 obtain⟨A,B⟩:=rx (w:=w) (M:=M) (κ:=κ) H
 have hq:zS (fun(p:Nat×Nat×SV) (q:Nat×Value)=>(fun i:Nat=>some (i * ie.size,ie.size)) q.1=some (p.1,p.2.1)/\ah w M κ p.2.2 q.2) ps (parts.toList.map fun q=>(q.1,a.eval q.2)):=by
  clear hf
  generalize parts.toList=l at b
  induction b with
  |nil=>exact .nil
  | @cons p q ps qs h _ ih=>
   refine .cons ⟨?_,h.2⟩ ih
   obtain⟨⟨h1,h2⟩,_⟩:=h
   simp only[h1,h2]
 obtain⟨vs,h1,h2,E⟩:=A1 hk (fun i:Nat=>some (i * ie.size,ie.size)) ps _ zs cs _ A B hf hq
 have hb:P.built t (parts.toList.map fun q=>(q.1,a.eval q.2))=some vs.toArray:=by
  simp only[Program.built,hi,hu,hz,v9]
  exact h1
 refine aH (v:= .agg vs.toArray) ?_ (by simp only[ah];exact⟨vs,rfl,E,h2⟩)
 have hr:=run_build (P:=P) w t (parts.map fun q=>(q.1,a.eval q.2)) vs.toArray (by simpa using hb)
 simp only[execOp,Sem.run_bind]
 have e:(parts.map fun(x:Nat×Operand)=>match x with|(i,x)=>(i,a.eval x))=parts.map fun q=>(q.1,a.eval q.2):=rfl
 rw[e,hr]
 rfl
theorem A2 (sz:Nat):∀ (rows:List (List Value)) (qs:List (Nat×Value)) (done T:List Value) (k:Nat),done.length=k * sz->T.length=rows.length * sz->
  zS (fun(r:List Value) (q:Nat×Value)=>r.length=sz/\q.2.cells=r.toArray) rows qs->(∀ j q,qs[j]?=some q->q.1=k+j)->
  Instr.fill (fun i=>some (i * sz,sz)) (done++T).toArray qs=some (done++rows.flatten).toArray
 |[],qs,done,T,k,hd,hr,hq,hj=>by
  cases hq
  have:T=[]:=Te.1 (by simpa using hr)
  subst this
  simp[Instr.fill]
 |r::rows,qs,done,T,k,hd,hr,hq,hj=>by
  cases hq with
  |cons h d=>
   rename_i q qs
   obtain⟨i,v⟩:=q
   obtain⟨h1,h2⟩:=h
   have hi:i=k:=by simpa using hj 0 (i,v) oS
   subst hi
   simp only[S6,T2,Nat.one_mul] at hr
   subst h1
   rw[BQ _ (done++T) r i (i * r.length) v qs rfl h2 oT]
   have e1:(done++T).take (i * r.length)=done:=by rw[List.take_append_of_le_length oM,Tr oM]
   have e2:(done++T).drop (i * r.length+r.length)=T.drop r.length:=by
    rw[List.drop_append,Uj oM]
    simp;congr 1;omega
   rw[e1,e2]
   have:=A2 r.length rows qs (done++r) (T.drop r.length) (i+1) (by simp[hd,T2]) oT d (fun j q b=>by
    have:=hj (j+1) q (by simpa using b)
    omega)
   rw[this]
   simp
theorem vl (hk:PF κ) {sz:Nat}:∀ {xs cs:List SV} {vs:List Value},kQ sz xs=some cs->an w M κ xs vs->∃ rs:List (List Value),zS (fun(r:List Value) (v:Value)=>r.length=sz/\v.cells=r.toArray) rs vs/\
   an w M κ cs rs.flatten/\(∀ x∈rs.flatten,x.oneCell'=true)/\rs.length=vs.length/\rs.flatten.length=xs.length * sz
 |[],cs,vs,h,hr=>by
  simp only[kQ,SN] at h;subst h
  unfold an at hr;subst hr
  exact⟨[],.nil,by simp[an],by simp,rfl,by simp⟩
 |x::xs,cs,vs,h,hr=>by
  unfold an at hr
  obtain⟨u,us,rfl,h1,h2⟩:=hr
  unfold kQ at h
  cases c:x.cells? with
  |none=>simp[c] at h
  |some r=>
   cases e:kQ sz xs with
   |none=>simp[c,e] at h
   |some rs=>
    simp only[c,e] at h
    split at h
    ·rename_i I
     simp only[SN] at h;subst h
     obtain⟨ys,d,b,f⟩:=h1.cells hk c
     obtain⟨g,k1,k2,k3,k4,k5⟩:=vl hk e h2
     have i:=f.length
     refine⟨ys::g,.cons ⟨by omega,d⟩ k1,by simpa using f.append k2, ?_,by simp[k4], ?_⟩
     ·intro z hz
      simp only[TB,Ta] at hz
      rcases hz with hz|hz
      ·exact b z hz
      ·exact k3 z hz
     ·simp only[TB,SW,S6,k5,T2];omega
    ·cases h
theorem Gk (hk:PF κ) (hM:∀ b,M b->b<w.heap.size) (hu:P.underlying t=some (.slice e)) (hi:P.info? e=some i) (I:i.size=sz) (r6:0<sz) (C:n * sz<=16777216) (hz:i.zero=some z) (H:z.cells.size=sz) (hn:n=parts.size) (T:an w M κ xs (parts.toList.map fun q=>a.eval q.2)) (s1:∀ (j:Nat) q,parts.toList[j]?=some q->q.1=j) (K:kQ sz xs=some cs):
  dO P a ⟨dst,.buildSlice t n parts,ty,S,U,gd⟩ w M κ (.lit sz xs.length cs):=by
 obtain⟨rs,h1,h2,E,h6,h7⟩:=vl hk K T
 have Y:xs.length=n:=by have:=T.length;simp[hn] at this⊢;omega
 have m:∃ c:List Value,c.length=n * sz/\((Array.range (n * sz)).map (z.cells[· %z.cells.size]!))=c.toArray:=⟨((Array.range (n * sz)).map (z.cells[· %z.cells.size]!)).toList,by simp,(Array.toArray_toList).symm⟩
 obtain⟨c,k,d⟩:=m
 have h8:(parts.toList.map fun q=>a.eval q.2).length=n:=by simp[hn]
 have hq:zS (fun(r:List Value) (q:Nat×Value)=>r.length=sz/\q.2.cells=r.toArray) rs (parts.toList.map fun q=>(q.1,a.eval q.2)):=by
  clear h2 E h6 h7 s1 T h8 hn K Y
  generalize parts.toList=l at h1
  revert h1
  induction rs generalizing l with
  |nil=>intro h;cases l with|nil=>exact .nil|cons _ _=>cases h
  |cons r rs ih=>
   intro h
   cases l with
   |nil=>cases h
   |cons q l=>cases h with|cons g gs=>exact .cons g (ih l gs)
 have s2:=A2 sz rs _ [] c 0 oS (by rw[k,h6,h8]) hq (fun j q hj=>by
  rw[Tk] at hj
  cases hp:parts.toList[j]? with
  |none=>simp[hp] at hj
  |some p=>simp[hp] at hj;subst hj;simp[s1 j p hp])
 simp only[Tb] at s2
 refine⟨.slice (some ⟨w.heap.size,0,none⟩) n n,w.alloc (.cells rs.flatten.toArray e), ?_,(Below.refl _ _).alloc (S0 _) _, ?_⟩
 ·have e1:(parts.map fun(x:Nat×Operand)=>match x with|(i,x)=>(i,a.eval x)).toList=parts.toList.map fun q=>(q.1,a.eval q.2):=by simp
  have hs:(sizeOf e).run P w= .ok sz w:=by simp[sizeOf,typeInfo,hi,I]
  have f:(zeroValue e).run P w= .ok z w:=by simp[zeroValue,typeInfo,hi,hz]
  simp only[execOp,Instr.buildSlice,Sem.run_bind,run_underlying hu,Result.andThen_ok,hs]
  rw[Ul oM]
  by_cases h0:n * sz=0
  ·have N:c=[]:=Te.1 oM
   subst N
   simp only[h0,T6,Sem.run_bind,Sem.run_pure,Result.andThen_ok,e1]
   have:((Array.range 0).map (fun x=>(#[]:Array Value)[x%(#[]:Array Value).size]!))=(([]:List Value).toArray):=by simp
   rw[this,s2]
   rfl
  ·simp only[h0,Tv,Sem.run_bind,f,Sem.run_pure,Result.andThen_ok,e1,d,s2]
   rfl
 ·have hB:Below w.heap.size w (w.alloc (.cells rs.flatten.toArray e)):=(Below.refl _ _).alloc (S0 _) _
  simp only[ah]
  rw[Y] at h7⊢
  exact⟨w.heap.size,rs.flatten,rfl,fun h=>Nat.lt_irrefl _ (hM _ h),by simp,h7,E,fun j v hj=>by rw[cell_of_row _ _ _ _ _ _ (heap_alloc_new w _)];simpa using hj,an.ext (lA.of_below hB) _ _ h2⟩
theorem IR (hk:PF κ) (hu:P.underlying t=some (.slice e)) (hi:P.info? e=some i) (I:i.size=sz) (r6:0<sz) (C:n * sz<=16777216) (hz:i.zero=some z) (H:z.cells.size=sz) (hn:n=parts.size) (T:an w M κ xs (parts.toList.map fun q=>a.eval q.2)) (s1:∀ (j:Nat) q,parts.toList[j]?=some q->q.1=j) (K:kQ sz xs=some cs):
  ∃ rs:List (List Value),(execOp a.eval ⟨dst,.buildSlice t n parts,ty,S,U,gd⟩).run P w= .ok (.value (.slice (some ⟨w.heap.size,0,none⟩) n n)) (w.alloc (.cells rs.flatten.toArray e))/\rs.flatten.length=n * sz/\(∀ x∈rs.flatten,x.oneCell'=true)/\an w M κ cs rs.flatten:=by
 obtain⟨rs,h1,h2,E,h6,h7⟩:=vl hk K T
 have Y:xs.length=n:=by have:=T.length;simp[hn] at this⊢;omega
 have m:∃ c:List Value,c.length=n * sz/\((Array.range (n * sz)).map (z.cells[· %z.cells.size]!))=c.toArray:=⟨((Array.range (n * sz)).map (z.cells[· %z.cells.size]!)).toList,by simp,(Array.toArray_toList).symm⟩
 obtain⟨c,k,d⟩:=m
 have h8:(parts.toList.map fun q=>a.eval q.2).length=n:=by simp[hn]
 have hq:zS (fun(r:List Value) (q:Nat×Value)=>r.length=sz/\q.2.cells=r.toArray) rs (parts.toList.map fun q=>(q.1,a.eval q.2)):=by
  clear h2 E h6 h7 s1 T h8 hn K Y
  generalize parts.toList=l at h1
  revert h1
  induction rs generalizing l with
  |nil=>intro h;cases l with|nil=>exact .nil|cons _ _=>cases h
  |cons r rs ih=>
   intro h
   cases l with
   |nil=>cases h
   |cons q l=>cases h with|cons g gs=>exact .cons g (ih l gs)
 have s2:=A2 sz rs _ [] c 0 oS (by rw[k,h6,h8]) hq (fun j q hj=>by
  rw[Tk] at hj
  cases hp:parts.toList[j]? with
  |none=>simp[hp] at hj
  |some p=>simp[hp] at hj;subst hj;simp[s1 j p hp])
 simp only[Tb] at s2
 refine⟨rs, ?_,by rw[<-Y];exact h7,E,h2⟩
 have e1:(parts.map fun(x:Nat×Operand)=>match x with|(i,x)=>(i,a.eval x)).toList=parts.toList.map fun q=>(q.1,a.eval q.2):=by simp
 have hs:(sizeOf e).run P w= .ok sz w:=by simp[sizeOf,typeInfo,hi,I]
 have f:(zeroValue e).run P w= .ok z w:=by simp[zeroValue,typeInfo,hi,hz]
 simp only[execOp,Instr.buildSlice,Sem.run_bind,run_underlying hu,Result.andThen_ok,hs]
 rw[Ul oM]
 by_cases h0:n * sz=0
 ·have N:c=[]:=Te.1 oM
  subst N
  simp only[h0,T6,Sem.run_bind,Sem.run_pure,Result.andThen_ok,e1]
  have:((Array.range 0).map (fun x=>(#[]:Array Value)[x%(#[]:Array Value).size]!))=(([]:List Value).toArray):=by simp
  rw[this,s2]
  rfl
 ·simp only[h0,Tv,Sem.run_bind,f,Sem.run_pure,Result.andThen_ok,e1,d,s2]
  rfl
theorem bi.drop (h:bi w M rows b o sz) (l:Nat):bi w M (rows.drop l) b (o+l * sz) sz:=by
 induction l generalizing rows o with
 |zero=>simpa using h
 |succ l ih=>
  cases rows with
  |nil=>simp[bi]
  |cons r rows=>
   unfold bi at h
   have:=ih h.2.2
   rw[U1,show o+(l+1) * sz=o+sz+l * sz by rw[T2];omega]
   exact this
theorem bi.take (h:bi w M rows b o sz) (l:Nat):bi w M (rows.take l) b o sz:=by
 induction l generalizing rows o with
 |zero=>simp[bi]
 |succ l ih=>
  cases rows with
  |nil=>simp[bi]
  |cons r rows=>
   unfold bi at h
   rw[Uz]
   unfold bi
   exact⟨h.1,h.2.1,ih h.2.2⟩
theorem rz {s:Nat->SV} {N:Nat} {l:Option SX} {r:Option Int} (r0:∀ x y,lo=some x->l=some y->ah w M κ (ev s y) (a.eval x)) (Z:lD N lo l=true) (h:Hf s l=some r):
  (lo.map a.eval=none/\r=none)\/∃ k n,lo.map a.eval=some (.int k n)/\r=some n:=by
 cases lo with
 |none=>cases l with
  |none=>simp only[Hf,SN] at h;subst h;exact .inl ⟨rfl,rfl⟩
  |some y=>simp[lD] at Z
 |some x=>cases l with
  |none=>simp[lD] at Z
  |some y=>
   have:=r0 x y rfl rfl
   unfold Hf at h
   simp only at h
   split at h
   ·rename_i k n B
    rw[B] at this
    simp only[ah,ba] at this
    simp only[SN] at h
    exact .inr ⟨k,n,by simp[this],h.symm⟩
   ·cases h
theorem rS (k:IntKind) (n:Int) (y:Nat) (c:BoundsCode) (h0:0<=n) (h1:n<=y):(Instr.sliceBound (.int k n) y c).run P w= .ok n.toNat w:=by
 simp[Instr.sliceBound,asIntOf,h0,h1]
theorem r_ {lo hi:Option Value} (hl:(lo=none/\l=none)\/∃ k n,lo=some (.int k n)/\l=some n) (hh:(hi=none/\h=none)\/∃ k n,hi=some (.int k n)/\h=some n) (h0:0<=l.getD 0) (h1:l.getD 0<=h.getD len) (h2:h.getD len<=len) (hc:len<=D):(Instr.sliceBounds p len D lo hi none).run P w= .ok ((l.getD 0).toNat,(h.getD len).toNat,D) w:=by
 rcases hh with⟨rfl,rfl⟩|⟨k,n,rfl,rfl⟩
 ·simp only[T8] at *
  rcases hl with⟨rfl,rfl⟩|⟨k',n',rfl,rfl⟩
  ·simp[Instr.sliceBounds]
  ·simp only[TI] at *
   have hb:=rS (P:=P) (w:=w) k' n' len .sliceB h0 h1
   simp[Instr.sliceBounds,hb]
 ·simp only[TI] at *
  have hb:=rS (P:=P) (w:=w) k n D (if p then .sliceAcap else .sliceAlen) oM oM
  rcases hl with⟨rfl,rfl⟩|⟨k',n',rfl,rfl⟩
  ·simp[Instr.sliceBounds,hb]
  ·simp only[TI] at *
   have h6:=rS (P:=P) (w:=w) k' n' n.toNat .sliceB h0 oM
   simp[Instr.sliceBounds,hb,h6]
theorem Fk (hu:P.underlying t=some (.slice e)) (h5:(P.info? e).isSome=true) (I:P.cellsOf e=sz) (r6:0<sz) (hx:ba w M (.slice rows) (a.eval x)) (hl:(lo.map a.eval=none/\l=none)\/∃ k n,lo.map a.eval=some (.int k n)/\l=some n) (hh:(hi.map a.eval=none/\h=none)\/∃ k n,hi.map a.eval=some (.int k n)/\h=some n) (R:∀ r∈rows,r.length=sz) (h0:0<=l.getD 0) (h1:l.getD 0<=h.getD rows.length) (h2:h.getD rows.length<=rows.length):
  dO P a ⟨dst,.slice t x lo hi none,ty,S,U,gd⟩ w M κ (.d (.slice ((rows.take (h.getD rows.length).toNat).drop (l.getD 0).toNat))):=by
 unfold ba at hx
 obtain⟨X,D,hv,hc,hn,hr⟩:=hx
 have hb:=r_ (P:=P) (w:=w) (p:=true) hl hh h0 h1 h2 hc
 generalize z:(l.getD 0).toNat=L at *
 generalize j:(h.getD rows.length).toNat=H at *
 have f:L<=H:=by omega
 have i:H<=rows.length:=by omega
 refine aH (v:= .slice (if D=L then X else X.map (·.add (L * sz))) (H - L) (D - L)) ?_ ?_
 ·simp only[execOp,Instr.sliceAt,Instr.slice,Sem.run_bind,run_underlying hu,Result.andThen_ok,hv,UP,hb,dv h5,I]
  rfl
 ·simp only[ah,ba]
  refine⟨if D=L then X else X.map (·.add (L * sz)),D - L, ?_, ?_, ?_, ?_⟩
  ·have:(List.drop L (List.take H rows)).length=H - L:=by simp;omega
   rw[this]
  ·simp;omega
  ·intro d
   by_cases h7:D=L
   ·omega
   ·simp only[h7,Tv] at d
    have:X=none:=by simpa using d
    have:=hn this
    omega
  ·rcases hr with hr|⟨b,o,N,rfl,Z,h9,K⟩
   ·left;subst hr;simp
   ·by_cases A:rows=[]
    ·left;subst A;simp
    ·have c:N=sz:=by
      obtain⟨r,rs,rfl⟩:=List.exists_cons_of_ne_nil A
      unfold bi at K
      rw[<-K.1];exact R r oS
     subst c
     by_cases g:H=L
     ·left
      rw[UW];simp;omega
     ·right
      refine⟨b,o+L * N,N, ?_,Z,h9,(K.take H).drop L⟩
      rw[Ul oM]
      simp[gy]
theorem Hu {lo:Option Value} {h:Int} (hl:(lo=none/\l=none)\/∃ k n,lo=some (.int k n)/\l=some n) (h0:0<=l.getD 0) (h1:l.getD 0<=h) (h2:h<=m) (E:m<=D):(Instr.sliceBounds p len D lo (some (.int k h)) (some (.int k' m))).run P w= .ok ((l.getD 0).toNat,h.toNat,m.toNat) w:=by
 have hb:=rS (P:=P) (w:=w) k' m D (if p then .slice3Acap else .slice3Alen) oM E
 have s0:=rS (P:=P) (w:=w) k h m.toNat .slice3B oM oM
 rcases hl with⟨rfl,rfl⟩|⟨k',n',rfl,rfl⟩
 ·simp[Instr.sliceBounds,hb,s0]
 ·simp only[TI] at *
  have h6:=rS (P:=P) (w:=w) k' n' h.toNat .slice3C h0 oM
  simp[Instr.sliceBounds,hb,s0,h6]
theorem Dc {w:World} {M:Nat->Prop} {b:Nat}:∀ (k:Nat) (cs:List DV) (o:Nat),b4 w M cs b o->b4 w M (cs.drop k) b (o+k)
 |0,cs,o,h=>h
 |k+1,[],o,h=>by simp only[List.drop_nil];unfold b4;trivial
 |k+1,c::cs,o,h=>by
  unfold b4 at h
  have:=Dc k cs (o+1) h.2
  rwa[show o+1+k=o+(k+1) by omega] at this
theorem BR {w:World} {M:Nat->Prop} {b:Nat}:∀ (cs:List DV) (o:Nat),b4 w M cs b o->bi w M (cs.map fun c=>[c]) b o 1
 |[],o,h=>by simp only[Ui];unfold bi;trivial
 |c::cs,o,h=>by
  unfold b4 at h
  simp only[S5]
  unfold bi
  refine⟨rfl, ?_,BR cs (o+1) h.2⟩
  unfold b4
  exact⟨h.1,by unfold b4;trivial⟩
theorem IU {lo:Operand} {cs:List DV} {i:Int} (hu:P.underlying t=some (.array n e)) (h5:(P.info? e).isSome=true) (I:P.cellsOf e=1) (hx:ba w M (.ptr cs) (a.eval x)) (hl:a.eval lo= .int k i) (h8:cs.length=n) (h0:0<=i) (h1:i<=n):
  dO P a ⟨dst,.slice t x (some lo) none none,ty,S,U,gd⟩ w M κ (.d (.slice ((cs.drop i.toNat).map fun c=>[c]))):=by
 unfold ba at hx
 obtain⟨b,o,hv,Z,hb,hr⟩:=hx
 have w4:=r_ (P:=P) (w:=w) (p:=false) (len:=n) (D:=n) (lo:=some (.int k i)) (hi:=none) (l:=some i) (h:=none) (.inr ⟨k,i,rfl,rfl⟩) (.inl ⟨rfl,rfl⟩) (by simpa using h0) (by simpa using h1) oS (S0 _)
 simp only[TI,T8,T_] at w4
 refine aH (v:= .slice (some (if n=i.toNat then⟨b,o,none⟩ else(⟨b,o,none⟩:Addr).add (i.toNat * 1))) (n - i.toNat) (n - i.toNat)) ?_ ?_
 ·simp only[execOp,Instr.sliceAt,Sem.run_bind,run_underlying hu,Result.andThen_ok,hv,hl,TL,UP,Instr.sureAddr,w4,dv h5,I,Sem.run_pure]
 ·simp only[ah,ba]
  have d:((cs.drop i.toNat).map fun c=>[c]).length=n - i.toNat:=by simp[h8]
  refine⟨some (if n=i.toNat then⟨b,o,none⟩ else(⟨b,o,none⟩:Addr).add (i.toNat * 1)),n - i.toNat,by rw[d],by rw[d];exact S0 _,(fun h=>by cases h), ?_⟩
  by_cases hn:n=i.toNat
  ·refine .inl ?_
   rw[Uj oM,Ui]
  ·refine .inr ⟨b,o+i.toNat * 1,1, ?_,Z,hb, ?_⟩
   ·rw[Ul hn,gy]
   ·rw[Nat.mul_one]
    exact BR _ _ (Dc _ _ _ hr)
theorem IV {hi mx:Operand} {h:Int} (hu:P.underlying t=some (.slice e)) (h5:(P.info? e).isSome=true) (I:P.cellsOf e=sz) (hx:ba w M (.slice rows) (a.eval x)) (hl:(lo.map a.eval=none/\l=none)\/∃ k n,lo.map a.eval=some (.int k n)/\l=some n) (hh:a.eval hi= .int k h) (Z:a.eval mx= .int k' m) (R:∀ r∈rows,r.length=sz) (h0:0<=l.getD 0) (h1:l.getD 0<=h) (h2:h<=m) (E:m<=rows.length):
  dO P a ⟨dst,.slice t x lo (some hi) (some mx),ty,S,U,gd⟩ w M κ (.d (.slice ((rows.take h.toNat).drop (l.getD 0).toNat))):=by
 unfold ba at hx
 obtain⟨X,D,hv,hc,hn,hr⟩:=hx
 have hb:=Hu (P:=P) (w:=w) (p:=true) (len:=rows.length) (D:=D) (k:=k) (k':=k') hl h0 h1 h2 oM
 generalize z:(l.getD 0).toNat=L at *
 have f:L<=h.toNat:=by omega
 have i:h.toNat<=rows.length:=by omega
 refine aH (v:= .slice (if m.toNat=L then X else X.map (·.add (L * sz))) (h.toNat - L) (m.toNat - L)) ?_ ?_
 ·simp only[execOp,Instr.sliceAt,Instr.slice,Sem.run_bind,run_underlying hu,Result.andThen_ok,hv,TL,hh,Z,hb,dv h5,I]
  rfl
 ·simp only[ah,ba]
  refine⟨if m.toNat=L then X else X.map (·.add (L * sz)),m.toNat - L, ?_, ?_, ?_, ?_⟩
  ·have:(List.drop L (List.take h.toNat rows)).length=h.toNat - L:=by simp;omega
   rw[this]
  ·simp;omega
  ·intro d
   by_cases h7:m.toNat=L
   ·omega
   ·simp only[h7,Tv] at d
    have:X=none:=by simpa using d
    have:=hn this
    omega
  ·rcases hr with hr|⟨b,o,N,rfl,s6,h9,K⟩
   ·left;subst hr;simp
   ·by_cases A:rows=[]
    ·left;subst A;simp
    ·have c:N=sz:=by
      obtain⟨r,rs,rfl⟩:=List.exists_cons_of_ne_nil A
      unfold bi at K
      rw[<-K.1];exact R r oS
     subst c
     by_cases g:h.toNat=L
     ·left
      rw[UW];simp;omega
     ·right
      refine⟨b,o+L * N,N, ?_,s6,h9,(K.take h.toNat).drop L⟩
      rw[Ul oM]
      simp[gy]
theorem EO (hu:P.underlying t=some (.slice e)) (h5:(P.info? e).isSome=true) (hx:a.eval x= .slice none 0 0) (hl:(lo.map a.eval=none/\l=none)\/∃ k n,lo.map a.eval=some (.int k n)/\l=some n) (hh:(hi.map a.eval=none/\h=none)\/∃ k n,hi.map a.eval=some (.int k n)/\h=some n) (h0:l.getD 0=0) (h1:h.getD 0=0):dO P a ⟨dst,.slice t x lo hi none,ty,S,U,gd⟩ w M κ .nils:=by
 have hb:=r_ (P:=P) (w:=w) (p:=true) (len:=0) (D:=0) hl hh oM (by simp only[Int.natCast_zero] at *;omega) (by simp only[Int.natCast_zero] at *;omega) (S0 _)
 refine aH (v:= .slice none 0 0) ?_ (by simp[ah])
 simp only[execOp,Instr.sliceAt,Instr.slice,Sem.run_bind,run_underlying hu,Result.andThen_ok,hx,UP,hb,dv h5]
 simp only[Int.natCast_zero] at *
 simp[h0,h1]
theorem IW {s:List UInt8} (hu:P.underlying t=some .string) (hx:a.eval x= .string ⟨s.toArray⟩) (hl:(lo.map a.eval=none/\l=none)\/∃ k n,lo.map a.eval=some (.int k n)/\l=some n) (hh:(hi.map a.eval=none/\h=none)\/∃ k n,hi.map a.eval=some (.int k n)/\h=some n) (h0:0<=l.getD 0) (h1:l.getD 0<=h.getD s.length) (h2:h.getD s.length<=s.length):
  dO P a ⟨dst,.slice t x lo hi none,ty,S,U,gd⟩ w M κ (.d (.str ((s.take (h.getD s.length).toNat).drop (l.getD 0).toNat))):=by
 have hb:=r_ (P:=P) (w:=w) (p:=false) hl hh h0 h1 h2 (S0 _)
 refine aH (v:= .string ⟨((s.take (h.getD s.length).toNat).drop (l.getD 0).toNat).toArray⟩) ?_ (by simp[ah,ba])
 simp only[execOp,Instr.sliceAt,Instr.slice,Sem.run_bind,run_underlying hu,Result.andThen_ok,hx,UP,JI,hb,Option.isSome_none,Tj,Tv]
 rw[Lib.extract_eq]
 simp only[List.drop_take]
 rfl
end
