/-
  My text.
-/
import Derived.Test.YteaolfcegaidpaaGreatDoorSYEngE
namespace Go.Proofs.YteaolfcegaidpaaGreatDoor
set_option linter.unusedSimpArgs false
set_option linter.unusedVariables false
open Go.RowKit
inductive xZ {α β:Type} (R:α->β->Prop):List α->List β->Prop
 |nil:xZ R [] []
 |cons {a:α} {b:β} {as:List α} {bs:List β}:R a b->xZ R as bs->xZ R (a::as) (b::bs)
theorem I9 (off:Nat):∀ (vs:List Value) (k:Nat) (zs:List Value),off+k+vs.length<=zs.length->
  (vs.zipIdx k).foldl (fun(cs:Array Value) (p:Value×Nat)=>cs.setIfInBounds (off+p.2) p.1) zs.toArray=(zs.take (off+k)++vs++zs.drop (off+k+vs.length)).toArray
 |[],k,zs,_=>by simp
 |v::vs,k,zs,h=>by
  simp only[OW] at h
  simp only[List.zipIdx_cons,List.foldl_cons,List.setIfInBounds_toArray]
  rw[I9 off vs (k+1) (zs.set (off+k) v) oT]
  congr 1
  have e1:(zs.set (off+k) v).take (off+(k+1))=zs.take (off+k)++[v]:=by
   rw[<-Qt,List.take_add_one]
   simp[List.take_set_of_le,List.getElem?_set,show off+k<zs.length by omega]
  have e2:(zs.set (off+k) v).drop (off+(k+1)+vs.length)=zs.drop (off+k+(v::vs).length):=by
   rw[List.drop_set_of_lt oM]
   congr 1
   simp;omega
  rw[e1,e2]
  simp
theorem zS (place:Nat->Option (Nat×Nat)) (zs vs:List Value) (i off:Nat) (v:Value) (rest:List (Nat×Value)) (hp:place i=some (off,vs.length)) (hv:v.cells=vs.toArray) (hl:off+vs.length<=zs.length):
  Instr.fill place zs.toArray ((i,v)::rest)=Instr.fill place (zs.take off++vs++zs.drop (off+vs.length)).toArray rest:=by
 have:=I9 off vs 0 zs (by simpa using hl)
 simp only[Qb] at this
 rw[Instr.fill]
 simp only[hp,hv,List.size_toArray]
 rw[P7 oT]
 congr 1
 rw[<-this]
 simp
section
variable {P:Program} {w:World} {M:Nat->Prop} {κ:Nat->Value}
theorem y9 (hk:Mc κ) (place:Nat->Option (Nat×Nat)):∀ (ps:List (Nat×Nat×SV)) (qs:List (Nat×Value)) (zs cs:List SV) (zvs:List Value),ai w M κ zs zvs->(∀ x∈zvs,x.oneCell'=true)->zM zs ps=some cs->
  xZ (fun(p:Nat×Nat×SV) (q:Nat×Value)=>place q.1=some (p.1,p.2.1)/\ae w M κ p.2.2 q.2) ps qs->
  ∃ vs:List Value,Instr.fill place zvs.toArray qs=some vs.toArray/\ai w M κ cs vs/\(∀ x∈vs,x.oneCell'=true)
 |[],qs,zs,cs,zvs,hz,h1,hf,hq=>by
  cases hq
  simp only[zM,Oy] at hf
  subst hf
  exact⟨zvs,by simp[Instr.fill],hz,h1⟩
 |(off,n,x)::ps,qs,zs,cs,zvs,hz,h1,hf,hq=>by
  cases hq with
  |cons hq hqs=>
   rename_i q qs
   obtain⟨i,v⟩:=q
   simp only at hq
   obtain⟨hp,hr⟩:=hq
   unfold zM at hf
   cases hc:x.cells? with
   |none=>simp[hc] at hf
   |some ds=>
    simp only[hc] at hf
    split at hf
    ·rename_i hn
     obtain⟨hn,hle⟩:=hn
     obtain⟨us,hu,hu1,hus⟩:=hr.cells hk hc
     have hlen:=hus.length
     have hzl:=hz.length
     have hn':us.length=n:=by omega
     subst hn'
     rw[zS place zvs us i off v qs hp hu oM]
     refine y9 hk place ps qs _ cs _ ((hz.take off).append hus|>.append (hz.drop _)) ?_ hf hqs
     intro y hy
     simp only[OV] at hy
     rcases hy with(hy|hy)|hy
     ·exact h1 y (O0 hy)
     ·exact hu1 y hy
     ·exact h1 y (Pg hy)
    ·cases hf
theorem F6 (fs:List Field) (h:∀ f∈fs,(P.info? f.type).isSome=true):fs.mapM (fun f=>(P.info? f.type).map fun i=>(f.offset,i.size))=some (fs.map fun f=>(f.offset,P.cellsOf f.type)):=by
 induction fs with
 |nil=>rfl
 |cons f fs ih=>
  obtain⟨i,hi⟩:=Pu.1 (h f oS)
  simp[List.mapM_cons,ih fun g hg=>h g (by simp[hg]),hi,Program.cellsOf]
variable {a:Act} {dst:Option Tmp} {ty:TypeId} {pos:String} {aft:Array Edge} {gd:Option (Nat×Bool)}
theorem EK (hk:Mc κ) {t:TypeId} {parts:Array (Nat×Operand)} {fs:Array Field} {i:TypeInfo} {z:Value} {zs cs:List SV} {ps:List (Nat×Nat×SV)} (hu:P.underlying t=some (.struct fs)) (hi:P.info? t=some i) (hz:i.zero=some z)
  (hzs:lM z.cells.toList zs=true) (hfs:fs.all (fun f=>(P.info? f.type).isSome)=true)
  (hps:xZ (fun(p:Nat×Nat×SV) (q:Nat×Operand)=>(∃ f,fs[q.1]?=some f/\f.offset=p.1/\P.cellsOf f.type=p.2.1)/\ae w M κ p.2.2 (a.eval q.2)) ps parts.toList) (hf:zM zs ps=some cs):
  d6 P a ⟨dst,.build t parts,ty,pos,aft,gd⟩ w M κ (.agg cs):=by
 obtain⟨hz1,hz2⟩:=qg (w:=w) (M:=M) (κ:=κ) hzs
 have hpl:=F6 (P:=P) fs.toList (fun f hf=>by
  have:=Array.all_eq_true_iff_forall_mem.1 hfs f (by simpa using hf)
  simpa using this)
 have hq:xZ (fun(p:Nat×Nat×SV) (q:Nat×Value)=>((fs.toList.map fun f=>(f.offset,P.cellsOf f.type)).toArray[·]?:Nat->Option (Nat×Nat)) q.1=some (p.1,p.2.1)/\ae w M κ p.2.2 q.2) ps (parts.toList.map fun q=>(q.1,a.eval q.2)):=by
  clear hf
  generalize parts.toList=l at hps
  induction hps with
  |nil=>exact .nil
  | @cons p q ps qs h _ ih=>
   refine .cons ⟨?_,h.2⟩ ih
   obtain⟨⟨f,hf1,hf2,hf3⟩,_⟩:=h
   have:fs.toList[q.1]?=some f:=by simpa using hf1
   simp only[List.getElem?_toArray,O6,this,Pf,hf2,hf3]
 obtain⟨vs,h1,h2,h3⟩:=y9 hk _ ps _ zs cs _ hz1 hz2 hf hq
 have hb:P.built t (parts.toList.map fun q=>(q.1,a.eval q.2))=some vs.toArray:=by
  simp only[Program.built,hi,hu,hz,hpl]
  exact h1
 refine aB (v:= .agg vs.toArray) ?_ (by simp only[ae];exact⟨vs,rfl,h3,h2⟩)
 have hr:=run_build (P:=P) w t (parts.map fun q=>(q.1,a.eval q.2)) vs.toArray (by simpa using hb)
 simp only[execOp,Sem.run_bind]
 have e:(parts.map fun(x:Nat×Operand)=>match x with|(i,x)=>(i,a.eval x))=parts.map fun q=>(q.1,a.eval q.2):=rfl
 rw[e,hr]
 rfl
theorem DO (hk:Mc κ) {t:TypeId} {parts:Array (Nat×Operand)} {len:Nat} {e:TypeId} {i ie:TypeInfo} {z:Value} {zs cs:List SV} {ps:List (Nat×Nat×SV)} (hu:P.underlying t=some (.array len e)) (hi:P.info? t=some i) (hie:P.info? e=some ie) (hz:i.zero=some z)
  (hzs:lM z.cells.toList zs=true)
  (hps:xZ (fun(p:Nat×Nat×SV) (q:Nat×Operand)=>(p.1=q.1 * ie.size/\p.2.1=ie.size)/\ae w M κ p.2.2 (a.eval q.2)) ps parts.toList) (hf:zM zs ps=some cs):
  d6 P a ⟨dst,.build t parts,ty,pos,aft,gd⟩ w M κ (.agg cs):=by
 obtain⟨hz1,hz2⟩:=qg (w:=w) (M:=M) (κ:=κ) hzs
 have hq:xZ (fun(p:Nat×Nat×SV) (q:Nat×Value)=>(fun i:Nat=>some (i * ie.size,ie.size)) q.1=some (p.1,p.2.1)/\ae w M κ p.2.2 q.2) ps (parts.toList.map fun q=>(q.1,a.eval q.2)):=by
  clear hf
  generalize parts.toList=l at hps
  induction hps with
  |nil=>exact .nil
  | @cons p q ps qs h _ ih=>
   refine .cons ⟨?_,h.2⟩ ih
   obtain⟨⟨h1,h2⟩,_⟩:=h
   simp only[h1,h2]
 obtain⟨vs,h1,h2,h3⟩:=y9 hk (fun i:Nat=>some (i * ie.size,ie.size)) ps _ zs cs _ hz1 hz2 hf hq
 have hb:P.built t (parts.toList.map fun q=>(q.1,a.eval q.2))=some vs.toArray:=by
  simp only[Program.built,hi,hu,hz,hie]
  exact h1
 refine aB (v:= .agg vs.toArray) ?_ (by simp only[ae];exact⟨vs,rfl,h3,h2⟩)
 have hr:=run_build (P:=P) w t (parts.map fun q=>(q.1,a.eval q.2)) vs.toArray (by simpa using hb)
 simp only[execOp,Sem.run_bind]
 have e:(parts.map fun(x:Nat×Operand)=>match x with|(i,x)=>(i,a.eval x))=parts.map fun q=>(q.1,a.eval q.2):=rfl
 rw[e,hr]
 rfl
theorem y_ (sz:Nat):∀ (rows:List (List Value)) (qs:List (Nat×Value)) (done rest:List Value) (k:Nat),done.length=k * sz->rest.length=rows.length * sz->
  xZ (fun(r:List Value) (q:Nat×Value)=>r.length=sz/\q.2.cells=r.toArray) rows qs->(∀ j q,qs[j]?=some q->q.1=k+j)->
  Instr.fill (fun i=>some (i * sz,sz)) (done++rest).toArray qs=some (done++rows.flatten).toArray
 |[],qs,done,rest,k,hd,hr,hq,hj=>by
  cases hq
  have:rest=[]:=OX.1 (by simpa using hr)
  subst this
  simp[Instr.fill]
 |r::rows,qs,done,rest,k,hd,hr,hq,hj=>by
  cases hq with
  |cons h hqs=>
   rename_i q qs
   obtain⟨i,v⟩:=q
   obtain⟨h1,h2⟩:=h
   have hi:i=k:=by simpa using hj 0 (i,v) oS
   subst hi
   simp only[OW,PD,Nat.one_mul] at hr
   subst h1
   rw[zS _ (done++rest) r i (i * r.length) v qs rfl h2 oT]
   have e1:(done++rest).take (i * r.length)=done:=by rw[List.take_append_of_le_length oM,O8 oM]
   have e2:(done++rest).drop (i * r.length+r.length)=rest.drop r.length:=by
    rw[List.drop_append,PS oM]
    simp;congr 1;omega
   rw[e1,e2]
   have:=y_ r.length rows qs (done++r) (rest.drop r.length) (i+1) (by simp[hd,PD]) oT hqs (fun j q hjq=>by
    have:=hj (j+1) q (by simpa using hjq)
    omega)
   rw[this]
   simp
theorem ti (hk:Mc κ) {sz:Nat}:∀ {xs cs:List SV} {vs:List Value},kr sz xs=some cs->ai w M κ xs vs->∃ rs:List (List Value),xZ (fun(r:List Value) (v:Value)=>r.length=sz/\v.cells=r.toArray) rs vs/\
   ai w M κ cs rs.flatten/\(∀ x∈rs.flatten,x.oneCell'=true)/\rs.length=vs.length/\rs.flatten.length=xs.length * sz
 |[],cs,vs,h,hr=>by
  simp only[kr,Oy] at h;subst h
  unfold ai at hr;subst hr
  exact⟨[],.nil,by simp[ai],by simp,rfl,by simp⟩
 |x::xs,cs,vs,h,hr=>by
  unfold ai at hr
  obtain⟨u,us,rfl,h1,h2⟩:=hr
  unfold kr at h
  cases hro:x.cells? with
  |none=>simp[hro] at h
  |some r=>
   cases hrs:kr sz xs with
   |none=>simp[hro,hrs] at h
   |some rs=>
    simp only[hro,hrs] at h
    split at h
    ·rename_i hsz
     simp only[Oy] at h;subst h
     obtain⟨ys,hy1,hy2,hy3⟩:=h1.cells hk hro
     obtain⟨rss,k1,k2,k3,k4,k5⟩:=ti hk hrs h2
     have hyl:=hy3.length
     refine⟨ys::rss,.cons ⟨by omega,hy1⟩ k1,by simpa using hy3.append k2, ?_,by simp[k4], ?_⟩
     ·intro z hz
      simp only[O_,OV] at hz
      rcases hz with hz|hz
      ·exact hy2 z hz
      ·exact k3 z hz
     ·simp only[O_,OD,OW,k5,PD];omega
    ·cases h
theorem DP (hk:Mc κ) (hM:∀ b,M b->b<w.heap.size) {t e n sz:Nat} {parts:Array (Nat×Operand)} {i:TypeInfo} {z:Value} {xs cs:List SV} (hu:P.underlying t=some (.slice e)) (hi:P.info? e=some i) (hsz:i.size=sz) (hpos:0<sz) (hlim:n * sz<=16777216)
  (hz:i.zero=some z) (hzs:z.cells.size=sz) (hn:n=parts.size) (hxs:ai w M κ xs (parts.toList.map fun q=>a.eval q.2)) (hidx:∀ (j:Nat) q,parts.toList[j]?=some q->q.1=j) (hrows:kr sz xs=some cs):
  d6 P a ⟨dst,.buildSlice t n parts,ty,pos,aft,gd⟩ w M κ (.lit sz xs.length cs):=by
 obtain⟨rs,h1,h2,h3,h6,h7⟩:=ti hk hrows hxs
 have hxl:xs.length=n:=by have:=hxs.length;simp[hn] at this⊢;omega
 have hcells:∃ zc:List Value,zc.length=n * sz/\((Array.range (n * sz)).map (z.cells[· %z.cells.size]!))=zc.toArray:=⟨((Array.range (n * sz)).map (z.cells[· %z.cells.size]!)).toList,by simp,(Array.toArray_toList).symm⟩
 obtain⟨zc,hzc,hzc'⟩:=hcells
 have hlen:(parts.toList.map fun q=>a.eval q.2).length=n:=by simp[hn]
 have hq:xZ (fun(r:List Value) (q:Nat×Value)=>r.length=sz/\q.2.cells=r.toArray) rs (parts.toList.map fun q=>(q.1,a.eval q.2)):=by
  clear h2 h3 h6 h7 hidx hxs hlen hn hrows hxl
  generalize parts.toList=l at h1
  revert h1
  induction rs generalizing l with
  |nil=>intro h;cases l with|nil=>exact .nil|cons _ _=>cases h
  |cons r rs ih=>
   intro h
   cases l with
   |nil=>cases h
   |cons q l=>cases h with|cons g gs=>exact .cons g (ih l gs)
 have hfill:=y_ sz rs _ [] zc 0 oS (by rw[hzc,h6,hlen]) hq (fun j q hj=>by
  rw[O6] at hj
  cases hp:parts.toList[j]? with
  |none=>simp[hp] at hj
  |some p=>simp[hp] at hj;subst hj;simp[hidx j p hp])
 simp only[OR] at hfill
 refine⟨.slice (some ⟨w.heap.size,0,none⟩) n n,w.alloc (.cells rs.flatten.toArray e), ?_,(Below.refl _ _).alloc (OH _) _, ?_⟩
 ·have e1:(parts.map fun(x:Nat×Operand)=>match x with|(i,x)=>(i,a.eval x)).toList=parts.toList.map fun q=>(q.1,a.eval q.2):=by simp
  have hs:(sizeOf e).run P w= .ok sz w:=by simp[sizeOf,typeInfo,hi,hsz]
  have hzv:(zeroValue e).run P w= .ok z w:=by simp[zeroValue,typeInfo,hi,hz]
  simp only[execOp,Instr.buildSlice,Sem.run_bind,run_underlying hu,Result.andThen_ok,hs]
  rw[P7 oM]
  by_cases h0:n * sz=0
  ·have hz0:zc=[]:=OX.1 oM
   subst hz0
   simp only[h0,PR,Sem.run_bind,Sem.run_pure,Result.andThen_ok,e1]
   have:((Array.range 0).map (fun x=>(#[]:Array Value)[x%(#[]:Array Value).size]!))=(([]:List Value).toArray):=by simp
   rw[this,hfill]
   rfl
  ·simp only[h0,Pp,Sem.run_bind,hzv,Sem.run_pure,Result.andThen_ok,e1,hzc',hfill]
   rfl
 ·have hB:Below w.heap.size w (w.alloc (.cells rs.flatten.toArray e)):=(Below.refl _ _).alloc (OH _) _
  simp only[ae]
  rw[hxl] at h7⊢
  exact⟨w.heap.size,rs.flatten,rfl,fun h=>Nat.lt_irrefl _ (hM _ h),by simp,h7,h3,fun j v hj=>by rw[cell_of_row _ _ _ _ _ _ (heap_alloc_new w _)];simpa using hj,ai.ext (lL.of_below hB) _ _ h2⟩
theorem F7 (hk:Mc κ) {t e n sz:Nat} {parts:Array (Nat×Operand)} {i:TypeInfo} {z:Value} {xs cs:List SV} (hu:P.underlying t=some (.slice e)) (hi:P.info? e=some i) (hsz:i.size=sz) (hpos:0<sz) (hlim:n * sz<=16777216)
  (hz:i.zero=some z) (hzs:z.cells.size=sz) (hn:n=parts.size) (hxs:ai w M κ xs (parts.toList.map fun q=>a.eval q.2)) (hidx:∀ (j:Nat) q,parts.toList[j]?=some q->q.1=j) (hrows:kr sz xs=some cs):
  ∃ rs:List (List Value),(execOp a.eval ⟨dst,.buildSlice t n parts,ty,pos,aft,gd⟩).run P w= .ok (.value (.slice (some ⟨w.heap.size,0,none⟩) n n)) (w.alloc (.cells rs.flatten.toArray e))/\rs.flatten.length=n * sz/\(∀ x∈rs.flatten,x.oneCell'=true)/\ai w M κ cs rs.flatten:=by
 obtain⟨rs,h1,h2,h3,h6,h7⟩:=ti hk hrows hxs
 have hxl:xs.length=n:=by have:=hxs.length;simp[hn] at this⊢;omega
 have hcells:∃ zc:List Value,zc.length=n * sz/\((Array.range (n * sz)).map (z.cells[· %z.cells.size]!))=zc.toArray:=⟨((Array.range (n * sz)).map (z.cells[· %z.cells.size]!)).toList,by simp,(Array.toArray_toList).symm⟩
 obtain⟨zc,hzc,hzc'⟩:=hcells
 have hlen:(parts.toList.map fun q=>a.eval q.2).length=n:=by simp[hn]
 have hq:xZ (fun(r:List Value) (q:Nat×Value)=>r.length=sz/\q.2.cells=r.toArray) rs (parts.toList.map fun q=>(q.1,a.eval q.2)):=by
  clear h2 h3 h6 h7 hidx hxs hlen hn hrows hxl
  generalize parts.toList=l at h1
  revert h1
  induction rs generalizing l with
  |nil=>intro h;cases l with|nil=>exact .nil|cons _ _=>cases h
  |cons r rs ih=>
   intro h
   cases l with
   |nil=>cases h
   |cons q l=>cases h with|cons g gs=>exact .cons g (ih l gs)
 have hfill:=y_ sz rs _ [] zc 0 oS (by rw[hzc,h6,hlen]) hq (fun j q hj=>by
  rw[O6] at hj
  cases hp:parts.toList[j]? with
  |none=>simp[hp] at hj
  |some p=>simp[hp] at hj;subst hj;simp[hidx j p hp])
 simp only[OR] at hfill
 refine⟨rs, ?_,by rw[<-hxl];exact h7,h3,h2⟩
 have e1:(parts.map fun(x:Nat×Operand)=>match x with|(i,x)=>(i,a.eval x)).toList=parts.toList.map fun q=>(q.1,a.eval q.2):=by simp
 have hs:(sizeOf e).run P w= .ok sz w:=by simp[sizeOf,typeInfo,hi,hsz]
 have hzv:(zeroValue e).run P w= .ok z w:=by simp[zeroValue,typeInfo,hi,hz]
 simp only[execOp,Instr.buildSlice,Sem.run_bind,run_underlying hu,Result.andThen_ok,hs]
 rw[P7 oM]
 by_cases h0:n * sz=0
 ·have hz0:zc=[]:=OX.1 oM
  subst hz0
  simp only[h0,PR,Sem.run_bind,Sem.run_pure,Result.andThen_ok,e1]
  have:((Array.range 0).map (fun x=>(#[]:Array Value)[x%(#[]:Array Value).size]!))=(([]:List Value).toArray):=by simp
  rw[this,hfill]
  rfl
 ·simp only[h0,Pp,Sem.run_bind,hzv,Sem.run_pure,Result.andThen_ok,e1,hzc',hfill]
  rfl
theorem aS.drop {rows:List (List DV)} {b o sz:Nat} (h:aS w M rows b o sz) (l:Nat):aS w M (rows.drop l) b (o+l * sz) sz:=by
 induction l generalizing rows o with
 |zero=>simpa using h
 |succ l ih=>
  cases rows with
  |nil=>simp[aS]
  |cons r rows=>
   unfold aS at h
   have:=ih h.2.2
   rw[List.drop_succ_cons,show o+(l+1) * sz=o+sz+l * sz by rw[PD];omega]
   exact this
theorem aS.take {rows:List (List DV)} {b o sz:Nat} (h:aS w M rows b o sz) (l:Nat):aS w M (rows.take l) b o sz:=by
 induction l generalizing rows o with
 |zero=>simp[aS]
 |succ l ih=>
  cases rows with
  |nil=>simp[aS]
  |cons r rows=>
   unfold aS at h
   rw[Qk]
   unfold aS
   exact⟨h.1,h.2.1,ih h.2.2⟩
theorem qi {s:Nat->SV} {N:Nat} {lo:Option Operand} {l:Option SX} {r:Option Int} (hrep:∀ x y,lo=some x->l=some y->ae w M κ (ev s y) (a.eval x)) (hm:kU N lo l=true) (h:Ey s l=some r):
  (lo.map a.eval=none/\r=none)\/∃ k n,lo.map a.eval=some (.int k n)/\r=some n:=by
 cases lo with
 |none=>cases l with
  |none=>simp only[Ey,Oy] at h;subst h;exact .inl ⟨rfl,rfl⟩
  |some y=>simp[kU] at hm
 |some x=>cases l with
  |none=>simp[kU] at hm
  |some y=>
   have:=hrep x y rfl rfl
   unfold Ey at h
   simp only at h
   split at h
   ·rename_i k n heq
    rw[heq] at this
    simp only[ae,aQ] at this
    simp only[Oy] at h
    exact .inr ⟨k,n,by simp[this],h.symm⟩
   ·cases h
theorem qq (k:IntKind) (n:Int) (y:Nat) (c:BoundsCode) (h0:0<=n) (h1:n<=y):(Instr.sliceBound (.int k n) y c).run P w= .ok n.toNat w:=by
 simp[Instr.sliceBound,asIntOf,h0,h1]
theorem qz {isS:Bool} {len cap:Nat} {lo hi:Option Value} {l h:Option Int} (hl:(lo=none/\l=none)\/∃ k n,lo=some (.int k n)/\l=some n) (hh:(hi=none/\h=none)\/∃ k n,hi=some (.int k n)/\h=some n)
  (h0:0<=l.getD 0) (h1:l.getD 0<=h.getD len) (h2:h.getD len<=len) (hc:len<=cap):(Instr.sliceBounds isS len cap lo hi none).run P w= .ok ((l.getD 0).toNat,(h.getD len).toNat,cap) w:=by
 rcases hh with⟨rfl,rfl⟩|⟨k,n,rfl,rfl⟩
 ·simp only[PP] at *
  rcases hl with⟨rfl,rfl⟩|⟨k',n',rfl,rfl⟩
  ·simp[Instr.sliceBounds]
  ·simp only[Pl] at *
   have hb:=qq (P:=P) (w:=w) k' n' len .sliceB h0 h1
   simp[Instr.sliceBounds,hb]
 ·simp only[Pl] at *
  have hb:=qq (P:=P) (w:=w) k n cap (if isS then .sliceAcap else .sliceAlen) oM oM
  rcases hl with⟨rfl,rfl⟩|⟨k',n',rfl,rfl⟩
  ·simp[Instr.sliceBounds,hb]
  ·simp only[Pl] at *
   have hb':=qq (P:=P) (w:=w) k' n' n.toNat .sliceB h0 oM
   simp[Instr.sliceBounds,hb,hb']
theorem CX {t e sz:Nat} {x:Operand} {lo hi:Option Operand} {l h:Option Int} {rows:List (List DV)} (hu:P.underlying t=some (.slice e)) (hi':(P.info? e).isSome=true) (hsz:P.cellsOf e=sz) (hpos:0<sz)
  (hx:aQ w M (.slice rows) (a.eval x)) (hl:(lo.map a.eval=none/\l=none)\/∃ k n,lo.map a.eval=some (.int k n)/\l=some n) (hh:(hi.map a.eval=none/\h=none)\/∃ k n,hi.map a.eval=some (.int k n)/\h=some n)
  (hall:∀ r∈rows,r.length=sz) (h0:0<=l.getD 0) (h1:l.getD 0<=h.getD rows.length) (h2:h.getD rows.length<=rows.length):
  d6 P a ⟨dst,.slice t x lo hi none,ty,pos,aft,gd⟩ w M κ (.d (.slice ((rows.take (h.getD rows.length).toNat).drop (l.getD 0).toNat))):=by
 unfold aQ at hx
 obtain⟨ad,cap,hv,hc,hn,hr⟩:=hx
 have hb:=qz (P:=P) (w:=w) (isS:=true) hl hh h0 h1 h2 hc
 generalize hL:(l.getD 0).toNat=L at *
 generalize hH:(h.getD rows.length).toNat=H at *
 have hLH:L<=H:=by omega
 have hHl:H<=rows.length:=by omega
 refine aB (v:= .slice (if cap=L then ad else ad.map (·.add (L * sz))) (H - L) (cap - L)) ?_ ?_
 ·simp only[execOp,Instr.sliceAt,Instr.slice,Sem.run_bind,run_underlying hu,Result.andThen_ok,hv,Qn,hb,dH hi',hsz]
  rfl
 ·simp only[ae,aQ]
  refine⟨if cap=L then ad else ad.map (·.add (L * sz)),cap - L, ?_, ?_, ?_, ?_⟩
  ·have:(List.drop L (List.take H rows)).length=H - L:=by simp;omega
   rw[this]
  ·simp;omega
  ·intro hnone
   by_cases hcl:cap=L
   ·omega
   ·simp only[hcl,Pp] at hnone
    have:ad=none:=by simpa using hnone
    have:=hn this
    omega
  ·rcases hr with hr|⟨b,o,sz',rfl,hm,hlt,hrows⟩
   ·left;subst hr;simp
   ·by_cases hne:rows=[]
    ·left;subst hne;simp
    ·have hsz':sz'=sz:=by
      obtain⟨r,rs,rfl⟩:=List.exists_cons_of_ne_nil hne
      unfold aS at hrows
      rw[<-hrows.1];exact hall r oS
     subst hsz'
     by_cases hemp:H=L
     ·left
      rw[List.drop_eq_nil_iff];simp;omega
     ·right
      refine⟨b,o+L * sz',sz', ?_,hm,hlt,(hrows.take H).drop L⟩
      rw[P7 oM]
      simp[gm]
theorem EL {isS:Bool} {len cap:Nat} {lo:Option Value} {l:Option Int} {k k':IntKind} {h m:Int} (hl:(lo=none/\l=none)\/∃ k n,lo=some (.int k n)/\l=some n)
  (h0:0<=l.getD 0) (h1:l.getD 0<=h) (h2:h<=m) (h3:m<=cap):(Instr.sliceBounds isS len cap lo (some (.int k h)) (some (.int k' m))).run P w= .ok ((l.getD 0).toNat,h.toNat,m.toNat) w:=by
 have hb:=qq (P:=P) (w:=w) k' m cap (if isS then .slice3Acap else .slice3Alen) oM h3
 have hb2:=qq (P:=P) (w:=w) k h m.toNat .slice3B oM oM
 rcases hl with⟨rfl,rfl⟩|⟨k',n',rfl,rfl⟩
 ·simp[Instr.sliceBounds,hb,hb2]
 ·simp only[Pl] at *
  have hb':=qq (P:=P) (w:=w) k' n' h.toNat .slice3C h0 oM
  simp[Instr.sliceBounds,hb,hb2,hb']
theorem Bb {w:World} {M:Nat->Prop} {b:Nat}:∀ (k:Nat) (cs:List DV) (o:Nat),bO w M cs b o->bO w M (cs.drop k) b (o+k)
 |0,cs,o,h=>h
 |k+1,[],o,h=>by simp only[List.drop_nil];unfold bO;trivial
 |k+1,c::cs,o,h=>by
  unfold bO at h
  have:=Bb k cs (o+1) h.2
  rwa[show o+1+k=o+(k+1) by omega] at this
theorem zT {w:World} {M:Nat->Prop} {b:Nat}:∀ (cs:List DV) (o:Nat),bO w M cs b o->aS w M (cs.map fun c=>[c]) b o 1
 |[],o,h=>by simp only[PU];unfold aS;trivial
 |c::cs,o,h=>by
  unfold bO at h
  simp only[OQ]
  unfold aS
  refine⟨rfl, ?_,zT cs (o+1) h.2⟩
  unfold bO
  exact⟨h.1,by unfold bO;trivial⟩
theorem F8 {t e n:Nat} {x lo:Operand} {cs:List DV} {k:IntKind} {i:Int} (hu:P.underlying t=some (.array n e)) (hi':(P.info? e).isSome=true) (hsz:P.cellsOf e=1)
  (hx:aQ w M (.ptr cs) (a.eval x)) (hl:a.eval lo= .int k i) (hlen:cs.length=n) (h0:0<=i) (h1:i<=n):
  d6 P a ⟨dst,.slice t x (some lo) none none,ty,pos,aft,gd⟩ w M κ (.d (.slice ((cs.drop i.toNat).map fun c=>[c]))):=by
 unfold aQ at hx
 obtain⟨b,o,hv,hm,hb,hr⟩:=hx
 have hbd:=qz (P:=P) (w:=w) (isS:=false) (len:=n) (cap:=n) (lo:=some (.int k i)) (hi:=none) (l:=some i) (h:=none) (.inr ⟨k,i,rfl,rfl⟩) (.inl ⟨rfl,rfl⟩) (by simpa using h0) (by simpa using h1) oS (OH _)
 simp only[Pl,PP,PO] at hbd
 refine aB (v:= .slice (some (if n=i.toNat then⟨b,o,none⟩ else(⟨b,o,none⟩:Addr).add (i.toNat * 1))) (n - i.toNat) (n - i.toNat)) ?_ ?_
 ·simp only[execOp,Instr.sliceAt,Sem.run_bind,run_underlying hu,Result.andThen_ok,hv,hl,Pf,Qn,Instr.sureAddr,hbd,dH hi',hsz,Sem.run_pure]
 ·simp only[ae,aQ]
  have hln:((cs.drop i.toNat).map fun c=>[c]).length=n - i.toNat:=by simp[hlen]
  refine⟨some (if n=i.toNat then⟨b,o,none⟩ else(⟨b,o,none⟩:Addr).add (i.toNat * 1)),n - i.toNat,by rw[hln],by rw[hln];exact OH _,(fun h=>by cases h), ?_⟩
  by_cases hn:n=i.toNat
  ·refine .inl ?_
   rw[PS oM,PU]
  ·refine .inr ⟨b,o+i.toNat * 1,1, ?_,hm,hb, ?_⟩
   ·rw[P7 hn,gm]
   ·rw[Nat.mul_one]
    exact zT _ _ (Bb _ _ _ hr)
theorem F9 {t e sz:Nat} {x hi mx:Operand} {lo:Option Operand} {l:Option Int} {k k':IntKind} {h m:Int} {rows:List (List DV)} (hu:P.underlying t=some (.slice e)) (hi':(P.info? e).isSome=true) (hsz:P.cellsOf e=sz)
  (hx:aQ w M (.slice rows) (a.eval x)) (hl:(lo.map a.eval=none/\l=none)\/∃ k n,lo.map a.eval=some (.int k n)/\l=some n) (hh:a.eval hi= .int k h) (hm:a.eval mx= .int k' m)
  (hall:∀ r∈rows,r.length=sz) (h0:0<=l.getD 0) (h1:l.getD 0<=h) (h2:h<=m) (h3:m<=rows.length):
  d6 P a ⟨dst,.slice t x lo (some hi) (some mx),ty,pos,aft,gd⟩ w M κ (.d (.slice ((rows.take h.toNat).drop (l.getD 0).toNat))):=by
 unfold aQ at hx
 obtain⟨ad,cap,hv,hc,hn,hr⟩:=hx
 have hb:=EL (P:=P) (w:=w) (isS:=true) (len:=rows.length) (cap:=cap) (k:=k) (k':=k') hl h0 h1 h2 oM
 generalize hL:(l.getD 0).toNat=L at *
 have hLH:L<=h.toNat:=by omega
 have hHl:h.toNat<=rows.length:=by omega
 refine aB (v:= .slice (if m.toNat=L then ad else ad.map (·.add (L * sz))) (h.toNat - L) (m.toNat - L)) ?_ ?_
 ·simp only[execOp,Instr.sliceAt,Instr.slice,Sem.run_bind,run_underlying hu,Result.andThen_ok,hv,Pf,hh,hm,hb,dH hi',hsz]
  rfl
 ·simp only[ae,aQ]
  refine⟨if m.toNat=L then ad else ad.map (·.add (L * sz)),m.toNat - L, ?_, ?_, ?_, ?_⟩
  ·have:(List.drop L (List.take h.toNat rows)).length=h.toNat - L:=by simp;omega
   rw[this]
  ·simp;omega
  ·intro hnone
   by_cases hcl:m.toNat=L
   ·omega
   ·simp only[hcl,Pp] at hnone
    have:ad=none:=by simpa using hnone
    have:=hn this
    omega
  ·rcases hr with hr|⟨b,o,sz',rfl,hm',hlt,hrows⟩
   ·left;subst hr;simp
   ·by_cases hne:rows=[]
    ·left;subst hne;simp
    ·have hsz':sz'=sz:=by
      obtain⟨r,rs,rfl⟩:=List.exists_cons_of_ne_nil hne
      unfold aS at hrows
      rw[<-hrows.1];exact hall r oS
     subst hsz'
     by_cases hemp:h.toNat=L
     ·left
      rw[List.drop_eq_nil_iff];simp;omega
     ·right
      refine⟨b,o+L * sz',sz', ?_,hm',hlt,(hrows.take h.toNat).drop L⟩
      rw[P7 oM]
      simp[gm]
theorem Cw {t e:Nat} {x:Operand} {lo hi:Option Operand} {l h:Option Int} (hu:P.underlying t=some (.slice e)) (hi':(P.info? e).isSome=true)
  (hx:a.eval x= .slice none 0 0) (hl:(lo.map a.eval=none/\l=none)\/∃ k n,lo.map a.eval=some (.int k n)/\l=some n) (hh:(hi.map a.eval=none/\h=none)\/∃ k n,hi.map a.eval=some (.int k n)/\h=some n)
  (h0:l.getD 0=0) (h1:h.getD 0=0):d6 P a ⟨dst,.slice t x lo hi none,ty,pos,aft,gd⟩ w M κ .nils:=by
 have hb:=qz (P:=P) (w:=w) (isS:=true) (len:=0) (cap:=0) hl hh oM (by simp only[Int.natCast_zero] at *;omega) (by simp only[Int.natCast_zero] at *;omega) (OH _)
 refine aB (v:= .slice none 0 0) ?_ (by simp[ae])
 simp only[execOp,Instr.sliceAt,Instr.slice,Sem.run_bind,run_underlying hu,Result.andThen_ok,hx,Qn,hb,dH hi']
 simp only[Int.natCast_zero] at *
 simp[h0,h1]
theorem F_ {t:Nat} {x:Operand} {lo hi:Option Operand} {l h:Option Int} {s:List UInt8} (hu:P.underlying t=some .string)
  (hx:a.eval x= .string ⟨s.toArray⟩) (hl:(lo.map a.eval=none/\l=none)\/∃ k n,lo.map a.eval=some (.int k n)/\l=some n) (hh:(hi.map a.eval=none/\h=none)\/∃ k n,hi.map a.eval=some (.int k n)/\h=some n)
  (h0:0<=l.getD 0) (h1:l.getD 0<=h.getD s.length) (h2:h.getD s.length<=s.length):
  d6 P a ⟨dst,.slice t x lo hi none,ty,pos,aft,gd⟩ w M κ (.d (.str ((s.take (h.getD s.length).toNat).drop (l.getD 0).toNat))):=by
 have hb:=qz (P:=P) (w:=w) (isS:=false) hl hh h0 h1 h2 (OH _)
 refine aB (v:= .string ⟨((s.take (h.getD s.length).toNat).drop (l.getD 0).toNat).toArray⟩) ?_ (by simp[ae,aQ])
 simp only[execOp,Instr.sliceAt,Instr.slice,Sem.run_bind,run_underlying hu,Result.andThen_ok,hx,Qn,GS,hb,Option.isSome_none,O5,Pp]
 rw[Lib.extract_eq]
 simp only[List.drop_take]
 rfl
end
