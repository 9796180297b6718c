/-
  My text.
-/
import Derived.Test.YtgocgdgknpdknaaGreatDoorSXEngE
namespace Go.Proofs.YtgocgdgknpdknaaGreatDoor
set_option linter.unusedVariables false
open Go.RowKit
inductive t7 {α β:Type} (R:α->β->Prop):List α->List β->Prop
 |nil:t7 R [] []
 |cons {a:α} {b:β} {as:List α} {bs:List β}:R a b->t7 R as bs->t7 R (a::as) (b::bs)
theorem EH (off:Nat):∀ (vs:List Value) (k:Nat) (zs:List Value),off+k+vs.length<=zs.length->
  (vs.zipIdx k).foldl (fun(cs:Array Value) (p:Value×Nat)=>cs.setIfInBounds (off+p.2) p.1) zs.toArray=(zs.take (off+k)++vs++zs.drop (off+k+vs.length)).toArray
 |[],k,zs,_=>by simp
 |v::vs,k,zs,h=>by
  simp only[JT] at h
  simp only[List.zipIdx_cons,List.foldl_cons,List.setIfInBounds_toArray]
  rw[EH off vs (k+1) (zs.set (off+k) v) oT]
  congr 1
  have e1:(zs.set (off+k) v).take (off+(k+1))=zs.take (off+k)++[v]:=by
   rw[<-Nat.add_assoc,List.take_add_one]
   simp[List.take_set_of_le,show off+k<zs.length by omega]
  have e2:(zs.set (off+k) v).drop (off+(k+1)+vs.length)=zs.drop (off+k+(v::vs).length):=by
   rw[List.drop_set_of_lt oM]
   congr 1
   simp;omega
  rw[e1,e2]
  simp
theorem vP (place:Nat->Option (Nat×Nat)) (zs vs:List Value) (i off:Nat) (v:Value) (rest:List (Nat×Value)) (hp:place i=some (off,vs.length)) (hv:v.cells=vs.toArray) (hl:off+vs.length<=zs.length):
  Instr.fill place zs.toArray ((i,v)::rest)=Instr.fill place (zs.take off++vs++zs.drop (off+vs.length)).toArray rest:=by
 have:=EH off vs 0 zs (by simpa using hl)
 simp only[Lg] at this
 rw[Instr.fill]
 simp only[hp,hv,List.size_toArray]
 rw[if_neg oT]
 congr 1
 rw[<-this]
 simp
section
variable {P:Program} {w:World} {M:Nat->Prop} {κ:Nat->Value}
theorem uW (hk:Hq κ) (place:Nat->Option (Nat×Nat)):∀ (ps:List (Nat×Nat×SV)) (qs:List (Nat×Value)) (zs cs:List SV) (zvs:List Value),ai w M κ zs zvs->(∀ x∈zvs,x.oneCell'=true)->vJ zs ps=some cs->
  t7 (fun(p:Nat×Nat×SV) (q:Nat×Value)=>place q.1=some (p.1,p.2.1)/\ae w M κ p.2.2 q.2) ps qs->
  ∃ vs:List Value,Instr.fill place zvs.toArray qs=some vs.toArray/\ai w M κ cs vs/\(∀ x∈vs,x.oneCell'=true)
 |[],qs,zs,cs,zvs,hz,h1,hf,hq=>by
  cases hq
  simp only[vJ,JN] at hf
  subst hf
  exact⟨zvs,by simp[Instr.fill],hz,h1⟩
 |(off,n,x)::ps,qs,zs,cs,zvs,hz,h1,hf,hq=>by
  cases hq with
  |cons hq hqs=>
   rename_i q qs
   obtain⟨i,v⟩:=q
   simp only at hq
   obtain⟨hp,hr⟩:=hq
   unfold vJ at hf
   cases hc:x.cells? with
   |none=>simp[hc] at hf
   |some ds=>
    simp only[hc] at hf
    split at hf
    ·rename_i hn
     obtain⟨hn,hle⟩:=hn
     obtain⟨us,hu,hu1,hus⟩:=hr.cells hk hc
     have hlen:=hus.length
     have hzl:=hz.length
     have hn':us.length=n:=by omega
     subst hn'
     rw[vP place zvs us i off v qs hp hu oM]
     refine uW hk place ps qs _ cs _ ((hz.take off).append hus|>.append (hz.drop _)) ?_ hf hqs
     intro y hy
     simp only[Kc] at hy
     rcases hy with(hy|hy)|hy
     ·exact h1 y (Kl hy)
     ·exact hu1 y hy
     ·exact h1 y (KH hy)
    ·cases hf
theorem B1 (fs:List Field) (h:∀ f∈fs,(P.info? f.type).isSome=true):fs.mapM (fun f=>(P.info? f.type).map fun i=>(f.offset,i.size))=some (fs.map fun f=>(f.offset,P.cellsOf f.type)):=by
 induction fs with
 |nil=>rfl
 |cons f fs ih=>
  obtain⟨i,hi⟩:=Kz.1 (h f oS)
  simp[List.mapM_cons,ih fun g hg=>h g (by simp[hg]),hi,Program.cellsOf]
variable {a:Act} {dst:Option Tmp} {ty:TypeId} {pos:String} {aft:Array Edge} {gd:Option (Nat×Bool)}
theorem AF (hk:Hq κ) {t:TypeId} {parts:Array (Nat×Operand)} {fs:Array Field} {i:TypeInfo} {z:Value} {zs cs:List SV} {ps:List (Nat×Nat×SV)} (hu:P.underlying t=some (.struct fs)) (hi:P.info? t=some i) (hz:i.zero=some z)
  (hzs:jd z.cells.toList zs=true) (hfs:fs.all (fun f=>(P.info? f.type).isSome)=true)
  (hps:t7 (fun(p:Nat×Nat×SV) (q:Nat×Operand)=>(∃ f,fs[q.1]?=some f/\f.offset=p.1/\P.cellsOf f.type=p.2.1)/\ae w M κ p.2.2 (a.eval q.2)) ps parts.toList) (hf:vJ zs ps=some cs):
  cG P a ⟨dst,.build t parts,ty,pos,aft,gd⟩ w M κ (.agg cs):=by
 obtain⟨hz1,hz2⟩:=mR (w:=w) (M:=M) (κ:=κ) hzs
 have hpl:=B1 (P:=P) fs.toList (fun f hf=>by
  have:=Array.all_eq_true_iff_forall_mem.1 hfs f (by simpa using hf)
  simpa using this)
 have hq:t7 (fun(p:Nat×Nat×SV) (q:Nat×Value)=>((fs.toList.map fun f=>(f.offset,P.cellsOf f.type)).toArray[·]?:Nat->Option (Nat×Nat)) q.1=some (p.1,p.2.1)/\ae w M κ p.2.2 q.2) ps (parts.toList.map fun q=>(q.1,a.eval q.2)):=by
  clear hf
  generalize parts.toList=l at hps
  induction hps with
  |nil=>exact .nil
  | @cons p q ps qs h _ ih=>
   refine .cons ⟨?_,h.2⟩ ih
   obtain⟨⟨f,hf1,hf2,hf3⟩,_⟩:=h
   have:fs.toList[q.1]?=some f:=by simpa using hf1
   simp only[List.getElem?_toArray,Kh,this,Ku,hf2,hf3]
 obtain⟨vs,h1,h2,h3⟩:=uW hk _ ps _ zs cs _ hz1 hz2 hf hq
 have hb:P.built t (parts.toList.map fun q=>(q.1,a.eval q.2))=some vs.toArray:=by
  simp only[Program.built,hi,hu,hz,hpl]
  exact h1
 refine aq (v:= .agg vs.toArray) ?_ (by simp only[ae];exact⟨vs,rfl,h3,h2⟩)
 have hr:=run_build (P:=P) w t (parts.map fun q=>(q.1,a.eval q.2)) vs.toArray (by simpa using hb)
 simp only[execOp,Sem.run_bind]
 have e:(parts.map fun(x:Nat×Operand)=>match x with|(i,x)=>(i,a.eval x))=parts.map fun q=>(q.1,a.eval q.2):=rfl
 rw[e,hr]
 rfl
theorem zB (hk:Hq κ) {t:TypeId} {parts:Array (Nat×Operand)} {len:Nat} {e:TypeId} {i ie:TypeInfo} {z:Value} {zs cs:List SV} {ps:List (Nat×Nat×SV)} (hu:P.underlying t=some (.array len e)) (hi:P.info? t=some i) (hie:P.info? e=some ie) (hz:i.zero=some z)
  (hzs:jd z.cells.toList zs=true)
  (hps:t7 (fun(p:Nat×Nat×SV) (q:Nat×Operand)=>(p.1=q.1 * ie.size/\p.2.1=ie.size)/\ae w M κ p.2.2 (a.eval q.2)) ps parts.toList) (hf:vJ zs ps=some cs):
  cG P a ⟨dst,.build t parts,ty,pos,aft,gd⟩ w M κ (.agg cs):=by
 obtain⟨hz1,hz2⟩:=mR (w:=w) (M:=M) (κ:=κ) hzs
 have hq:t7 (fun(p:Nat×Nat×SV) (q:Nat×Value)=>(fun i:Nat=>some (i * ie.size,ie.size)) q.1=some (p.1,p.2.1)/\ae w M κ p.2.2 q.2) ps (parts.toList.map fun q=>(q.1,a.eval q.2)):=by
  clear hf
  generalize parts.toList=l at hps
  induction hps with
  |nil=>exact .nil
  | @cons p q ps qs h _ ih=>
   refine .cons ⟨?_,h.2⟩ ih
   obtain⟨⟨h1,h2⟩,_⟩:=h
   simp only[h1,h2]
 obtain⟨vs,h1,h2,h3⟩:=uW hk (fun i:Nat=>some (i * ie.size,ie.size)) ps _ zs cs _ hz1 hz2 hf hq
 have hb:P.built t (parts.toList.map fun q=>(q.1,a.eval q.2))=some vs.toArray:=by
  simp only[Program.built,hi,hu,hz,hie]
  exact h1
 refine aq (v:= .agg vs.toArray) ?_ (by simp only[ae];exact⟨vs,rfl,h3,h2⟩)
 have hr:=run_build (P:=P) w t (parts.map fun q=>(q.1,a.eval q.2)) vs.toArray (by simpa using hb)
 simp only[execOp,Sem.run_bind]
 have e:(parts.map fun(x:Nat×Operand)=>match x with|(i,x)=>(i,a.eval x))=parts.map fun q=>(q.1,a.eval q.2):=rfl
 rw[e,hr]
 rfl
theorem uX (sz:Nat):∀ (rows:List (List Value)) (qs:List (Nat×Value)) (done rest:List Value) (k:Nat),done.length=k * sz->rest.length=rows.length * sz->
  t7 (fun(r:List Value) (q:Nat×Value)=>r.length=sz/\q.2.cells=r.toArray) rows qs->(∀ j q,qs[j]?=some q->q.1=k+j)->
  Instr.fill (fun i=>some (i * sz,sz)) (done++rest).toArray qs=some (done++rows.flatten).toArray
 |[],qs,done,rest,k,hd,hr,hq,hj=>by
  cases hq
  have:rest=[]:=J7.1 (by simpa using hr)
  subst this
  simp[Instr.fill]
 |r::rows,qs,done,rest,k,hd,hr,hq,hj=>by
  cases hq with
  |cons h hqs=>
   rename_i q qs
   obtain⟨i,v⟩:=q
   obtain⟨h1,h2⟩:=h
   have hi:i=k:=by simpa using hj 0 (i,v) oS
   subst hi
   simp only[JT,KT,Nat.one_mul] at hr
   subst h1
   rw[vP _ (done++rest) r i (i * r.length) v qs rfl h2 oT]
   have e1:(done++rest).take (i * r.length)=done:=by rw[List.take_append_of_le_length oM,Ki oM]
   have e2:(done++rest).drop (i * r.length+r.length)=rest.drop r.length:=by
    rw[List.drop_append,KZ oM]
    simp;congr 1;omega
   rw[e1,e2]
   have:=uX r.length rows qs (done++r) (rest.drop r.length) (i+1) (by simp[hd,KT]) oT hqs (fun j q hjq=>by
    have:=hj (j+1) q (by simpa using hjq)
    omega)
   rw[this]
   simp
theorem pT (hk:Hq κ) {sz:Nat}:∀ {xs cs:List SV} {vs:List Value},ia sz xs=some cs->ai w M κ xs vs->∃ rs:List (List Value),t7 (fun(r:List Value) (v:Value)=>r.length=sz/\v.cells=r.toArray) rs vs/\
   ai w M κ cs rs.flatten/\(∀ x∈rs.flatten,x.oneCell'=true)/\rs.length=vs.length/\rs.flatten.length=xs.length * sz
 |[],cs,vs,h,hr=>by
  simp only[ia,JN] at h;subst h
  unfold ai at hr;subst hr
  exact⟨[],.nil,by simp[ai],by simp,rfl,by simp⟩
 |x::xs,cs,vs,h,hr=>by
  unfold ai at hr
  obtain⟨u,us,rfl,h1,h2⟩:=hr
  unfold ia at h
  cases hro:x.cells? with
  |none=>simp[hro] at h
  |some r=>
   cases hrs:ia sz xs with
   |none=>simp[hro,hrs] at h
   |some rs=>
    simp only[hro,hrs] at h
    split at h
    ·rename_i hsz
     simp only[JN] at h;subst h
     obtain⟨ys,hy1,hy2,hy3⟩:=h1.cells hk hro
     obtain⟨rss,k1,k2,k3,k4,k5⟩:=pT hk hrs h2
     have hyl:=hy3.length
     refine⟨ys::rss,.cons ⟨by omega,hy1⟩ k1,by simpa using hy3.append k2, ?_,by simp[k4], ?_⟩
     ·intro z hz
      simp only[Kv,Kc] at hz
      rcases hz with hz|hz
      ·exact hy2 z hz
      ·exact k3 z hz
     ·simp only[Kv,JR,JT,k5,KT];omega
    ·cases h
theorem zC (hk:Hq κ) (hM:∀ b,M b->b<w.heap.size) {t e n sz:Nat} {parts:Array (Nat×Operand)} {i:TypeInfo} {z:Value} {xs cs:List SV} (hu:P.underlying t=some (.slice e)) (hi:P.info? e=some i) (hsz:i.size=sz) (hpos:0<sz) (hlim:n * sz<=16777216)
  (hz:i.zero=some z) (hzs:z.cells.size=sz) (hn:n=parts.size) (hxs:ai w M κ xs (parts.toList.map fun q=>a.eval q.2)) (hidx:∀ (j:Nat) q,parts.toList[j]?=some q->q.1=j) (hrows:ia sz xs=some cs):
  cG P a ⟨dst,.buildSlice t n parts,ty,pos,aft,gd⟩ w M κ (.lit sz xs.length cs):=by
 obtain⟨rs,h1,h2,h3,h6,h7⟩:=pT hk hrows hxs
 have hxl:xs.length=n:=by have:=hxs.length;simp[hn] at this⊢;omega
 have hcells:∃ zc:List Value,zc.length=n * sz/\((Array.range (n * sz)).map (z.cells[· %z.cells.size]!))=zc.toArray:=⟨((Array.range (n * sz)).map (z.cells[· %z.cells.size]!)).toList,by simp,(Array.toArray_toList).symm⟩
 obtain⟨zc,hzc,hzc'⟩:=hcells
 have hlen:(parts.toList.map fun q=>a.eval q.2).length=n:=by simp[hn]
 have hq:t7 (fun(r:List Value) (q:Nat×Value)=>r.length=sz/\q.2.cells=r.toArray) rs (parts.toList.map fun q=>(q.1,a.eval q.2)):=by
  clear h2 h3 h6 h7 hidx hxs hlen hn hrows hxl
  generalize parts.toList=l at h1
  revert h1
  induction rs generalizing l with
  |nil=>intro h;cases l with|nil=>exact .nil|cons _ _=>cases h
  |cons r rs ih=>
   intro h
   cases l with
   |nil=>cases h
   |cons q l=>cases h with|cons g gs=>exact .cons g (ih l gs)
 have hfill:=uX sz rs _ [] zc 0 oS (by rw[hzc,h6,hlen]) hq (fun j q hj=>by
  rw[Kh] at hj
  cases hp:parts.toList[j]? with
  |none=>simp[hp] at hj
  |some p=>simp[hp] at hj;subst hj;simp[hidx j p hp])
 simp only[Kd] at hfill
 refine⟨.slice (some ⟨w.heap.size,0,none⟩) n n,w.alloc (.cells rs.flatten.toArray e), ?_,(Below.refl _ _).alloc (JW _) _, ?_⟩
 ·have e1:(parts.map fun(x:Nat×Operand)=>match x with|(i,x)=>(i,a.eval x)).toList=parts.toList.map fun q=>(q.1,a.eval q.2):=by simp
  have hs:(sizeOf e).run P w= .ok sz w:=by simp[sizeOf,typeInfo,hi,hsz]
  have hzv:(zeroValue e).run P w= .ok z w:=by simp[zeroValue,typeInfo,hi,hz]
  simp only[execOp,Instr.buildSlice,Sem.run_bind,run_underlying hu,Result.andThen_ok,hs]
  rw[if_neg oM]
  by_cases h0:n * sz=0
  ·have hz0:zc=[]:=J7.1 oM
   subst hz0
   simp only[h0,K4,Sem.run_bind,Sem.run_pure,Result.andThen_ok,e1]
   have:((Array.range 0).map (fun x=>(#[]:Array Value)[x%(#[]:Array Value).size]!))=(([]:List Value).toArray):=by simp
   rw[this,hfill]
   rfl
  ·simp only[h0,KG,Sem.run_bind,hzv,Sem.run_pure,Result.andThen_ok,e1,hzc',hfill]
   rfl
 ·have hB:Below w.heap.size w (w.alloc (.cells rs.flatten.toArray e)):=(Below.refl _ _).alloc (JW _) _
  simp only[ae]
  rw[hxl] at h7⊢
  exact⟨w.heap.size,rs.flatten,rfl,fun h=>Nat.lt_irrefl _ (hM _ h),by simp,h7,h3,fun j v hj=>by rw[cell_of_row _ _ _ _ _ _ (heap_alloc_new w _)];simpa using hj,ai.ext (kc.of_below hB) _ _ h2⟩
theorem B2 (hk:Hq κ) {t e n sz:Nat} {parts:Array (Nat×Operand)} {i:TypeInfo} {z:Value} {xs cs:List SV} (hu:P.underlying t=some (.slice e)) (hi:P.info? e=some i) (hsz:i.size=sz) (hpos:0<sz) (hlim:n * sz<=16777216)
  (hz:i.zero=some z) (hzs:z.cells.size=sz) (hn:n=parts.size) (hxs:ai w M κ xs (parts.toList.map fun q=>a.eval q.2)) (hidx:∀ (j:Nat) q,parts.toList[j]?=some q->q.1=j) (hrows:ia sz xs=some cs):
  ∃ rs:List (List Value),(execOp a.eval ⟨dst,.buildSlice t n parts,ty,pos,aft,gd⟩).run P w= .ok (.value (.slice (some ⟨w.heap.size,0,none⟩) n n)) (w.alloc (.cells rs.flatten.toArray e))/\rs.flatten.length=n * sz/\(∀ x∈rs.flatten,x.oneCell'=true)/\ai w M κ cs rs.flatten:=by
 obtain⟨rs,h1,h2,h3,h6,h7⟩:=pT hk hrows hxs
 have hxl:xs.length=n:=by have:=hxs.length;simp[hn] at this⊢;omega
 have hcells:∃ zc:List Value,zc.length=n * sz/\((Array.range (n * sz)).map (z.cells[· %z.cells.size]!))=zc.toArray:=⟨((Array.range (n * sz)).map (z.cells[· %z.cells.size]!)).toList,by simp,(Array.toArray_toList).symm⟩
 obtain⟨zc,hzc,hzc'⟩:=hcells
 have hlen:(parts.toList.map fun q=>a.eval q.2).length=n:=by simp[hn]
 have hq:t7 (fun(r:List Value) (q:Nat×Value)=>r.length=sz/\q.2.cells=r.toArray) rs (parts.toList.map fun q=>(q.1,a.eval q.2)):=by
  clear h2 h3 h6 h7 hidx hxs hlen hn hrows hxl
  generalize parts.toList=l at h1
  revert h1
  induction rs generalizing l with
  |nil=>intro h;cases l with|nil=>exact .nil|cons _ _=>cases h
  |cons r rs ih=>
   intro h
   cases l with
   |nil=>cases h
   |cons q l=>cases h with|cons g gs=>exact .cons g (ih l gs)
 have hfill:=uX sz rs _ [] zc 0 oS (by rw[hzc,h6,hlen]) hq (fun j q hj=>by
  rw[Kh] at hj
  cases hp:parts.toList[j]? with
  |none=>simp[hp] at hj
  |some p=>simp[hp] at hj;subst hj;simp[hidx j p hp])
 simp only[Kd] at hfill
 refine⟨rs, ?_,by rw[<-hxl];exact h7,h3,h2⟩
 have e1:(parts.map fun(x:Nat×Operand)=>match x with|(i,x)=>(i,a.eval x)).toList=parts.toList.map fun q=>(q.1,a.eval q.2):=by simp
 have hs:(sizeOf e).run P w= .ok sz w:=by simp[sizeOf,typeInfo,hi,hsz]
 have hzv:(zeroValue e).run P w= .ok z w:=by simp[zeroValue,typeInfo,hi,hz]
 simp only[execOp,Instr.buildSlice,Sem.run_bind,run_underlying hu,Result.andThen_ok,hs]
 rw[if_neg oM]
 by_cases h0:n * sz=0
 ·have hz0:zc=[]:=J7.1 oM
  subst hz0
  simp only[h0,K4,Sem.run_bind,Sem.run_pure,Result.andThen_ok,e1]
  have:((Array.range 0).map (fun x=>(#[]:Array Value)[x%(#[]:Array Value).size]!))=(([]:List Value).toArray):=by simp
  rw[this,hfill]
  rfl
 ·simp only[h0,KG,Sem.run_bind,hzv,Sem.run_pure,Result.andThen_ok,e1,hzc',hfill]
  rfl
theorem aE.drop {rows:List (List DV)} {b o sz:Nat} (h:aE w M rows b o sz) (l:Nat):aE w M (rows.drop l) b (o+l * sz) sz:=by
 induction l generalizing rows o with
 |zero=>simpa using h
 |succ l ih=>
  cases rows with
  |nil=>simp[aE]
  |cons r rows=>
   unfold aE at h
   have:=ih h.2.2
   rw[List.drop_succ_cons,show o+(l+1) * sz=o+sz+l * sz by rw[KT];omega]
   exact this
theorem aE.take {rows:List (List DV)} {b o sz:Nat} (h:aE w M rows b o sz) (l:Nat):aE w M (rows.take l) b o sz:=by
 induction l generalizing rows o with
 |zero=>simp[aE]
 |succ l ih=>
  cases rows with
  |nil=>simp[aE]
  |cons r rows=>
   unfold aE at h
   rw[Lr]
   unfold aE
   exact⟨h.1,h.2.1,ih h.2.2⟩
theorem mS {s:Nat->SV} {N:Nat} {lo:Option Operand} {l:Option SX} {r:Option Int} (hrep:∀ x y,lo=some x->l=some y->ae w M κ (ev s y) (a.eval x)) (hm:iM N lo l=true) (h:Ar s l=some r):
  (lo.map a.eval=none/\r=none)\/∃ k n,lo.map a.eval=some (.int k n)/\r=some n:=by
 cases lo with
 |none=>cases l with
  |none=>simp only[Ar,JN] at h;subst h;exact .inl ⟨rfl,rfl⟩
  |some y=>simp[iM] at hm
 |some x=>cases l with
  |none=>simp[iM] at hm
  |some y=>
   have:=hrep x y rfl rfl
   unfold Ar at h
   simp only at h
   split at h
   ·rename_i k n heq
    rw[heq] at this
    simp only[ae,aD] at this
    simp only[JN] at h
    exact .inr ⟨k,n,by simp[this],h.symm⟩
   ·cases h
theorem nb (k:IntKind) (n:Int) (y:Nat) (c:BoundsCode) (h0:0<=n) (h1:n<=y):(Instr.sliceBound (.int k n) y c).run P w= .ok n.toNat w:=by
 simp[Instr.sliceBound,asIntOf,h0,h1]
theorem nj {isS:Bool} {len cap:Nat} {lo hi:Option Value} {l h:Option Int} (hl:(lo=none/\l=none)\/∃ k n,lo=some (.int k n)/\l=some n) (hh:(hi=none/\h=none)\/∃ k n,hi=some (.int k n)/\h=some n)
  (h0:0<=l.getD 0) (h1:l.getD 0<=h.getD len) (h2:h.getD len<=len) (hc:len<=cap):(Instr.sliceBounds isS len cap lo hi none).run P w= .ok ((l.getD 0).toNat,(h.getD len).toNat,cap) w:=by
 rcases hh with⟨rfl,rfl⟩|⟨k,n,rfl,rfl⟩
 ·simp only[KS] at *
  rcases hl with⟨rfl,rfl⟩|⟨k',n',rfl,rfl⟩
  ·simp[Instr.sliceBounds]
  ·simp only[Kr] at *
   have hb:=nb (P:=P) (w:=w) k' n' len .sliceB h0 h1
   simp[Instr.sliceBounds,hb]
 ·simp only[Kr] at *
  have hb:=nb (P:=P) (w:=w) k n cap (if isS then .sliceAcap else .sliceAlen) oM oM
  rcases hl with⟨rfl,rfl⟩|⟨k',n',rfl,rfl⟩
  ·simp[Instr.sliceBounds,hb]
  ·simp only[Kr] at *
   have hb':=nb (P:=P) (w:=w) k' n' n.toNat .sliceB h0 oM
   simp[Instr.sliceBounds,hb,hb']
theorem yO {t e sz:Nat} {x:Operand} {lo hi:Option Operand} {l h:Option Int} {rows:List (List DV)} (hu:P.underlying t=some (.slice e)) (hi':(P.info? e).isSome=true) (hsz:P.cellsOf e=sz) (hpos:0<sz)
  (hx:aD w M (.slice rows) (a.eval x)) (hl:(lo.map a.eval=none/\l=none)\/∃ k n,lo.map a.eval=some (.int k n)/\l=some n) (hh:(hi.map a.eval=none/\h=none)\/∃ k n,hi.map a.eval=some (.int k n)/\h=some n)
  (hall:∀ r∈rows,r.length=sz) (h0:0<=l.getD 0) (h1:l.getD 0<=h.getD rows.length) (h2:h.getD rows.length<=rows.length):
  cG P a ⟨dst,.slice t x lo hi none,ty,pos,aft,gd⟩ w M κ (.d (.slice ((rows.take (h.getD rows.length).toNat).drop (l.getD 0).toNat))):=by
 unfold aD at hx
 obtain⟨ad,cap,hv,hc,hn,hr⟩:=hx
 have hb:=nj (P:=P) (w:=w) (isS:=true) hl hh h0 h1 h2 hc
 generalize hL:(l.getD 0).toNat=L at *
 generalize hH:(h.getD rows.length).toNat=H at *
 have hLH:L<=H:=by omega
 have hHl:H<=rows.length:=by omega
 refine aq (v:= .slice (if cap=L then ad else ad.map (·.add (L * sz))) (H - L) (cap - L)) ?_ ?_
 ·simp only[execOp,Instr.sliceAt,Instr.slice,Sem.run_bind,run_underlying hu,Result.andThen_ok,hv,Lu,hb,cw hi',hsz]
  rfl
 ·simp only[ae,aD]
  refine⟨if cap=L then ad else ad.map (·.add (L * sz)),cap - L, ?_, ?_, ?_, ?_⟩
  ·have:(List.drop L (List.take H rows)).length=H - L:=by simp;omega
   rw[this]
  ·simp;omega
  ·intro hnone
   by_cases hcl:cap=L
   ·omega
   ·simp only[hcl,KG] at hnone
    have:ad=none:=by simpa using hnone
    have:=hn this
    omega
  ·rcases hr with hr|⟨b,o,sz',rfl,hm,hlt,hrows⟩
   ·left;subst hr;simp
   ·by_cases hne:rows=[]
    ·left;subst hne;simp
    ·have hsz':sz'=sz:=by
      obtain⟨r,rs,rfl⟩:=List.exists_cons_of_ne_nil hne
      unfold aE at hrows
      rw[<-hrows.1];exact hall r oS
     subst hsz'
     by_cases hemp:H=L
     ·left
      rw[List.drop_eq_nil_iff];simp;omega
     ·right
      refine⟨b,o+L * sz',sz', ?_,hm,hlt,(hrows.take H).drop L⟩
      rw[if_neg oM]
      simp[el]
theorem AG {isS:Bool} {len cap:Nat} {lo:Option Value} {l:Option Int} {k k':IntKind} {h m:Int} (hl:(lo=none/\l=none)\/∃ k n,lo=some (.int k n)/\l=some n)
  (h0:0<=l.getD 0) (h1:l.getD 0<=h) (h2:h<=m) (h3:m<=cap):(Instr.sliceBounds isS len cap lo (some (.int k h)) (some (.int k' m))).run P w= .ok ((l.getD 0).toNat,h.toNat,m.toNat) w:=by
 have hb:=nb (P:=P) (w:=w) k' m cap (if isS then .slice3Acap else .slice3Alen) oM h3
 have hb2:=nb (P:=P) (w:=w) k h m.toNat .slice3B oM oM
 rcases hl with⟨rfl,rfl⟩|⟨k',n',rfl,rfl⟩
 ·simp[Instr.sliceBounds,hb,hb2]
 ·simp only[Kr] at *
  have hb':=nb (P:=P) (w:=w) k' n' h.toNat .slice3C h0 oM
  simp[Instr.sliceBounds,hb,hb2,hb']
theorem xi {w:World} {M:Nat->Prop} {b:Nat}:∀ (k:Nat) (cs:List DV) (o:Nat),aZ w M cs b o->aZ w M (cs.drop k) b (o+k)
 |0,cs,o,h=>h
 |k+1,[],o,h=>by simp only[List.drop_nil];unfold aZ;trivial
 |k+1,c::cs,o,h=>by
  unfold aZ at h
  have:=xi k cs (o+1) h.2
  rwa[show o+1+k=o+(k+1) by omega] at this
theorem vQ {w:World} {M:Nat->Prop} {b:Nat}:∀ (cs:List DV) (o:Nat),aZ w M cs b o->aE w M (cs.map fun c=>[c]) b o 1
 |[],o,h=>by simp only[KX];unfold aE;trivial
 |c::cs,o,h=>by
  unfold aZ at h
  simp only[JZ]
  unfold aE
  refine⟨rfl, ?_,vQ cs (o+1) h.2⟩
  unfold aZ
  exact⟨h.1,by unfold aZ;trivial⟩
theorem B3 {t e n:Nat} {x lo:Operand} {cs:List DV} {k:IntKind} {i:Int} (hu:P.underlying t=some (.array n e)) (hi':(P.info? e).isSome=true) (hsz:P.cellsOf e=1)
  (hx:aD w M (.ptr cs) (a.eval x)) (hl:a.eval lo= .int k i) (hlen:cs.length=n) (h0:0<=i) (h1:i<=n):
  cG P a ⟨dst,.slice t x (some lo) none none,ty,pos,aft,gd⟩ w M κ (.d (.slice ((cs.drop i.toNat).map fun c=>[c]))):=by
 unfold aD at hx
 obtain⟨b,o,hv,hm,hb,hr⟩:=hx
 have hbd:=nj (P:=P) (w:=w) (isS:=false) (len:=n) (cap:=n) (lo:=some (.int k i)) (hi:=none) (l:=some i) (h:=none) (.inr ⟨k,i,rfl,rfl⟩) (.inl ⟨rfl,rfl⟩) (by simpa using h0) (by simpa using h1) oS (JW _)
 simp only[Kr,KS,K9] at hbd
 refine aq (v:= .slice (some (if n=i.toNat then⟨b,o,none⟩ else(⟨b,o,none⟩:Addr).add (i.toNat * 1))) (n - i.toNat) (n - i.toNat)) ?_ ?_
 ·simp only[execOp,Instr.sliceAt,Sem.run_bind,run_underlying hu,Result.andThen_ok,hv,hl,Ku,Lu,Instr.sureAddr,hbd,cw hi',hsz,Sem.run_pure]
 ·simp only[ae,aD]
  have hln:((cs.drop i.toNat).map fun c=>[c]).length=n - i.toNat:=by simp[hlen]
  refine⟨some (if n=i.toNat then⟨b,o,none⟩ else(⟨b,o,none⟩:Addr).add (i.toNat * 1)),n - i.toNat,by rw[hln],by rw[hln];exact JW _,(fun h=>by cases h), ?_⟩
  by_cases hn:n=i.toNat
  ·refine .inl ?_
   rw[KZ oM,KX]
  ·refine .inr ⟨b,o+i.toNat * 1,1, ?_,hm,hb, ?_⟩
   ·rw[if_neg hn,el]
   ·rw[Nat.mul_one]
    exact vQ _ _ (xi _ _ _ hr)
theorem B4 {t e sz:Nat} {x hi mx:Operand} {lo:Option Operand} {l:Option Int} {k k':IntKind} {h m:Int} {rows:List (List DV)} (hu:P.underlying t=some (.slice e)) (hi':(P.info? e).isSome=true) (hsz:P.cellsOf e=sz)
  (hx:aD w M (.slice rows) (a.eval x)) (hl:(lo.map a.eval=none/\l=none)\/∃ k n,lo.map a.eval=some (.int k n)/\l=some n) (hh:a.eval hi= .int k h) (hm:a.eval mx= .int k' m)
  (hall:∀ r∈rows,r.length=sz) (h0:0<=l.getD 0) (h1:l.getD 0<=h) (h2:h<=m) (h3:m<=rows.length):
  cG P a ⟨dst,.slice t x lo (some hi) (some mx),ty,pos,aft,gd⟩ w M κ (.d (.slice ((rows.take h.toNat).drop (l.getD 0).toNat))):=by
 unfold aD at hx
 obtain⟨ad,cap,hv,hc,hn,hr⟩:=hx
 have hb:=AG (P:=P) (w:=w) (isS:=true) (len:=rows.length) (cap:=cap) (k:=k) (k':=k') hl h0 h1 h2 oM
 generalize hL:(l.getD 0).toNat=L at *
 have hLH:L<=h.toNat:=by omega
 have hHl:h.toNat<=rows.length:=by omega
 refine aq (v:= .slice (if m.toNat=L then ad else ad.map (·.add (L * sz))) (h.toNat - L) (m.toNat - L)) ?_ ?_
 ·simp only[execOp,Instr.sliceAt,Instr.slice,Sem.run_bind,run_underlying hu,Result.andThen_ok,hv,Ku,hh,hm,hb,cw hi',hsz]
  rfl
 ·simp only[ae,aD]
  refine⟨if m.toNat=L then ad else ad.map (·.add (L * sz)),m.toNat - L, ?_, ?_, ?_, ?_⟩
  ·have:(List.drop L (List.take h.toNat rows)).length=h.toNat - L:=by simp;omega
   rw[this]
  ·simp;omega
  ·intro hnone
   by_cases hcl:m.toNat=L
   ·omega
   ·simp only[hcl,KG] at hnone
    have:ad=none:=by simpa using hnone
    have:=hn this
    omega
  ·rcases hr with hr|⟨b,o,sz',rfl,hm',hlt,hrows⟩
   ·left;subst hr;simp
   ·by_cases hne:rows=[]
    ·left;subst hne;simp
    ·have hsz':sz'=sz:=by
      obtain⟨r,rs,rfl⟩:=List.exists_cons_of_ne_nil hne
      unfold aE at hrows
      rw[<-hrows.1];exact hall r oS
     subst hsz'
     by_cases hemp:h.toNat=L
     ·left
      rw[List.drop_eq_nil_iff];simp;omega
     ·right
      refine⟨b,o+L * sz',sz', ?_,hm',hlt,(hrows.take h.toNat).drop L⟩
      rw[if_neg oM]
      simp[el]
theorem yv {t e:Nat} {x:Operand} {lo hi:Option Operand} {l h:Option Int} (hu:P.underlying t=some (.slice e)) (hi':(P.info? e).isSome=true)
  (hx:a.eval x= .slice none 0 0) (hl:(lo.map a.eval=none/\l=none)\/∃ k n,lo.map a.eval=some (.int k n)/\l=some n) (hh:(hi.map a.eval=none/\h=none)\/∃ k n,hi.map a.eval=some (.int k n)/\h=some n)
  (h0:l.getD 0=0) (h1:h.getD 0=0):cG P a ⟨dst,.slice t x lo hi none,ty,pos,aft,gd⟩ w M κ .nils:=by
 have hb:=nj (P:=P) (w:=w) (isS:=true) (len:=0) (cap:=0) hl hh oM (by simp only[Int.natCast_zero] at *;omega) (by simp only[Int.natCast_zero] at *;omega) (JW _)
 refine aq (v:= .slice none 0 0) ?_ (by simp[ae])
 simp only[execOp,Instr.sliceAt,Instr.slice,Sem.run_bind,run_underlying hu,Result.andThen_ok,hx,Lu,hb,cw hi']
 simp only[Int.natCast_zero] at *
 simp[h0,h1]
theorem B5 {t:Nat} {x:Operand} {lo hi:Option Operand} {l h:Option Int} {s:List UInt8} (hu:P.underlying t=some .string)
  (hx:a.eval x= .string ⟨s.toArray⟩) (hl:(lo.map a.eval=none/\l=none)\/∃ k n,lo.map a.eval=some (.int k n)/\l=some n) (hh:(hi.map a.eval=none/\h=none)\/∃ k n,hi.map a.eval=some (.int k n)/\h=some n)
  (h0:0<=l.getD 0) (h1:l.getD 0<=h.getD s.length) (h2:h.getD s.length<=s.length):
  cG P a ⟨dst,.slice t x lo hi none,ty,pos,aft,gd⟩ w M κ (.d (.str ((s.take (h.getD s.length).toNat).drop (l.getD 0).toNat))):=by
 have hb:=nj (P:=P) (w:=w) (isS:=false) hl hh h0 h1 h2 (JW _)
 refine aq (v:= .string ⟨((s.take (h.getD s.length).toNat).drop (l.getD 0).toNat).toArray⟩) ?_ (by simp[ae,aD])
 simp only[execOp,Instr.sliceAt,Instr.slice,Sem.run_bind,run_underlying hu,Result.andThen_ok,hx,Lu,CR,hb,Option.isSome_none,Kg,KG]
 rw[Lib.extract_eq]
 simp only[List.drop_take]
 rfl
end
