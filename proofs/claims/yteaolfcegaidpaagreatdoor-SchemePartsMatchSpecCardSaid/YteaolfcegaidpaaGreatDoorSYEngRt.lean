/-
  My text.
-/
import Derived.Test.YteaolfcegaidpaaGreatDoorSYEngRs
namespace Go.Proofs.YteaolfcegaidpaaGreatDoor
set_option linter.unusedSimpArgs false
set_option linter.unusedVariables false
open Go.RowKit
theorem Fd:∀ {L:List (DV×DV)} {es:List MapEntry},xi L es->o9 (L.map (·.1)) (L.map (·.2)) es
 |_,_,.nil=>by simp[o9]
 |_,_,.cons h hs=>by
  simp only[OQ,o9]
  exact⟨h.1,h.2,Fd hs⟩
theorem G_:∀ {ks vs:List DV} {es:List MapEntry},o9 ks vs es->xi (ks.zip vs) es
 |[],[],[],_=> .nil
 |k::ks,v::vs,e::es,h=>by
  simp only[o9] at h
  exact .cons ⟨h.1,h.2.1⟩ (G_ h.2.2)
 |[],_::_,_,h=>by simp[o9] at h
 |[],[],_::_,h=>by simp[o9] at h
 |_::_,[],_,h=>by simp[o9] at h
 |_::_,_::_,[],h=>by simp[o9] at h
section
variable {P:Program} {c:Cx} {σ:St} {κ:Nat->Value} {φ:Nat->List Nat} {a:Act} {w:World}
theorem cE.freezeM (hr:cE c σ κ φ a w) {id slot:Nat} {kk:KK} {L:List (DV×DV)} (hs:σ.s slot= .mp id) (hv:σ.h id= .map kk (L.map fun p=>(p.1,.d p.2))) (hf:∀ p∈L,(dD p.2).isSome=true):
  cE c {σ.swap id .any .dead with s:=aH (gn id .any σ.s) slot (.d (.map (L.map (·.1)) (L.map (·.2))))} (aH κ id (.pointer none)) (aH φ id []) a w:=by
 have h1:cE c (σ.swap id .any .dead) (aH κ id (.pointer none)) (aH φ id []) a w:=
  hr.swap rfl rfl rfl rfl (OH _) (fun _ _ _=>rfl) oS oS (by unfold aQ;trivial) rfl
 have hch:=hr.chunks id
 rw[hv] at hch
 obtain⟨r,es,clock,G,hk,hb,hborn,hrep,hF⟩:=hch
 obtain⟨hents,rfl⟩:=Aa hf hrep
 have hFn:∀ b∈φ id,¬ own c (aH φ id []) b:=fun b hb=>by
  rintro(h|⟨j,h⟩)
  ·have h1:=hr.m0 b h
   have h2:=(hr.mine id b hb).2
   rcases h2 with h2|h2
   ·omega
   ·exact h1.2 h2
  ·by_cases hji:j=id
   ·subst hji;rw[an] at h;simp at h
   ·rw[bf _ _ _ _ hji] at h;exact hr.sep j id b hji h hb
 have hp:aQ w (own c (aH φ id [])) (.map (L.map (·.1)) (L.map (·.2))) (κ id):=by
  unfold aQ
  exact⟨some r,hk,.inr ⟨r,es,clock,rfl,hFn r (by rw[hF];simp),(hr.mine id r (by rw[hF];simp)).1,hb,hborn,Fd hents⟩⟩
 have key:∀ i v,ae w (own c φ) κ (σ.s i) v->ae w (own c (aH φ id [])) (aH κ id (.pointer none)) ((σ.swap id .any .dead).s i) v->ae w (own c (aH φ id [])) (aH κ id (.pointer none)) (aH (gn id .any σ.s) slot (.d (.map (L.map (·.1)) (L.map (·.2)))) i) v:=fun i v h0 hv=>by
  by_cases hi':i=slot
  ·subst hi'
   rw[hs] at h0
   simp only[ae] at h0
   subst h0
   simp only[an,ae]
   exact hp
  ·simp only[bf _ _ _ _ hi']
   exact hv
 exact⟨h1.chg,h1.size,h1.m0,h1.ntmps,h1.defers,h1.kok,fun i hi=>key i _ (hr.slots i hi) (h1.slots i hi),fun i v hv=>key _ v (hr.ghost i v hv) (h1.ghost i v hv),h1.chunks,h1.mine,h1.nod,h1.sep⟩
end
section
variable {P:Program} {V:Type} {s:Nat->SV} {h:Nat->Ch}
theorem Ff {id slot:Nat} {W:List (List UInt8×V)} {f:V->DV} {ve:V->SV} (hs:s slot= .mp id) (hv:h id= .map .str (iL .str ve W)) (hve:ve=fun v=> .d (f v)) (hf:∀ v,(dD (f v)).isSome=true):
  dB ⟨s,h⟩ ⟨aH (gn id .any s) slot (.d (wy .str f W)),aH (lv id .any h) id .dead⟩:=fun c κ φ a w hr=>by
 subst hve
 have:=hr.freezeM (L:=W.map fun e=>(.str e.1,f e.2)) hs (kk:= .str) (by
  rw[show(⟨s,h⟩:St).h id=h id from rfl,hv]
  simp only[iL,Qc];rfl) (fun p hp=>by
  obtain⟨e,_,rfl⟩:=Pd.1 hp
  exact hf _)
 simp only[Qc] at this
 exact⟨_,_,this⟩
theorem MN {x:SC} {Q:AX->St->Prop} {id slot:Nat} {W:List (List UInt8×V)} {f:V->DV} {ve:V->SV} (hs:s slot= .mp id) (hv:h id= .map .str (iL .str ve W)) (hve:ve=fun v=> .d (f v)) (hf:∀ v,(dD (f v)).isSome=true)
  (hw:AW P x Q ⟨aH (gn id .any s) slot (.d (wy .str f W)),aH (lv id .any h) id .dead⟩):AW P x Q ⟨s,h⟩:=C6 (Ff hs hv hve hf) hw
theorem Ha {f:V->DV}:∀ W:List (List UInt8×V),((W.map fun p=>DV.str p.1).zip ((W.map fun p=>f p.2).map SV.d))=iL .str (fun v=> .d (f v)) W
 |[]=>rfl
 |p::W=>by
  have:=Ha (f:=f) W
  simp only[iL,OQ,Qm] at this⊢
  rw[this]
theorem JL (W:List (List UInt8×V)):(W.map fun p=>DV.str p.1).all (KK.fits .str)=true:=by
 simp[KK.fits]
theorem JM {K:St->Prop} {sos:List SO} {dst:Nat} {z:SV} {m k:SX} {W:List (List UInt8×V)} {key:List UInt8} {f:V->DV} {z0:V} (hx:ev s m= .d (wy .str f W)) (hk:ev s k= .d (.str key)) (hz:z= .d (f z0))
  (hrest:bh P K sos ⟨aH s dst (.d (f ((rA W key).getD z0))),h⟩):bh P K (.r dst (.look .str z false m k)::sos) ⟨s,h⟩:=by
 subst hz
 have hl:oa (iL .str (fun v=> .d (f v)) W) (.str key) (.d (f z0))= .d (f ((rA W key).getD z0)):=by
  unfold oa
  rw[zk]
  cases rA W key<;>rfl
 refine im (p:=((W.map fun p=>DV.str p.1).all (KK.fits .str)=true/\KK.fits .str (.str key)=true)/\(SV.d (f ((rA W key).getD z0))).noOwn=true) (v:= .d (f ((rA W key).getD z0))) ?_ ⟨⟨JL W,rfl⟩,rfl⟩ hrest
 simp only[rd,hx,hk,wy]
 rw[Ha,hl]
 rfl
end
theorem cE.intoD {c:Cx} {σ:St} {κ:Nat->Value} {φ:Nat->List Nat} {a:Act} {w:World} (hr:cE c σ κ φ a w) {d2:Nat} (hd:d2<c.N) (o:Obj):
  ∃ (hg:wY (w.alloc o)) (hf:EB fun b=>∃ id,b∈φ id),cE (jU c (w.alloc o) (fun b=>c.M0 b\/b=w.heap.size) φ hg hf) ⟨aH σ.s d2 (.d (.raw (.pointer (some ⟨w.heap.size,0,none⟩)))),σ.h⟩ κ φ (a.put (some d2) (.pointer (some ⟨w.heap.size,0,none⟩))) (w.alloc o)/\
   N5 c (jU c (w.alloc o) (fun b=>c.M0 b\/b=w.heap.size) φ hg hf):=by
 have hB:Below w.heap.size w (w.alloc o):=(Below.refl _ w).alloc (OH _) o
 have hgood:wY (w.alloc o):=hr.good.below hB
 have hfree:EB fun b=>∃ id,b∈φ id:=fun t ht hb=>by
  obtain⟨id,hb⟩:=hb
  exact hr.free (id:=id) t ht hb
 have hown:∀ b,own (jU c (w.alloc o) (fun b=>c.M0 b\/b=w.heap.size) φ hgood hfree) φ b->own c φ b\/b=w.heap.size:=by
  rintro b ((h|h)|⟨id,h⟩)
  ·exact .inl (.inl h)
  ·exact .inr h
  ·exact .inl (.inr ⟨id,h⟩)
 have hext:lL w (own c φ) (w.alloc o) (own (jU c (w.alloc o) (fun b=>c.M0 b\/b=w.heap.size) φ hgood hfree) φ):=⟨hB.size,fun b hb hm=>⟨hB.block b hb,fun h=>by
  rcases hown b h with h|h
  ·exact hm h
  ·omega⟩⟩
 have hput:=hr.putS (x:= .d (.raw (.pointer (some ⟨w.heap.size,0,none⟩)))) (v:= .pointer (some ⟨w.heap.size,0,none⟩)) hd (by unfold ae aQ;rfl)
 refine⟨hgood,hfree,⟨yZ.refl _ _ _,OH _,fun b hb=> ?_,hput.ntmps,hput.defers,hr.kok,fun i hi=> ?_,fun i v hv=> ?_,fun id=> ?_,fun id b hb=> ?_,hput.nod,hput.sep⟩,⟨rfl,rfl,hr.chg.trans (yZ.of_below (hB.mono hr.size)),PA hr.size hB.size,fun b hb=> .inl hb, ?_⟩⟩
 ·rcases hb with h|h
  ·have h1:=hr.m0 b h
   refine⟨O4 h1.1 (PA hr.size hB.size),fun⟨id,hid⟩=> ?_⟩
   rcases(hr.mine id b hid).2 with h2|h2
   ·omega
   ·exact h1.2 h2
  ·subst h
   refine⟨by show w.heap.size<(w.alloc o).heap.size;simp[World.alloc_eq],fun⟨id,hid⟩=> ?_⟩
   have:=(hr.mine id _ hid).1;omega
 ·exact ae.ext hext _ _ (hput.slots i hi)
 ·exact ae.ext hext _ _ (hput.ghost i v hv)
 ·exact(hr.chunks id).ext hext fun b hb=>hB.block b (hr.mine id b hb).1
 ·exact⟨O4 (hr.mine id b hb).1 hB.size,.inr ⟨id,hb⟩⟩
 ·rintro b ⟨id,hb⟩
  exact(hr.mine id b hb).2
section
variable {P:Program} {σ:St}
theorem Gv {a:Act} {w:World} {t:TypeId} {k v:TypeId} {d0:Nat} {o:Oper} (ho:o.op= .range t (.tmp d0)) (hu:P.underlying t=some (.map k v)) (ht:a.tmps.getD d0 undef= .map none):
  (execOp a.eval o).run P w= .ok (.value (.pointer (some ⟨w.heap.size,0,none⟩))) (w.alloc (.mapIter none 0 #[] 0)):=by
 simp only[execOp,ho,Act.eval,ht,Instr.range,Sem.run_bind,run_underlying hu,Result.andThen,Sem.run_pure,Sem.run]
 rfl
theorem JN {Q:AX->St->Prop} {d0 d2 dn df de b1 b2:Nat} {m:SX} {sos:List SO} {x:SC} {ks vs:List DV} (hx:ev σ.s m= .d (.map ks vs))
  (h:∀ p:Value,∃ I:List (DV×DV)->St->Prop,(∀ l σ,I l σ->σ.s d2= .d (.raw p)/\σ.s dn= .d .any/\σ.s df= .d .any)/\(∀ l l' σ,l'.Perm l->I l σ->I l' σ)/\
   (∀ e l σ,I (e::l) σ->bh P (fun σ=>AW P x (E8 b1 b2 (I l) Q) σ) sos ⟨aH σ.s de (.d (.tup [e.1,e.2])),σ.h⟩)/\(∀ σ,I [] σ->Q .normal σ)/\
   ∃ σ',dB ⟨aH (aH σ.s d0 (.d (.map ks vs))) d2 (.d (.raw p)),σ.h⟩ σ'/\I (ks.zip vs) σ'):AW P (.rangeM d0 m d2 dn df de b1 b2 sos x) Q σ:=fun hmix c code R hm hp κ φ a w hr=>by
 obtain⟨i1,o1,i2,o2,i3,o3,y,rfl,hm,hb12,hmb⟩:=Gq hm
 unfold Jk at hm
 split at hm
 ·rename_i p q n1 n2 e rest ho1 ho2 ho3
  simp only[Oz,OI,OC] at hm
  obtain⟨⟨⟨⟨⟨⟨⟨⟨⟨⟨⟨⟨⟨⟨⟨⟨⟨⟨⟨⟨⟨hp1,hq1⟩,hq2⟩,hq3⟩,hn1⟩,hn2⟩,hn3⟩,hx1⟩,hx2⟩,hx3⟩,he1⟩,he2⟩,he3⟩,hd0⟩,hd2⟩,hdn⟩,hdf⟩,hde⟩,hne1⟩,hne2⟩,hne3⟩,hmo⟩:=hm
  obtain⟨ty,k,v,hq3,hu⟩:=Gn hq3
  obtain rfl:o2= #[n1,n2]:=Pm.1 ho2
  refine wp_seq (wp_region ?_)
  rw[<-Qw,ho1]
  show wpOps P o1 _ [0,1] a w
  have hg0:o1[0]?=some p:=by rw[<-P3,ho1];rfl
  have hg1:o1[1]?=some q:=by rw[<-P3,ho1];rfl
  simp only[wpOps,hg0,hg1]
  have h0:=hr.m0
  refine wi (K:=fun σ'=>σ'=⟨aH σ.s d0 (.d (.map ks vs)),σ.h⟩) hr (D7 hp1) ?_ ?_
  ·show AO P (.r d0 (.mv m)) σ _
   simp only[AO,rd,hx]
   exact⟨trivial,trivial⟩
  rintro σ1 κ1 φ1 a1 w1 hr1 rfl
  have hwant:Region.wanted q (yielded o1 a1.tmps)=true:=by simp[Region.wanted,wk hq1]
  rw[hwant,Qa rfl]
  refine .inl ?_
  have hsl:=hr1.slots d0 hd0
  rw[show(⟨aH σ.s d0 (SV.d (.map ks vs)),σ.h⟩:St).s d0= .d (.map ks vs) from an _ _ _] at hsl
  unfold ae aQ at hsl
  obtain⟨mr,hmr,hcase⟩:=hsl
  unfold Oper.wp
  rcases hcase with⟨rfl,rfl,rfl⟩|⟨r,es,clock,rfl,hnm,hrlt,hblock,hB,hme⟩
  ·
   rw[Gv hq3 hu hmr]
   rw[Oper.upon_value,hq2]
   simp only[Exit.then]
   obtain⟨hg,hf,hr2,hsub⟩:=hr1.intoD hd2 (.mapIter none 0 #[] 0)
   obtain⟨I,hI,hperm,hstep,hend,σ',himp,hIL⟩:=h (.pointer (some ⟨w1.heap.size,0,none⟩))
   obtain⟨κ2,φ2,hr3⟩:=himp _ _ _ _ _ hr2
   obtain⟨hs2,hsn,hsf⟩:=hI _ _ hIL
   refine wp_block (wp_loop_rounds 1 ?_)
   rw[rounds_succ]
   generalize ha2:a1.put (some d2) (Value.pointer (some ⟨w1.heap.size,0,none⟩))=a2 at hr3⊢
   have hN:(jU c (w1.alloc (.mapIter none 0 #[] 0)) (fun b=>c.M0 b\/b=w1.heap.size) φ1 hg hf).N=c.N:=rfl
   have htd2:a2.tmps.getD d2 undef= .pointer (some ⟨w1.heap.size,0,none⟩):=by
    have:=hr3.slots d2 hd2
    rw[hs2] at this
    unfold ae aQ at this;exact this
   have hq':(w1.alloc (.mapIter none 0 #[] 0)).heap[w1.heap.size]?=some (.mapIter none 0 #[] 0):=by show(w1.heap.push _)[w1.heap.size]?=_;simp
   have hnx:(Instr.next (.pointer (some ⟨w1.heap.size,0,none⟩)) false n1.type).run P (w1.alloc (.mapIter none 0 #[] 0))= .ok (.tuple #[.bool false]) (w1.alloc (.mapIter none 0 #[] 0)):=by
    simp only[Instr.next,getObj,Sem.run_bind,Sem.run,hq',Result.andThen]
    rfl
   refine wp_seq (wp_region_list ?_)
   show wpList P #[n1,n2] _ [n1,n2] a2 _
   refine mj (wk hn1) (v:= .tuple #[.bool false]) (w':=w1.alloc (.mapIter none 0 #[] 0)) ?_ (mj (wk hx1) (v:= .bool false) (w':=w1.alloc (.mapIter none 0 #[] 0)) ?_ (wpList_nil ?_))
   ·simp only[execOp,C_ hn3,Act.eval,htd2,Sem.run_bind,hnx,Result.andThen];rfl
   ·refine uH (vs:=[.bool false]) (d:=0) (Da hx3) ?_ rfl
    rw[hn2]
    simp only[Act.eval,Act.put,qu,hr3.ntmps,hN,hdn,and_self,PR]
   ·rw[hn2,hx2]
    refine wp_seq (wp_cond_false (by simp only[Act.eval,Act.put,qu,Array.size_setIfInBounds,hr3.ntmps,hN,hdf,and_self,PR]) (wp_exit ?_))
    have hr4:=(hr3.putS (dst:=dn) (x:= .d .any) (v:= .tuple #[.bool false]) hdn (by unfold ae aQ;trivial))
    have hr5:=(hr4.putS (dst:=df) (x:= .d .any) (v:= .bool false) hdf (by unfold ae aQ;trivial))
    have hst:(⟨aH (aH σ'.s dn (.d .any)) df (.d .any),σ'.h⟩:St)=σ':=by
     have:aH (aH σ'.s dn (.d .any)) df (.d .any)=σ'.s:=by
      funext j;simp only[aH];split
      ·rename_i hj;subst hj;exact hsf.symm
      ·split
       ·rename_i hj;subst hj;exact hsn.symm
       ·rfl
     rw[this]
    have hr6:cE (jU c (w1.alloc (.mapIter none 0 #[] 0)) (fun b=>c.M0 b\/b=w1.heap.size) φ1 hg hf) σ' κ2 φ2 ((a2.put (some dn) (.tuple #[.bool false])).put (some df) (.bool false)) (w1.alloc (.mapIter none 0 #[] 0)):=by rw[<-hst];exact hr5
    simp only[Exit.then,Exit.inBlock,PR]
    exact hp.1 _ _ _ _ _ (hr6.back hsub h0) (hend _ hIL)
  ·rw[HX hq3 hu hmr hblock]
   rw[Oper.upon_value,hq2]
   simp only[Exit.then]
   obtain⟨hg,hf,hr2,hsub⟩:=hr1.intoD hd2 (.mapIter (some r) clock #[] clock)
   obtain⟨I,hI,hperm,hstep,hend,σ',himp,hIL⟩:=h (.pointer (some ⟨w1.heap.size,0,none⟩))
   obtain⟨κ2,φ2,hr3⟩:=himp _ _ _ _ _ hr2
   obtain⟨z,hz1,hz2,hz3⟩:=E6 (G_ hme)
   refine wp_block (wp_loop_rounds (z.length+1) ?_)
   refine D6 hmix hp h0 (wk hn1) hn2 (C_ hn3) (wk hx1) hx2 (Da hx3) ho3 (wk he1) he2 (Gp he3) hdn hdf hde hd2 hne1 hne2 hne3 hmo hmb hb12 (ty:=ty) (r:=r) (q:=w1.heap.size) hB ?_ ?_ I hI hperm hstep hend (z.length+1) z #[] clock _ σ' κ2 φ2 _ _ (Nat.lt_succ_self _) hz3 ?_ (OH _) hsub ?_ (.inr rfl) (by rw[hz1];exact hIL) hr3 ?_ ?_
   ·intro t ht he
    have:=(hr1.good t ht).lt
    omega
   ·exact hr1.size
   ·rw[hz2];exact(Qz.2 fun e _=>by simp).symm
   ·refine⟨O4 hrlt ((Below.refl _ w1).alloc (OH _) _).size,fun⟨id,hid⟩=>hnm (.inr ⟨id,hid⟩)⟩
   ·rw[((Below.refl _ w1).alloc (OH _) _).block r hrlt];exact hblock
   ·show(w1.heap.push _)[w1.heap.size]?=_;simp
 ·cases hm
end
section
variable {P:Program} {V:Type} {s:Nat->SV} {h:Nat->Ch}
theorem Lg (x:SC) (slot:Nat) {Q:AX->St->Prop} {id:Nat} {W:List (List UInt8×V)} {f:V->DV} {ve:V->SV} (hs:s slot= .mp id) (hv:h id= .map .str (iL .str ve W)) (hve:ve=fun v=> .d (f v)) (hf:∀ v,(dD (f v)).isSome=true)
  (hw:AW P x Q ⟨aH (gn id .any s) slot (.d (wy .str f W)),aH (lv id .any h) id .dead⟩):AW P x Q ⟨s,h⟩:=MN hs hv hve hf hw
theorem JO {W:List (List UInt8×V)} {k:List UInt8} {v:V} {x:SV} {ve:V->SV} (hx:x=ve v):Ch.map .str (no (iL .str ve W) (.str k) x)= .map .str (iL .str ve (pH W k v)):=by rw[hx,zl]
end
theorem H6 {K V:Type} {kk:KK} {ke:K->DV} {ve:V->SV}:Ch.map kk []= .map kk (iL ke ve ([]:List (K×V))):=rfl
theorem Dg {w:World} {M:Nat->Prop} {V:Type} {f:V->DV} {post:List DV}:∀ {pre:List DV} {vs:List Value},aI w M (pre++ .raw (.map none)::post) vs->aI w M (pre++wy .str f ([]:List (List UInt8×V))::post) vs
 |[],vs,h=>by
  simp only[OR] at h⊢
  unfold aI at h⊢
  obtain⟨u,us,rfl,h1,h2⟩:=h
  unfold aQ at h1
  subst h1
  refine⟨_,us,rfl, ?_,h2⟩
  unfold wy aQ
  exact⟨none,rfl,.inl ⟨rfl,rfl,rfl⟩⟩
 |d::pre,vs,h=>by
  simp only[OM] at h⊢
  unfold aI at h⊢
  obtain⟨u,us,rfl,h1,h2⟩:=h
  exact⟨u,us,rfl,h1,Dg h2⟩
theorem aa.nilm {P:Program} {fn:FuncId} {V:Type} {f:V->DV} {pre post:List DV} {res:DV} (h:aa P fn (pre++wy .str f ([]:List (List UInt8×V))::post) res):aa P fn (pre++ .raw (.map none)::post) res:=
 ⟨h.1,fun w M vs hM hv hg=>h.2 w M vs hM (Dg hv) hg⟩
theorem Dh {V:Type} {f:V->DV}:∀ W:List (List UInt8×V),((W.map fun p=>DV.str p.1).zip (W.map fun p=>f p.2))=W.map fun e=>(.str e.1,f e.2)
 |[]=>rfl
 |p::W=>by simp only[OQ,Qm,Dh W]
section
variable {P:Program}
theorem H7 {V C S R:Type} {r:R} {d0 d2 dn df de b1 b2:Nat} {m:SX} {sos:List SO} {x X:SC} {Q:R->AX->St->Prop} (hX:X= .rangeM d0 m d2 dn df de b1 b2 sos x) (mk:C->S->St) {s0:S} {W:List (List UInt8×V)} {f:V->DV} {step:List UInt8×V->S->Option (S⊕(S⊕R))} {k:S->Option R} {s:Nat->SV} {h:Nat->Ch}
  (hm:uI W step s0 k=some r) (hx:ev s m= .d (wy .str f W)) (hb12:(b1≠b2))
  (hr:∀ p,∃ c M,mk c s0=M/\cN (dB ⟨aH (aH s d0 (.d (wy .str f W))) d2 (.d (.raw p)),h⟩ M) (BB P x Q r b1 b2 d2 dn df de p sos f (mk c) step k)):AW P X (Q r) ⟨s,h⟩:=by
 subst hX
 refine JN (σ:=⟨s,h⟩) hx fun p=> ?_
 have:=MF hm (hr p)
 rw[<-Dh] at this
 exact this
end
section
variable {P:Program} {K:St->Prop} {sos:List SO} {α:Type} {row:α->List DV} {s:Nat->SV} {h:Nat->Ch}
end
