/-
  My text.
-/
import Derived.Test.YteaolfcegaidpaaGreatDoorSZEngRs
namespace Go.Proofs.YteaolfcegaidpaaGreatDoor
set_option linter.unusedSimpArgs false
set_option linter.unusedVariables false
open Go.RowKit
variable {Q:AX->St->Prop} {V:Type} {a:Act} {b1 b2 d0 d2 de df dn id:Nat} {kk:KK} {m:SX} {sos:List SO} {t:Nat} {w:World} {x:SC} {f:V->DV}
theorem HW:∀ {L:List (DV×DV)} {es:List MapEntry},y9 L es->pL (L.map (·.1)) (L.map (·.2)) es
 |_,_,.nil=>by simp[pL]
 |_,_,.cons h hs=>by
  simp only[S5,pL]
  exact⟨h.1,h.2,HW hs⟩
theorem J0:∀ {ks vs:List DV} {es:List MapEntry},pL ks vs es->y9 (ks.zip vs) es
 |[],[],[],_=> .nil
 |k::ks,v::vs,e::es,h=>by
  simp only[pL] at h
  exact .cons ⟨h.1,h.2.1⟩ (J0 h.2.2)
 |[],_::_,_,h=>by simp[pL] at h
 |[],[],_::_,h=>by simp[pL] at h
 |_::_,[],_,h=>by simp[pL] at h
 |_::_,_::_,[],h=>by simp[pL] at h
section
variable {P:Program} {c:Cx} {σ:St} {κ:Nat->Value} {φ:Nat->List Nat} {a:Act} {w:World}
theorem cH.freezeM (hr:cH c σ κ φ a w) {L:List (DV×DV)} (hs:σ.s t= .mp id) (hv:σ.h id= .map kk (L.map fun p=>(p.1,.d p.2))) (hf:∀ p∈L,(dq p.2).isSome=true):
  cH c {σ.swap id .any .dead with s:=aD (eC id .any σ.s) t (.d (.map (L.map (·.1)) (L.map (·.2))))} (aD κ id (.pointer none)) (aD φ id []) a w:=by
 have h1:cH c (σ.swap id .any .dead) (aD κ id (.pointer none)) (aD φ id []) a w:=
  hr.swap rfl rfl rfl rfl (S0 _) (fun _ _ _=>rfl) oS oS (by unfold ba;trivial) rfl
 have r2:=hr.chunks id
 rw[hv] at r2
 obtain⟨r,es,C,G,hk,hb,d,r0,Q⟩:=r2
 obtain⟨v3,rfl⟩:=B6 hf r0
 have r3:∀ b∈φ id,¬ own c (aD φ id []) b:=fun b hb=>by
  rintro(h|⟨j,h⟩)
  ·have h1:=hr.m0 b h
   have h2:=(hr.mine id b hb).2
   rcases h2 with h2|h2
   ·omega
   ·exact h1.2 h2
  ·by_cases f:j=id
   ·subst f;rw[au] at h;simp at h
   ·rw[bv _ _ _ _ f] at h;exact hr.sep j id b f h hb
 have hp:ba w (own c (aD φ id [])) (.map (L.map (·.1)) (L.map (·.2))) (κ id):=by
  unfold ba
  exact⟨some r,hk,.inr ⟨r,es,C,rfl,r3 r (by rw[Q];simp),(hr.mine id r (by rw[Q];simp)).1,hb,d,HW v3⟩⟩
 have key:∀ i v,ah w (own c φ) κ (σ.s i) v->ah w (own c (aD φ id [])) (aD κ id (.pointer none)) ((σ.swap id .any .dead).s i) v->ah w (own c (aD φ id [])) (aD κ id (.pointer none)) (aD (eC id .any σ.s) t (.d (.map (L.map (·.1)) (L.map (·.2)))) i) v:=fun i v h0 hv=>by
  by_cases h5:i=t
  ·subst h5
   rw[hs] at h0
   simp only[ah] at h0
   subst h0
   simp only[au,ah]
   exact hp
  ·simp only[bv _ _ _ _ h5]
   exact hv
 exact⟨h1.chg,h1.size,h1.m0,h1.ntmps,h1.defers,h1.kok,fun i hi=>key i _ (hr.slots i hi) (h1.slots i hi),fun i v hv=>key _ v (hr.ghost i v hv) (h1.ghost i v hv),h1.chunks,h1.mine,h1.nod,h1.sep⟩
end
section
variable {P:Program} {V:Type} {s:Nat->SV} {h:Nat->Ch}
theorem HX {W:List (List UInt8×V)} {f:V->DV} {q:V->SV} (hs:s t= .mp id) (hv:h id= .map .str (iV .str q W)) (d:q=fun v=> .d (f v)) (hf:∀ v,(dq (f v)).isSome=true):
  cS ⟨s,h⟩ ⟨aD (eC id .any s) t (.d (yB .str f W)),aD (hT id .any h) id .dead⟩:=fun c κ φ a w hr=>by
 subst d
 have:=hr.freezeM (L:=W.map fun e=>(.str e.1,f e.2)) hs (kk:= .str) (by
  rw[show(⟨s,h⟩:St).h id=h id from rfl,hv]
  simp only[iV,UD];rfl) (fun p hp=>by
  obtain⟨e,_,rfl⟩:=Tu.1 hp
  exact hf _)
 simp only[UD] at this
 exact⟨_,_,this⟩
theorem Ql {W:List (List UInt8×V)} {f:V->DV} {q:V->SV} (hs:s t= .mp id) (hv:h id= .map .str (iV .str q W)) (d:q=fun v=> .d (f v)) (hf:∀ v,(dq (f v)).isSome=true) (G:AW P x Q ⟨aD (eC id .any s) t (.d (yB .str f W)),aD (hT id .any h) id .dead⟩):AW P x Q ⟨s,h⟩:=Ft (HX hs hv d hf) G
theorem J1 {f:V->DV}:∀ W:List (List UInt8×V),((W.map fun p=>DV.str p.1).zip ((W.map fun p=>f p.2).map SV.d))=iV .str (fun v=> .d (f v)) W
 |[]=>rfl
 |p::W=>by
  have:=J1 (f:=f) W
  simp only[iV,S5,UO] at this⊢
  rw[this]
theorem MJ (W:List (List UInt8×V)):(W.map fun p=>DV.str p.1).all (KK.fits .str)=true:=by
 simp[KK.fits]
theorem MK {K:St->Prop} {dst:Nat} {z:SV} {k:SX} {W:List (List UInt8×V)} {key:List UInt8} {f:V->DV} {z0:V} (hx:ev s m= .d (yB .str f W)) (hk:ev s k= .d (.str key)) (hz:z= .d (f z0)) (g:a6 P K sos ⟨aD s dst (.d (f ((th W key).getD z0))),h⟩):a6 P K (.r dst (.look .str z false m k)::sos) ⟨s,h⟩:=by
 subst hz
 have hl:oU (iV .str (fun v=> .d (f v)) W) (.str key) (.d (f z0))= .d (f ((th W key).getD z0)):=by
  unfold oU
  rw[Bj]
  cases th W key<;>rfl
 refine fi (p:=((W.map fun p=>DV.str p.1).all (KK.fits .str)=true/\KK.fits .str (.str key)=true)/\(SV.d (f ((th W key).getD z0))).noOwn=true) (v:= .d (f ((th W key).getD z0))) ?_ ⟨⟨MJ W,rfl⟩,rfl⟩ g
 simp only[rd,hx,hk,yB]
 rw[J1,hl]
 rfl
end
theorem cH.intoD {c:Cx} {σ:St} {κ:Nat->Value} {φ:Nat->List Nat} (hr:cH c σ κ φ a w) (hd:d2<c.N) (o:Obj):
  ∃ (hg:y0 (w.alloc o)) (hf:Hk fun b=>∃ id,b∈φ id),cH (kl c (w.alloc o) (fun b=>c.M0 b\/b=w.heap.size) φ hg hf) ⟨aD σ.s d2 (.d (.raw (.pointer (some ⟨w.heap.size,0,none⟩)))),σ.h⟩ κ φ (a.put (some d2) (.pointer (some ⟨w.heap.size,0,none⟩))) (w.alloc o)/\
   R9 c (kl c (w.alloc o) (fun b=>c.M0 b\/b=w.heap.size) φ hg hf):=by
 have hB:Below w.heap.size w (w.alloc o):=(Below.refl _ w).alloc (S0 _) o
 have k:y0 (w.alloc o):=hr.good.below hB
 have n:Hk fun b=>∃ id,b∈φ id:=fun t Y hb=>by
  obtain⟨id,hb⟩:=hb
  exact hr.free (id:=id) t Y hb
 have h7:∀ b,own (kl c (w.alloc o) (fun b=>c.M0 b\/b=w.heap.size) φ k n) φ b->own c φ b\/b=w.heap.size:=by
  rintro b ((h|h)|⟨id,h⟩)
  ·exact .inl (.inl h)
  ·exact .inr h
  ·exact .inl (.inr ⟨id,h⟩)
 have N:lA w (own c φ) (w.alloc o) (own (kl c (w.alloc o) (fun b=>c.M0 b\/b=w.heap.size) φ k n) φ):=⟨hB.size,fun b hb Z=>⟨hB.block b hb,fun h=>by
  rcases h7 b h with h|h
  ·exact Z h
  ·omega⟩⟩
 have m:=hr.putS (x:= .d (.raw (.pointer (some ⟨w.heap.size,0,none⟩)))) (v:= .pointer (some ⟨w.heap.size,0,none⟩)) hd (by unfold ah ba;rfl)
 refine⟨k,n,⟨AK.refl _ _ _,S0 _,fun b hb=> ?_,m.ntmps,m.defers,hr.kok,fun i hi=> ?_,fun i v hv=> ?_,fun id=> ?_,fun id b hb=> ?_,m.nod,m.sep⟩,⟨rfl,rfl,hr.chg.trans (AK.of_below (hB.mono hr.size)),TT hr.size hB.size,fun b hb=> .inl hb, ?_⟩⟩
 ·rcases hb with h|h
  ·have h1:=hr.m0 b h
   refine⟨Tt h1.1 (TT hr.size hB.size),fun⟨id,hid⟩=> ?_⟩
   rcases(hr.mine id b hid).2 with h2|h2
   ·omega
   ·exact h1.2 h2
  ·subst h
   refine⟨by show w.heap.size<(w.alloc o).heap.size;simp[World.alloc_eq],fun⟨id,hid⟩=> ?_⟩
   have:=(hr.mine id _ hid).1;omega
 ·exact ah.ext N _ _ (m.slots i hi)
 ·exact ah.ext N _ _ (m.ghost i v hv)
 ·exact(hr.chunks id).ext N fun b hb=>hB.block b (hr.mine id b hb).1
 ·exact⟨Tt (hr.mine id b hb).1 hB.size,.inr ⟨id,hb⟩⟩
 ·rintro b ⟨id,hb⟩
  exact(hr.mine id b hb).2
section
variable {P:Program} {σ:St}
theorem Jf {t k v:TypeId} {o:Oper} (ho:o.op= .range t (.tmp d0)) (hu:P.underlying t=some (.map k v)) (Y:a.tmps.getD d0 undef= .map none):
  (execOp a.eval o).run P w= .ok (.value (.pointer (some ⟨w.heap.size,0,none⟩))) (w.alloc (.mapIter none 0 #[] 0)):=by
 simp only[execOp,ho,Act.eval,Y,Instr.range,Sem.run_bind,run_underlying hu,Result.andThen,Sem.run_pure,Sem.run]
 rfl
theorem ML {ks vs:List DV} (hx:ev σ.s m= .d (.map ks vs)) (h:∀ p:Value,∃ I:List (DV×DV)->St->Prop,(∀ l σ,I l σ->σ.s d2= .d (.raw p)/\σ.s dn= .d .any/\σ.s df= .d .any)/\(∀ l l' σ,l'.Perm l->I l σ->I l' σ)/\
   (∀ e l σ,I (e::l) σ->a6 P (fun σ=>AW P x (HS b1 b2 (I l) Q) σ) sos ⟨aD σ.s de (.d (.tup [e.1,e.2])),σ.h⟩)/\(∀ σ,I [] σ->Q .normal σ)/\
   ∃ X,cS ⟨aD (aD σ.s d0 (.d (.map ks vs))) d2 (.d (.raw p)),σ.h⟩ X/\I (ks.zip vs) X):AW P (.rangeM d0 m d2 dn df de b1 b2 sos x) Q σ:=fun D c g R Z hp κ φ a w hr=>by
 obtain⟨n,o1,i2,o2,i3,o3,y,rfl,Z,s7,v1⟩:=Ja Z
 unfold Mi at Z
 split at Z
 ·rename_i p q U n2 e T u5 h4 h6
  simp only[SR,S1,SU] at Z
  obtain⟨⟨⟨⟨⟨⟨⟨⟨⟨⟨⟨⟨⟨⟨⟨⟨⟨⟨⟨⟨⟨u6,h8⟩,o⟩,u⟩,s4⟩,r0⟩,u7⟩,s5⟩,s8⟩,u9⟩,u1⟩,w0⟩,w4⟩,h2⟩,G⟩,s6⟩,r7⟩,v0⟩,v4⟩,v5⟩,v6⟩,u0⟩:=Z
  obtain⟨ty,k,v,u,hu⟩:=I9 u
  obtain rfl:o2= #[U,n2]:=TP.1 h4
  refine wp_seq (wp_region ?_)
  rw[<-U3,u5]
  show wpOps P o1 _ [0,1] a w
  have h9:o1[0]?=some p:=by rw[<-Uv,u5];rfl
  have h3:o1[1]?=some q:=by rw[<-Uv,u5];rfl
  simp only[wpOps,h9,h3]
  have h0:=hr.m0
  refine ym (K:=fun X=>X=⟨aD σ.s d0 (.d (.map ks vs)),σ.h⟩) hr (GK u6) ?_ ?_
  ·show AO P (.r d0 (.mv m)) σ _
   simp only[AO,rd,hx]
   exact⟨trivial,trivial⟩
  rintro h5 r6 r3 M w1 O rfl
  have h1:Region.wanted q (yielded o1 M.tmps)=true:=by simp[Region.wanted,yp h8]
  rw[h1,Ub rfl]
  refine .inl ?_
  have u8:=O.slots d0 h2
  rw[show(⟨aD σ.s d0 (SV.d (.map ks vs)),σ.h⟩:St).s d0= .d (.map ks vs) from au _ _ _] at u8
  unfold ah ba at u8
  obtain⟨mr,N,r1⟩:=u8
  unfold Oper.wp
  rcases r1 with⟨rfl,rfl,rfl⟩|⟨r,es,C,rfl,W,F,i,hB,r4⟩
  ·
   rw[Jf u hu N]
   rw[Oper.upon_value,o]
   simp only[Exit.then]
   obtain⟨hg,hf,s2,f⟩:=O.intoD G (.mapIter none 0 #[] 0)
   obtain⟨I,hI,r9,h7,r8,X,r2,E⟩:=h (.pointer (some ⟨w1.heap.size,0,none⟩))
   obtain⟨u4,s9,r5⟩:=r2 _ _ _ _ _ s2
   obtain⟨s3,L,v3⟩:=hI _ _ E
   refine wp_block (wp_loop_rounds 1 ?_)
   rw[rounds_succ]
   generalize qk:M.put (some d2) (Value.pointer (some ⟨w1.heap.size,0,none⟩))=a2 at r5⊢
   have S:(kl c (w1.alloc (.mapIter none 0 #[] 0)) (fun b=>c.M0 b\/b=w1.heap.size) r3 hg hf).N=c.N:=rfl
   have u2:a2.tmps.getD d2 undef= .pointer (some ⟨w1.heap.size,0,none⟩):=by
    have:=r5.slots d2 G
    rw[s3] at this
    unfold ah ba at this;exact this
   have v7:(w1.alloc (.mapIter none 0 #[] 0)).heap[w1.heap.size]?=some (.mapIter none 0 #[] 0):=by show(w1.heap.push _)[w1.heap.size]?=_;simp
   have v8:(Instr.next (.pointer (some ⟨w1.heap.size,0,none⟩)) false U.type).run P (w1.alloc (.mapIter none 0 #[] 0))= .ok (.tuple #[.bool false]) (w1.alloc (.mapIter none 0 #[] 0)):=by
    simp only[Instr.next,getObj,Sem.run_bind,Sem.run,v7,Result.andThen]
    rfl
   refine wp_seq (wp_region_list ?_)
   show wpList P #[U,n2] _ [U,n2] a2 _
   refine mM (yp s4) (v:= .tuple #[.bool false]) (w':=w1.alloc (.mapIter none 0 #[] 0)) ?_ (mM (yp s5) (v:= .bool false) (w':=w1.alloc (.mapIter none 0 #[] 0)) ?_ (wpList_nil ?_))
   ·simp only[execOp,Fy u7,Act.eval,u2,Sem.run_bind,v8,Result.andThen];rfl
   ·refine wV (vs:=[.bool false]) (d:=0) (Fz u9) ?_ rfl
    rw[r0]
    simp only[Act.eval,Act.put,rX,r5.ntmps,S,s6,and_self,T6]
   ·rw[r0,s8]
    refine wp_seq (wp_cond_false (by simp only[Act.eval,Act.put,rX,Array.size_setIfInBounds,r5.ntmps,S,r7,and_self,T6]) (wp_exit ?_))
    have s0:=(r5.putS (dst:=dn) (x:= .d .any) (v:= .tuple #[.bool false]) s6 (by unfold ah ba;trivial))
    have v2:=(s0.putS (dst:=df) (x:= .d .any) (v:= .bool false) r7 (by unfold ah ba;trivial))
    have u3:(⟨aD (aD X.s dn (.d .any)) df (.d .any),X.h⟩:St)=X:=by
     have:aD (aD X.s dn (.d .any)) df (.d .any)=X.s:=by
      funext j;simp only[aD];split
      ·rename_i hj;subst hj;exact v3.symm
      ·split
       ·rename_i hj;subst hj;exact L.symm
       ·rfl
     rw[this]
    have s1:cH (kl c (w1.alloc (.mapIter none 0 #[] 0)) (fun b=>c.M0 b\/b=w1.heap.size) r3 hg hf) X u4 s9 ((a2.put (some dn) (.tuple #[.bool false])).put (some df) (.bool false)) (w1.alloc (.mapIter none 0 #[] 0)):=by rw[<-u3];exact v2
    simp only[Exit.then,Exit.inBlock,T6]
    exact hp.1 _ _ _ _ _ (s1.back f h0) (r8 _ E)
  ·rw[K2 u hu N i]
   rw[Oper.upon_value,o]
   simp only[Exit.then]
   obtain⟨hg,hf,s2,f⟩:=O.intoD G (.mapIter (some r) C #[] C)
   obtain⟨I,hI,r9,h7,r8,X,r2,E⟩:=h (.pointer (some ⟨w1.heap.size,0,none⟩))
   obtain⟨u4,s9,r5⟩:=r2 _ _ _ _ _ s2
   obtain⟨z,A,B,v9⟩:=HQ (J0 r4)
   refine wp_block (wp_loop_rounds (z.length+1) ?_)
   refine GJ D hp h0 (yp s4) r0 (Fy u7) (yp s5) s8 (Fz u9) h6 (yp u1) w0 (I_ w4) s6 r7 v0 G v4 v5 v6 u0 v1 s7 (ty:=ty) (r:=r) (q:=w1.heap.size) hB ?_ ?_ I hI r9 h7 r8 (z.length+1) z #[] C _ X u4 s9 _ _ (Nat.lt_succ_self _) v9 ?_ (S0 _) f ?_ (.inr rfl) (by rw[A];exact E) r5 ?_ ?_
   ·intro t Y J
    have:=(O.good t Y).lt
    omega
   ·exact O.size
   ·rw[B];exact(U6.2 fun e _=>by simp).symm
   ·refine⟨Tt F ((Below.refl _ w1).alloc (S0 _) _).size,fun⟨id,hid⟩=>W (.inr ⟨id,hid⟩)⟩
   ·rw[((Below.refl _ w1).alloc (S0 _) _).block r F];exact i
   ·show(w1.heap.push _)[w1.heap.size]?=_;simp
 ·cases Z
end
section
variable {P:Program} {V:Type} {s:Nat->SV} {h:Nat->Ch}
theorem Oy (x:SC) (t:Nat) {W:List (List UInt8×V)} {f:V->DV} {q:V->SV} (hs:s t= .mp id) (hv:h id= .map .str (iV .str q W)) (d:q=fun v=> .d (f v)) (hf:∀ v,(dq (f v)).isSome=true) (G:AW P x Q ⟨aD (eC id .any s) t (.d (yB .str f W)),aD (hT id .any h) id .dead⟩):AW P x Q ⟨s,h⟩:=Ql hs hv d hf G
theorem MM {W:List (List UInt8×V)} {k:List UInt8} {v:V} {x:SV} {q:V->SV} (hx:x=q v):Ch.map .str (nR (iV .str q W) (.str k) x)= .map .str (iV .str q (qT W k v)):=by rw[hx,Bk]
end
theorem La {K V:Type} {kk:KK} {G:K->DV} {q:V->SV}:Ch.map kk []= .map kk (iV G q ([]:List (K×V))):=rfl
theorem FE {w:World} {M:Nat->Prop} {V:Type} {f:V->DV} {post:List DV}:∀ {pre:List DV} {vs:List Value},aN w M (pre++ .raw (.map none)::post) vs->aN w M (pre++yB .str f ([]:List (List UInt8×V))::post) vs
 |[],vs,h=>by
  simp only[Tb] at h⊢
  unfold aN at h⊢
  obtain⟨u,us,rfl,h1,h2⟩:=h
  unfold ba at h1
  subst h1
  refine⟨_,us,rfl, ?_,h2⟩
  unfold yB ba
  exact⟨none,rfl,.inl ⟨rfl,rfl,rfl⟩⟩
 |d::pre,vs,h=>by
  simp only[S_] at h⊢
  unfold aN at h⊢
  obtain⟨u,us,rfl,h1,h2⟩:=h
  exact⟨u,us,rfl,h1,FE h2⟩
theorem aa.nilm {P:Program} {fn:FuncId} {pre post:List DV} {C:DV} (h:aa P fn (pre++yB .str f ([]:List (List UInt8×V))::post) C):aa P fn (pre++ .raw (.map none)::post) C:=
 ⟨h.1,fun w M vs hM hv hg=>h.2 w M vs hM (FE hv) hg⟩
theorem FF {V:Type} {f:V->DV}:∀ W:List (List UInt8×V),((W.map fun p=>DV.str p.1).zip (W.map fun p=>f p.2))=W.map fun e=>(.str e.1,f e.2)
 |[]=>rfl
 |p::W=>by simp only[S5,UO,FF W]
section
variable {P:Program}
theorem Lb {V C S R:Type} {r:R} {d0 d2 dn df de b1 b2:Nat} {m:SX} {sos:List SO} {x X:SC} {Q:R->AX->St->Prop} (hX:X= .rangeM d0 m d2 dn df de b1 b2 sos x) (mk:C->S->St) {s0:S} {W:List (List UInt8×V)} {f:V->DV} {step:List UInt8×V->S->Option (S⊕(S⊕R))} {k:S->Option R} {s:Nat->SV} {h:Nat->Ch} (Z:wW W step s0 k=some r) (hx:ev s m= .d (yB .str f W)) (s7:(b1≠b2)) (hr:∀ p,∃ c M,mk c s0=M/\cc (cS ⟨aD (aD s d0 (.d (yB .str f W))) d2 (.d (.raw p)),h⟩ M) (DC P x Q r b1 b2 d2 dn df de p sos f (mk c) step k)):AW P X (Q r) ⟨s,h⟩:=by
 subst hX
 refine ML (σ:=⟨s,h⟩) hx fun p=> ?_
 have:=Qd Z (hr p)
 rw[<-FF] at this
 exact this
end
