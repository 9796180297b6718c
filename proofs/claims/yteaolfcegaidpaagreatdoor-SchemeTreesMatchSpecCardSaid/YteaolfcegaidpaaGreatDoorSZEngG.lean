/-
  My text.
-/
import Derived.Test.YteaolfcegaidpaaGreatDoorSZEngF
namespace Go.Proofs.YteaolfcegaidpaaGreatDoor
set_option linter.unusedSimpArgs false
set_option linter.unusedVariables false
open Go.RowKit
variable {M:Nat->Prop} {e i id:Nat} {r:List SV} {rows:List (List SV)} {sz:Nat} {t:TypeId}
section
variable {P:Program} {c:Cx} {σ:St} {κ:Nat->Value} {φ:Nat->List Nat} {a:Act} {w:World}
theorem ah.d {x:DV} {v:Value} (h:ah w M κ (.d x) v):ba w M x v:=by simpa only[ah] using h
theorem Fm (hr:cH c σ κ φ a w) {cs:List SV} (hb:σ.h id= .box cs):∃ b vs G,κ id= .pointer (some ⟨b,0,none⟩)/\ar w (own c φ) κ cs vs G/\(∀ x∈vs,x.oneCell'=true)/\∀ j:Nat,w.cell? ⟨b,j,none⟩=vs[j]?:=by
 have h:=hr.chunks id
 rw[hb] at h
 obtain⟨b,T,vs,G,h1,E,h4,h5,_⟩:=h
 exact⟨b,vs,G,h1,h5,h4,fun j=>by rw[cell_of_row w b j _ T _ E];simp⟩
theorem kR {α:Type} {sz:Nat}:∀ {rows:List (List α)},(∀ r∈rows,r.length=sz)->rows.flatten.length=rows.length * sz
 |[],_=>by simp
 |r::rows,h=>by
  have:=kR (rows:=rows) (fun r hr=>h r (by simp[hr]))
  simp only[TB,SW,S6,this,h r oS,T2];omega
theorem IX {α:Type} {rows:List (List α)} {r:List α} (hi:rows[i]?=some r):rows.flatten=(rows.take i).flatten++(r++(rows.drop (i+1)).flatten):=by
 have h9:=(SY.1 hi).1
 conv=>lhs;rw[<-Tf i rows,Uf h9,(SY.1 hi).2]
 simp
theorem KQ {xs:List Value} {G:List Nat} (R:∀ r∈rows,r.length=sz) (h:ar w M κ rows.flatten xs G) (hi:rows[i]?=some r):
  ∃ G1 G2 d,G=G1++(G2++d)/\ar w M κ (rows.take i).flatten (xs.take (i * sz)) G1/\ar w M κ r ((xs.drop (i * sz)).take sz) G2/\ar w M κ (rows.drop (i+1)).flatten (xs.drop (i * sz+sz)) d:=by
 have h9:=(SY.1 hi).1
 have L:=R r (ST hi)
 rw[IX hi] at h
 obtain⟨G1,G',rfl,h1,h2⟩:=h.split
 obtain⟨G2,d,rfl,E,h4⟩:=h2.split
 have hl:(rows.take i).flatten.length=i * sz:=by
  rw[kR (sz:=sz) (fun r hr=>R r (Tm hr)),Tc,show min i rows.length=i by omega]
 rw[hl] at h1 E h4
 rw[L] at E h4
 rw[Ua] at h4
 exact⟨G1,G2,d,rfl,h1,E,h4⟩
theorem Fn (hr:cH c σ κ φ a w) (hb:σ.h id= .vec e sz rows) (hi:rows[i]?=some r) {b len D:Nat} (hk:κ id= .slice (some ⟨b,0,none⟩) len D):
  r.length=sz/\∃ vs G,ar w (own c φ) κ r vs G/\(∀ x∈vs,x.oneCell'=true)/\∀ j v,vs[j]?=some v->w.cell? ⟨b,i * sz+j,none⟩=some v:=by
 have h:=hr.chunks id
 rw[hb] at h
 obtain⟨xs,G,h1,h2,E,h4,_⟩:=h
 have L:=E r (ST hi)
 obtain⟨G1,G2,d,_,_,h5,_⟩:=KQ E h4 hi
 refine⟨L,_,G2,h5,fun x hx=>h2 x (TE (Tm hx)),fun j v hj=> ?_⟩
 rw[T5] at hj
 split at hj
 ·rw[T0] at hj
  have F:=h1.cells (g:=b) (by rw[hk];rfl) (i * sz+j) v hj
  rw[gy] at F
  simpa using F
 ·cases hj
theorem Gl (hr:cH c σ κ φ a w) (hb:σ.h id= .vec e sz rows):(κ id= .slice none 0 0/\rows=[])\/∃ b D,κ id= .slice (some ⟨b,0,none⟩) rows.length D:=by
 have h:=hr.chunks id
 rw[hb] at h
 obtain⟨xs,G,h1,_⟩:=h
 rcases h1.2 with⟨hv,hn⟩|⟨g,D,B,hv,_⟩
 ·exact .inl ⟨hv,Te.1 hn⟩
 ·exact .inr ⟨g,D,hv⟩
theorem bH.length {M:Nat->Prop} {kk:KK}:∀ {kv:List (DV×SV)} {es:List MapEntry} {F:List Nat},bH w M κ kk kv es F->es.length=kv.length
 |[],es,F,h=>by unfold bH at h;simp[h]
 |(k,c)::kv,es,F,h=>by
  unfold bH at h
  obtain⟨e,T,_,_,rfl,_,_,_,_,h5⟩:=h
  simp[bH.length h5]
theorem BS (hr:cH c σ κ φ a w) {fs:Array Field}:∀ {ps:List (Nat×Operand)} {qs:List (Nat×Nat×SX)},o0 P c.N fs ps qs=true->
  zS (fun(p:Nat×Nat×SV) (q:Nat×Operand)=>(∃ f,fs[q.1]?=some f/\f.offset=p.1/\P.cellsOf f.type=p.2.1)/\ah w (own c φ) κ p.2.2 (a.eval q.2)) (qs.map fun p=>(p.1,p.2.1,ev σ.s p.2.2)) ps
 |[],[],_=> .nil
 |(i,x)::ps,(off,n,y)::qs,h=>by
  simp only[o0,SR] at h
  obtain⟨⟨h1,h2⟩,E⟩:=h
  refine .cons ⟨?_,am hr h2⟩ (BS hr E)
  split at h1
  ·rename_i f hf
   simp at h1
   exact⟨f,hf,h1.1.1,h1.2⟩
  ·cases h1
 |[],_::_,h=>by simp[o0] at h
 |_::_,[],h=>by simp[o0] at h
theorem zT (hr:cH c σ κ φ a w) {sz:Nat}:∀ {ps:List (Nat×Operand)} {qs:List (Nat×Nat×SX)},ng c.N sz ps qs=true->
  zS (fun(p:Nat×Nat×SV) (q:Nat×Operand)=>(p.1=q.1 * sz/\p.2.1=sz)/\ah w (own c φ) κ p.2.2 (a.eval q.2)) (qs.map fun p=>(p.1,p.2.1,ev σ.s p.2.2)) ps
 |[],[],_=> .nil
 |(i,x)::ps,(off,n,y)::qs,h=>by
  simp only[ng,SR,S1] at h
  obtain⟨⟨⟨h0,h1⟩,h2⟩,E⟩:=h
  exact .cons ⟨⟨h0,h1⟩,am hr h2⟩ (zT hr E)
 |[],_::_,h=>by simp[ng] at h
 |_::_,[],h=>by simp[ng] at h
theorem y4 {M:Nat->Prop}:∀ {cs:List SV} {l:List UInt8} {vs:List Value},vj cs=some l->an w M κ cs vs->cs.length=l.length/\vs.length=l.length/\∀ (j:Nat) (c:UInt8),l[j]?=some c->vs[j]?=some (.int .u8 c.toNat)
 |[],l,vs,h,hr=>by
  simp only[vj,SN] at h;subst h
  simp only[an] at hr;subst hr
  simp
 |x::cs,l,vs,h,hr=>by
  unfold vj at h
  split at h
  ·rename_i B;cases B
  ·rename_i n r B
   simp only[TA] at B
   obtain⟨rfl,rfl⟩:=B
   split at h
   ·rename_i hn
    split at h
    ·rename_i l' m
     simp only[SN] at h;subst h
     simp only[an] at hr
     obtain⟨u,us,rfl,h1,h2⟩:=hr
     obtain⟨k1,k2,k3⟩:=y4 m h2
     simp only[ah,ba] at h1
     subst h1
     refine⟨by simp[k1],by simp[k2],fun j c hj=> ?_⟩
     cases j with
     |zero=>
      simp at hj;subst hj
      have:(UInt8.ofNat n.toNat).toNat=n.toNat:=UInt8.toNat_ofNat_of_lt' (by show n.toNat<256;omega)
      simp only[Uq,this]
      congr 2;omega
     |succ j=>simpa using k3 j c (by simpa using hj)
    ·cases h
   ·cases h
  ·cases h
theorem zU:∀ {cs:List SV} {l:List UInt8},vj cs=some l->SV.noOwns cs=true
 |[],_,_=>rfl
 |x::cs,l,h=>by
  unfold vj at h
  split at h
  ·rename_i B;cases B
  ·rename_i n r B
   simp only[TA] at B
   obtain⟨rfl,rfl⟩:=B
   split at h
   ·split at h
    ·rename_i l' m
     simp only[SV.noOwns,SV.noOwn,zU m,Bool.and_self]
    ·cases h
   ·cases h
  ·cases h
theorem BT {M:Nat->Prop}:∀ {rows:List (List DV)} {l:List UInt8} {b o sz:Nat},vk rows=some l->bi w M rows b o sz->rows.length=l.length/\∀ (j:Nat) (c:UInt8),l[j]?=some c->w.cell? ⟨b,o+j,none⟩=some (.int .u8 c.toNat)
 |[],l,b,o,sz,h,hr=>by
  simp only[vk,SN] at h;subst h
  simp
 |r::rows,l,b,o,sz,h,hr=>by
  unfold vk at h
  split at h
  ·rename_i B;cases B
  ·rename_i n r' B
   simp only[TA] at B
   obtain⟨rfl,rfl⟩:=B
   split at h
   ·rename_i hn
    split at h
    ·rename_i l' m
     simp only[SN] at h;subst h
     simp only[bi] at hr
     obtain⟨h0,h1,h2⟩:=hr
     simp at h0;subst h0
     obtain⟨k1,k2⟩:=BT m h2
     simp only[b4] at h1
     obtain⟨⟨v,hv,_,r1⟩,_⟩:=h1
     simp only[ba] at r1
     subst r1
     refine⟨by simp[k1],fun j c hj=> ?_⟩
     cases j with
     |zero=>
      simp at hj;subst hj
      have:(UInt8.ofNat n.toNat).toNat=n.toNat:=UInt8.toNat_ofNat_of_lt' (by show n.toNat<256;omega)
      rw[UC,hv,this]
      congr 2;omega
     |succ j=>
      have:=k2 j c (by simpa using hj)
      rwa[show o+1+j=o+(j+1) by omega] at this
    ·cases h
   ·cases h
  ·cases h
theorem Dd:∀ {rows:List (List DV)} {l:List UInt8},vk rows=some l->rows.length=l.length
 |[],l,h=>by simp only[vk,SN] at h;subst h;rfl
 |r::rows,l,h=>by
  unfold vk at h
  split at h
  ·rename_i B;cases B
  ·rename_i n r' B
   simp only[TA] at B
   obtain⟨rfl,rfl⟩:=B
   split at h
   ·split at h
    ·rename_i l' m
     simp only[SN] at h;subst h
     simp[Dd m]
    ·cases h
   ·cases h
  ·cases h
theorem y5 (hr:cH c σ κ φ a w):∀ {k:Nat} {ps:List (Nat×Operand)} {qs:List SX},o4 c.N k ps qs=true->
  an w (own c φ) κ (qs.map (ev σ.s)) (ps.map fun q=>a.eval q.2)/\∀ (j:Nat) q,ps[j]?=some q->q.1=k+j
 |_,[],[],_=>by simp[an]
 |k,(i,x)::ps,y::qs,h=>by
  simp only[o4,SR,S1] at h
  obtain⟨⟨h1,h2⟩,E⟩:=h
  obtain⟨h4,h5⟩:=y5 hr E
  refine⟨by simp only[S5,an];exact⟨_,_,rfl,am hr h2,h4⟩,fun j q hj=> ?_⟩
  cases j with
  |zero=>simp at hj;subst hj;simp[h1]
  |succ j=>have:=h5 j q (by simpa using hj);omega
 |_,[],_::_,h=>by simp[o4] at h
 |_,_::_,[],h=>by simp[o4] at h
theorem Hv (h:II P t=true):P.underlying t=some .bool:=by
 unfold II at h;split at h
 ·assumption
 ·cases h
theorem IY (h:L4 P t=true):∃ e,P.underlying t=some (.pointer e):=by
 unfold L4 at h;split at h
 ·exact⟨_,by assumption⟩
 ·cases h
theorem Gm (h:Gf P t=true):∃ ms,P.underlying t=some (.interface ms):=by
 unfold Gf at h;split at h
 ·exact⟨_,by assumption⟩
 ·cases h
theorem De {y:SX} (h:Hn P t y=true):∃ v i z,y= .c v/\P.info? t=some i/\i.zero=some z/\rv z v=true:=by
 cases y with
 |c v=>
  simp only[Hn] at h
  split at h
  ·rename_i i hi
   split at h
   ·rename_i z hz;exact⟨v,i,z,rfl,hi,hz,h⟩
   ·cases h
  ·cases h
 |_=>simp[Hn] at h
theorem Dg {w:World} {M:Nat->Prop} {κ:Nat->Value}:∀ {cs:List SV} {vs:List Value} {ids:List Nat},an w M κ cs vs->C2 cs=some ids->vs=ids.map κ/\∀ i∈ids,∃ b,κ i= .pointer (some ⟨b,0,none⟩)
 |[],vs,ids,h,hi=>by
  simp only[C2,SN] at hi;subst hi
  unfold an at h
  exact⟨h,fun i hi=>by cases hi⟩
 |c::cs,vs,ids,h,hi=>by
  unfold an at h
  obtain⟨u,us,rfl,h1,h2⟩:=h
  unfold C2 at hi
  split at hi
  ·rename_i B;cases B
  ·rename_i id V B
   simp only[TA] at B
   obtain⟨rfl,rfl⟩:=B
   split at hi
   ·rename_i l hl
    simp only[SN] at hi;subst hi
    obtain⟨k1,k2⟩:=Dg h2 hl
    unfold ah at h1
    obtain⟨b,hk,rfl⟩:=h1
    refine⟨by rw[k1,S5,hk],fun i hi=> ?_⟩
    rcases S9.1 hi with rfl|hi
    ·exact⟨b,hk⟩
    ·exact k2 i hi
   ·cases hi
  ·cases hi
theorem Hw (hr:cH c σ κ φ a w) {o:Oper} {op:wh} (Z:cr P c.N o.op op=true) {p:Prop} {x:SV} (A:rd σ.h σ.s op=some (p,x)) (hp:p):dO P a o w (own c φ) κ x:=by
 obtain⟨dst,v7,ty,S,U,gd⟩:=o
 simp only at Z
 cases op with
 |mv y=>
  simp only[rd,SN,SS] at A
  obtain⟨_,rfl⟩:=A
  simp only[cr] at Z
  split at Z
  ·exact L5 (am hr Z)
  ·exact Gg (am hr Z)
  ·cases Z
 |pick c b d=>
  simp only[cr] at Z
  split at Z
  ·simp only[SR] at Z
   obtain⟨⟨h1,h2⟩,E⟩:=Z
   have hc:=am hr h1
   simp only[rd] at A
   split at A
   ·rename_i B
    rw[B] at hc
    simp only[SN,SS] at A
    obtain⟨_,rfl⟩:=A
    exact C5 hc (by simpa using am hr h2)
   ·rename_i B
    rw[B] at hc
    simp only[SN,SS] at A
    obtain⟨_,rfl⟩:=A
    exact C5 hc (by simpa using am hr E)
   ·cases A
  ·cases Z
 |boxI y=>
  simp only[cr] at Z
  split at Z
  ·have hy:=am hr Z
   simp only[rd] at A
   split at A
   ·rename_i cs B
    simp only[SN,SS] at A
    obtain⟨_,rfl⟩:=A
    unfold JG at B
    cases hd:(ev σ.s y).toDV with
    |none=>simp[hd] at B
    |some dd=>
     simp only[hd] at B
     obtain⟨vs,h1,h2,E⟩:=(ah.toDV _ _ dd hy hd).cells B
     exact KM (fun b hb=>hr.own_lt hb) h1 h2 E
   ·cases A
  ·obtain⟨v,i,z,rfl,hi,hz,u9⟩:=De Z
   have hy:ah w (own c φ) κ v z:=pM u9
   simp only[rd,ev] at A
   split at A
   ·rename_i cs B
    simp only[SN,SS] at A
    obtain⟨_,rfl⟩:=A
    unfold JG at B
    cases hd:v.toDV with
    |none=>simp[hd] at B
    |some dd=>
     simp only[hd] at B
     obtain⟨vs,h1,h2,E⟩:=(ah.toDV _ _ dd hy hd).cells B
     exact Ho hi hz (fun b hb=>hr.own_lt hb) h1 h2 E
   ·cases A
  ·cases Z
 |ld1 y=>
  simp only[cr] at Z
  split at Z
  ·simp only[SR] at Z
   obtain⟨h1,h2⟩:=Z
   have hy:=am hr h1
   split at h2
   ·rename_i d hd
    simp only[TR] at h2
    simp only[rd] at A
    split at A
    ·rename_i c cs B
     simp only[SN,SS] at A
     obtain⟨_,rfl⟩:=A
     rw[B] at hy
     simp only[ah,ba,b4] at hy
     obtain⟨b,o,hv,s6,h9,⟨v,r7,_,r0⟩,_⟩:=hy
     exact AP hd h2 hv r7 (by simpa only[ah] using r0)
    ·rename_i id off B
     rw[B] at hy
     simp only[ah] at hy
     obtain⟨b,r4,hv⟩:=hy
     split at A
     ·rename_i cs H
      split at A
      ·rename_i c hc
       split at A
       ·rename_i r6
        simp only[SN,SS] at A
        obtain⟨_,rfl⟩:=A
        obtain⟨b',vs,G,r3,hl,s9,F⟩:=Fm hr H
        rw[r4] at r3;simp at r3;subst r3
        obtain⟨v,G',s0,s3⟩:=hl.get hc
        exact AP hd h2 hv (by rw[F];exact s0) (aQ.to_S _ _ _ r6 s3).1
       ·cases A
      ·cases A
     ·cases A
    ·rename_i id sz i off B
     rw[B] at hy
     simp only[ah] at hy
     obtain⟨b,len,D,r4,hv⟩:=hy
     split at A
     ·rename_i e N rows H
      split at A
      ·rename_i r V
       split at A
       ·rename_i c hc
        split at A
        ·rename_i r6
         simp only[SN,SS] at A
         obtain⟨rfl,rfl⟩:=A
         subst hp
         obtain⟨h8,vs,G,hl,_,F⟩:=Fn hr H V r4
         obtain⟨v,G',s0,s3⟩:=hl.get hc
         exact AP hd h2 hv (F off v s0) (aQ.to_S _ _ _ r6 s3).1
        ·cases A
       ·cases A
      ·cases A
     ·cases A
    ·cases A
   ·cases h2
  ·cases Z
 |ldA n y=>
  simp only[cr] at Z
  split at Z
  ·simp only[SR,S1] at Z
   obtain⟨⟨⟨h1,h2⟩,E⟩,h4⟩:=Z
   have hy:=am hr h1
   split at h2
   ·rename_i d hd
    simp only[rd] at A
    split at A
    ·rename_i cs B
     simp only[SN,SS] at A
     obtain⟨rfl,rfl⟩:=A
     rw[B] at hy
     simp only[ah,ba] at hy
     obtain⟨b,o,hv,s6,h9,v0⟩:=hy
     obtain⟨vs,hl,s,F⟩:=v0.values
     have h8:=hl.length
     refine AQ (vs:=vs.take n) hd h2 E oT hv (fun j v hj=>F j v ?_) ?_
     ·rw[T5] at hj;split at hj
      ·exact hj
      ·cases hj
     ·simp only[ah,ba]
      exact⟨_,rfl,fun z hz=>s z (Tm hz),hl.take n⟩
    ·rename_i id off B
     rw[B] at hy
     simp only[ah] at hy
     obtain⟨b,r4,hv⟩:=hy
     split at A
     ·rename_i cs H
      split at A
      ·rename_i r6
       simp only[SN,SS] at A
       obtain⟨rfl,rfl⟩:=A
       obtain⟨b',vs,G,r3,hl,s9,F⟩:=Fm hr H
       rw[r4] at r3;simp at r3;subst r3
       have h8:=hl.length
       refine AQ (vs:=(vs.drop off).take n) hd h2 E oT hv (fun j v hj=> ?_) ?_
       ·rw[T5] at hj;split at hj
        ·rw[T0] at hj;rw[F];exact hj
        ·cases hj
       ·simp only[ah]
        obtain⟨G1,_,k1⟩:=hl.drop off
        obtain⟨G2,_,k2⟩:=k1.take n
        exact⟨_,rfl,fun z hz=>s9 z (TE (Tm hz)),(ar.to_S _ _ _ r6 k2).1⟩
      ·cases A
     ·cases A
    ·rename_i id sz i off B
     rw[B] at hy
     simp only[ah] at hy
     obtain⟨b,len,D,r4,hv⟩:=hy
     split at A
     ·rename_i e N rows H
      split at A
      ·rename_i r V
       split at A
       ·rename_i r6
        simp only[SN,SS] at A
        obtain⟨rfl,rfl⟩:=A
        obtain⟨rfl,r9⟩:=hp
        obtain⟨h8,vs,G,hl,s,F⟩:=Fn hr H V r4
        have h8:=hl.length
        refine AQ (vs:=(vs.drop off).take n) hd h2 E oT hv (fun j v hj=> ?_) ?_
        ·rw[T5] at hj;split at hj
         ·rw[T0] at hj
          have:=F _ _ hj
          rwa[<-UZ] at this
         ·cases hj
        ·simp only[ah]
         obtain⟨G1,_,k1⟩:=hl.drop off
         obtain⟨G2,_,k2⟩:=k1.take n
         exact⟨_,rfl,fun z hz=>s z (TE (Tm hz)),(ar.to_S _ _ _ r6 k2).1⟩
       ·cases A
      ·cases A
     ·cases A
    ·cases A
   ·cases h2
  ·cases Z
 |fld off y=>
  simp only[cr] at Z
  split at Z
  ·simp only[SR] at Z
   obtain⟨h1,h2⟩:=Z
   have hy:=am hr h1
   split at h2
   ·rename_i fs u4
    split at h2
    ·rename_i f hf
     simp only[SR,S1,bne_iff_ne] at h2
     obtain⟨⟨rfl,E⟩,h4⟩:=h2
     simp only[rd] at A
     split at A
     ·rename_i cs B
      simp only[SN,SS] at A
      obtain⟨_,rfl⟩:=A
      rw[B] at hy
      simp only[ah,ba] at hy
      obtain⟨b,o,hv,s6,h9,v0⟩:=hy
      exact AU u4 hf E h4 hv (by simp only[ah,ba];exact⟨b,_,rfl,s6,h9,v0.drop _⟩)
     ·rename_i id o B
      simp only[SN,SS] at A
      obtain⟨_,rfl⟩:=A
      rw[B] at hy
      simp only[ah] at hy
      obtain⟨b,r4,hv⟩:=hy
      exact AU u4 hf E h4 hv (by simp only[ah];exact⟨b,r4,rfl⟩)
     ·rename_i id sz i o B
      simp only[SN,SS] at A
      obtain⟨_,rfl⟩:=A
      rw[B] at hy
      simp only[ah] at hy
      obtain⟨b,len,D,r4,hv⟩:=hy
      exact AU u4 hf E h4 hv (by simp only[ah];exact⟨b,len,D,r4,by rw[UZ]⟩)
     ·cases A
    ·cases h2
   ·cases h2
  ·cases Z
 |vidxA len wd y j=>
  simp only[cr] at Z
  split at Z
  ·simp only[SR] at Z
   obtain⟨⟨h1,h2⟩,E⟩:=Z
   have hy:=am hr h1
   have hj:=am hr h2
   split at E
   ·rename_i w1 e J
    simp only[SR,S1] at E
    obtain⟨⟨⟨rfl,h4⟩,rfl⟩,h6⟩:=E
    split at h6
    ·rename_i d hd
     simp only[rd] at A
     split at A
     ·rename_i cs k n B M
      simp only[SN,SS] at A
      obtain⟨rfl,rfl⟩:=A
      rw[B] at hy;rw[M] at hj
      simp only[ah,ba] at hy hj
      obtain⟨vs,hv,s,hl⟩:=hy
      exact BM J h4 hd h6 hv hj hp.1 hp.2 (by simp only[ah,ba];exact⟨_,rfl,fun z hz=>s z (TE (Tm hz)),(hl.drop _).take _⟩)
     ·rename_i cs k n B M
      split at A
      ·rename_i xs T
       simp only[SN,SS] at A
       obtain⟨rfl,rfl⟩:=A
       rw[B] at hy;rw[M] at hj
       simp only[ah,ba] at hy hj
       obtain⟨vs,hv,s,hl⟩:=hy
       exact BM J h4 hd h6 hv hj hp.1 hp.2 (by simp only[ah,ba];exact⟨_,rfl,fun z hz=>s z (TE (Tm hz)),an.toDVs _ _ _ ((hl.drop _).take _) T⟩)
      ·cases A
     ·cases A
    ·cases h6
   ·cases E
  ·cases Z
 |vidx len y j=>
  simp only[cr] at Z
  split at Z
  ·simp only[SR] at Z
   obtain⟨⟨h1,h2⟩,E⟩:=Z
   have hy:=am hr h1
   have hj:=am hr h2
   split at E
   ·rename_i w1 e J
    simp only[SR,S1] at E
    obtain⟨⟨⟨rfl,h4⟩,h5⟩,h6⟩:=E
    split at h6
    ·rename_i d hd
     simp only[TR] at h6
     simp only[rd] at A
     split at A
     ·rename_i cs k n B M
      split at A
      ·rename_i c hc
       simp only[SN,SS] at A
       obtain⟨rfl,rfl⟩:=A
       rw[B] at hy;rw[M] at hj
       simp only[ah,ba] at hy hj
       obtain⟨vs,hv,_,hl⟩:=hy
       obtain⟨v,s0,s3⟩:=hl.get hc
       exact C6 J h4 h5 hd h6 hv hj hp.1 hp.2 s0 (by simpa only[ah] using s3)
      ·cases A
     ·rename_i cs k n B M
      split at A
      ·rename_i c hc
       simp only[SN,SS] at A
       obtain⟨rfl,rfl⟩:=A
       rw[B] at hy;rw[M] at hj
       simp only[ah,ba] at hy hj
       obtain⟨vs,hv,_,hl⟩:=hy
       obtain⟨v,s0,s3⟩:=hl.get hc
       exact C6 J h4 h5 hd h6 hv hj hp.1 hp.2 s0 s3
      ·cases A
     ·cases A
    ·cases h6
   ·cases E
  ·cases Z
 |prt1 off y=>
  simp only[cr] at Z
  split at Z
  ·simp only[SR] at Z
   obtain⟨h1,h2⟩:=Z
   have hy:=am hr h1
   split at h2
   ·rename_i fs u4
    split at h2
    ·rename_i f hf
     simp only[SR,S1] at h2
     obtain⟨rfl,E⟩:=h2
     split at E
     ·rename_i d hd
      simp only[TR] at E
      simp only[rd] at A
      split at A
      ·rename_i cs B
       split at A
       ·rename_i c hc
        simp only[SN,SS] at A
        obtain⟨_,rfl⟩:=A
        rw[B] at hy
        simp only[ah,ba] at hy
        obtain⟨vs,hv,_,hl⟩:=hy
        obtain⟨v,s0,s3⟩:=hl.get hc
        exact C7 u4 hf hd E hv s0 (by simpa only[ah] using s3)
       ·cases A
      ·rename_i cs B
       split at A
       ·rename_i c hc
        simp only[SN,SS] at A
        obtain⟨_,rfl⟩:=A
        rw[B] at hy
        simp only[ah] at hy
        obtain⟨vs,hv,_,hl⟩:=hy
        obtain⟨v,s0,s3⟩:=hl.get hc
        exact C7 u4 hf hd E hv s0 s3
       ·cases A
      ·cases A
     ·cases E
    ·cases h2
   ·cases h2
  ·cases Z
 |prtA off n y=>
  simp only[cr] at Z
  split at Z
  ·simp only[SR] at Z
   obtain⟨h1,h2⟩:=Z
   have hy:=am hr h1
   split at h2
   ·rename_i fs u4
    split at h2
    ·rename_i f hf
     simp only[SR,S1] at h2
     obtain⟨⟨⟨rfl,E⟩,h4⟩,rfl⟩:=h2
     split at E
     ·rename_i d hd
      simp only[rd] at A
      split at A
      ·rename_i cs B
       simp only[SN,SS] at A
       obtain⟨_,rfl⟩:=A
       rw[B] at hy
       simp only[ah,ba] at hy
       obtain⟨vs,hv,s,hl⟩:=hy
       exact C8 u4 hf hd E h4 hv (by simp only[ah,ba];exact⟨_,rfl,fun z hz=>s z (TE (Tm hz)),(hl.drop _).take _⟩)
      ·rename_i cs B
       simp only[SN,SS] at A
       obtain⟨_,rfl⟩:=A
       rw[B] at hy
       simp only[ah] at hy
       obtain⟨vs,hv,s,hl⟩:=hy
       exact C8 u4 hf hd E h4 hv (by simp only[ah];exact⟨_,rfl,fun z hz=>s z (TE (Tm hz)),(hl.drop _).take _⟩)
      ·cases A
     ·cases E
    ·cases h2
   ·cases h2
  ·cases Z
 |idx sz y j=>
  simp only[cr] at Z
  split at Z
  ·simp only[SR] at Z
   obtain⟨⟨h1,h2⟩,E⟩:=Z
   have hy:=am hr h1
   have hj:=am hr h2
   split at E
   ·rename_i e J
    simp only[SR,S1] at E
    obtain⟨h4,rfl⟩:=E
    simp only[rd] at A
    split at A
    ·rename_i k n M
     rw[M] at hj
     simp only[ah,ba] at hj
     split at A
     ·rename_i rows B
      rw[B] at hy
      simp only[ah,ba] at hy
      obtain⟨X,D,hv,hc,hn,r1⟩:=hy
      split at A
      ·rename_i r V
       simp only[SN,SS] at A
       obtain⟨rfl,rfl⟩:=A
       obtain⟨h0,h8⟩:=hp
       have h9:n.toNat<rows.length:=(SY.1 V).1
       rcases r1 with r1|⟨b,o,N,rfl,s6,hb,K⟩
       ·subst r1;simp at V
       ·have I:N=P.cellsOf e:=by
         rw[bi.iff] at K
         rw[<-h8];exact(K.1 r (ST V)).symm
        subst I
        refine AV J h4 hv hj h0 oM ?_
        simp only[ah,ba]
        refine⟨b,_,rfl,s6,hb, ?_⟩
        have:=K.drop n.toNat
        rw[Uf h9] at this
        unfold bi at this
        have e:rows[n.toNat]=r:=(SY.1 V).2
        rw[e] at this
        exact this.2.1
      ·cases A
     ·rename_i v5 k cs B
      rw[B] at hy
      split at A
      ·rename_i O r8
       have s7:=ah.toDV _ _ (.slice (fN v5 k O)) hy (by simp only[SV.toDV,r8])
       generalize fN v5 k O=rows at A s7
       simp only[ba] at s7
       obtain⟨X,D,hv,hc,hn,r1⟩:=s7
       split at A
       ·rename_i r V
        simp only[SN,SS] at A
        obtain⟨rfl,rfl⟩:=A
        obtain⟨h0,h8⟩:=hp
        have h9:n.toNat<rows.length:=(SY.1 V).1
        rcases r1 with r1|⟨b,o,N,rfl,s6,hb,K⟩
        ·subst r1;simp at V
        ·have I:N=P.cellsOf e:=by
          rw[bi.iff] at K
          rw[<-h8];exact(K.1 r (ST V)).symm
         subst I
         refine AV J h4 hv hj h0 oM ?_
         simp only[ah,ba]
         refine⟨b,_,rfl,s6,hb, ?_⟩
         have:=K.drop n.toNat
         rw[Uf h9] at this
         unfold bi at this
         have e:rows[n.toNat]=r:=(SY.1 V).2
         rw[e] at this
         exact this.2.1
       ·cases A
      ·cases A
     ·rename_i id B
      rw[B] at hy
      simp only[ah] at hy
      split at A
      ·rename_i W N rows H
       simp only[SN,SS] at A
       obtain⟨rfl,rfl⟩:=A
       obtain⟨h0,h5,rfl⟩:=hp
       rcases Gl hr H with⟨_,rfl⟩|⟨b,D,r4⟩
       ·simp at h5;omega
       ·refine AV J h4 (hy.trans r4) hj h0 h5 ?_
        simp only[ah]
        exact⟨b,_,D,r4,by simp⟩
      ·cases A
     ·cases A
    ·cases A
   ·cases E
  ·cases Z
 |sidx y j=>
  simp only[cr] at Z
  split at Z
  ·simp only[SR] at Z
   obtain⟨⟨h1,h2⟩,E⟩:=Z
   have hy:=am hr h1
   have hj:=am hr h2
   split at E
   ·rename_i J
    simp only[rd] at A
    split at A
    ·rename_i l k n B M
     rw[M] at hj
     rw[B] at hy
     simp only[ah,ba] at hj hy
     split at A
     ·rename_i c hc
      simp only[SN,SS] at A
      obtain⟨rfl,rfl⟩:=A
      exact IJ J hy hj hp hc
     ·cases A
    ·cases A
   ·cases E
  ·cases Z
 |bin b y z=>
  simp only[cr] at Z
  split at Z
  ·simp only[SR,S1] at Z
   obtain⟨⟨rfl,h1⟩,h2⟩:=Z
   have hy:=am hr h1
   have hz:=am hr h2
   simp only[rd] at A
   split at A
   ·rename_i B u1
    rw[B] at hy;rw[u1] at hz
    split at A
    ·rename_i hb
     simp only[SN,SS] at A
     obtain⟨rfl,rfl⟩:=A
     exact uD (by trivial) hy.d hz.d hb hp
    ·cases A
   ·rename_i B u1
    rw[B] at hy;rw[u1] at hz
    split at A
    ·rename_i hb
     simp only[SN,SS] at A
     obtain⟨rfl,rfl⟩:=A
     exact uD (by trivial) hy.d hz.d hb hp
    ·cases A
   ·cases A
  ·cases Z
 |binB b y z=>
  simp only[cr] at Z
  split at Z
  ·simp only[SR,S1] at Z
   obtain⟨⟨⟨rfl,h1⟩,h2⟩,E⟩:=Z
   have hy:=am hr h1
   have hz:=am hr h2
   have Y:=Hv E
   simp only[rd] at A
   split at A
   ·rename_i B u1
    rw[B] at hy;rw[u1] at hz
    split at A
    ·rename_i hb
     simp only[SN,SS] at A
     obtain⟨rfl,rfl⟩:=A
     (refine uD ?_ hy.d hz.d hb hp;exact Y)
    ·cases A
   ·cases A
  ·cases Z
 |binI b y z=>
  simp only[cr] at Z
  split at Z
  ·simp only[SR,S1,Tn] at Z
   obtain⟨⟨⟨⟨rfl,h1⟩,h2⟩,E⟩,h4⟩:=Z
   have hy:=am hr h1
   have hz:=am hr h2
   have Y:=Gm E
   simp only[rd] at A
   split at A
   ·rename_i B u1
    rw[B] at hy;rw[u1] at hz
    split at A
    ·rename_i hb
     simp only[SN,SS] at A
     obtain⟨rfl,rfl⟩:=A
     (refine uD ?_ hy.d hz.d hb hp;exact⟨h4,Y⟩)
    ·cases A
   ·rename_i B u1
    rw[B] at hy;rw[u1] at hz
    split at A
    ·rename_i hb
     simp only[SN,SS] at A
     obtain⟨rfl,rfl⟩:=A
     (refine uD ?_ hy.d hz.d hb hp;exact⟨h4,Y⟩)
    ·cases A
   ·cases A
  ·cases Z
 |gd _ _ _=>simp[cr] at Z
 |binP b y z=>
  simp only[cr] at Z
  split at Z
  ·simp only[SR,S1] at Z
   obtain⟨⟨⟨rfl,h1⟩,h2⟩,E⟩:=Z
   have hy:=am hr h1
   have hz:=am hr h2
   obtain⟨e,J⟩:=IY E
   simp only[rd] at A
   split at A
   ·rename_i B
    rw[B] at hz
    simp only[ah,ba] at hz
    split at A
    ·split at A
     ·rename_i u3
      rw[u3] at hy
      simp only[ah] at hy
      obtain⟨bb,_,hv⟩:=hy
      simp only[SN,SS] at A
      obtain⟨_,rfl⟩:=A
      exact aH (v:= .bool false) (by simp[execOp,hv,hz,eqGuard,binOp,y2 _ J]) (by simp[ah,ba])
     ·rename_i u3
      rw[u3] at hy
      simp only[ah] at hy
      obtain⟨bb,_,_,_,hv⟩:=hy
      simp only[SN,SS] at A
      obtain⟨_,rfl⟩:=A
      exact aH (v:= .bool false) (by simp[execOp,hv,hz,eqGuard,binOp,y2 _ J]) (by simp[ah,ba])
     ·rename_i u3
      rw[u3] at hy
      simp only[ah,ba] at hy
      simp only[SN,SS] at A
      obtain⟨_,rfl⟩:=A
      exact aH (v:= .bool true) (by simp[execOp,hy,hz,eqGuard,binOp,y2 _ J]) (by simp[ah,ba])
     ·cases A
    ·cases A
   ·cases A
  ·cases Z
 |not y=>
  simp only[cr] at Z
  split at Z
  ·have hy:=am hr Z
   simp only[rd] at A
   split at A
   ·rename_i B
    rw[B] at hy
    simp only[ah,ba] at hy
    simp only[SN,SS] at A
    obtain⟨_,rfl⟩:=A
    exact KN hy
   ·cases A
  ·cases Z
 |neg y=>
  simp only[cr] at Z
  split at Z
  ·have hy:=am hr Z
   simp only[rd] at A
   split at A
   ·rename_i B
    rw[B] at hy
    simp only[ah,ba] at hy
    simp only[SN,SS] at A
    obtain⟨_,rfl⟩:=A
    exact KO hy
   ·cases A
  ·cases Z
 |cvi k y=>
  simp only[cr] at Z
  split at Z
  ·simp only[SR] at Z
   obtain⟨⟨h1,h2⟩,E⟩:=Z
   have hy:=am hr h1
   split at E
   ·rename_i Y
    simp only[S1] at E
    subst E
    simp only[rd] at A
    split at A
    ·rename_i B
     rw[B] at hy
     simp only[ah,ba] at hy
     simp only[SN,SS] at A
     obtain⟨_,rfl⟩:=A
     exact KP h2 Y hy
    ·cases A
   ·cases E
  ·cases Z
 |ext y i=>
  simp only[cr] at Z
  split at Z
  ·simp only[SR,S1] at Z
   obtain⟨h1,rfl⟩:=Z
   have hy:=am hr h1
   simp only[rd] at A
   split at A
   ·rename_i cs B
    rw[B] at hy
    simp only[ah,ba] at hy
    obtain⟨vs,hv,hl⟩:=hy
    split at A
    ·rename_i c hc
     simp only[SN,SS] at A
     obtain⟨_,rfl⟩:=A
     obtain⟨v,s0,s3⟩:=hl.get hc
     exact Fe hv s0 (by simpa only[ah] using s3)
    ·cases A
   ·rename_i cs B
    rw[B] at hy
    simp only[ah] at hy
    obtain⟨vs,hv,hl⟩:=hy
    split at A
    ·rename_i c hc
     simp only[SN,SS] at A
     obtain⟨_,rfl⟩:=A
     obtain⟨v,s0,s3⟩:=hl.get hc
     exact Fe hv s0 s3
    ·cases A
   ·cases A
  ·cases Z
 |len y=>
  simp only[cr] at Z
  split at Z
  ·split at Z
   ·rename_i L t' Q u5
    simp only[SR] at Z
    obtain⟨h1,h2⟩:=Z
    have hy:=am hr h1
    split at h2
    ·rename_i e J
     simp only[rd] at A
     split at A
     ·rename_i rows B
      rw[B] at hy
      simp only[ah,ba] at hy
      obtain⟨X,D,hv,_⟩:=hy
      simp only[SN,SS] at A
      obtain⟨_,rfl⟩:=A
      exact jT Q u5 J hv
     ·rename_i B
      rw[B] at hy
      simp only[ah] at hy
      simp only[SN,SS] at A
      obtain⟨_,rfl⟩:=A
      exact jT Q u5 J hy
     ·rename_i n' B
      rw[B] at hy
      simp only[ah] at hy
      obtain⟨b,vs,hv,_⟩:=hy
      simp only[SN,SS] at A
      obtain⟨_,rfl⟩:=A
      exact jT Q u5 J hv
     ·rename_i id B
      rw[B] at hy
      simp only[ah] at hy
      split at A
      ·rename_i W N rows H
       simp only[SN,SS] at A
       obtain⟨_,rfl⟩:=A
       rcases Gl hr H with⟨v8,rfl⟩|⟨b,D,r4⟩
       ·exact jT Q u5 J (hy.trans v8)
       ·exact jT Q u5 J (hy.trans r4)
      ·cases A
     ·cases A
    ·cases h2
   ·cases Z
  ·cases Z
 |lenT y=>
  simp only[cr] at Z
  split at Z
  ·split at Z
   ·rename_i L t' Q u5
    simp only[SR] at Z
    obtain⟨h1,h2⟩:=Z
    have hy:=am hr h1
    split at h2
    ·rename_i J
     simp only[rd] at A
     split at A
     ·rename_i l B
      rw[B] at hy
      simp only[ah,ba] at hy
      simp only[SN,SS] at A
      obtain⟨_,rfl⟩:=A
      exact EL Q u5 J hy
     ·cases A
    ·cases h2
   ·cases Z
  ·cases Z
 |lenM y=>
  simp only[cr] at Z
  split at Z
  ·split at Z
   ·rename_i L t' Q u5
    simp only[SR] at Z
    obtain⟨h1,h2⟩:=Z
    have hy:=am hr h1
    split at h2
    ·rename_i J
     simp only[rd] at A
     split at A
     ·rename_i id B
      rw[B] at hy
      simp only[ah] at hy
      split at A
      ·rename_i kv H
       simp only[SN,SS] at A
       obtain⟨_,rfl⟩:=A
       have r2:=hr.chunks id
       rw[H] at r2
       obtain⟨r,es,C,G,hk,hh,_,s4,_⟩:=r2
       rw[<-s4.length]
       exact EM Q u5 J (hy.trans hk) hh
      ·cases A
     ·cases A
    ·cases h2
   ·cases Z
  ·cases Z
 |mins y ys=>
  simp only[cr] at Z
  split at Z
  ·rename_i args ts
   have T:=jq hr Z
   simp only[rd] at A
   split at A
   ·rename_i m l B u0
    cases r5:args.toList with
    |nil=>rw[r5] at Z;simp[lC] at Z
    |cons L w4=>
     rw[r5] at T
     simp only[S5,an,TA] at T
     obtain⟨u,us,⟨rfl,rfl⟩,s5,s8⟩:=T
     rw[B] at s5
     simp only[ah,ba] at s5
     split at A
     ·rename_i r v6
      simp only[SN,SS] at A
      obtain⟨_,rfl⟩:=A
      exact IM r5 s5 (an.toDVs _ _ _ s8 u0) v6
     ·cases A
   ·cases A
  ·cases Z
 |maxs y ys=>
  simp only[cr] at Z
  split at Z
  ·rename_i args ts
   have T:=jq hr Z
   simp only[rd] at A
   split at A
   ·rename_i m l B u0
    cases r5:args.toList with
    |nil=>rw[r5] at Z;simp[lC] at Z
    |cons L w4=>
     rw[r5] at T
     simp only[S5,an,TA] at T
     obtain⟨u,us,⟨rfl,rfl⟩,s5,s8⟩:=T
     rw[B] at s5
     simp only[ah,ba] at s5
     split at A
     ·rename_i r v6
      simp only[SN,SS] at A
      obtain⟨_,rfl⟩:=A
      exact IO r5 s5 (an.toDVs _ _ _ s8 u0) v6
     ·cases A
   ·cases A
  ·cases Z
 |mkfn f ys=>
  simp only[cr] at Z
  split at Z
  ·simp only[SR,S1] at Z
   obtain⟨⟨rfl,h2⟩,E⟩:=Z
   have T:=jq hr E
   simp only[rd] at A
   split at A
   ·rename_i l u0
    simp only[SN,SS] at A
    obtain⟨_,rfl⟩:=A
    exact IP h2 (an.toDVs _ _ _ T u0)
   ·split at A
    ·rename_i ids u0
     simp only[SN,SS] at A
     obtain⟨_,rfl⟩:=A
     obtain⟨k1,k2⟩:=Dg T u0
     exact Hq h2 k1 k2
    ·cases A
  ·cases Z
 |build zs ps=>
  simp only[cr] at Z
  split at Z
  ·split at Z
   ·rename_i fs i hu hi
    simp only[SR] at Z
    obtain⟨⟨h1,h2⟩,E⟩:=Z
    split at h1
    ·rename_i z hz
     simp only[rd] at A
     split at A
     ·rename_i cs s2
      simp only[SN,SS] at A
      obtain⟨_,rfl⟩:=A
      exact Ht hr.kok hu hi hz h1 h2 (BS hr E) s2
     ·cases A
    ·cases h1
   ·rename_i len e i hu hi
    split at Z
    ·rename_i ie v9
     simp only[SR] at Z
     obtain⟨h1,E⟩:=Z
     split at h1
     ·rename_i z hz
      simp only[rd] at A
      split at A
      ·rename_i cs s2
       simp only[SN,SS] at A
       obtain⟨_,rfl⟩:=A
       exact Gj hr.kok hu hi v9 hz h1 (zT hr E) s2
      ·cases A
     ·cases h1
    ·cases Z
   ·cases Z
  ·cases Z
 |bslice sz xs=>
  simp only[cr] at Z
  split at Z
  ·simp only[SR,S1] at Z
   obtain⟨⟨h1,h2⟩,E⟩:=Z
   obtain⟨r0,s1⟩:=y5 hr h2
   split at E
   ·rename_i e J
    split at E
    ·rename_i i hi
     simp only[SR,S1,SU] at E
     obtain⟨⟨⟨h4,h5⟩,h6⟩,h7⟩:=E
     split at h7
     ·rename_i z hz
      simp only[S1] at h7
      simp only[rd] at A
      split at A
      ·rename_i rows K
       simp only[SN,SS] at A
       obtain⟨_,rfl⟩:=A
       have:=Gk (dst:=dst) (ty:=ty) (S:=S) (U:=U) (gd:=gd) hr.kok (fun b hb=>hr.own_lt hb) J hi h4 h5 h6 hz h7 h1 r0 (fun j q hj=>by simpa using s1 j q hj) K
       simpa using this
      ·cases A
     ·cases h7
    ·cases E
   ·cases E
  ·cases Z
 |slc sz y l h=>
  simp only[cr] at Z
  split at Z
  ·rename_i t L lo hi
   simp only[SR] at Z
   obtain⟨⟨⟨h1,h2⟩,E⟩,h4⟩:=Z
   have hy:=am hr h1
   split at h4
   ·rename_i e J
    simp only[SR,S1,SU] at h4
    obtain⟨⟨h5,rfl⟩,h7⟩:=h4
    have u7:∀ (lo:Option Operand) (l:Option SX),lD c.N lo l=true->∀ x y,lo=some x->l=some y->ah w (own c φ) κ (ev σ.s y) (a.eval x):=fun lo l u2 x y e1 e2=>by
     subst e1 e2;simp only[lD] at u2;exact am hr u2
    simp only[rd] at A
    split at A
    ·rename_i rows l' h' B hl hh
     simp only[SN,SS] at A
     obtain⟨rfl,rfl⟩:=A
     rw[B] at hy
     exact Fk J h5 rfl h7 hy.d (rz (u7 lo l h2) h2 hl) (rz (u7 hi h E) E hh) hp.1 hp.2.1 hp.2.2.1 hp.2.2.2
    ·rename_i v5 k cs l' h' B hl hh
     split at A
     ·rename_i O r8
      simp only[SN,SS] at A
      obtain⟨rfl,rfl⟩:=A
      rw[B] at hy
      obtain⟨rfl,hp⟩:=hp
      have s7:=ah.toDV _ _ (.slice (fN (P.cellsOf e) k O)) hy (by simp only[SV.toDV,r8])
      have h8:=ir (P.cellsOf e) k O
      have R:∀ r∈fN (P.cellsOf e) k O,r.length=P.cellsOf e:=by
       simp only[ah] at hy
       obtain⟨b,vs,_,_,_,v1,_,_,u8⟩:=hy
       exact vg _ k O (by rw[<-(an.toDVs _ _ _ u8 r8).length,v1])
      have:=Fk (dst:=dst) (ty:=ty) (S:=S) (U:=U) (gd:=gd) (κ:=κ) J h5 rfl h7 s7 (rz (u7 lo l h2) h2 hl) (rz (u7 hi h E) E hh) R hp.1 (by rw[h8];exact hp.2.1) (by rw[h8];exact hp.2.2)
      rw[h8] at this
      exact this
     ·cases A
    ·rename_i l' h' B hl hh
     simp only[SN,SS] at A
     obtain⟨rfl,rfl⟩:=A
     rw[B] at hy
     simp only[ah] at hy
     exact EO J h5 hy (rz (u7 lo l h2) h2 hl) (rz (u7 hi h E) E hh) hp.1 hp.2
    ·cases A
   ·cases h4
  ·cases Z
 |sslc y l h=>
  simp only[cr] at Z
  split at Z
  ·rename_i t L lo hi
   simp only[SR] at Z
   obtain⟨⟨⟨h1,h2⟩,E⟩,h4⟩:=Z
   have hy:=am hr h1
   split at h4
   ·rename_i J
    have u7:∀ (lo:Option Operand) (l:Option SX),lD c.N lo l=true->∀ x y,lo=some x->l=some y->ah w (own c φ) κ (ev σ.s y) (a.eval x):=fun lo l u2 x y e1 e2=>by
     subst e1 e2;simp only[lD] at u2;exact am hr u2
    simp only[rd] at A
    split at A
    ·rename_i b l' h' B hl hh
     simp only[SN,SS] at A
     obtain⟨rfl,rfl⟩:=A
     rw[B] at hy
     simp only[ah,ba] at hy
     exact IW J hy (rz (u7 lo l h2) h2 hl) (rz (u7 hi h E) E hh) hp.1 hp.2.1 hp.2.2
    ·cases A
   ·cases h4
  ·cases Z
 |nilc y=>
  simp only[cr] at Z
  split at Z
  ·have hy:=am hr Z
   simp only[rd] at A
   split at A
   ·rename_i B
    rw[B] at hy
    simp only[SN,SS] at A
    obtain⟨_,rfl⟩:=A
    have s7:=hy
    simp only[ah] at s7
    obtain⟨b,_,hv⟩:=s7
    exact aH (by simp[execOp,hv]) (hv▸hy)
   ·rename_i B
    rw[B] at hy
    simp only[SN,SS] at A
    obtain⟨_,rfl⟩:=A
    have s7:=hy
    simp only[ah] at s7
    obtain⟨b,_,_,_,hv⟩:=s7
    exact aH (by simp[execOp,hv]) (hv▸hy)
   ·rename_i B
    rw[B] at hy
    simp only[SN,SS] at A
    obtain⟨_,rfl⟩:=A
    have s7:=hy
    simp only[ah,ba] at s7
    obtain⟨b,o,hv,_⟩:=s7
    exact aH (by simp[execOp,hv]) (hv▸hy)
   ·cases A
  ·cases Z
 |aidx sz n y j=>
  simp only[cr] at Z
  split at Z
  ·simp only[SR] at Z
   obtain⟨⟨h1,h2⟩,E⟩:=Z
   have hy:=am hr h1
   have hj:=am hr h2
   split at E
   ·rename_i len e J
    simp only[SR,S1] at E
    obtain⟨⟨rfl,h4⟩,rfl⟩:=E
    simp only[rd] at A
    split at A
    ·rename_i id off k i B M
     rw[B] at hy;rw[M] at hj
     simp only[ah,ba] at hy hj
     obtain⟨b,r4,hv⟩:=hy
     simp only[SN,SS] at A
     obtain⟨rfl,rfl⟩:=A
     refine aH (v:= .pointer (some ⟨b,off+i.toNat * P.cellsOf e,none⟩)) ?_ (by simp only[ah];exact⟨b,r4,rfl⟩)
     simp[execOp,Instr.indexAt,hj,hv,asIntOf,run_underlying J,Instr.sureAddr,hp,dv h4,gy]
    ·cases A
   ·cases E
  ·cases Z
 |slcP n y l=>
  simp only[cr] at Z
  split at Z
  ·simp only[SR] at Z
   obtain⟨⟨h1,h2⟩,E⟩:=Z
   have hy:=am hr h1
   have hj:=am hr h2
   split at E
   ·rename_i len e J
    simp only[SR,S1] at E
    obtain⟨⟨rfl,h4⟩,h5⟩:=E
    simp only[rd] at A
    split at A
    ·rename_i cs k i B M
     rw[B] at hy;rw[M] at hj
     simp only[ah] at hy hj
     unfold ba at hj
     simp only[SN,SS] at A
     obtain⟨rfl,rfl⟩:=A
     exact IU J h4 h5 hy hj hp.1 hp.2.1 hp.2.2
    ·cases A
   ·cases E
  ·cases Z
 |slc3 sz y l h m=>
  simp only[cr] at Z
  split at Z
  ·rename_i t L lo hi mx
   simp only[SR] at Z
   obtain⟨⟨⟨⟨h1,h2⟩,E⟩,h4⟩,h5⟩:=Z
   have hy:=am hr h1
   have hh:=am hr E
   have w0:=am hr h4
   split at h5
   ·rename_i e J
    simp only[SR,S1,SU] at h5
    obtain⟨⟨h6,rfl⟩,h7⟩:=h5
    have u7:∀ x y,lo=some x->l=some y->ah w (own c φ) κ (ev σ.s y) (a.eval x):=fun x y e1 e2=>by
     subst e1 e2;simp only[lD] at h2;exact am hr h2
    simp only[rd] at A
    split at A
    ·rename_i rows l' k h' k' m' B hl w2 w3
     rw[B] at hy;rw[w2] at hh;rw[w3] at w0
     simp only[ah,ba] at hh w0
     simp only[SN,SS] at A
     obtain⟨rfl,rfl⟩:=A
     exact IV J h6 rfl hy.d (rz u7 h2 hl) hh w0 hp.1 hp.2.1 hp.2.2.1 hp.2.2.2.1 hp.2.2.2.2
    ·cases A
   ·cases h5
  ·cases Z
 |cvis y=>
  simp only[cr] at Z
  split at Z
  ·simp only[SR] at Z
   obtain⟨⟨h1,h2⟩,E⟩:=Z
   have hy:=am hr h1
   split at h2
   ·rename_i k hs
    split at E
    ·rename_i Y
     simp only[rd] at A
     split at A
     ·rename_i B
      rw[B] at hy
      simp only[ah,ba] at hy
      simp only[SN,SS] at A
      obtain⟨_,rfl⟩:=A
      exact IK hs Y hy
     ·cases A
    ·cases E
   ·cases h2
  ·cases Z
 |cl t ts=>simp[cr] at Z
 |cvsb y=>
  simp only[cr] at Z
  split at Z
  ·simp only[SR] at Z
   obtain⟨⟨h1,h2⟩,E⟩:=Z
   have hy:=am hr h1
   split at h2
   ·rename_i e Y
    split at h2
    ·rename_i J
     split at E
     ·rename_i hs
      simp only[rd] at A
      split at A
      ·rename_i B
       rw[B] at hy
       simp only[ah,ba] at hy
       simp only[SN,SS] at A
       obtain⟨_,rfl⟩:=A
       exact IL (fun b hb=>hr.own_lt hb) hs Y J hy
      ·cases A
     ·cases E
    ·cases h2
   ·cases h2
  ·cases Z
 |cvbs y=>
  simp only[cr] at Z
  split at Z
  ·simp only[SR] at Z
   obtain⟨⟨h1,h2⟩,E⟩:=Z
   have hy:=am hr h1
   split at h2
   ·rename_i e hs
    split at h2
    ·rename_i J
     split at E
     ·rename_i Y
      simp only[rd] at A
      split at A
      ·rename_i rows B
       rw[B] at hy
       split at A
       ·rename_i l hl
        simp only[SN,SS] at A
        obtain⟨_,rfl⟩:=A
        simp only[ah,ba] at hy
        obtain⟨X,D,hv,_,_,hc⟩:=hy
        refine rY hs J Y ⟨X,D,by rw[hv,Dd hl], ?_⟩
        rcases hc with rfl|⟨b,o,sz,rfl,_,_,K⟩
        ·simp only[vk,SN] at hl;exact .inl hl.symm
        ·exact .inr ⟨b,o,rfl,(BT hl K).2⟩
       ·cases A
      ·rename_i B
       rw[B] at hy
       simp only[ah] at hy
       simp only[SN,SS] at A
       obtain⟨_,rfl⟩:=A
       exact rY hs J Y ⟨none,0,hy,.inl rfl⟩
      ·rename_i sz n cs B
       rw[B] at hy
       split at A
       ·rename_i l hl
        simp only[SN,SS] at A
        obtain⟨rfl,rfl⟩:=A
        simp only[ah] at hy
        obtain⟨b,vs,hv,_,_,h8,_,F,r0⟩:=hy
        obtain⟨k1,k2,k3⟩:=y4 hl r0
        have u6:sz=1:=hp
        subst u6
        refine rY hs J Y ⟨some ⟨b,0,none⟩,n,by rw[hv,<-k2,h8,Nat.mul_one],.inr ⟨b,0,rfl,fun j c hj=> ?_⟩⟩
        rw[TJ];exact F j _ (k3 j c hj)
       ·cases A
      ·rename_i id B
       rw[B] at hy
       simp only[ah] at hy
       split at A
       ·rename_i W sz rows H
        split at A
        ·rename_i l hl
         simp only[SN,SS] at A
         obtain⟨rfl,rfl⟩:=A
         have u6:sz=1:=hp
         subst u6
         have r2:=hr.chunks id
         rw[H] at r2
         obtain⟨xs,G,g1,g2,g3,g4,_⟩:=r2
         have v2:rows.flatten.length=rows.length:=by
          have:=kR g3;simpa using this
         have r0:=y4 hl (ar.to_S _ _ _ (zU hl) g4).1
         obtain⟨k1,k2,k3⟩:=r0
         rcases Gl hr H with⟨v8,rfl⟩|⟨b,D,r4⟩
         ·simp only[List.flatten_nil,vj,SN] at hl
          subst hl
          exact rY hs J Y ⟨none,0,hy.trans v8,.inl rfl⟩
         ·refine rY hs J Y ⟨some ⟨b,0,none⟩,D,by rw[hy,r4,<-v2,k1],.inr ⟨b,0,rfl,fun j c hj=> ?_⟩⟩
          have F:=g1.cells (g:=b) (by rw[r4];rfl) j _ (k3 j c hj)
          rw[gy] at F
          exact F
        ·cases A
       ·cases A
      ·cases A
     ·cases E
    ·cases h2
   ·cases h2
  ·cases Z
 |look kk z ok m k=>
  simp only[cr] at Z
  split at Z
  ·simp only[SR,S1] at Z
   obtain⟨⟨⟨h1,h2⟩,rfl⟩,E⟩:=Z
   have hx:=am hr h1
   have hi:=am hr h2
   split at E
   ·rename_i kt e Y
    simp only[SR,S1] at E
    simp only[rd] at A
    split at A
    ·rename_i id d B M
     rw[B] at hx
     rw[M] at hi
     simp only[ah] at hx
     split at A
     ·rename_i v4 kv H
      simp only[SN,SS] at A
      obtain⟨rfl,rfl⟩:=A
      obtain⟨rfl,hf,r6⟩:=hp
      have r2:=hr.chunks id
      rw[H] at r2
      obtain⟨r,es,C,G,hk,hh,_,s4,_⟩:=r2
      exact Da Y E.1 E.2 (hx.trans hk) hh s4 hf r6 hi.d
     ·cases A
    ·rename_i ks vs d B M
     rw[B] at hx
     rw[M] at hi
     simp only[SN,SS] at A
     obtain⟨rfl,rfl⟩:=A
     obtain⟨⟨qp,hf⟩,r6⟩:=hp
     have hx:=hx.d
     unfold ba at hx
     obtain⟨r,hv,hc⟩:=hx
     rcases hc with⟨rfl,rfl,rfl⟩|⟨b,es,C,rfl,_,_,hh,_,v3⟩
     ·exact Hs Y E.1 E.2 hv hf hi.d
     ·exact Da Y E.1 E.2 hv hh (Fh qp v3) hf r6 hi.d
    ·cases A
   ·cases E
  ·cases Z
 |eqs b kks y z=>
  simp only[cr] at Z
  split at Z
  ·simp only[SR,S1,TR] at Z
   obtain⟨⟨⟨⟨⟨rfl,h1⟩,h2⟩,E⟩,h4⟩,h5⟩:=Z
   split at E
   ·rename_i fs Y
    simp only[rd] at A
    split at A
    ·rename_i cs O hy hz
     have hx:=ah.toDV _ _ _ (am hr h1) hy
     have Q:=ah.toDV _ _ _ (am hr h2) hz
     split at A
     ·rename_i q hq
      split at A
      ·simp only[SN,SS] at A
       obtain⟨_,rfl⟩:=A
       exact Fj Y h4 h5 E hx Q hq (.inl rfl)
      ·simp only[SN,SS] at A
       obtain⟨_,rfl⟩:=A
       exact Fj Y h4 h5 E hx Q hq (.inr rfl)
      ·cases A
     ·cases A
    ·cases A
   ·cases E
  ·cases Z
end
