/-
  My text.
-/
import Derived.Test.YteaolfcegaidpaaGreatDoorSXEngF
namespace Go.Proofs.YteaolfcegaidpaaGreatDoor
set_option linter.unusedSimpArgs false
set_option linter.unusedVariables false
open Go.RowKit
section
variable {P:Program} {c:Cx} {σ:St} {κ:Nat->Value} {φ:Nat->List Nat} {a:Act} {w:World}
theorem af.d {M:Nat->Prop} {x:DV} {v:Value} (h:af w M κ (.d x) v):aK w M x v:=by simpa only[af] using h
theorem Be (hr:ce c σ κ φ a w) {id:Nat} {cs:List SV} (hb:σ.h id= .box cs):∃ b vs G,κ id= .pointer (some ⟨b,0,none⟩)/\ao w (own c φ) κ cs vs G/\(∀ x∈vs,x.oneCell'=true)/\∀ j:Nat,w.cell? ⟨b,j,none⟩=vs[j]?:=by
 have h:=hr.chunks id
 rw[hb] at h
 obtain⟨b,T,vs,G,h1,h3,h4,h5,_⟩:=h
 exact⟨b,vs,G,h1,h5,h4,fun j=>by rw[cell_of_row w b j _ T _ h3];simp⟩
theorem lQ {α:Type} {sz:Nat}:∀ {rows:List (List α)},(∀ r∈rows,r.length=sz)->rows.flatten.length=rows.length * sz
 |[],_=>by simp
 |r::rows,h=>by
  have:=lQ (rows:=rows) (fun r hr=>h r (by simp[hr]))
  simp only[MJ,Mh,Mv,this,h r oS,M4];omega
theorem Ep {α:Type} {rows:List (List α)} {i:Nat} {r:List α} (hi:rows[i]?=some r):rows.flatten=(rows.take i).flatten++(r++(rows.drop (i+1)).flatten):=by
 have hlt:=(Md.1 hi).1
 conv=>lhs;rw[<-MM i rows,Np hlt,(Md.1 hi).2]
 simp
theorem F6 {M:Nat->Prop} {rows:List (List SV)} {sz i:Nat} {r:List SV} {xs:List Value} {G:List Nat} (hall:∀ r∈rows,r.length=sz) (h:ao w M κ rows.flatten xs G) (hi:rows[i]?=some r):
  ∃ G1 G2 G3,G=G1++(G2++G3)/\ao w M κ (rows.take i).flatten (xs.take (i * sz)) G1/\ao w M κ r ((xs.drop (i * sz)).take sz) G2/\ao w M κ (rows.drop (i+1)).flatten (xs.drop (i * sz+sz)) G3:=by
 have hlt:=(Md.1 hi).1
 have hrl:=hall r (Mb hi)
 rw[Ep hi] at h
 obtain⟨G1,G',rfl,h1,h2⟩:=h.split
 obtain⟨G2,G3,rfl,h3,h4⟩:=h2.split
 have hl:(rows.take i).flatten.length=i * sz:=by
  rw[lQ (sz:=sz) (fun r hr=>hall r (MC hr)),MK,show min i rows.length=i by omega]
 rw[hl] at h1 h3 h4
 rw[hrl] at h3 h4
 rw[Ns] at h4
 exact⟨G1,G2,G3,rfl,h1,h3,h4⟩
theorem Bf (hr:ce c σ κ φ a w) {id e sz:Nat} {rows:List (List SV)} (hb:σ.h id= .vec e sz rows) {i:Nat} {r:List SV} (hi:rows[i]?=some r) {b len cap:Nat} (hk:κ id= .slice (some ⟨b,0,none⟩) len cap):
  r.length=sz/\∃ vs G,ao w (own c φ) κ r vs G/\(∀ x∈vs,x.oneCell'=true)/\∀ j v,vs[j]?=some v->w.cell? ⟨b,i * sz+j,none⟩=some v:=by
 have h:=hr.chunks id
 rw[hb] at h
 obtain⟨xs,G,h1,h2,h3,h4,_⟩:=h
 have hrl:=h3 r (Mb hi)
 obtain⟨G1,G2,G3,_,_,h5,_⟩:=F6 h3 h4 hi
 refine⟨hrl,_,G2,h5,fun x hx=>h2 x (MU (MC hx)),fun j v hj=> ?_⟩
 rw[Nc] at hj
 split at hj
 ·rw[M8] at hj
  have hcell:=h1.cells (g:=b) (by rw[hk];rfl) (i * sz+j) v hj
  rw[fE] at hcell
  simpa using hcell
 ·cases hj
theorem B8 (hr:ce c σ κ φ a w) {id e sz:Nat} {rows:List (List SV)} (hb:σ.h id= .vec e sz rows):(κ id= .slice none 0 0/\rows=[])\/∃ b cap,κ id= .slice (some ⟨b,0,none⟩) rows.length cap:=by
 have h:=hr.chunks id
 rw[hb] at h
 obtain⟨xs,G,h1,_⟩:=h
 rcases h1.2 with⟨hv,hn⟩|⟨g,cap,cur,hv,_⟩
 ·exact .inl ⟨hv,Ms.1 hn⟩
 ·exact .inr ⟨g,cap,hv⟩
theorem bn.length {M:Nat->Prop} {kk:KK}:∀ {kv:List (DV×SV)} {es:List MapEntry} {F:List Nat},bn w M κ kk kv es F->es.length=kv.length
 |[],es,F,h=>by unfold bn at h;simp[h]
 |(k,c)::kv,es,F,h=>by
  unfold bn at h
  obtain⟨e,rest,_,_,rfl,_,_,_,_,h5⟩:=h
  simp[bn.length h5]
theorem yk (hr:ce c σ κ φ a w) {fs:Array Field}:∀ {ps:List (Nat×Operand)} {qs:List (Nat×Nat×SX)},nk P c.N fs ps qs=true->
  wv (fun(p:Nat×Nat×SV) (q:Nat×Operand)=>(∃ f,fs[q.1]?=some f/\f.offset=p.1/\P.cellsOf f.type=p.2.1)/\af w (own c φ) κ p.2.2 (a.eval q.2)) (qs.map fun p=>(p.1,p.2.1,ev σ.s p.2.2)) ps
 |[],[],_=> .nil
 |(i,x)::ps,(off,n,y)::qs,h=>by
  simp only[nk,L9] at h
  obtain⟨⟨h1,h2⟩,h3⟩:=h
  refine .cons ⟨?_,ah hr h2⟩ (yk hr h3)
  split at h1
  ·rename_i f hf
   simp at h1
   exact⟨f,hf,h1.1.1,h1.2⟩
  ·cases h1
 |[],_::_,h=>by simp[nk] at h
 |_::_,[],h=>by simp[nk] at h
theorem ww (hr:ce c σ κ φ a w) {sz:Nat}:∀ {ps:List (Nat×Operand)} {qs:List (Nat×Nat×SX)},lO c.N sz ps qs=true->
  wv (fun(p:Nat×Nat×SV) (q:Nat×Operand)=>(p.1=q.1 * sz/\p.2.1=sz)/\af w (own c φ) κ p.2.2 (a.eval q.2)) (qs.map fun p=>(p.1,p.2.1,ev σ.s p.2.2)) ps
 |[],[],_=> .nil
 |(i,x)::ps,(off,n,y)::qs,h=>by
  simp only[lO,L9,Mc] at h
  obtain⟨⟨⟨h0,h1⟩,h2⟩,h3⟩:=h
  exact .cons ⟨⟨h0,h1⟩,ah hr h2⟩ (ww hr h3)
 |[],_::_,h=>by simp[lO] at h
 |_::_,[],h=>by simp[lO] at h
theorem vC {M:Nat->Prop}:∀ {cs:List SV} {l:List UInt8} {vs:List Value},rI cs=some l->aj w M κ cs vs->cs.length=l.length/\vs.length=l.length/\∀ (j:Nat) (c:UInt8),l[j]?=some c->vs[j]?=some (.int .u8 c.toNat)
 |[],l,vs,h,hr=>by
  simp only[rI,L7] at h;subst h
  simp only[aj] at hr;subst hr
  simp
 |x::cs,l,vs,h,hr=>by
  unfold rI at h
  split at h
  ·rename_i heq;cases heq
  ·rename_i n r heq
   simp only[MG] at heq
   obtain⟨rfl,rfl⟩:=heq
   split at h
   ·rename_i hn
    split at h
    ·rename_i l' hl'
     simp only[L7] at h;subst h
     simp only[aj] at hr
     obtain⟨u,us,rfl,h1,h2⟩:=hr
     obtain⟨k1,k2,k3⟩:=vC hl' h2
     simp only[af,aK] at h1
     subst h1
     refine⟨by simp[k1],by simp[k2],fun j c hj=> ?_⟩
     cases j with
     |zero=>
      simp at hj;subst hj
      have:(UInt8.ofNat n.toNat).toNat=n.toNat:=UInt8.toNat_ofNat_of_lt' (by show n.toNat<256;omega)
      simp only[Nu,this]
      congr 2;omega
     |succ j=>simpa using k3 j c (by simpa using hj)
    ·cases h
   ·cases h
  ·cases h
theorem wx:∀ {cs:List SV} {l:List UInt8},rI cs=some l->SV.noOwns cs=true
 |[],_,_=>rfl
 |x::cs,l,h=>by
  unfold rI at h
  split at h
  ·rename_i heq;cases heq
  ·rename_i n r heq
   simp only[MG] at heq
   obtain⟨rfl,rfl⟩:=heq
   split at h
   ·split at h
    ·rename_i l' hl'
     simp only[SV.noOwns,SV.noOwn,wx hl',Bool.and_self]
    ·cases h
   ·cases h
  ·cases h
theorem yl {M:Nat->Prop}:∀ {rows:List (List DV)} {l:List UInt8} {b o sz:Nat},rJ rows=some l->aL w M rows b o sz->rows.length=l.length/\∀ (j:Nat) (c:UInt8),l[j]?=some c->w.cell? ⟨b,o+j,none⟩=some (.int .u8 c.toNat)
 |[],l,b,o,sz,h,hr=>by
  simp only[rJ,L7] at h;subst h
  simp
 |r::rows,l,b,o,sz,h,hr=>by
  unfold rJ at h
  split at h
  ·rename_i heq;cases heq
  ·rename_i n r' heq
   simp only[MG] at heq
   obtain⟨rfl,rfl⟩:=heq
   split at h
   ·rename_i hn
    split at h
    ·rename_i l' hl'
     simp only[L7] at h;subst h
     simp only[aL] at hr
     obtain⟨h0,h1,h2⟩:=hr
     simp at h0;subst h0
     obtain⟨k1,k2⟩:=yl hl' h2
     simp only[bq] at h1
     obtain⟨⟨v,hv,_,hr'⟩,_⟩:=h1
     simp only[aK] at hr'
     subst hr'
     refine⟨by simp[k1],fun j c hj=> ?_⟩
     cases j with
     |zero=>
      simp at hj;subst hj
      have:(UInt8.ofNat n.toNat).toNat=n.toNat:=UInt8.toNat_ofNat_of_lt' (by show n.toNat<256;omega)
      rw[NI,hv,this]
      congr 2;omega
     |succ j=>
      have:=k2 j c (by simpa using hj)
      rwa[show o+1+j=o+(j+1) by omega] at this
    ·cases h
   ·cases h
  ·cases h
theorem zr:∀ {rows:List (List DV)} {l:List UInt8},rJ rows=some l->rows.length=l.length
 |[],l,h=>by simp only[rJ,L7] at h;subst h;rfl
 |r::rows,l,h=>by
  unfold rJ at h
  split at h
  ·rename_i heq;cases heq
  ·rename_i n r' heq
   simp only[MG] at heq
   obtain⟨rfl,rfl⟩:=heq
   split at h
   ·split at h
    ·rename_i l' hl'
     simp only[L7] at h;subst h
     simp[zr hl']
    ·cases h
   ·cases h
  ·cases h
theorem vD (hr:ce c σ κ φ a w):∀ {k:Nat} {ps:List (Nat×Operand)} {qs:List SX},nl c.N k ps qs=true->
  aj w (own c φ) κ (qs.map (ev σ.s)) (ps.map fun q=>a.eval q.2)/\∀ (j:Nat) q,ps[j]?=some q->q.1=k+j
 |_,[],[],_=>by simp[aj]
 |k,(i,x)::ps,y::qs,h=>by
  simp only[nl,L9,Mc] at h
  obtain⟨⟨h1,h2⟩,h3⟩:=h
  obtain⟨h4,h5⟩:=vD hr h3
  refine⟨by simp only[Mk,aj];exact⟨_,_,rfl,ah hr h2,h4⟩,fun j q hj=> ?_⟩
  cases j with
  |zero=>simp at hj;subst hj;simp[h1]
  |succ j=>have:=h5 j q (by simpa using hj);omega
 |_,[],_::_,h=>by simp[nl] at h
 |_,_::_,[],h=>by simp[nl] at h
theorem C7 {t:TypeId} (h:Ed P t=true):P.underlying t=some .bool:=by
 unfold Ed at h;split at h
 ·assumption
 ·cases h
theorem Er {t:TypeId} (h:G7 P t=true):∃ e,P.underlying t=some (.pointer e):=by
 unfold G7 at h;split at h
 ·exact⟨_,by assumption⟩
 ·cases h
theorem B9 {t:TypeId} (h:B2 P t=true):∃ ms,P.underlying t=some (.interface ms):=by
 unfold B2 at h;split at h
 ·exact⟨_,by assumption⟩
 ·cases h
theorem zt {t:TypeId} {y:SX} (h:CZ P t y=true):∃ v i z,y= .c v/\P.info? t=some i/\i.zero=some z/\pd z v=true:=by
 cases y with
 |c v=>
  simp only[CZ] at h
  split at h
  ·rename_i i hi
   split at h
   ·rename_i z hz;exact⟨v,i,z,rfl,hi,hz,h⟩
   ·cases h
  ·cases h
 |_=>simp[CZ] at h
theorem zu {w:World} {M:Nat->Prop} {κ:Nat->Value}:∀ {cs:List SV} {vs:List Value} {ids:List Nat},aj w M κ cs vs->zf cs=some ids->vs=ids.map κ/\∀ i∈ids,∃ b,κ i= .pointer (some ⟨b,0,none⟩)
 |[],vs,ids,h,hi=>by
  simp only[zf,L7] at hi;subst hi
  unfold aj at h
  exact⟨h,fun i hi=>by cases hi⟩
 |c::cs,vs,ids,h,hi=>by
  unfold aj at h
  obtain⟨u,us,rfl,h1,h2⟩:=h
  unfold zf at hi
  split at hi
  ·rename_i heq;cases heq
  ·rename_i id cs' heq
   simp only[MG] at heq
   obtain⟨rfl,rfl⟩:=heq
   split at hi
   ·rename_i l hl
    simp only[L7] at hi;subst hi
    obtain⟨k1,k2⟩:=zu h2 hl
    unfold af at h1
    obtain⟨b,hk,rfl⟩:=h1
    refine⟨by rw[k1,Mk,hk],fun i hi=> ?_⟩
    rcases Ml.1 hi with rfl|hi
    ·exact⟨b,hk⟩
    ·exact k2 i hi
   ·cases hi
  ·cases hi
theorem C8 (hr:ce c σ κ φ a w) {o:Oper} {op:sM} (hm:bQ P c.N o.op op=true) {p:Prop} {x:SV} (hrd:rd σ.h σ.s op=some (p,x)) (hp:p):c6 P a o w (own c φ) κ x:=by
 obtain⟨dst,oop,ty,pos,aft,gd⟩:=o
 simp only at hm
 cases op with
 |mv y=>
  simp only[rd,L7,L_] at hrd
  obtain⟨_,rfl⟩:=hrd
  simp only[bQ] at hm
  split at hm
  ·exact G8 (ah hr hm)
  ·exact B3 (ah hr hm)
  ·cases hm
 |pick c b d=>
  simp only[bQ] at hm
  split at hm
  ·simp only[L9] at hm
   obtain⟨⟨h1,h2⟩,h3⟩:=hm
   have hc:=ah hr h1
   simp only[rd] at hrd
   split at hrd
   ·rename_i heq
    rw[heq] at hc
    simp only[L7,L_] at hrd
    obtain⟨_,rfl⟩:=hrd
    exact zi hc (by simpa using ah hr h2)
   ·rename_i heq
    rw[heq] at hc
    simp only[L7,L_] at hrd
    obtain⟨_,rfl⟩:=hrd
    exact zi hc (by simpa using ah hr h3)
   ·cases hrd
  ·cases hm
 |boxI y=>
  simp only[bQ] at hm
  split at hm
  ·have hy:=ah hr hm
   simp only[rd] at hrd
   split at hrd
   ·rename_i cs heq
    simp only[L7,L_] at hrd
    obtain⟨_,rfl⟩:=hrd
    unfold E6 at heq
    cases hd:(ev σ.s y).toDV with
    |none=>simp[hd] at heq
    |some dd=>
     simp only[hd] at heq
     obtain⟨vs,h1,h2,h3⟩:=(af.toDV _ _ dd hy hd).cells heq
     exact FZ (fun b hb=>hr.own_lt hb) h1 h2 h3
   ·cases hrd
  ·obtain⟨v,i,z,rfl,hi,hz,hconst⟩:=zt hm
   have hy:af w (own c φ) κ v z:=nT hconst
   simp only[rd,ev] at hrd
   split at hrd
   ·rename_i cs heq
    simp only[L7,L_] at hrd
    obtain⟨_,rfl⟩:=hrd
    unfold E6 at heq
    cases hd:v.toDV with
    |none=>simp[hd] at heq
    |some dd=>
     simp only[hd] at heq
     obtain⟨vs,h1,h2,h3⟩:=(af.toDV _ _ dd hy hd).cells heq
     exact C0 hi hz (fun b hb=>hr.own_lt hb) h1 h2 h3
   ·cases hrd
  ·cases hm
 |ld1 y=>
  simp only[bQ] at hm
  split at hm
  ·simp only[L9] at hm
   obtain⟨h1,h2⟩:=hm
   have hy:=ah hr h1
   split at h2
   ·rename_i d hd
    simp only[M2] at h2
    simp only[rd] at hrd
    split at hrd
    ·rename_i c cs heq
     simp only[L7,L_] at hrd
     obtain⟨_,rfl⟩:=hrd
     rw[heq] at hy
     simp only[af,aK,bq] at hy
     obtain⟨b,o,hv,hm',hlt,⟨v,hv',_,hrep⟩,_⟩:=hy
     exact xm hd h2 hv hv' (by simpa only[af] using hrep)
    ·rename_i id off heq
     rw[heq] at hy
     simp only[af] at hy
     obtain⟨b,hkb,hv⟩:=hy
     split at hrd
     ·rename_i cs hbox
      split at hrd
      ·rename_i c hc
       split at hrd
       ·rename_i hno
        simp only[L7,L_] at hrd
        obtain⟨_,rfl⟩:=hrd
        obtain⟨b',vs,G,hk',hl,h1',hcell⟩:=Be hr hbox
        rw[hkb] at hk';simp at hk';subst hk'
        obtain⟨v,G',hv1,hv2⟩:=hl.get hc
        exact xm hd h2 hv (by rw[hcell];exact hv1) (aQ.to_S _ _ _ hno hv2).1
       ·cases hrd
      ·cases hrd
     ·cases hrd
    ·rename_i id sz i off heq
     rw[heq] at hy
     simp only[af] at hy
     obtain⟨b,len,cap,hkb,hv⟩:=hy
     split at hrd
     ·rename_i e sz' rows hbox
      split at hrd
      ·rename_i r hrow
       split at hrd
       ·rename_i c hc
        split at hrd
        ·rename_i hno
         simp only[L7,L_] at hrd
         obtain⟨rfl,rfl⟩:=hrd
         subst hp
         obtain⟨hlen,vs,G,hl,_,hcell⟩:=Bf hr hbox hrow hkb
         obtain⟨v,G',hv1,hv2⟩:=hl.get hc
         exact xm hd h2 hv (hcell off v hv1) (aQ.to_S _ _ _ hno hv2).1
        ·cases hrd
       ·cases hrd
      ·cases hrd
     ·cases hrd
    ·cases hrd
   ·cases h2
  ·cases hm
 |ldA n y=>
  simp only[bQ] at hm
  split at hm
  ·simp only[L9,Mc] at hm
   obtain⟨⟨⟨h1,h2⟩,h3⟩,h4⟩:=hm
   have hy:=ah hr h1
   split at h2
   ·rename_i d hd
    simp only[rd] at hrd
    split at hrd
    ·rename_i cs heq
     simp only[L7,L_] at hrd
     obtain⟨rfl,rfl⟩:=hrd
     rw[heq] at hy
     simp only[af,aK] at hy
     obtain⟨b,o,hv,hm',hlt,hat⟩:=hy
     obtain⟨vs,hl,hone,hcell⟩:=hat.values
     have hlen:=hl.length
     refine xp (vs:=vs.take n) hd h2 h3 oT hv (fun j v hj=>hcell j v ?_) ?_
     ·rw[Nc] at hj;split at hj
      ·exact hj
      ·cases hj
     ·simp only[af,aK]
      exact⟨_,rfl,fun z hz=>hone z (MC hz),hl.take n⟩
    ·rename_i id off heq
     rw[heq] at hy
     simp only[af] at hy
     obtain⟨b,hkb,hv⟩:=hy
     split at hrd
     ·rename_i cs hbox
      split at hrd
      ·rename_i hno
       simp only[L7,L_] at hrd
       obtain⟨rfl,rfl⟩:=hrd
       obtain⟨b',vs,G,hk',hl,h1',hcell⟩:=Be hr hbox
       rw[hkb] at hk';simp at hk';subst hk'
       have hlen:=hl.length
       refine xp (vs:=(vs.drop off).take n) hd h2 h3 oT hv (fun j v hj=> ?_) ?_
       ·rw[Nc] at hj;split at hj
        ·rw[M8] at hj;rw[hcell];exact hj
        ·cases hj
       ·simp only[af]
        obtain⟨G1,_,k1⟩:=hl.drop off
        obtain⟨G2,_,k2⟩:=k1.take n
        exact⟨_,rfl,fun z hz=>h1' z (MU (MC hz)),(ao.to_S _ _ _ hno k2).1⟩
      ·cases hrd
     ·cases hrd
    ·rename_i id sz i off heq
     rw[heq] at hy
     simp only[af] at hy
     obtain⟨b,len,cap,hkb,hv⟩:=hy
     split at hrd
     ·rename_i e sz' rows hbox
      split at hrd
      ·rename_i r hrow
       split at hrd
       ·rename_i hno
        simp only[L7,L_] at hrd
        obtain⟨rfl,rfl⟩:=hrd
        obtain⟨rfl,hle⟩:=hp
        obtain⟨hlen,vs,G,hl,hone,hcell⟩:=Bf hr hbox hrow hkb
        have hlen:=hl.length
        refine xp (vs:=(vs.drop off).take n) hd h2 h3 oT hv (fun j v hj=> ?_) ?_
        ·rw[Nc] at hj;split at hj
         ·rw[M8] at hj
          have:=hcell _ _ hj
          rwa[<-Nat.add_assoc] at this
         ·cases hj
        ·simp only[af]
         obtain⟨G1,_,k1⟩:=hl.drop off
         obtain⟨G2,_,k2⟩:=k1.take n
         exact⟨_,rfl,fun z hz=>hone z (MU (MC hz)),(ao.to_S _ _ _ hno k2).1⟩
       ·cases hrd
      ·cases hrd
     ·cases hrd
    ·cases hrd
   ·cases h2
  ·cases hm
 |fld off y=>
  simp only[bQ] at hm
  split at hm
  ·simp only[L9] at hm
   obtain⟨h1,h2⟩:=hm
   have hy:=ah hr h1
   split at h2
   ·rename_i fs hfs
    split at h2
    ·rename_i f hf
     simp only[L9,Mc,bne_iff_ne] at h2
     obtain⟨⟨rfl,h3⟩,h4⟩:=h2
     simp only[rd] at hrd
     split at hrd
     ·rename_i cs heq
      simp only[L7,L_] at hrd
      obtain⟨_,rfl⟩:=hrd
      rw[heq] at hy
      simp only[af,aK] at hy
      obtain⟨b,o,hv,hm',hlt,hat⟩:=hy
      exact xr hfs hf h3 h4 hv (by simp only[af,aK];exact⟨b,_,rfl,hm',hlt,hat.drop _⟩)
     ·rename_i id o heq
      simp only[L7,L_] at hrd
      obtain⟨_,rfl⟩:=hrd
      rw[heq] at hy
      simp only[af] at hy
      obtain⟨b,hkb,hv⟩:=hy
      exact xr hfs hf h3 h4 hv (by simp only[af];exact⟨b,hkb,rfl⟩)
     ·rename_i id sz i o heq
      simp only[L7,L_] at hrd
      obtain⟨_,rfl⟩:=hrd
      rw[heq] at hy
      simp only[af] at hy
      obtain⟨b,len,cap,hkb,hv⟩:=hy
      exact xr hfs hf h3 h4 hv (by simp only[af];exact⟨b,len,cap,hkb,by rw[Nat.add_assoc]⟩)
     ·cases hrd
    ·cases h2
   ·cases h2
  ·cases hm
 |vidxA len wd y j=>
  simp only[bQ] at hm
  split at hm
  ·simp only[L9] at hm
   obtain⟨⟨h1,h2⟩,h3⟩:=hm
   have hy:=ah hr h1
   have hj:=ah hr h2
   split at h3
   ·rename_i len' e he
    simp only[L9,Mc] at h3
    obtain⟨⟨⟨rfl,h4⟩,rfl⟩,h6⟩:=h3
    split at h6
    ·rename_i d hd
     simp only[rd] at hrd
     split at hrd
     ·rename_i cs k n heq heqi
      simp only[L7,L_] at hrd
      obtain⟨rfl,rfl⟩:=hrd
      rw[heq] at hy;rw[heqi] at hj
      simp only[af,aK] at hy hj
      obtain⟨vs,hv,hone,hl⟩:=hy
      exact ye he h4 hd h6 hv hj hp.1 hp.2 (by simp only[af,aK];exact⟨_,rfl,fun z hz=>hone z (MU (MC hz)),(hl.drop _).take _⟩)
     ·rename_i cs k n heq heqi
      split at hrd
      ·rename_i xs hxs
       simp only[L7,L_] at hrd
       obtain⟨rfl,rfl⟩:=hrd
       rw[heq] at hy;rw[heqi] at hj
       simp only[af,aK] at hy hj
       obtain⟨vs,hv,hone,hl⟩:=hy
       exact ye he h4 hd h6 hv hj hp.1 hp.2 (by simp only[af,aK];exact⟨_,rfl,fun z hz=>hone z (MU (MC hz)),aj.toDVs _ _ _ ((hl.drop _).take _) hxs⟩)
      ·cases hrd
     ·cases hrd
    ·cases h6
   ·cases h3
  ·cases hm
 |vidx len y j=>
  simp only[bQ] at hm
  split at hm
  ·simp only[L9] at hm
   obtain⟨⟨h1,h2⟩,h3⟩:=hm
   have hy:=ah hr h1
   have hj:=ah hr h2
   split at h3
   ·rename_i len' e he
    simp only[L9,Mc] at h3
    obtain⟨⟨⟨rfl,h4⟩,h5⟩,h6⟩:=h3
    split at h6
    ·rename_i d hd
     simp only[M2] at h6
     simp only[rd] at hrd
     split at hrd
     ·rename_i cs k n heq heqi
      split at hrd
      ·rename_i c hc
       simp only[L7,L_] at hrd
       obtain⟨rfl,rfl⟩:=hrd
       rw[heq] at hy;rw[heqi] at hj
       simp only[af,aK] at hy hj
       obtain⟨vs,hv,_,hl⟩:=hy
       obtain⟨v,hv1,hv2⟩:=hl.get hc
       exact zj he h4 h5 hd h6 hv hj hp.1 hp.2 hv1 (by simpa only[af] using hv2)
      ·cases hrd
     ·rename_i cs k n heq heqi
      split at hrd
      ·rename_i c hc
       simp only[L7,L_] at hrd
       obtain⟨rfl,rfl⟩:=hrd
       rw[heq] at hy;rw[heqi] at hj
       simp only[af,aK] at hy hj
       obtain⟨vs,hv,_,hl⟩:=hy
       obtain⟨v,hv1,hv2⟩:=hl.get hc
       exact zj he h4 h5 hd h6 hv hj hp.1 hp.2 hv1 hv2
      ·cases hrd
     ·cases hrd
    ·cases h6
   ·cases h3
  ·cases hm
 |prt1 off y=>
  simp only[bQ] at hm
  split at hm
  ·simp only[L9] at hm
   obtain⟨h1,h2⟩:=hm
   have hy:=ah hr h1
   split at h2
   ·rename_i fs hfs
    split at h2
    ·rename_i f hf
     simp only[L9,Mc] at h2
     obtain⟨rfl,h3⟩:=h2
     split at h3
     ·rename_i d hd
      simp only[M2] at h3
      simp only[rd] at hrd
      split at hrd
      ·rename_i cs heq
       split at hrd
       ·rename_i c hc
        simp only[L7,L_] at hrd
        obtain⟨_,rfl⟩:=hrd
        rw[heq] at hy
        simp only[af,aK] at hy
        obtain⟨vs,hv,_,hl⟩:=hy
        obtain⟨v,hv1,hv2⟩:=hl.get hc
        exact zk hfs hf hd h3 hv hv1 (by simpa only[af] using hv2)
       ·cases hrd
      ·rename_i cs heq
       split at hrd
       ·rename_i c hc
        simp only[L7,L_] at hrd
        obtain⟨_,rfl⟩:=hrd
        rw[heq] at hy
        simp only[af] at hy
        obtain⟨vs,hv,_,hl⟩:=hy
        obtain⟨v,hv1,hv2⟩:=hl.get hc
        exact zk hfs hf hd h3 hv hv1 hv2
       ·cases hrd
      ·cases hrd
     ·cases h3
    ·cases h2
   ·cases h2
  ·cases hm
 |prtA off n y=>
  simp only[bQ] at hm
  split at hm
  ·simp only[L9] at hm
   obtain⟨h1,h2⟩:=hm
   have hy:=ah hr h1
   split at h2
   ·rename_i fs hfs
    split at h2
    ·rename_i f hf
     simp only[L9,Mc] at h2
     obtain⟨⟨⟨rfl,h3⟩,h4⟩,rfl⟩:=h2
     split at h3
     ·rename_i d hd
      simp only[rd] at hrd
      split at hrd
      ·rename_i cs heq
       simp only[L7,L_] at hrd
       obtain⟨_,rfl⟩:=hrd
       rw[heq] at hy
       simp only[af,aK] at hy
       obtain⟨vs,hv,hone,hl⟩:=hy
       exact zl hfs hf hd h3 h4 hv (by simp only[af,aK];exact⟨_,rfl,fun z hz=>hone z (MU (MC hz)),(hl.drop _).take _⟩)
      ·rename_i cs heq
       simp only[L7,L_] at hrd
       obtain⟨_,rfl⟩:=hrd
       rw[heq] at hy
       simp only[af] at hy
       obtain⟨vs,hv,hone,hl⟩:=hy
       exact zl hfs hf hd h3 h4 hv (by simp only[af];exact⟨_,rfl,fun z hz=>hone z (MU (MC hz)),(hl.drop _).take _⟩)
      ·cases hrd
     ·cases h3
    ·cases h2
   ·cases h2
  ·cases hm
 |idx sz y j=>
  simp only[bQ] at hm
  split at hm
  ·simp only[L9] at hm
   obtain⟨⟨h1,h2⟩,h3⟩:=hm
   have hy:=ah hr h1
   have hj:=ah hr h2
   split at h3
   ·rename_i e he
    simp only[L9,Mc] at h3
    obtain⟨h4,rfl⟩:=h3
    simp only[rd] at hrd
    split at hrd
    ·rename_i k n heqi
     rw[heqi] at hj
     simp only[af,aK] at hj
     split at hrd
     ·rename_i rows heq
      rw[heq] at hy
      simp only[af,aK] at hy
      obtain⟨ad,cap,hv,hc,hn,hcase⟩:=hy
      split at hrd
      ·rename_i r hrow
       simp only[L7,L_] at hrd
       obtain⟨rfl,rfl⟩:=hrd
       obtain⟨h0,hlen⟩:=hp
       have hlt:n.toNat<rows.length:=(Md.1 hrow).1
       rcases hcase with hcase|⟨b,o,sz',rfl,hm',hb,hrows⟩
       ·subst hcase;simp at hrow
       ·have hsz:sz'=P.cellsOf e:=by
         rw[aL.iff] at hrows
         rw[<-hlen];exact(hrows.1 r (Mb hrow)).symm
        subst hsz
        refine xt he h4 hv hj h0 oM ?_
        simp only[af,aK]
        refine⟨b,_,rfl,hm',hb, ?_⟩
        have:=hrows.drop n.toNat
        rw[Np hlt] at this
        unfold aL at this
        have e:rows[n.toNat]=r:=(Md.1 hrow).2
        rw[e] at this
        exact this.2.1
      ·cases hrd
     ·rename_i sz2 k cs heq
      rw[heq] at hy
      split at hrd
      ·rename_i ds hds
       have hy':=af.toDV _ _ (.slice (fc sz2 k ds)) hy (by simp only[SV.toDV,hds])
       generalize fc sz2 k ds=rows at hrd hy'
       simp only[aK] at hy'
       obtain⟨ad,cap,hv,hc,hn,hcase⟩:=hy'
       split at hrd
       ·rename_i r hrow
        simp only[L7,L_] at hrd
        obtain⟨rfl,rfl⟩:=hrd
        obtain⟨h0,hlen⟩:=hp
        have hlt:n.toNat<rows.length:=(Md.1 hrow).1
        rcases hcase with hcase|⟨b,o,sz',rfl,hm',hb,hrows⟩
        ·subst hcase;simp at hrow
        ·have hsz:sz'=P.cellsOf e:=by
          rw[aL.iff] at hrows
          rw[<-hlen];exact(hrows.1 r (Mb hrow)).symm
         subst hsz
         refine xt he h4 hv hj h0 oM ?_
         simp only[af,aK]
         refine⟨b,_,rfl,hm',hb, ?_⟩
         have:=hrows.drop n.toNat
         rw[Np hlt] at this
         unfold aL at this
         have e:rows[n.toNat]=r:=(Md.1 hrow).2
         rw[e] at this
         exact this.2.1
       ·cases hrd
      ·cases hrd
     ·rename_i id heq
      rw[heq] at hy
      simp only[af] at hy
      split at hrd
      ·rename_i e' sz' rows hbox
       simp only[L7,L_] at hrd
       obtain⟨rfl,rfl⟩:=hrd
       obtain⟨h0,h5,rfl⟩:=hp
       rcases B8 hr hbox with⟨_,rfl⟩|⟨b,cap,hkb⟩
       ·simp at h5;omega
       ·refine xt he h4 (hy.trans hkb) hj h0 h5 ?_
        simp only[af]
        exact⟨b,_,cap,hkb,by simp⟩
      ·cases hrd
     ·cases hrd
    ·cases hrd
   ·cases h3
  ·cases hm
 |sidx y j=>
  simp only[bQ] at hm
  split at hm
  ·simp only[L9] at hm
   obtain⟨⟨h1,h2⟩,h3⟩:=hm
   have hy:=ah hr h1
   have hj:=ah hr h2
   split at h3
   ·rename_i he
    simp only[rd] at hrd
    split at hrd
    ·rename_i l k n heq heqi
     rw[heqi] at hj
     rw[heq] at hy
     simp only[af,aK] at hj hy
     split at hrd
     ·rename_i c hc
      simp only[L7,L_] at hrd
      obtain⟨rfl,rfl⟩:=hrd
      exact Ee he hy hj hp hc
     ·cases hrd
    ·cases hrd
   ·cases h3
  ·cases hm
 |bin b y z=>
  simp only[bQ] at hm
  split at hm
  ·simp only[L9,Mc] at hm
   obtain⟨⟨rfl,h1⟩,h2⟩:=hm
   have hy:=ah hr h1
   have hz:=ah hr h2
   simp only[rd] at hrd
   split at hrd
   ·rename_i heq heq'
    rw[heq] at hy;rw[heq'] at hz
    split at hrd
    ·rename_i hb
     simp only[L7,L_] at hrd
     obtain⟨rfl,rfl⟩:=hrd
     exact ra (by trivial) hy.d hz.d hb hp
    ·cases hrd
   ·rename_i heq heq'
    rw[heq] at hy;rw[heq'] at hz
    split at hrd
    ·rename_i hb
     simp only[L7,L_] at hrd
     obtain⟨rfl,rfl⟩:=hrd
     exact ra (by trivial) hy.d hz.d hb hp
    ·cases hrd
   ·cases hrd
  ·cases hm
 |binB b y z=>
  simp only[bQ] at hm
  split at hm
  ·simp only[L9,Mc] at hm
   obtain⟨⟨⟨rfl,h1⟩,h2⟩,h3⟩:=hm
   have hy:=ah hr h1
   have hz:=ah hr h2
   have ht:=C7 h3
   simp only[rd] at hrd
   split at hrd
   ·rename_i heq heq'
    rw[heq] at hy;rw[heq'] at hz
    split at hrd
    ·rename_i hb
     simp only[L7,L_] at hrd
     obtain⟨rfl,rfl⟩:=hrd
     (refine ra ?_ hy.d hz.d hb hp;exact ht)
    ·cases hrd
   ·cases hrd
  ·cases hm
 |binI b y z=>
  simp only[bQ] at hm
  split at hm
  ·simp only[L9,Mc,Mu] at hm
   obtain⟨⟨⟨⟨rfl,h1⟩,h2⟩,h3⟩,h4⟩:=hm
   have hy:=ah hr h1
   have hz:=ah hr h2
   have ht:=B9 h3
   simp only[rd] at hrd
   split at hrd
   ·rename_i heq heq'
    rw[heq] at hy;rw[heq'] at hz
    split at hrd
    ·rename_i hb
     simp only[L7,L_] at hrd
     obtain⟨rfl,rfl⟩:=hrd
     (refine ra ?_ hy.d hz.d hb hp;exact⟨h4,ht⟩)
    ·cases hrd
   ·rename_i heq heq'
    rw[heq] at hy;rw[heq'] at hz
    split at hrd
    ·rename_i hb
     simp only[L7,L_] at hrd
     obtain⟨rfl,rfl⟩:=hrd
     (refine ra ?_ hy.d hz.d hb hp;exact⟨h4,ht⟩)
    ·cases hrd
   ·cases hrd
  ·cases hm
 |gd _ _ _=>simp[bQ] at hm
 |binP b y z=>
  simp only[bQ] at hm
  split at hm
  ·simp only[L9,Mc] at hm
   obtain⟨⟨⟨rfl,h1⟩,h2⟩,h3⟩:=hm
   have hy:=ah hr h1
   have hz:=ah hr h2
   obtain⟨e,he⟩:=Er h3
   simp only[rd] at hrd
   split at hrd
   ·rename_i heq
    rw[heq] at hz
    simp only[af,aK] at hz
    split at hrd
    ·split at hrd
     ·rename_i heq2
      rw[heq2] at hy
      simp only[af] at hy
      obtain⟨bb,_,hv⟩:=hy
      simp only[L7,L_] at hrd
      obtain⟨_,rfl⟩:=hrd
      exact av (v:= .bool false) (by simp[execOp,hv,hz,eqGuard,binOp,vA _ he]) (by simp[af,aK])
     ·rename_i heq2
      rw[heq2] at hy
      simp only[af] at hy
      obtain⟨bb,_,_,_,hv⟩:=hy
      simp only[L7,L_] at hrd
      obtain⟨_,rfl⟩:=hrd
      exact av (v:= .bool false) (by simp[execOp,hv,hz,eqGuard,binOp,vA _ he]) (by simp[af,aK])
     ·rename_i heq2
      rw[heq2] at hy
      simp only[af,aK] at hy
      simp only[L7,L_] at hrd
      obtain⟨_,rfl⟩:=hrd
      exact av (v:= .bool true) (by simp[execOp,hy,hz,eqGuard,binOp,vA _ he]) (by simp[af,aK])
     ·cases hrd
    ·cases hrd
   ·cases hrd
  ·cases hm
 |not y=>
  simp only[bQ] at hm
  split at hm
  ·have hy:=ah hr hm
   simp only[rd] at hrd
   split at hrd
   ·rename_i heq
    rw[heq] at hy
    simp only[af,aK] at hy
    simp only[L7,L_] at hrd
    obtain⟨_,rfl⟩:=hrd
    exact F0 hy
   ·cases hrd
  ·cases hm
 |neg y=>
  simp only[bQ] at hm
  split at hm
  ·have hy:=ah hr hm
   simp only[rd] at hrd
   split at hrd
   ·rename_i heq
    rw[heq] at hy
    simp only[af,aK] at hy
    simp only[L7,L_] at hrd
    obtain⟨_,rfl⟩:=hrd
    exact F4 hy
   ·cases hrd
  ·cases hm
 |cvi k y=>
  simp only[bQ] at hm
  split at hm
  ·simp only[L9] at hm
   obtain⟨⟨h1,h2⟩,h3⟩:=hm
   have hy:=ah hr h1
   split at h3
   ·rename_i ht
    simp only[Mc] at h3
    subst h3
    simp only[rd] at hrd
    split at hrd
    ·rename_i heq
     rw[heq] at hy
     simp only[af,aK] at hy
     simp only[L7,L_] at hrd
     obtain⟨_,rfl⟩:=hrd
     exact F5 h2 ht hy
    ·cases hrd
   ·cases h3
  ·cases hm
 |ext y i=>
  simp only[bQ] at hm
  split at hm
  ·simp only[L9,Mc] at hm
   obtain⟨h1,rfl⟩:=hm
   have hy:=ah hr h1
   simp only[rd] at hrd
   split at hrd
   ·rename_i cs heq
    rw[heq] at hy
    simp only[af,aK] at hy
    obtain⟨vs,hv,hl⟩:=hy
    split at hrd
    ·rename_i c hc
     simp only[L7,L_] at hrd
     obtain⟨_,rfl⟩:=hrd
     obtain⟨v,hv1,hv2⟩:=hl.get hc
     exact A8 hv hv1 (by simpa only[af] using hv2)
    ·cases hrd
   ·rename_i cs heq
    rw[heq] at hy
    simp only[af] at hy
    obtain⟨vs,hv,hl⟩:=hy
    split at hrd
    ·rename_i c hc
     simp only[L7,L_] at hrd
     obtain⟨_,rfl⟩:=hrd
     obtain⟨v,hv1,hv2⟩:=hl.get hc
     exact A8 hv hv1 hv2
    ·cases hrd
   ·cases hrd
  ·cases hm
 |len y=>
  simp only[bQ] at hm
  split at hm
  ·split at hm
   ·rename_i x' t' hx' ht'
    simp only[L9] at hm
    obtain⟨h1,h2⟩:=hm
    have hy:=ah hr h1
    split at h2
    ·rename_i e he
     simp only[rd] at hrd
     split at hrd
     ·rename_i rows heq
      rw[heq] at hy
      simp only[af,aK] at hy
      obtain⟨ad,cap,hv,_⟩:=hy
      simp only[L7,L_] at hrd
      obtain⟨_,rfl⟩:=hrd
      exact iP hx' ht' he hv
     ·rename_i heq
      rw[heq] at hy
      simp only[af] at hy
      simp only[L7,L_] at hrd
      obtain⟨_,rfl⟩:=hrd
      exact iP hx' ht' he hy
     ·rename_i n' heq
      rw[heq] at hy
      simp only[af] at hy
      obtain⟨b,vs,hv,_⟩:=hy
      simp only[L7,L_] at hrd
      obtain⟨_,rfl⟩:=hrd
      exact iP hx' ht' he hv
     ·rename_i id heq
      rw[heq] at hy
      simp only[af] at hy
      split at hrd
      ·rename_i e' sz' rows hbox
       simp only[L7,L_] at hrd
       obtain⟨_,rfl⟩:=hrd
       rcases B8 hr hbox with⟨hk0,rfl⟩|⟨b,cap,hkb⟩
       ·exact iP hx' ht' he (hy.trans hk0)
       ·exact iP hx' ht' he (hy.trans hkb)
      ·cases hrd
     ·cases hrd
    ·cases h2
   ·cases hm
  ·cases hm
 |lenT y=>
  simp only[bQ] at hm
  split at hm
  ·split at hm
   ·rename_i x' t' hx' ht'
    simp only[L9] at hm
    obtain⟨h1,h2⟩:=hm
    have hy:=ah hr h1
    split at h2
    ·rename_i he
     simp only[rd] at hrd
     split at hrd
     ·rename_i l heq
      rw[heq] at hy
      simp only[af,aK] at hy
      simp only[L7,L_] at hrd
      obtain⟨_,rfl⟩:=hrd
      exact AK hx' ht' he hy
     ·cases hrd
    ·cases h2
   ·cases hm
  ·cases hm
 |lenM y=>
  simp only[bQ] at hm
  split at hm
  ·split at hm
   ·rename_i x' t' hx' ht'
    simp only[L9] at hm
    obtain⟨h1,h2⟩:=hm
    have hy:=ah hr h1
    split at h2
    ·rename_i he
     simp only[rd] at hrd
     split at hrd
     ·rename_i id heq
      rw[heq] at hy
      simp only[af] at hy
      split at hrd
      ·rename_i kv hbox
       simp only[L7,L_] at hrd
       obtain⟨_,rfl⟩:=hrd
       have hch:=hr.chunks id
       rw[hbox] at hch
       obtain⟨r,es,clock,G,hk,hh,_,hmap,_⟩:=hch
       rw[<-hmap.length]
       exact AL hx' ht' he (hy.trans hk) hh
      ·cases hrd
     ·cases hrd
    ·cases h2
   ·cases hm
  ·cases hm
 |mins y ys=>
  simp only[bQ] at hm
  split at hm
  ·rename_i args ts
   have hxs:=jE hr hm
   simp only[rd] at hrd
   split at hrd
   ·rename_i m l heq heqs
    cases hargs:args.toList with
    |nil=>rw[hargs] at hm;simp[j8] at hm
    |cons x' xs'=>
     rw[hargs] at hxs
     simp only[Mk,aj,MG] at hxs
     obtain⟨u,us,⟨rfl,rfl⟩,hx1,hx2⟩:=hxs
     rw[heq] at hx1
     simp only[af,aK] at hx1
     split at hrd
     ·rename_i r hmin
      simp only[L7,L_] at hrd
      obtain⟨_,rfl⟩:=hrd
      exact Eh hargs hx1 (aj.toDVs _ _ _ hx2 heqs) hmin
     ·cases hrd
   ·cases hrd
  ·cases hm
 |maxs y ys=>
  simp only[bQ] at hm
  split at hm
  ·rename_i args ts
   have hxs:=jE hr hm
   simp only[rd] at hrd
   split at hrd
   ·rename_i m l heq heqs
    cases hargs:args.toList with
    |nil=>rw[hargs] at hm;simp[j8] at hm
    |cons x' xs'=>
     rw[hargs] at hxs
     simp only[Mk,aj,MG] at hxs
     obtain⟨u,us,⟨rfl,rfl⟩,hx1,hx2⟩:=hxs
     rw[heq] at hx1
     simp only[af,aK] at hx1
     split at hrd
     ·rename_i r hmin
      simp only[L7,L_] at hrd
      obtain⟨_,rfl⟩:=hrd
      exact Ei hargs hx1 (aj.toDVs _ _ _ hx2 heqs) hmin
     ·cases hrd
   ·cases hrd
  ·cases hm
 |mkfn f ys=>
  simp only[bQ] at hm
  split at hm
  ·simp only[L9,Mc] at hm
   obtain⟨⟨rfl,h2⟩,h3⟩:=hm
   have hxs:=jE hr h3
   simp only[rd] at hrd
   split at hrd
   ·rename_i l heqs
    simp only[L7,L_] at hrd
    obtain⟨_,rfl⟩:=hrd
    exact Ej h2 (aj.toDVs _ _ _ hxs heqs)
   ·split at hrd
    ·rename_i ids heqs
     simp only[L7,L_] at hrd
     obtain⟨_,rfl⟩:=hrd
     obtain⟨k1,k2⟩:=zu hxs heqs
     exact C2 h2 k1 k2
    ·cases hrd
  ·cases hm
 |build zs ps=>
  simp only[bQ] at hm
  split at hm
  ·split at hm
   ·rename_i fs i hu hi
    simp only[L9] at hm
    obtain⟨⟨h1,h2⟩,h3⟩:=hm
    split at h1
    ·rename_i z hz
     simp only[rd] at hrd
     split at hrd
     ·rename_i cs hfill
      simp only[L7,L_] at hrd
      obtain⟨_,rfl⟩:=hrd
      exact C5 hr.kok hu hi hz h1 h2 (yk hr h3) hfill
     ·cases hrd
    ·cases h1
   ·rename_i len e i hu hi
    split at hm
    ·rename_i ie hie
     simp only[L9] at hm
     obtain⟨h1,h3⟩:=hm
     split at h1
     ·rename_i z hz
      simp only[rd] at hrd
      split at hrd
      ·rename_i cs hfill
       simp only[L7,L_] at hrd
       obtain⟨_,rfl⟩:=hrd
       exact B6 hr.kok hu hi hie hz h1 (ww hr h3) hfill
      ·cases hrd
     ·cases h1
    ·cases hm
   ·cases hm
  ·cases hm
 |bslice sz xs=>
  simp only[bQ] at hm
  split at hm
  ·simp only[L9,Mc] at hm
   obtain⟨⟨h1,h2⟩,h3⟩:=hm
   obtain⟨hrep,hidx⟩:=vD hr h2
   split at h3
   ·rename_i e he
    split at h3
    ·rename_i i hi
     simp only[L9,Mc,Ma] at h3
     obtain⟨⟨⟨h4,h5⟩,h6⟩,h7⟩:=h3
     split at h7
     ·rename_i z hz
      simp only[Mc] at h7
      simp only[rd] at hrd
      split at hrd
      ·rename_i rows hrows
       simp only[L7,L_] at hrd
       obtain⟨_,rfl⟩:=hrd
       have:=B7 (dst:=dst) (ty:=ty) (pos:=pos) (aft:=aft) (gd:=gd) hr.kok (fun b hb=>hr.own_lt hb) he hi h4 h5 h6 hz h7 h1 hrep (fun j q hj=>by simpa using hidx j q hj) hrows
       simpa using this
      ·cases hrd
     ·cases h7
    ·cases h3
   ·cases h3
  ·cases hm
 |slc sz y l h=>
  simp only[bQ] at hm
  split at hm
  ·rename_i t x' lo hi
   simp only[L9] at hm
   obtain⟨⟨⟨h1,h2⟩,h3⟩,h4⟩:=hm
   have hy:=ah hr h1
   split at h4
   ·rename_i e he
    simp only[L9,Mc,Ma] at h4
    obtain⟨⟨h5,rfl⟩,h7⟩:=h4
    have hox:∀ (lo:Option Operand) (l:Option SX),j9 c.N lo l=true->∀ x y,lo=some x->l=some y->af w (own c φ) κ (ev σ.s y) (a.eval x):=fun lo l hml x y e1 e2=>by
     subst e1 e2;simp only[j9] at hml;exact ah hr hml
    simp only[rd] at hrd
    split at hrd
    ·rename_i rows l' h' heq hl hh
     simp only[L7,L_] at hrd
     obtain⟨rfl,rfl⟩:=hrd
     rw[heq] at hy
     exact Bd he h5 rfl h7 hy.d (pg (hox lo l h2) h2 hl) (pg (hox hi h h3) h3 hh) hp.1 hp.2.1 hp.2.2.1 hp.2.2.2
    ·rename_i sz2 k cs l' h' heq hl hh
     split at hrd
     ·rename_i ds hds
      simp only[L7,L_] at hrd
      obtain⟨rfl,rfl⟩:=hrd
      rw[heq] at hy
      obtain⟨rfl,hp⟩:=hp
      have hy':=af.toDV _ _ (.slice (fc (P.cellsOf e) k ds)) hy (by simp only[SV.toDV,hds])
      have hlen:=gz (P.cellsOf e) k ds
      have hall:∀ r∈fc (P.cellsOf e) k ds,r.length=P.cellsOf e:=by
       simp only[af] at hy
       obtain⟨b,vs,_,_,_,hvl,_,_,hsl⟩:=hy
       exact rF _ k ds (by rw[<-(aj.toDVs _ _ _ hsl hds).length,hvl])
      have:=Bd (dst:=dst) (ty:=ty) (pos:=pos) (aft:=aft) (gd:=gd) (κ:=κ) he h5 rfl h7 hy' (pg (hox lo l h2) h2 hl) (pg (hox hi h h3) h3 hh) hall hp.1 (by rw[hlen];exact hp.2.1) (by rw[hlen];exact hp.2.2)
      rw[hlen] at this
      exact this
     ·cases hrd
    ·rename_i l' h' heq hl hh
     simp only[L7,L_] at hrd
     obtain⟨rfl,rfl⟩:=hrd
     rw[heq] at hy
     simp only[af] at hy
     exact AN he h5 hy (pg (hox lo l h2) h2 hl) (pg (hox hi h h3) h3 hh) hp.1 hp.2
    ·cases hrd
   ·cases h4
  ·cases hm
 |sslc y l h=>
  simp only[bQ] at hm
  split at hm
  ·rename_i t x' lo hi
   simp only[L9] at hm
   obtain⟨⟨⟨h1,h2⟩,h3⟩,h4⟩:=hm
   have hy:=ah hr h1
   split at h4
   ·rename_i he
    have hox:∀ (lo:Option Operand) (l:Option SX),j9 c.N lo l=true->∀ x y,lo=some x->l=some y->af w (own c φ) κ (ev σ.s y) (a.eval x):=fun lo l hml x y e1 e2=>by
     subst e1 e2;simp only[j9] at hml;exact ah hr hml
    simp only[rd] at hrd
    split at hrd
    ·rename_i b l' h' heq hl hh
     simp only[L7,L_] at hrd
     obtain⟨rfl,rfl⟩:=hrd
     rw[heq] at hy
     simp only[af,aK] at hy
     exact Eo he hy (pg (hox lo l h2) h2 hl) (pg (hox hi h h3) h3 hh) hp.1 hp.2.1 hp.2.2
    ·cases hrd
   ·cases h4
  ·cases hm
 |nilc y=>
  simp only[bQ] at hm
  split at hm
  ·have hy:=ah hr hm
   simp only[rd] at hrd
   split at hrd
   ·rename_i heq
    rw[heq] at hy
    simp only[L7,L_] at hrd
    obtain⟨_,rfl⟩:=hrd
    have hy':=hy
    simp only[af] at hy'
    obtain⟨b,_,hv⟩:=hy'
    exact av (by simp[execOp,hv]) (hv▸hy)
   ·rename_i heq
    rw[heq] at hy
    simp only[L7,L_] at hrd
    obtain⟨_,rfl⟩:=hrd
    have hy':=hy
    simp only[af] at hy'
    obtain⟨b,_,_,_,hv⟩:=hy'
    exact av (by simp[execOp,hv]) (hv▸hy)
   ·rename_i heq
    rw[heq] at hy
    simp only[L7,L_] at hrd
    obtain⟨_,rfl⟩:=hrd
    have hy':=hy
    simp only[af,aK] at hy'
    obtain⟨b,o,hv,_⟩:=hy'
    exact av (by simp[execOp,hv]) (hv▸hy)
   ·cases hrd
  ·cases hm
 |aidx sz n y j=>
  simp only[bQ] at hm
  split at hm
  ·simp only[L9] at hm
   obtain⟨⟨h1,h2⟩,h3⟩:=hm
   have hy:=ah hr h1
   have hj:=ah hr h2
   split at h3
   ·rename_i len e he
    simp only[L9,Mc] at h3
    obtain⟨⟨rfl,h4⟩,rfl⟩:=h3
    simp only[rd] at hrd
    split at hrd
    ·rename_i id off k i heq heqi
     rw[heq] at hy;rw[heqi] at hj
     simp only[af,aK] at hy hj
     obtain⟨b,hkb,hv⟩:=hy
     simp only[L7,L_] at hrd
     obtain⟨rfl,rfl⟩:=hrd
     refine av (v:= .pointer (some ⟨b,off+i.toNat * P.cellsOf e,none⟩)) ?_ (by simp only[af];exact⟨b,hkb,rfl⟩)
     simp[execOp,Instr.indexAt,hj,hv,asIntOf,run_underlying he,Instr.sureAddr,hp,cM h4,fE]
    ·cases hrd
   ·cases h3
  ·cases hm
 |slcP n y l=>
  simp only[bQ] at hm
  split at hm
  ·simp only[L9] at hm
   obtain⟨⟨h1,h2⟩,h3⟩:=hm
   have hy:=ah hr h1
   have hj:=ah hr h2
   split at h3
   ·rename_i len e he
    simp only[L9,Mc] at h3
    obtain⟨⟨rfl,h4⟩,h5⟩:=h3
    simp only[rd] at hrd
    split at hrd
    ·rename_i cs k i heq heqi
     rw[heq] at hy;rw[heqi] at hj
     simp only[af] at hy hj
     unfold aK at hj
     simp only[L7,L_] at hrd
     obtain⟨rfl,rfl⟩:=hrd
     exact Em he h4 h5 hy hj hp.1 hp.2.1 hp.2.2
    ·cases hrd
   ·cases h3
  ·cases hm
 |slc3 sz y l h m=>
  simp only[bQ] at hm
  split at hm
  ·rename_i t x' lo hi mx
   simp only[L9] at hm
   obtain⟨⟨⟨⟨h1,h2⟩,h3⟩,h4⟩,h5⟩:=hm
   have hy:=ah hr h1
   have hh:=ah hr h3
   have hmm:=ah hr h4
   split at h5
   ·rename_i e he
    simp only[L9,Mc,Ma] at h5
    obtain⟨⟨h6,rfl⟩,h7⟩:=h5
    have hox:∀ x y,lo=some x->l=some y->af w (own c φ) κ (ev σ.s y) (a.eval x):=fun x y e1 e2=>by
     subst e1 e2;simp only[j9] at h2;exact ah hr h2
    simp only[rd] at hrd
    split at hrd
    ·rename_i rows l' k h' k' m' heq hl heqh heqm
     rw[heq] at hy;rw[heqh] at hh;rw[heqm] at hmm
     simp only[af,aK] at hh hmm
     simp only[L7,L_] at hrd
     obtain⟨rfl,rfl⟩:=hrd
     exact En he h6 rfl hy.d (pg hox h2 hl) hh hmm hp.1 hp.2.1 hp.2.2.1 hp.2.2.2.1 hp.2.2.2.2
    ·cases hrd
   ·cases h5
  ·cases hm
 |cvis y=>
  simp only[bQ] at hm
  split at hm
  ·simp only[L9] at hm
   obtain⟨⟨h1,h2⟩,h3⟩:=hm
   have hy:=ah hr h1
   split at h2
   ·rename_i k hs
    split at h3
    ·rename_i ht
     simp only[rd] at hrd
     split at hrd
     ·rename_i heq
      rw[heq] at hy
      simp only[af,aK] at hy
      simp only[L7,L_] at hrd
      obtain⟨_,rfl⟩:=hrd
      exact Ef hs ht hy
     ·cases hrd
    ·cases h3
   ·cases h2
  ·cases hm
 |cl t ts=>simp[bQ] at hm
 |cvsb y=>
  simp only[bQ] at hm
  split at hm
  ·simp only[L9] at hm
   obtain⟨⟨h1,h2⟩,h3⟩:=hm
   have hy:=ah hr h1
   split at h2
   ·rename_i e ht
    split at h2
    ·rename_i he
     split at h3
     ·rename_i hs
      simp only[rd] at hrd
      split at hrd
      ·rename_i heq
       rw[heq] at hy
       simp only[af,aK] at hy
       simp only[L7,L_] at hrd
       obtain⟨_,rfl⟩:=hrd
       exact Eg (fun b hb=>hr.own_lt hb) hs ht he hy
      ·cases hrd
     ·cases h3
    ·cases h2
   ·cases h2
  ·cases hm
 |cvbs y=>
  simp only[bQ] at hm
  split at hm
  ·simp only[L9] at hm
   obtain⟨⟨h1,h2⟩,h3⟩:=hm
   have hy:=ah hr h1
   split at h2
   ·rename_i e hs
    split at h2
    ·rename_i he
     split at h3
     ·rename_i ht
      simp only[rd] at hrd
      split at hrd
      ·rename_i rows heq
       rw[heq] at hy
       split at hrd
       ·rename_i l hl
        simp only[L7,L_] at hrd
        obtain⟨_,rfl⟩:=hrd
        simp only[af,aK] at hy
        obtain⟨ad,cap,hv,_,_,hc⟩:=hy
        refine py hs he ht ⟨ad,cap,by rw[hv,zr hl], ?_⟩
        rcases hc with rfl|⟨b,o,sz,rfl,_,_,hrows⟩
        ·simp only[rJ,L7] at hl;exact .inl hl.symm
        ·exact .inr ⟨b,o,rfl,(yl hl hrows).2⟩
       ·cases hrd
      ·rename_i heq
       rw[heq] at hy
       simp only[af] at hy
       simp only[L7,L_] at hrd
       obtain⟨_,rfl⟩:=hrd
       exact py hs he ht ⟨none,0,hy,.inl rfl⟩
      ·rename_i sz n cs heq
       rw[heq] at hy
       split at hrd
       ·rename_i l hl
        simp only[L7,L_] at hrd
        obtain⟨rfl,rfl⟩:=hrd
        simp only[af] at hy
        obtain⟨b,vs,hv,_,_,hlen,_,hcell,hrep⟩:=hy
        obtain⟨k1,k2,k3⟩:=vC hl hrep
        have hp1:sz=1:=hp
        subst hp1
        refine py hs he ht ⟨some ⟨b,0,none⟩,n,by rw[hv,<-k2,hlen,Nat.mul_one],.inr ⟨b,0,rfl,fun j c hj=> ?_⟩⟩
        rw[M7];exact hcell j _ (k3 j c hj)
       ·cases hrd
      ·rename_i id heq
       rw[heq] at hy
       simp only[af] at hy
       split at hrd
       ·rename_i e' sz rows hbox
        split at hrd
        ·rename_i l hl
         simp only[L7,L_] at hrd
         obtain⟨rfl,rfl⟩:=hrd
         have hp1:sz=1:=hp
         subst hp1
         have hch:=hr.chunks id
         rw[hbox] at hch
         obtain⟨xs,G,g1,g2,g3,g4,_⟩:=hch
         have hflat:rows.flatten.length=rows.length:=by
          have:=lQ g3;simpa using this
         have hrep:=vC hl (ao.to_S _ _ _ (wx hl) g4).1
         obtain⟨k1,k2,k3⟩:=hrep
         rcases B8 hr hbox with⟨hk0,rfl⟩|⟨b,cap,hkb⟩
         ·simp only[List.flatten_nil,rI,L7] at hl
          subst hl
          exact py hs he ht ⟨none,0,hy.trans hk0,.inl rfl⟩
         ·refine py hs he ht ⟨some ⟨b,0,none⟩,cap,by rw[hy,hkb,<-hflat,k1],.inr ⟨b,0,rfl,fun j c hj=> ?_⟩⟩
          have hcell:=g1.cells (g:=b) (by rw[hkb];rfl) j _ (k3 j c hj)
          rw[fE] at hcell
          exact hcell
        ·cases hrd
       ·cases hrd
      ·cases hrd
     ·cases h3
    ·cases h2
   ·cases h2
  ·cases hm
 |look kk z ok m k=>
  simp only[bQ] at hm
  split at hm
  ·simp only[L9,Mc] at hm
   obtain⟨⟨⟨h1,h2⟩,rfl⟩,h3⟩:=hm
   have hx:=ah hr h1
   have hi:=ah hr h2
   split at h3
   ·rename_i kt e ht
    simp only[L9,Mc] at h3
    simp only[rd] at hrd
    split at hrd
    ·rename_i id d heq heqi
     rw[heq] at hx
     rw[heqi] at hi
     simp only[af] at hx
     split at hrd
     ·rename_i kk' kv hbox
      simp only[L7,L_] at hrd
      obtain⟨rfl,rfl⟩:=hrd
      obtain⟨rfl,hf,hno⟩:=hp
      have hch:=hr.chunks id
      rw[hbox] at hch
      obtain⟨r,es,clock,G,hk,hh,_,hmap,_⟩:=hch
      exact zo ht h3.1 h3.2 (hx.trans hk) hh hmap hf hno hi.d
     ·cases hrd
    ·rename_i ks vs d heq heqi
     rw[heq] at hx
     rw[heqi] at hi
     simp only[L7,L_] at hrd
     obtain⟨rfl,rfl⟩:=hrd
     obtain⟨⟨hks,hf⟩,hno⟩:=hp
     have hx:=hx.d
     unfold aK at hx
     obtain⟨r,hv,hc⟩:=hx
     rcases hc with⟨rfl,rfl,rfl⟩|⟨b,es,clock,rfl,_,_,hh,_,hents⟩
     ·exact C4 ht h3.1 h3.2 hv hf hi.d
     ·exact zo ht h3.1 h3.2 hv hh (Ba hks hents) hf hno hi.d
    ·cases hrd
   ·cases h3
  ·cases hm
 |eqs b kks y z=>
  simp only[bQ] at hm
  split at hm
  ·simp only[L9,Mc,M2] at hm
   obtain⟨⟨⟨⟨⟨rfl,h1⟩,h2⟩,h3⟩,h4⟩,h5⟩:=hm
   split at h3
   ·rename_i fs ht
    simp only[rd] at hrd
    split at hrd
    ·rename_i cs ds hy hz
     have hx:=af.toDV _ _ _ (ah hr h1) hy
     have hx':=af.toDV _ _ _ (ah hr h2) hz
     split at hrd
     ·rename_i q hq
      split at hrd
      ·simp only[L7,L_] at hrd
       obtain⟨_,rfl⟩:=hrd
       exact Bc ht h4 h5 h3 hx hx' hq (.inl rfl)
      ·simp only[L7,L_] at hrd
       obtain⟨_,rfl⟩:=hrd
       exact Bc ht h4 h5 h3 hx hx' hq (.inr rfl)
      ·cases hrd
     ·cases hrd
    ·cases hrd
   ·cases h3
  ·cases hm
end
