/-
  My text.
-/
import Derived.Test.YteaolfcegaidpaaGreatDoorSYEngF
namespace Go.Proofs.YteaolfcegaidpaaGreatDoor
set_option linter.unusedSimpArgs false
set_option linter.unusedVariables false
open Go.RowKit
section
variable {P:Program} {c:Cx} {σ:St} {κ:Nat->Value} {φ:Nat->List Nat} {a:Act} {w:World}
theorem ae.d {M:Nat->Prop} {x:DV} {v:Value} (h:ae w M κ (.d x) v):aQ w M x v:=by simpa only[ae] using h
theorem CY (hr:cE c σ κ φ a w) {id:Nat} {cs:List SV} (hb:σ.h id= .box cs):∃ b vs G,κ id= .pointer (some ⟨b,0,none⟩)/\am w (own c φ) κ cs vs G/\(∀ x∈vs,x.oneCell'=true)/\∀ j:Nat,w.cell? ⟨b,j,none⟩=vs[j]?:=by
 have h:=hr.chunks id
 rw[hb] at h
 obtain⟨b,T,vs,G,h1,h3,h4,h5,_⟩:=h
 exact⟨b,vs,G,h1,h5,h4,fun j=>by rw[cell_of_row w b j _ T _ h3];simp⟩
theorem mN {α:Type} {sz:Nat}:∀ {rows:List (List α)},(∀ r∈rows,r.length=sz)->rows.flatten.length=rows.length * sz
 |[],_=>by simp
 |r::rows,h=>by
  have:=mN (rows:=rows) (fun r hr=>h r (by simp[hr]))
  simp only[O_,OD,OW,this,h r oS,PD];omega
theorem Ga {α:Type} {rows:List (List α)} {i:Nat} {r:List α} (hi:rows[i]?=some r):rows.flatten=(rows.take i).flatten++(r++(rows.drop (i+1)).flatten):=by
 have hlt:=(OG.1 hi).1
 conv=>lhs;rw[<-OU i rows,PT hlt,(OG.1 hi).2]
 simp
theorem HN {M:Nat->Prop} {rows:List (List SV)} {sz i:Nat} {r:List SV} {xs:List Value} {G:List Nat} (hall:∀ r∈rows,r.length=sz) (h:am w M κ rows.flatten xs G) (hi:rows[i]?=some r):
  ∃ G1 G2 G3,G=G1++(G2++G3)/\am w M κ (rows.take i).flatten (xs.take (i * sz)) G1/\am w M κ r ((xs.drop (i * sz)).take sz) G2/\am w M κ (rows.drop (i+1)).flatten (xs.drop (i * sz+sz)) G3:=by
 have hlt:=(OG.1 hi).1
 have hrl:=hall r (OE hi)
 rw[Ga hi] at h
 obtain⟨G1,G',rfl,h1,h2⟩:=h.split
 obtain⟨G2,G3,rfl,h3,h4⟩:=h2.split
 have hl:(rows.take i).flatten.length=i * sz:=by
  rw[mN (sz:=sz) (fun r hr=>hall r (O0 hr)),OT,show min i rows.length=i by omega]
 rw[hl] at h1 h3 h4
 rw[hrl] at h3 h4
 rw[PX] at h4
 exact⟨G1,G2,G3,rfl,h1,h3,h4⟩
theorem CZ (hr:cE c σ κ φ a w) {id e sz:Nat} {rows:List (List SV)} (hb:σ.h id= .vec e sz rows) {i:Nat} {r:List SV} (hi:rows[i]?=some r) {b len cap:Nat} (hk:κ id= .slice (some ⟨b,0,none⟩) len cap):
  r.length=sz/\∃ vs G,am w (own c φ) κ r vs G/\(∀ x∈vs,x.oneCell'=true)/\∀ j v,vs[j]?=some v->w.cell? ⟨b,i * sz+j,none⟩=some v:=by
 have h:=hr.chunks id
 rw[hb] at h
 obtain⟨xs,G,h1,h2,h3,h4,_⟩:=h
 have hrl:=h3 r (OE hi)
 obtain⟨G1,G2,G3,_,_,h5,_⟩:=HN h3 h4 hi
 refine⟨hrl,_,G2,h5,fun x hx=>h2 x (Pg (O0 hx)),fun j v hj=> ?_⟩
 rw[PJ] at hj
 split at hj
 ·rw[PF] at hj
  have hcell:=h1.cells (g:=b) (by rw[hk];rfl) (i * sz+j) v hj
  rw[gm] at hcell
  simpa using hcell
 ·cases hj
theorem DQ (hr:cE c σ κ φ a w) {id e sz:Nat} {rows:List (List SV)} (hb:σ.h id= .vec e sz rows):(κ id= .slice none 0 0/\rows=[])\/∃ b cap,κ id= .slice (some ⟨b,0,none⟩) rows.length cap:=by
 have h:=hr.chunks id
 rw[hb] at h
 obtain⟨xs,G,h1,_⟩:=h
 rcases h1.2 with⟨hv,hn⟩|⟨g,cap,cur,hv,_⟩
 ·exact .inl ⟨hv,OX.1 hn⟩
 ·exact .inr ⟨g,cap,hv⟩
theorem bk.length {M:Nat->Prop} {kk:KK}:∀ {kv:List (DV×SV)} {es:List MapEntry} {F:List Nat},bk w M κ kk kv es F->es.length=kv.length
 |[],es,F,h=>by unfold bk at h;simp[h]
 |(k,c)::kv,es,F,h=>by
  unfold bk at h
  obtain⟨e,rest,_,_,rfl,_,_,_,_,h5⟩:=h
  simp[bk.length h5]
theorem zU (hr:cE c σ κ φ a w) {fs:Array Field}:∀ {ps:List (Nat×Operand)} {qs:List (Nat×Nat×SX)},ol P c.N fs ps qs=true->
  xZ (fun(p:Nat×Nat×SV) (q:Nat×Operand)=>(∃ f,fs[q.1]?=some f/\f.offset=p.1/\P.cellsOf f.type=p.2.1)/\ae w (own c φ) κ p.2.2 (a.eval q.2)) (qs.map fun p=>(p.1,p.2.1,ev σ.s p.2.2)) ps
 |[],[],_=> .nil
 |(i,x)::ps,(off,n,y)::qs,h=>by
  simp only[ol,Oz] at h
  obtain⟨⟨h1,h2⟩,h3⟩:=h
  refine .cons ⟨?_,ag hr h2⟩ (zU hr h3)
  split at h1
  ·rename_i f hf
   simp at h1
   exact⟨f,hf,h1.1.1,h1.2⟩
  ·cases h1
 |[],_::_,h=>by simp[ol] at h
 |_::_,[],h=>by simp[ol] at h
theorem x5 (hr:cE c σ κ φ a w) {sz:Nat}:∀ {ps:List (Nat×Operand)} {qs:List (Nat×Nat×SX)},mL c.N sz ps qs=true->
  xZ (fun(p:Nat×Nat×SV) (q:Nat×Operand)=>(p.1=q.1 * sz/\p.2.1=sz)/\ae w (own c φ) κ p.2.2 (a.eval q.2)) (qs.map fun p=>(p.1,p.2.1,ev σ.s p.2.2)) ps
 |[],[],_=> .nil
 |(i,x)::ps,(off,n,y)::qs,h=>by
  simp only[mL,Oz,OI] at h
  obtain⟨⟨⟨h0,h1⟩,h2⟩,h3⟩:=h
  exact .cons ⟨⟨h0,h1⟩,ag hr h2⟩ (x5 hr h3)
 |[],_::_,h=>by simp[mL] at h
 |_::_,[],h=>by simp[mL] at h
theorem xb {M:Nat->Prop}:∀ {cs:List SV} {l:List UInt8} {vs:List Value},tg cs=some l->ai w M κ cs vs->cs.length=l.length/\vs.length=l.length/\∀ (j:Nat) (c:UInt8),l[j]?=some c->vs[j]?=some (.int .u8 c.toNat)
 |[],l,vs,h,hr=>by
  simp only[tg,Oy] at h;subst h
  simp only[ai] at hr;subst hr
  simp
 |x::cs,l,vs,h,hr=>by
  unfold tg at h
  split at h
  ·rename_i heq;cases heq
  ·rename_i n r heq
   simp only[O7] at heq
   obtain⟨rfl,rfl⟩:=heq
   split at h
   ·rename_i hn
    split at h
    ·rename_i l' hl'
     simp only[Oy] at h;subst h
     simp only[ai] at hr
     obtain⟨u,us,rfl,h1,h2⟩:=hr
     obtain⟨k1,k2,k3⟩:=xb hl' h2
     simp only[ae,aQ] at h1
     subst h1
     refine⟨by simp[k1],by simp[k2],fun j c hj=> ?_⟩
     cases j with
     |zero=>
      simp at hj;subst hj
      have:(UInt8.ofNat n.toNat).toNat=n.toNat:=UInt8.toNat_ofNat_of_lt' (by show n.toNat<256;omega)
      simp only[PY,this]
      congr 2;omega
     |succ j=>simpa using k3 j c (by simpa using hj)
    ·cases h
   ·cases h
  ·cases h
theorem x6:∀ {cs:List SV} {l:List UInt8},tg cs=some l->SV.noOwns cs=true
 |[],_,_=>rfl
 |x::cs,l,h=>by
  unfold tg at h
  split at h
  ·rename_i heq;cases heq
  ·rename_i n r heq
   simp only[O7] at heq
   obtain⟨rfl,rfl⟩:=heq
   split at h
   ·split at h
    ·rename_i l' hl'
     simp only[SV.noOwns,SV.noOwn,x6 hl',Bool.and_self]
    ·cases h
   ·cases h
  ·cases h
theorem zV {M:Nat->Prop}:∀ {rows:List (List DV)} {l:List UInt8} {b o sz:Nat},th rows=some l->aS w M rows b o sz->rows.length=l.length/\∀ (j:Nat) (c:UInt8),l[j]?=some c->w.cell? ⟨b,o+j,none⟩=some (.int .u8 c.toNat)
 |[],l,b,o,sz,h,hr=>by
  simp only[th,Oy] at h;subst h
  simp
 |r::rows,l,b,o,sz,h,hr=>by
  unfold th at h
  split at h
  ·rename_i heq;cases heq
  ·rename_i n r' heq
   simp only[O7] at heq
   obtain⟨rfl,rfl⟩:=heq
   split at h
   ·rename_i hn
    split at h
    ·rename_i l' hl'
     simp only[Oy] at h;subst h
     simp only[aS] at hr
     obtain⟨h0,h1,h2⟩:=hr
     simp at h0;subst h0
     obtain⟨k1,k2⟩:=zV hl' h2
     simp only[bO] at h1
     obtain⟨⟨v,hv,_,hr'⟩,_⟩:=h1
     simp only[aQ] at hr'
     subst hr'
     refine⟨by simp[k1],fun j c hj=> ?_⟩
     cases j with
     |zero=>
      simp at hj;subst hj
      have:(UInt8.ofNat n.toNat).toNat=n.toNat:=UInt8.toNat_ofNat_of_lt' (by show n.toNat<256;omega)
      rw[Qb,hv,this]
      congr 2;omega
     |succ j=>
      have:=k2 j c (by simpa using hj)
      rwa[show o+1+j=o+(j+1) by omega] at this
    ·cases h
   ·cases h
  ·cases h
theorem Bc:∀ {rows:List (List DV)} {l:List UInt8},th rows=some l->rows.length=l.length
 |[],l,h=>by simp only[th,Oy] at h;subst h;rfl
 |r::rows,l,h=>by
  unfold th at h
  split at h
  ·rename_i heq;cases heq
  ·rename_i n r' heq
   simp only[O7] at heq
   obtain⟨rfl,rfl⟩:=heq
   split at h
   ·split at h
    ·rename_i l' hl'
     simp only[Oy] at h;subst h
     simp[Bc hl']
    ·cases h
   ·cases h
  ·cases h
theorem xc (hr:cE c σ κ φ a w):∀ {k:Nat} {ps:List (Nat×Operand)} {qs:List SX},om c.N k ps qs=true->
  ai w (own c φ) κ (qs.map (ev σ.s)) (ps.map fun q=>a.eval q.2)/\∀ (j:Nat) q,ps[j]?=some q->q.1=k+j
 |_,[],[],_=>by simp[ai]
 |k,(i,x)::ps,y::qs,h=>by
  simp only[om,Oz,OI] at h
  obtain⟨⟨h1,h2⟩,h3⟩:=h
  obtain⟨h4,h5⟩:=xc hr h3
  refine⟨by simp only[OQ,ai];exact⟨_,_,rfl,ag hr h2,h4⟩,fun j q hj=> ?_⟩
  cases j with
  |zero=>simp at hj;subst hj;simp[h1]
  |succ j=>have:=h5 j q (by simpa using hj);omega
 |_,[],_::_,h=>by simp[om] at h
 |_,_::_,[],h=>by simp[om] at h
theorem EM {t:TypeId} (h:FW P t=true):P.underlying t=some .bool:=by
 unfold FW at h;split at h
 ·assumption
 ·cases h
theorem Gb {t:TypeId} (h:I6 P t=true):∃ e,P.underlying t=some (.pointer e):=by
 unfold I6 at h;split at h
 ·exact⟨_,by assumption⟩
 ·cases h
theorem DR {t:TypeId} (h:DK P t=true):∃ ms,P.underlying t=some (.interface ms):=by
 unfold DK at h;split at h
 ·exact⟨_,by assumption⟩
 ·cases h
theorem Bd {t:TypeId} {y:SX} (h:EE P t y=true):∃ v i z,y= .c v/\P.info? t=some i/\i.zero=some z/\qf z v=true:=by
 cases y with
 |c v=>
  simp only[EE] at h
  split at h
  ·rename_i i hi
   split at h
   ·rename_i z hz;exact⟨v,i,z,rfl,hi,hz,h⟩
   ·cases h
  ·cases h
 |_=>simp[EE] at h
theorem Be {w:World} {M:Nat->Prop} {κ:Nat->Value}:∀ {cs:List SV} {vs:List Value} {ids:List Nat},ai w M κ cs vs->A1 cs=some ids->vs=ids.map κ/\∀ i∈ids,∃ b,κ i= .pointer (some ⟨b,0,none⟩)
 |[],vs,ids,h,hi=>by
  simp only[A1,Oy] at hi;subst hi
  unfold ai at h
  exact⟨h,fun i hi=>by cases hi⟩
 |c::cs,vs,ids,h,hi=>by
  unfold ai at h
  obtain⟨u,us,rfl,h1,h2⟩:=h
  unfold A1 at hi
  split at hi
  ·rename_i heq;cases heq
  ·rename_i id cs' heq
   simp only[O7] at heq
   obtain⟨rfl,rfl⟩:=heq
   split at hi
   ·rename_i l hl
    simp only[Oy] at hi;subst hi
    obtain⟨k1,k2⟩:=Be h2 hl
    unfold ae at h1
    obtain⟨b,hk,rfl⟩:=h1
    refine⟨by rw[k1,OQ,hk],fun i hi=> ?_⟩
    rcases ON.1 hi with rfl|hi
    ·exact⟨b,hk⟩
    ·exact k2 i hi
   ·cases hi
  ·cases hi
theorem EN (hr:cE c σ κ φ a w) {o:Oper} {op:uk} (hm:cf P c.N o.op op=true) {p:Prop} {x:SV} (hrd:rd σ.h σ.s op=some (p,x)) (hp:p):d6 P a o w (own c φ) κ x:=by
 obtain⟨dst,oop,ty,pos,aft,gd⟩:=o
 simp only at hm
 cases op with
 |mv y=>
  simp only[rd,Oy,OB] at hrd
  obtain⟨_,rfl⟩:=hrd
  simp only[cf] at hm
  split at hm
  ·exact I7 (ag hr hm)
  ·exact DL (ag hr hm)
  ·cases hm
 |pick c b d=>
  simp only[cf] at hm
  split at hm
  ·simp only[Oz] at hm
   obtain⟨⟨h1,h2⟩,h3⟩:=hm
   have hc:=ag hr h1
   simp only[rd] at hrd
   split at hrd
   ·rename_i heq
    rw[heq] at hc
    simp only[Oy,OB] at hrd
    obtain⟨_,rfl⟩:=hrd
    exact A4 hc (by simpa using ag hr h2)
   ·rename_i heq
    rw[heq] at hc
    simp only[Oy,OB] at hrd
    obtain⟨_,rfl⟩:=hrd
    exact A4 hc (by simpa using ag hr h3)
   ·cases hrd
  ·cases hm
 |boxI y=>
  simp only[cf] at hm
  split at hm
  ·have hy:=ag hr hm
   simp only[rd] at hrd
   split at hrd
   ·rename_i cs heq
    simp only[Oy,OB] at hrd
    obtain⟨_,rfl⟩:=hrd
    unfold GQ at heq
    cases hd:(ev σ.s y).toDV with
    |none=>simp[hd] at heq
    |some dd=>
     simp only[hd] at heq
     obtain⟨vs,h1,h2,h3⟩:=(ae.toDV _ _ dd hy hd).cells heq
     exact HJ (fun b hb=>hr.own_lt hb) h1 h2 h3
   ·cases hrd
  ·obtain⟨v,i,z,rfl,hi,hz,hconst⟩:=Bd hm
   have hy:ae w (own c φ) κ v z:=pa hconst
   simp only[rd,ev] at hrd
   split at hrd
   ·rename_i cs heq
    simp only[Oy,OB] at hrd
    obtain⟨_,rfl⟩:=hrd
    unfold GQ at heq
    cases hd:v.toDV with
    |none=>simp[hd] at heq
    |some dd=>
     simp only[hd] at heq
     obtain⟨vs,h1,h2,h3⟩:=(ae.toDV _ _ dd hy hd).cells heq
     exact EF hi hz (fun b hb=>hr.own_lt hb) h1 h2 h3
   ·cases hrd
  ·cases hm
 |ld1 y=>
  simp only[cf] at hm
  split at hm
  ·simp only[Oz] at hm
   obtain⟨h1,h2⟩:=hm
   have hy:=ag hr h1
   split at h2
   ·rename_i d hd
    simp only[Pz] at h2
    simp only[rd] at hrd
    split at hrd
    ·rename_i c cs heq
     simp only[Oy,OB] at hrd
     obtain⟨_,rfl⟩:=hrd
     rw[heq] at hy
     simp only[ae,aQ,bO] at hy
     obtain⟨b,o,hv,hm',hlt,⟨v,hv',_,hrep⟩,_⟩:=hy
     exact y0 hd h2 hv hv' (by simpa only[ae] using hrep)
    ·rename_i id off heq
     rw[heq] at hy
     simp only[ae] at hy
     obtain⟨b,hkb,hv⟩:=hy
     split at hrd
     ·rename_i cs hbox
      split at hrd
      ·rename_i c hc
       split at hrd
       ·rename_i hno
        simp only[Oy,OB] at hrd
        obtain⟨_,rfl⟩:=hrd
        obtain⟨b',vs,G,hk',hl,h1',hcell⟩:=CY hr hbox
        rw[hkb] at hk';simp at hk';subst hk'
        obtain⟨v,G',hv1,hv2⟩:=hl.get hc
        exact y0 hd h2 hv (by rw[hcell];exact hv1) (aK.to_S _ _ _ hno hv2).1
       ·cases hrd
      ·cases hrd
     ·cases hrd
    ·rename_i id sz i off heq
     rw[heq] at hy
     simp only[ae] at hy
     obtain⟨b,len,cap,hkb,hv⟩:=hy
     split at hrd
     ·rename_i e sz' rows hbox
      split at hrd
      ·rename_i r hrow
       split at hrd
       ·rename_i c hc
        split at hrd
        ·rename_i hno
         simp only[Oy,OB] at hrd
         obtain⟨rfl,rfl⟩:=hrd
         subst hp
         obtain⟨hlen,vs,G,hl,_,hcell⟩:=CZ hr hbox hrow hkb
         obtain⟨v,G',hv1,hv2⟩:=hl.get hc
         exact y0 hd h2 hv (hcell off v hv1) (aK.to_S _ _ _ hno hv2).1
        ·cases hrd
       ·cases hrd
      ·cases hrd
     ·cases hrd
    ·cases hrd
   ·cases h2
  ·cases hm
 |ldA n y=>
  simp only[cf] at hm
  split at hm
  ·simp only[Oz,OI] at hm
   obtain⟨⟨⟨h1,h2⟩,h3⟩,h4⟩:=hm
   have hy:=ag hr h1
   split at h2
   ·rename_i d hd
    simp only[rd] at hrd
    split at hrd
    ·rename_i cs heq
     simp only[Oy,OB] at hrd
     obtain⟨rfl,rfl⟩:=hrd
     rw[heq] at hy
     simp only[ae,aQ] at hy
     obtain⟨b,o,hv,hm',hlt,hat⟩:=hy
     obtain⟨vs,hl,hone,hcell⟩:=hat.values
     have hlen:=hl.length
     refine y2 (vs:=vs.take n) hd h2 h3 oT hv (fun j v hj=>hcell j v ?_) ?_
     ·rw[PJ] at hj;split at hj
      ·exact hj
      ·cases hj
     ·simp only[ae,aQ]
      exact⟨_,rfl,fun z hz=>hone z (O0 hz),hl.take n⟩
    ·rename_i id off heq
     rw[heq] at hy
     simp only[ae] at hy
     obtain⟨b,hkb,hv⟩:=hy
     split at hrd
     ·rename_i cs hbox
      split at hrd
      ·rename_i hno
       simp only[Oy,OB] at hrd
       obtain⟨rfl,rfl⟩:=hrd
       obtain⟨b',vs,G,hk',hl,h1',hcell⟩:=CY hr hbox
       rw[hkb] at hk';simp at hk';subst hk'
       have hlen:=hl.length
       refine y2 (vs:=(vs.drop off).take n) hd h2 h3 oT hv (fun j v hj=> ?_) ?_
       ·rw[PJ] at hj;split at hj
        ·rw[PF] at hj;rw[hcell];exact hj
        ·cases hj
       ·simp only[ae]
        obtain⟨G1,_,k1⟩:=hl.drop off
        obtain⟨G2,_,k2⟩:=k1.take n
        exact⟨_,rfl,fun z hz=>h1' z (Pg (O0 hz)),(am.to_S _ _ _ hno k2).1⟩
      ·cases hrd
     ·cases hrd
    ·rename_i id sz i off heq
     rw[heq] at hy
     simp only[ae] at hy
     obtain⟨b,len,cap,hkb,hv⟩:=hy
     split at hrd
     ·rename_i e sz' rows hbox
      split at hrd
      ·rename_i r hrow
       split at hrd
       ·rename_i hno
        simp only[Oy,OB] at hrd
        obtain⟨rfl,rfl⟩:=hrd
        obtain⟨rfl,hle⟩:=hp
        obtain⟨hlen,vs,G,hl,hone,hcell⟩:=CZ hr hbox hrow hkb
        have hlen:=hl.length
        refine y2 (vs:=(vs.drop off).take n) hd h2 h3 oT hv (fun j v hj=> ?_) ?_
        ·rw[PJ] at hj;split at hj
         ·rw[PF] at hj
          have:=hcell _ _ hj
          rwa[<-Qt] at this
         ·cases hj
        ·simp only[ae]
         obtain⟨G1,_,k1⟩:=hl.drop off
         obtain⟨G2,_,k2⟩:=k1.take n
         exact⟨_,rfl,fun z hz=>hone z (Pg (O0 hz)),(am.to_S _ _ _ hno k2).1⟩
       ·cases hrd
      ·cases hrd
     ·cases hrd
    ·cases hrd
   ·cases h2
  ·cases hm
 |fld off y=>
  simp only[cf] at hm
  split at hm
  ·simp only[Oz] at hm
   obtain⟨h1,h2⟩:=hm
   have hy:=ag hr h1
   split at h2
   ·rename_i fs hfs
    split at h2
    ·rename_i f hf
     simp only[Oz,OI,bne_iff_ne] at h2
     obtain⟨⟨rfl,h3⟩,h4⟩:=h2
     simp only[rd] at hrd
     split at hrd
     ·rename_i cs heq
      simp only[Oy,OB] at hrd
      obtain⟨_,rfl⟩:=hrd
      rw[heq] at hy
      simp only[ae,aQ] at hy
      obtain⟨b,o,hv,hm',hlt,hat⟩:=hy
      exact y4 hfs hf h3 h4 hv (by simp only[ae,aQ];exact⟨b,_,rfl,hm',hlt,hat.drop _⟩)
     ·rename_i id o heq
      simp only[Oy,OB] at hrd
      obtain⟨_,rfl⟩:=hrd
      rw[heq] at hy
      simp only[ae] at hy
      obtain⟨b,hkb,hv⟩:=hy
      exact y4 hfs hf h3 h4 hv (by simp only[ae];exact⟨b,hkb,rfl⟩)
     ·rename_i id sz i o heq
      simp only[Oy,OB] at hrd
      obtain⟨_,rfl⟩:=hrd
      rw[heq] at hy
      simp only[ae] at hy
      obtain⟨b,len,cap,hkb,hv⟩:=hy
      exact y4 hfs hf h3 h4 hv (by simp only[ae];exact⟨b,len,cap,hkb,by rw[Qt]⟩)
     ·cases hrd
    ·cases h2
   ·cases h2
  ·cases hm
 |vidxA len wd y j=>
  simp only[cf] at hm
  split at hm
  ·simp only[Oz] at hm
   obtain⟨⟨h1,h2⟩,h3⟩:=hm
   have hy:=ag hr h1
   have hj:=ag hr h2
   split at h3
   ·rename_i len' e he
    simp only[Oz,OI] at h3
    obtain⟨⟨⟨rfl,h4⟩,rfl⟩,h6⟩:=h3
    split at h6
    ·rename_i d hd
     simp only[rd] at hrd
     split at hrd
     ·rename_i cs k n heq heqi
      simp only[Oy,OB] at hrd
      obtain⟨rfl,rfl⟩:=hrd
      rw[heq] at hy;rw[heqi] at hj
      simp only[ae,aQ] at hy hj
      obtain⟨vs,hv,hone,hl⟩:=hy
      exact zO he h4 hd h6 hv hj hp.1 hp.2 (by simp only[ae,aQ];exact⟨_,rfl,fun z hz=>hone z (Pg (O0 hz)),(hl.drop _).take _⟩)
     ·rename_i cs k n heq heqi
      split at hrd
      ·rename_i xs hxs
       simp only[Oy,OB] at hrd
       obtain⟨rfl,rfl⟩:=hrd
       rw[heq] at hy;rw[heqi] at hj
       simp only[ae,aQ] at hy hj
       obtain⟨vs,hv,hone,hl⟩:=hy
       exact zO he h4 hd h6 hv hj hp.1 hp.2 (by simp only[ae,aQ];exact⟨_,rfl,fun z hz=>hone z (Pg (O0 hz)),ai.toDVs _ _ _ ((hl.drop _).take _) hxs⟩)
      ·cases hrd
     ·cases hrd
    ·cases h6
   ·cases h3
  ·cases hm
 |vidx len y j=>
  simp only[cf] at hm
  split at hm
  ·simp only[Oz] at hm
   obtain⟨⟨h1,h2⟩,h3⟩:=hm
   have hy:=ag hr h1
   have hj:=ag hr h2
   split at h3
   ·rename_i len' e he
    simp only[Oz,OI] at h3
    obtain⟨⟨⟨rfl,h4⟩,h5⟩,h6⟩:=h3
    split at h6
    ·rename_i d hd
     simp only[Pz] at h6
     simp only[rd] at hrd
     split at hrd
     ·rename_i cs k n heq heqi
      split at hrd
      ·rename_i c hc
       simp only[Oy,OB] at hrd
       obtain⟨rfl,rfl⟩:=hrd
       rw[heq] at hy;rw[heqi] at hj
       simp only[ae,aQ] at hy hj
       obtain⟨vs,hv,_,hl⟩:=hy
       obtain⟨v,hv1,hv2⟩:=hl.get hc
       exact A5 he h4 h5 hd h6 hv hj hp.1 hp.2 hv1 (by simpa only[ae] using hv2)
      ·cases hrd
     ·rename_i cs k n heq heqi
      split at hrd
      ·rename_i c hc
       simp only[Oy,OB] at hrd
       obtain⟨rfl,rfl⟩:=hrd
       rw[heq] at hy;rw[heqi] at hj
       simp only[ae,aQ] at hy hj
       obtain⟨vs,hv,_,hl⟩:=hy
       obtain⟨v,hv1,hv2⟩:=hl.get hc
       exact A5 he h4 h5 hd h6 hv hj hp.1 hp.2 hv1 hv2
      ·cases hrd
     ·cases hrd
    ·cases h6
   ·cases h3
  ·cases hm
 |prt1 off y=>
  simp only[cf] at hm
  split at hm
  ·simp only[Oz] at hm
   obtain⟨h1,h2⟩:=hm
   have hy:=ag hr h1
   split at h2
   ·rename_i fs hfs
    split at h2
    ·rename_i f hf
     simp only[Oz,OI] at h2
     obtain⟨rfl,h3⟩:=h2
     split at h3
     ·rename_i d hd
      simp only[Pz] at h3
      simp only[rd] at hrd
      split at hrd
      ·rename_i cs heq
       split at hrd
       ·rename_i c hc
        simp only[Oy,OB] at hrd
        obtain⟨_,rfl⟩:=hrd
        rw[heq] at hy
        simp only[ae,aQ] at hy
        obtain⟨vs,hv,_,hl⟩:=hy
        obtain⟨v,hv1,hv2⟩:=hl.get hc
        exact A6 hfs hf hd h3 hv hv1 (by simpa only[ae] using hv2)
       ·cases hrd
      ·rename_i cs heq
       split at hrd
       ·rename_i c hc
        simp only[Oy,OB] at hrd
        obtain⟨_,rfl⟩:=hrd
        rw[heq] at hy
        simp only[ae] at hy
        obtain⟨vs,hv,_,hl⟩:=hy
        obtain⟨v,hv1,hv2⟩:=hl.get hc
        exact A6 hfs hf hd h3 hv hv1 hv2
       ·cases hrd
      ·cases hrd
     ·cases h3
    ·cases h2
   ·cases h2
  ·cases hm
 |prtA off n y=>
  simp only[cf] at hm
  split at hm
  ·simp only[Oz] at hm
   obtain⟨h1,h2⟩:=hm
   have hy:=ag hr h1
   split at h2
   ·rename_i fs hfs
    split at h2
    ·rename_i f hf
     simp only[Oz,OI] at h2
     obtain⟨⟨⟨rfl,h3⟩,h4⟩,rfl⟩:=h2
     split at h3
     ·rename_i d hd
      simp only[rd] at hrd
      split at hrd
      ·rename_i cs heq
       simp only[Oy,OB] at hrd
       obtain⟨_,rfl⟩:=hrd
       rw[heq] at hy
       simp only[ae,aQ] at hy
       obtain⟨vs,hv,hone,hl⟩:=hy
       exact A7 hfs hf hd h3 h4 hv (by simp only[ae,aQ];exact⟨_,rfl,fun z hz=>hone z (Pg (O0 hz)),(hl.drop _).take _⟩)
      ·rename_i cs heq
       simp only[Oy,OB] at hrd
       obtain⟨_,rfl⟩:=hrd
       rw[heq] at hy
       simp only[ae] at hy
       obtain⟨vs,hv,hone,hl⟩:=hy
       exact A7 hfs hf hd h3 h4 hv (by simp only[ae];exact⟨_,rfl,fun z hz=>hone z (Pg (O0 hz)),(hl.drop _).take _⟩)
      ·cases hrd
     ·cases h3
    ·cases h2
   ·cases h2
  ·cases hm
 |idx sz y j=>
  simp only[cf] at hm
  split at hm
  ·simp only[Oz] at hm
   obtain⟨⟨h1,h2⟩,h3⟩:=hm
   have hy:=ag hr h1
   have hj:=ag hr h2
   split at h3
   ·rename_i e he
    simp only[Oz,OI] at h3
    obtain⟨h4,rfl⟩:=h3
    simp only[rd] at hrd
    split at hrd
    ·rename_i k n heqi
     rw[heqi] at hj
     simp only[ae,aQ] at hj
     split at hrd
     ·rename_i rows heq
      rw[heq] at hy
      simp only[ae,aQ] at hy
      obtain⟨ad,cap,hv,hc,hn,hcase⟩:=hy
      split at hrd
      ·rename_i r hrow
       simp only[Oy,OB] at hrd
       obtain⟨rfl,rfl⟩:=hrd
       obtain⟨h0,hlen⟩:=hp
       have hlt:n.toNat<rows.length:=(OG.1 hrow).1
       rcases hcase with hcase|⟨b,o,sz',rfl,hm',hb,hrows⟩
       ·subst hcase;simp at hrow
       ·have hsz:sz'=P.cellsOf e:=by
         rw[aS.iff] at hrows
         rw[<-hlen];exact(hrows.1 r (OE hrow)).symm
        subst hsz
        refine y5 he h4 hv hj h0 oM ?_
        simp only[ae,aQ]
        refine⟨b,_,rfl,hm',hb, ?_⟩
        have:=hrows.drop n.toNat
        rw[PT hlt] at this
        unfold aS at this
        have e:rows[n.toNat]=r:=(OG.1 hrow).2
        rw[e] at this
        exact this.2.1
      ·cases hrd
     ·rename_i sz2 k cs heq
      rw[heq] at hy
      split at hrd
      ·rename_i ds hds
       have hy':=ae.toDV _ _ (.slice (fC sz2 k ds)) hy (by simp only[SV.toDV,hds])
       generalize fC sz2 k ds=rows at hrd hy'
       simp only[aQ] at hy'
       obtain⟨ad,cap,hv,hc,hn,hcase⟩:=hy'
       split at hrd
       ·rename_i r hrow
        simp only[Oy,OB] at hrd
        obtain⟨rfl,rfl⟩:=hrd
        obtain⟨h0,hlen⟩:=hp
        have hlt:n.toNat<rows.length:=(OG.1 hrow).1
        rcases hcase with hcase|⟨b,o,sz',rfl,hm',hb,hrows⟩
        ·subst hcase;simp at hrow
        ·have hsz:sz'=P.cellsOf e:=by
          rw[aS.iff] at hrows
          rw[<-hlen];exact(hrows.1 r (OE hrow)).symm
         subst hsz
         refine y5 he h4 hv hj h0 oM ?_
         simp only[ae,aQ]
         refine⟨b,_,rfl,hm',hb, ?_⟩
         have:=hrows.drop n.toNat
         rw[PT hlt] at this
         unfold aS at this
         have e:rows[n.toNat]=r:=(OG.1 hrow).2
         rw[e] at this
         exact this.2.1
       ·cases hrd
      ·cases hrd
     ·rename_i id heq
      rw[heq] at hy
      simp only[ae] at hy
      split at hrd
      ·rename_i e' sz' rows hbox
       simp only[Oy,OB] at hrd
       obtain⟨rfl,rfl⟩:=hrd
       obtain⟨h0,h5,rfl⟩:=hp
       rcases DQ hr hbox with⟨_,rfl⟩|⟨b,cap,hkb⟩
       ·simp at h5;omega
       ·refine y5 he h4 (hy.trans hkb) hj h0 h5 ?_
        simp only[ae]
        exact⟨b,_,cap,hkb,by simp⟩
      ·cases hrd
     ·cases hrd
    ·cases hrd
   ·cases h3
  ·cases hm
 |sidx y j=>
  simp only[cf] at hm
  split at hm
  ·simp only[Oz] at hm
   obtain⟨⟨h1,h2⟩,h3⟩:=hm
   have hy:=ag hr h1
   have hj:=ag hr h2
   split at h3
   ·rename_i he
    simp only[rd] at hrd
    split at hrd
    ·rename_i l k n heq heqi
     rw[heqi] at hj
     rw[heq] at hy
     simp only[ae,aQ] at hj hy
     split at hrd
     ·rename_i c hc
      simp only[Oy,OB] at hrd
      obtain⟨rfl,rfl⟩:=hrd
      exact FX he hy hj hp hc
     ·cases hrd
    ·cases hrd
   ·cases h3
  ·cases hm
 |bin b y z=>
  simp only[cf] at hm
  split at hm
  ·simp only[Oz,OI] at hm
   obtain⟨⟨rfl,h1⟩,h2⟩:=hm
   have hy:=ag hr h1
   have hz:=ag hr h2
   simp only[rd] at hrd
   split at hrd
   ·rename_i heq heq'
    rw[heq] at hy;rw[heq'] at hz
    split at hrd
    ·rename_i hb
     simp only[Oy,OB] at hrd
     obtain⟨rfl,rfl⟩:=hrd
     exact sC (by trivial) hy.d hz.d hb hp
    ·cases hrd
   ·rename_i heq heq'
    rw[heq] at hy;rw[heq'] at hz
    split at hrd
    ·rename_i hb
     simp only[Oy,OB] at hrd
     obtain⟨rfl,rfl⟩:=hrd
     exact sC (by trivial) hy.d hz.d hb hp
    ·cases hrd
   ·cases hrd
  ·cases hm
 |binB b y z=>
  simp only[cf] at hm
  split at hm
  ·simp only[Oz,OI] at hm
   obtain⟨⟨⟨rfl,h1⟩,h2⟩,h3⟩:=hm
   have hy:=ag hr h1
   have hz:=ag hr h2
   have ht:=EM h3
   simp only[rd] at hrd
   split at hrd
   ·rename_i heq heq'
    rw[heq] at hy;rw[heq'] at hz
    split at hrd
    ·rename_i hb
     simp only[Oy,OB] at hrd
     obtain⟨rfl,rfl⟩:=hrd
     (refine sC ?_ hy.d hz.d hb hp;exact ht)
    ·cases hrd
   ·cases hrd
  ·cases hm
 |binI b y z=>
  simp only[cf] at hm
  split at hm
  ·simp only[Oz,OI,O3] at hm
   obtain⟨⟨⟨⟨rfl,h1⟩,h2⟩,h3⟩,h4⟩:=hm
   have hy:=ag hr h1
   have hz:=ag hr h2
   have ht:=DR h3
   simp only[rd] at hrd
   split at hrd
   ·rename_i heq heq'
    rw[heq] at hy;rw[heq'] at hz
    split at hrd
    ·rename_i hb
     simp only[Oy,OB] at hrd
     obtain⟨rfl,rfl⟩:=hrd
     (refine sC ?_ hy.d hz.d hb hp;exact⟨h4,ht⟩)
    ·cases hrd
   ·rename_i heq heq'
    rw[heq] at hy;rw[heq'] at hz
    split at hrd
    ·rename_i hb
     simp only[Oy,OB] at hrd
     obtain⟨rfl,rfl⟩:=hrd
     (refine sC ?_ hy.d hz.d hb hp;exact⟨h4,ht⟩)
    ·cases hrd
   ·cases hrd
  ·cases hm
 |gd _ _ _=>simp[cf] at hm
 |binP b y z=>
  simp only[cf] at hm
  split at hm
  ·simp only[Oz,OI] at hm
   obtain⟨⟨⟨rfl,h1⟩,h2⟩,h3⟩:=hm
   have hy:=ag hr h1
   have hz:=ag hr h2
   obtain⟨e,he⟩:=Gb h3
   simp only[rd] at hrd
   split at hrd
   ·rename_i heq
    rw[heq] at hz
    simp only[ae,aQ] at hz
    split at hrd
    ·split at hrd
     ·rename_i heq2
      rw[heq2] at hy
      simp only[ae] at hy
      obtain⟨bb,_,hv⟩:=hy
      simp only[Oy,OB] at hrd
      obtain⟨_,rfl⟩:=hrd
      exact aB (v:= .bool false) (by simp[execOp,hv,hz,eqGuard,binOp,wZ _ he]) (by simp[ae,aQ])
     ·rename_i heq2
      rw[heq2] at hy
      simp only[ae] at hy
      obtain⟨bb,_,_,_,hv⟩:=hy
      simp only[Oy,OB] at hrd
      obtain⟨_,rfl⟩:=hrd
      exact aB (v:= .bool false) (by simp[execOp,hv,hz,eqGuard,binOp,wZ _ he]) (by simp[ae,aQ])
     ·rename_i heq2
      rw[heq2] at hy
      simp only[ae,aQ] at hy
      simp only[Oy,OB] at hrd
      obtain⟨_,rfl⟩:=hrd
      exact aB (v:= .bool true) (by simp[execOp,hy,hz,eqGuard,binOp,wZ _ he]) (by simp[ae,aQ])
     ·cases hrd
    ·cases hrd
   ·cases hrd
  ·cases hm
 |not y=>
  simp only[cf] at hm
  split at hm
  ·have hy:=ag hr hm
   simp only[rd] at hrd
   split at hrd
   ·rename_i heq
    rw[heq] at hy
    simp only[ae,aQ] at hy
    simp only[Oy,OB] at hrd
    obtain⟨_,rfl⟩:=hrd
    exact HK hy
   ·cases hrd
  ·cases hm
 |neg y=>
  simp only[cf] at hm
  split at hm
  ·have hy:=ag hr hm
   simp only[rd] at hrd
   split at hrd
   ·rename_i heq
    rw[heq] at hy
    simp only[ae,aQ] at hy
    simp only[Oy,OB] at hrd
    obtain⟨_,rfl⟩:=hrd
    exact HL hy
   ·cases hrd
  ·cases hm
 |cvi k y=>
  simp only[cf] at hm
  split at hm
  ·simp only[Oz] at hm
   obtain⟨⟨h1,h2⟩,h3⟩:=hm
   have hy:=ag hr h1
   split at h3
   ·rename_i ht
    simp only[OI] at h3
    subst h3
    simp only[rd] at hrd
    split at hrd
    ·rename_i heq
     rw[heq] at hy
     simp only[ae,aQ] at hy
     simp only[Oy,OB] at hrd
     obtain⟨_,rfl⟩:=hrd
     exact HM h2 ht hy
    ·cases hrd
   ·cases h3
  ·cases hm
 |ext y i=>
  simp only[cf] at hm
  split at hm
  ·simp only[Oz,OI] at hm
   obtain⟨h1,rfl⟩:=hm
   have hy:=ag hr h1
   simp only[rd] at hrd
   split at hrd
   ·rename_i cs heq
    rw[heq] at hy
    simp only[ae,aQ] at hy
    obtain⟨vs,hv,hl⟩:=hy
    split at hrd
    ·rename_i c hc
     simp only[Oy,OB] at hrd
     obtain⟨_,rfl⟩:=hrd
     obtain⟨v,hv1,hv2⟩:=hl.get hc
     exact CR hv hv1 (by simpa only[ae] using hv2)
    ·cases hrd
   ·rename_i cs heq
    rw[heq] at hy
    simp only[ae] at hy
    obtain⟨vs,hv,hl⟩:=hy
    split at hrd
    ·rename_i c hc
     simp only[Oy,OB] at hrd
     obtain⟨_,rfl⟩:=hrd
     obtain⟨v,hv1,hv2⟩:=hl.get hc
     exact CR hv hv1 hv2
    ·cases hrd
   ·cases hrd
  ·cases hm
 |len y=>
  simp only[cf] at hm
  split at hm
  ·split at hm
   ·rename_i x' t' hx' ht'
    simp only[Oz] at hm
    obtain⟨h1,h2⟩:=hm
    have hy:=ag hr h1
    split at h2
    ·rename_i e he
     simp only[rd] at hrd
     split at hrd
     ·rename_i rows heq
      rw[heq] at hy
      simp only[ae,aQ] at hy
      obtain⟨ad,cap,hv,_⟩:=hy
      simp only[Oy,OB] at hrd
      obtain⟨_,rfl⟩:=hrd
      exact jx hx' ht' he hv
     ·rename_i heq
      rw[heq] at hy
      simp only[ae] at hy
      simp only[Oy,OB] at hrd
      obtain⟨_,rfl⟩:=hrd
      exact jx hx' ht' he hy
     ·rename_i n' heq
      rw[heq] at hy
      simp only[ae] at hy
      obtain⟨b,vs,hv,_⟩:=hy
      simp only[Oy,OB] at hrd
      obtain⟨_,rfl⟩:=hrd
      exact jx hx' ht' he hv
     ·rename_i id heq
      rw[heq] at hy
      simp only[ae] at hy
      split at hrd
      ·rename_i e' sz' rows hbox
       simp only[Oy,OB] at hrd
       obtain⟨_,rfl⟩:=hrd
       rcases DQ hr hbox with⟨hk0,rfl⟩|⟨b,cap,hkb⟩
       ·exact jx hx' ht' he (hy.trans hk0)
       ·exact jx hx' ht' he (hy.trans hkb)
      ·cases hrd
     ·cases hrd
    ·cases h2
   ·cases hm
  ·cases hm
 |lenT y=>
  simp only[cf] at hm
  split at hm
  ·split at hm
   ·rename_i x' t' hx' ht'
    simp only[Oz] at hm
    obtain⟨h1,h2⟩:=hm
    have hy:=ag hr h1
    split at h2
    ·rename_i he
     simp only[rd] at hrd
     split at hrd
     ·rename_i l heq
      rw[heq] at hy
      simp only[ae,aQ] at hy
      simp only[Oy,OB] at hrd
      obtain⟨_,rfl⟩:=hrd
      exact Ct hx' ht' he hy
     ·cases hrd
    ·cases h2
   ·cases hm
  ·cases hm
 |lenM y=>
  simp only[cf] at hm
  split at hm
  ·split at hm
   ·rename_i x' t' hx' ht'
    simp only[Oz] at hm
    obtain⟨h1,h2⟩:=hm
    have hy:=ag hr h1
    split at h2
    ·rename_i he
     simp only[rd] at hrd
     split at hrd
     ·rename_i id heq
      rw[heq] at hy
      simp only[ae] at hy
      split at hrd
      ·rename_i kv hbox
       simp only[Oy,OB] at hrd
       obtain⟨_,rfl⟩:=hrd
       have hch:=hr.chunks id
       rw[hbox] at hch
       obtain⟨r,es,clock,G,hk,hh,_,hmap,_⟩:=hch
       rw[<-hmap.length]
       exact Cu hx' ht' he (hy.trans hk) hh
      ·cases hrd
     ·cases hrd
    ·cases h2
   ·cases hm
  ·cases hm
 |mins y ys=>
  simp only[cf] at hm
  split at hm
  ·rename_i args ts
   have hxs:=jd hr hm
   simp only[rd] at hrd
   split at hrd
   ·rename_i m l heq heqs
    cases hargs:args.toList with
    |nil=>rw[hargs] at hm;simp[kT] at hm
    |cons x' xs'=>
     rw[hargs] at hxs
     simp only[OQ,ai,O7] at hxs
     obtain⟨u,us,⟨rfl,rfl⟩,hx1,hx2⟩:=hxs
     rw[heq] at hx1
     simp only[ae,aQ] at hx1
     split at hrd
     ·rename_i r hmin
      simp only[Oy,OB] at hrd
      obtain⟨_,rfl⟩:=hrd
      exact F0 hargs hx1 (ai.toDVs _ _ _ hx2 heqs) hmin
     ·cases hrd
   ·cases hrd
  ·cases hm
 |maxs y ys=>
  simp only[cf] at hm
  split at hm
  ·rename_i args ts
   have hxs:=jd hr hm
   simp only[rd] at hrd
   split at hrd
   ·rename_i m l heq heqs
    cases hargs:args.toList with
    |nil=>rw[hargs] at hm;simp[kT] at hm
    |cons x' xs'=>
     rw[hargs] at hxs
     simp only[OQ,ai,O7] at hxs
     obtain⟨u,us,⟨rfl,rfl⟩,hx1,hx2⟩:=hxs
     rw[heq] at hx1
     simp only[ae,aQ] at hx1
     split at hrd
     ·rename_i r hmin
      simp only[Oy,OB] at hrd
      obtain⟨_,rfl⟩:=hrd
      exact F4 hargs hx1 (ai.toDVs _ _ _ hx2 heqs) hmin
     ·cases hrd
   ·cases hrd
  ·cases hm
 |mkfn f ys=>
  simp only[cf] at hm
  split at hm
  ·simp only[Oz,OI] at hm
   obtain⟨⟨rfl,h2⟩,h3⟩:=hm
   have hxs:=jd hr h3
   simp only[rd] at hrd
   split at hrd
   ·rename_i l heqs
    simp only[Oy,OB] at hrd
    obtain⟨_,rfl⟩:=hrd
    exact F5 h2 (ai.toDVs _ _ _ hxs heqs)
   ·split at hrd
    ·rename_i ids heqs
     simp only[Oy,OB] at hrd
     obtain⟨_,rfl⟩:=hrd
     obtain⟨k1,k2⟩:=Be hxs heqs
     exact EH h2 k1 k2
    ·cases hrd
  ·cases hm
 |build zs ps=>
  simp only[cf] at hm
  split at hm
  ·split at hm
   ·rename_i fs i hu hi
    simp only[Oz] at hm
    obtain⟨⟨h1,h2⟩,h3⟩:=hm
    split at h1
    ·rename_i z hz
     simp only[rd] at hrd
     split at hrd
     ·rename_i cs hfill
      simp only[Oy,OB] at hrd
      obtain⟨_,rfl⟩:=hrd
      exact EK hr.kok hu hi hz h1 h2 (zU hr h3) hfill
     ·cases hrd
    ·cases h1
   ·rename_i len e i hu hi
    split at hm
    ·rename_i ie hie
     simp only[Oz] at hm
     obtain⟨h1,h3⟩:=hm
     split at h1
     ·rename_i z hz
      simp only[rd] at hrd
      split at hrd
      ·rename_i cs hfill
       simp only[Oy,OB] at hrd
       obtain⟨_,rfl⟩:=hrd
       exact DO hr.kok hu hi hie hz h1 (x5 hr h3) hfill
      ·cases hrd
     ·cases h1
    ·cases hm
   ·cases hm
  ·cases hm
 |bslice sz xs=>
  simp only[cf] at hm
  split at hm
  ·simp only[Oz,OI] at hm
   obtain⟨⟨h1,h2⟩,h3⟩:=hm
   obtain⟨hrep,hidx⟩:=xc hr h2
   split at h3
   ·rename_i e he
    split at h3
    ·rename_i i hi
     simp only[Oz,OI,OC] at h3
     obtain⟨⟨⟨h4,h5⟩,h6⟩,h7⟩:=h3
     split at h7
     ·rename_i z hz
      simp only[OI] at h7
      simp only[rd] at hrd
      split at hrd
      ·rename_i rows hrows
       simp only[Oy,OB] at hrd
       obtain⟨_,rfl⟩:=hrd
       have:=DP (dst:=dst) (ty:=ty) (pos:=pos) (aft:=aft) (gd:=gd) hr.kok (fun b hb=>hr.own_lt hb) he hi h4 h5 h6 hz h7 h1 hrep (fun j q hj=>by simpa using hidx j q hj) hrows
       simpa using this
      ·cases hrd
     ·cases h7
    ·cases h3
   ·cases h3
  ·cases hm
 |slc sz y l h=>
  simp only[cf] at hm
  split at hm
  ·rename_i t x' lo hi
   simp only[Oz] at hm
   obtain⟨⟨⟨h1,h2⟩,h3⟩,h4⟩:=hm
   have hy:=ag hr h1
   split at h4
   ·rename_i e he
    simp only[Oz,OI,OC] at h4
    obtain⟨⟨h5,rfl⟩,h7⟩:=h4
    have hox:∀ (lo:Option Operand) (l:Option SX),kU c.N lo l=true->∀ x y,lo=some x->l=some y->ae w (own c φ) κ (ev σ.s y) (a.eval x):=fun lo l hml x y e1 e2=>by
     subst e1 e2;simp only[kU] at hml;exact ag hr hml
    simp only[rd] at hrd
    split at hrd
    ·rename_i rows l' h' heq hl hh
     simp only[Oy,OB] at hrd
     obtain⟨rfl,rfl⟩:=hrd
     rw[heq] at hy
     exact CX he h5 rfl h7 hy.d (qi (hox lo l h2) h2 hl) (qi (hox hi h h3) h3 hh) hp.1 hp.2.1 hp.2.2.1 hp.2.2.2
    ·rename_i sz2 k cs l' h' heq hl hh
     split at hrd
     ·rename_i ds hds
      simp only[Oy,OB] at hrd
      obtain⟨rfl,rfl⟩:=hrd
      rw[heq] at hy
      obtain⟨rfl,hp⟩:=hp
      have hy':=ae.toDV _ _ (.slice (fC (P.cellsOf e) k ds)) hy (by simp only[SV.toDV,hds])
      have hlen:=il (P.cellsOf e) k ds
      have hall:∀ r∈fC (P.cellsOf e) k ds,r.length=P.cellsOf e:=by
       simp only[ae] at hy
       obtain⟨b,vs,_,_,_,hvl,_,_,hsl⟩:=hy
       exact tc _ k ds (by rw[<-(ai.toDVs _ _ _ hsl hds).length,hvl])
      have:=CX (dst:=dst) (ty:=ty) (pos:=pos) (aft:=aft) (gd:=gd) (κ:=κ) he h5 rfl h7 hy' (qi (hox lo l h2) h2 hl) (qi (hox hi h h3) h3 hh) hall hp.1 (by rw[hlen];exact hp.2.1) (by rw[hlen];exact hp.2.2)
      rw[hlen] at this
      exact this
     ·cases hrd
    ·rename_i l' h' heq hl hh
     simp only[Oy,OB] at hrd
     obtain⟨rfl,rfl⟩:=hrd
     rw[heq] at hy
     simp only[ae] at hy
     exact Cw he h5 hy (qi (hox lo l h2) h2 hl) (qi (hox hi h h3) h3 hh) hp.1 hp.2
    ·cases hrd
   ·cases h4
  ·cases hm
 |sslc y l h=>
  simp only[cf] at hm
  split at hm
  ·rename_i t x' lo hi
   simp only[Oz] at hm
   obtain⟨⟨⟨h1,h2⟩,h3⟩,h4⟩:=hm
   have hy:=ag hr h1
   split at h4
   ·rename_i he
    have hox:∀ (lo:Option Operand) (l:Option SX),kU c.N lo l=true->∀ x y,lo=some x->l=some y->ae w (own c φ) κ (ev σ.s y) (a.eval x):=fun lo l hml x y e1 e2=>by
     subst e1 e2;simp only[kU] at hml;exact ag hr hml
    simp only[rd] at hrd
    split at hrd
    ·rename_i b l' h' heq hl hh
     simp only[Oy,OB] at hrd
     obtain⟨rfl,rfl⟩:=hrd
     rw[heq] at hy
     simp only[ae,aQ] at hy
     exact F_ he hy (qi (hox lo l h2) h2 hl) (qi (hox hi h h3) h3 hh) hp.1 hp.2.1 hp.2.2
    ·cases hrd
   ·cases h4
  ·cases hm
 |nilc y=>
  simp only[cf] at hm
  split at hm
  ·have hy:=ag hr hm
   simp only[rd] at hrd
   split at hrd
   ·rename_i heq
    rw[heq] at hy
    simp only[Oy,OB] at hrd
    obtain⟨_,rfl⟩:=hrd
    have hy':=hy
    simp only[ae] at hy'
    obtain⟨b,_,hv⟩:=hy'
    exact aB (by simp[execOp,hv]) (hv▸hy)
   ·rename_i heq
    rw[heq] at hy
    simp only[Oy,OB] at hrd
    obtain⟨_,rfl⟩:=hrd
    have hy':=hy
    simp only[ae] at hy'
    obtain⟨b,_,_,_,hv⟩:=hy'
    exact aB (by simp[execOp,hv]) (hv▸hy)
   ·rename_i heq
    rw[heq] at hy
    simp only[Oy,OB] at hrd
    obtain⟨_,rfl⟩:=hrd
    have hy':=hy
    simp only[ae,aQ] at hy'
    obtain⟨b,o,hv,_⟩:=hy'
    exact aB (by simp[execOp,hv]) (hv▸hy)
   ·cases hrd
  ·cases hm
 |aidx sz n y j=>
  simp only[cf] at hm
  split at hm
  ·simp only[Oz] at hm
   obtain⟨⟨h1,h2⟩,h3⟩:=hm
   have hy:=ag hr h1
   have hj:=ag hr h2
   split at h3
   ·rename_i len e he
    simp only[Oz,OI] at h3
    obtain⟨⟨rfl,h4⟩,rfl⟩:=h3
    simp only[rd] at hrd
    split at hrd
    ·rename_i id off k i heq heqi
     rw[heq] at hy;rw[heqi] at hj
     simp only[ae,aQ] at hy hj
     obtain⟨b,hkb,hv⟩:=hy
     simp only[Oy,OB] at hrd
     obtain⟨rfl,rfl⟩:=hrd
     refine aB (v:= .pointer (some ⟨b,off+i.toNat * P.cellsOf e,none⟩)) ?_ (by simp only[ae];exact⟨b,hkb,rfl⟩)
     simp[execOp,Instr.indexAt,hj,hv,asIntOf,run_underlying he,Instr.sureAddr,hp,dH h4,gm]
    ·cases hrd
   ·cases h3
  ·cases hm
 |slcP n y l=>
  simp only[cf] at hm
  split at hm
  ·simp only[Oz] at hm
   obtain⟨⟨h1,h2⟩,h3⟩:=hm
   have hy:=ag hr h1
   have hj:=ag hr h2
   split at h3
   ·rename_i len e he
    simp only[Oz,OI] at h3
    obtain⟨⟨rfl,h4⟩,h5⟩:=h3
    simp only[rd] at hrd
    split at hrd
    ·rename_i cs k i heq heqi
     rw[heq] at hy;rw[heqi] at hj
     simp only[ae] at hy hj
     unfold aQ at hj
     simp only[Oy,OB] at hrd
     obtain⟨rfl,rfl⟩:=hrd
     exact F8 he h4 h5 hy hj hp.1 hp.2.1 hp.2.2
    ·cases hrd
   ·cases h3
  ·cases hm
 |slc3 sz y l h m=>
  simp only[cf] at hm
  split at hm
  ·rename_i t x' lo hi mx
   simp only[Oz] at hm
   obtain⟨⟨⟨⟨h1,h2⟩,h3⟩,h4⟩,h5⟩:=hm
   have hy:=ag hr h1
   have hh:=ag hr h3
   have hmm:=ag hr h4
   split at h5
   ·rename_i e he
    simp only[Oz,OI,OC] at h5
    obtain⟨⟨h6,rfl⟩,h7⟩:=h5
    have hox:∀ x y,lo=some x->l=some y->ae w (own c φ) κ (ev σ.s y) (a.eval x):=fun x y e1 e2=>by
     subst e1 e2;simp only[kU] at h2;exact ag hr h2
    simp only[rd] at hrd
    split at hrd
    ·rename_i rows l' k h' k' m' heq hl heqh heqm
     rw[heq] at hy;rw[heqh] at hh;rw[heqm] at hmm
     simp only[ae,aQ] at hh hmm
     simp only[Oy,OB] at hrd
     obtain⟨rfl,rfl⟩:=hrd
     exact F9 he h6 rfl hy.d (qi hox h2 hl) hh hmm hp.1 hp.2.1 hp.2.2.1 hp.2.2.2.1 hp.2.2.2.2
    ·cases hrd
   ·cases h5
  ·cases hm
 |cvis y=>
  simp only[cf] at hm
  split at hm
  ·simp only[Oz] at hm
   obtain⟨⟨h1,h2⟩,h3⟩:=hm
   have hy:=ag hr h1
   split at h2
   ·rename_i k hs
    split at h3
    ·rename_i ht
     simp only[rd] at hrd
     split at hrd
     ·rename_i heq
      rw[heq] at hy
      simp only[ae,aQ] at hy
      simp only[Oy,OB] at hrd
      obtain⟨_,rfl⟩:=hrd
      exact FY hs ht hy
     ·cases hrd
    ·cases h3
   ·cases h2
  ·cases hm
 |cl t ts=>simp[cf] at hm
 |cvsb y=>
  simp only[cf] at hm
  split at hm
  ·simp only[Oz] at hm
   obtain⟨⟨h1,h2⟩,h3⟩:=hm
   have hy:=ag hr h1
   split at h2
   ·rename_i e ht
    split at h2
    ·rename_i he
     split at h3
     ·rename_i hs
      simp only[rd] at hrd
      split at hrd
      ·rename_i heq
       rw[heq] at hy
       simp only[ae,aQ] at hy
       simp only[Oy,OB] at hrd
       obtain⟨_,rfl⟩:=hrd
       exact FZ (fun b hb=>hr.own_lt hb) hs ht he hy
      ·cases hrd
     ·cases h3
    ·cases h2
   ·cases h2
  ·cases hm
 |cvbs y=>
  simp only[cf] at hm
  split at hm
  ·simp only[Oz] at hm
   obtain⟨⟨h1,h2⟩,h3⟩:=hm
   have hy:=ag hr h1
   split at h2
   ·rename_i e hs
    split at h2
    ·rename_i he
     split at h3
     ·rename_i ht
      simp only[rd] at hrd
      split at hrd
      ·rename_i rows heq
       rw[heq] at hy
       split at hrd
       ·rename_i l hl
        simp only[Oy,OB] at hrd
        obtain⟨_,rfl⟩:=hrd
        simp only[ae,aQ] at hy
        obtain⟨ad,cap,hv,_,_,hc⟩:=hy
        refine qv hs he ht ⟨ad,cap,by rw[hv,Bc hl], ?_⟩
        rcases hc with rfl|⟨b,o,sz,rfl,_,_,hrows⟩
        ·simp only[th,Oy] at hl;exact .inl hl.symm
        ·exact .inr ⟨b,o,rfl,(zV hl hrows).2⟩
       ·cases hrd
      ·rename_i heq
       rw[heq] at hy
       simp only[ae] at hy
       simp only[Oy,OB] at hrd
       obtain⟨_,rfl⟩:=hrd
       exact qv hs he ht ⟨none,0,hy,.inl rfl⟩
      ·rename_i sz n cs heq
       rw[heq] at hy
       split at hrd
       ·rename_i l hl
        simp only[Oy,OB] at hrd
        obtain⟨rfl,rfl⟩:=hrd
        simp only[ae] at hy
        obtain⟨b,vs,hv,_,_,hlen,_,hcell,hrep⟩:=hy
        obtain⟨k1,k2,k3⟩:=xb hl hrep
        have hp1:sz=1:=hp
        subst hp1
        refine qv hs he ht ⟨some ⟨b,0,none⟩,n,by rw[hv,<-k2,hlen,Nat.mul_one],.inr ⟨b,0,rfl,fun j c hj=> ?_⟩⟩
        rw[Ps];exact hcell j _ (k3 j c hj)
       ·cases hrd
      ·rename_i id heq
       rw[heq] at hy
       simp only[ae] at hy
       split at hrd
       ·rename_i e' sz rows hbox
        split at hrd
        ·rename_i l hl
         simp only[Oy,OB] at hrd
         obtain⟨rfl,rfl⟩:=hrd
         have hp1:sz=1:=hp
         subst hp1
         have hch:=hr.chunks id
         rw[hbox] at hch
         obtain⟨xs,G,g1,g2,g3,g4,_⟩:=hch
         have hflat:rows.flatten.length=rows.length:=by
          have:=mN g3;simpa using this
         have hrep:=xb hl (am.to_S _ _ _ (x6 hl) g4).1
         obtain⟨k1,k2,k3⟩:=hrep
         rcases DQ hr hbox with⟨hk0,rfl⟩|⟨b,cap,hkb⟩
         ·simp only[List.flatten_nil,tg,Oy] at hl
          subst hl
          exact qv hs he ht ⟨none,0,hy.trans hk0,.inl rfl⟩
         ·refine qv hs he ht ⟨some ⟨b,0,none⟩,cap,by rw[hy,hkb,<-hflat,k1],.inr ⟨b,0,rfl,fun j c hj=> ?_⟩⟩
          have hcell:=g1.cells (g:=b) (by rw[hkb];rfl) j _ (k3 j c hj)
          rw[gm] at hcell
          exact hcell
        ·cases hrd
       ·cases hrd
      ·cases hrd
     ·cases h3
    ·cases h2
   ·cases h2
  ·cases hm
 |look kk z ok m k=>
  simp only[cf] at hm
  split at hm
  ·simp only[Oz,OI] at hm
   obtain⟨⟨⟨h1,h2⟩,rfl⟩,h3⟩:=hm
   have hx:=ag hr h1
   have hi:=ag hr h2
   split at h3
   ·rename_i kt e ht
    simp only[Oz,OI] at h3
    simp only[rd] at hrd
    split at hrd
    ·rename_i id d heq heqi
     rw[heq] at hx
     rw[heqi] at hi
     simp only[ae] at hx
     split at hrd
     ·rename_i kk' kv hbox
      simp only[Oy,OB] at hrd
      obtain⟨rfl,rfl⟩:=hrd
      obtain⟨rfl,hf,hno⟩:=hp
      have hch:=hr.chunks id
      rw[hbox] at hch
      obtain⟨r,es,clock,G,hk,hh,_,hmap,_⟩:=hch
      exact A_ ht h3.1 h3.2 (hx.trans hk) hh hmap hf hno hi.d
     ·cases hrd
    ·rename_i ks vs d heq heqi
     rw[heq] at hx
     rw[heqi] at hi
     simp only[Oy,OB] at hrd
     obtain⟨rfl,rfl⟩:=hrd
     obtain⟨⟨hks,hf⟩,hno⟩:=hp
     have hx:=hx.d
     unfold aQ at hx
     obtain⟨r,hv,hc⟩:=hx
     rcases hc with⟨rfl,rfl,rfl⟩|⟨b,es,clock,rfl,_,_,hh,_,hents⟩
     ·exact EJ ht h3.1 h3.2 hv hf hi.d
     ·exact A_ ht h3.1 h3.2 hv hh (CU hks hents) hf hno hi.d
    ·cases hrd
   ·cases h3
  ·cases hm
 |eqs b kks y z=>
  simp only[cf] at hm
  split at hm
  ·simp only[Oz,OI,Pz] at hm
   obtain⟨⟨⟨⟨⟨rfl,h1⟩,h2⟩,h3⟩,h4⟩,h5⟩:=hm
   split at h3
   ·rename_i fs ht
    simp only[rd] at hrd
    split at hrd
    ·rename_i cs ds hy hz
     have hx:=ae.toDV _ _ _ (ag hr h1) hy
     have hx':=ae.toDV _ _ _ (ag hr h2) hz
     split at hrd
     ·rename_i q hq
      split at hrd
      ·simp only[Oy,OB] at hrd
       obtain⟨_,rfl⟩:=hrd
       exact CW ht h4 h5 h3 hx hx' hq (.inl rfl)
      ·simp only[Oy,OB] at hrd
       obtain⟨_,rfl⟩:=hrd
       exact CW ht h4 h5 h3 hx hx' hq (.inr rfl)
      ·cases hrd
     ·cases hrd
    ·cases hrd
   ·cases h3
  ·cases hm
end
