/-
  My text.
-/
import Derived.Test.YtgmnipfafmphaaaGreatDoorSXEngF
namespace Go.Proofs.YtgmnipfafmphaaaGreatDoor
set_option linter.unusedVariables false
open Go.RowKit
variable {M:Nat->Prop} {e i id:Nat} {r:List SV} {rows:List (List SV)} {sz:Nat} {t:TypeId}
section
variable {P:Program} {c:Cx} {σ:St} {κ:Nat->Value} {φ:Nat->List Nat} {a:Act} {w:World}
theorem al.d {x:DV} {v:Value} (h:al w M κ (.d x) v):bf w M x v:=by simpa only[al] using h
theorem Fg (D:dp c σ κ φ a w) {cs:List SV} (hb:σ.h id= .box cs):∃ b vs G,κ id= .pointer (some ⟨b,0,none⟩)/\az w (own c φ) κ cs vs G/\(∀ x∈vs,x.oneCell'=true)/\∀ j:Nat,w.cell? ⟨b,j,none⟩=vs[j]?:=by
 have h:=D.chunks id
 rw[hb] at h
 obtain⟨b,T,vs,G,h1,E,h4,h5,_⟩:=h
 exact⟨b,vs,G,h1,h5,h4,fun j=>by rw[cell_of_row w b j _ T _ E];simp⟩
theorem lZ {α:Type} {sz:Nat}:∀ {rows:List (List α)},(∀ r∈rows,r.length=sz)->rows.flatten.length=rows.length * sz
 |[],_=>by simp
 |r::rows,h=>by
  have:=lZ (rows:=rows) (fun r D=>h r (by simp[D]))
  simp only[V4,Vl,Vk,this,h r oS,WA];omega
theorem Jo {α:Type} {rows:List (List α)} {r:List α} (hi:rows[i]?=some r):rows.flatten=(rows.take i).flatten++(r++(rows.drop (i+1)).flatten):=by
 have h9:=(Vr.1 hi).1
 conv=>lhs;rw[<-VH i rows,WC h9,(Vr.1 hi).2]
 simp
theorem Lt {xs:List Value} {G:List Nat} (W:∀ r∈rows,r.length=sz) (h:az w M κ rows.flatten xs G) (hi:rows[i]?=some r):
  ∃ G1 G2 d,G=G1++(G2++d)/\az w M κ (rows.take i).flatten (xs.take (i * sz)) G1/\az w M κ r ((xs.drop (i * sz)).take sz) G2/\az w M κ (rows.drop (i+1)).flatten (xs.drop (i * sz+sz)) d:=by
 have h9:=(Vr.1 hi).1
 have Z:=W r (Vq hi)
 rw[Jo hi] at h
 obtain⟨G1,G',rfl,h1,h2⟩:=h.split
 obtain⟨G2,d,rfl,E,h4⟩:=h2.split
 have hl:(rows.take i).flatten.length=i * sz:=by
  rw[lZ (sz:=sz) (fun r D=>W r (VU D)),VA,show min i rows.length=i by omega]
 rw[hl] at h1 E h4
 rw[Z] at E h4
 rw[Wr] at h4
 exact⟨G1,G2,d,rfl,h1,E,h4⟩
theorem Fh (D:dp c σ κ φ a w) (hb:σ.h id= .vec e sz rows) (hi:rows[i]?=some r) {b len N:Nat} (hk:κ id= .slice (some ⟨b,0,none⟩) len N):
  r.length=sz/\∃ vs G,az w (own c φ) κ r vs G/\(∀ x∈vs,x.oneCell'=true)/\∀ j v,vs[j]?=some v->w.cell? ⟨b,i * sz+j,none⟩=some v:=by
 have h:=D.chunks id
 rw[hb] at h
 obtain⟨xs,G,h1,h2,E,h4,_⟩:=h
 have Z:=E r (Vq hi)
 obtain⟨G1,G2,d,_,_,h5,_⟩:=Lt E h4 hi
 refine⟨Z,_,G2,h5,fun x hx=>h2 x (WD (VU hx)),fun j v hj=> ?_⟩
 rw[WE] at hj
 split at hj
 ·rw[Wp] at hj
  have r0:=h1.cells (g:=b) (by rw[hk];rfl) (i * sz+j) v hj
  rw[iC] at r0
  simpa using r0
 ·cases hj
theorem Gn (D:dp c σ κ φ a w) (hb:σ.h id= .vec e sz rows):(κ id= .slice none 0 0/\rows=[])\/∃ b N,κ id= .slice (some ⟨b,0,none⟩) rows.length N:=by
 have h:=D.chunks id
 rw[hb] at h
 obtain⟨xs,G,h1,_⟩:=h
 rcases h1.2 with⟨hv,hn⟩|⟨g,N,I,hv,_⟩
 ·exact .inl ⟨hv,Vx.1 hn⟩
 ·exact .inr ⟨g,N,hv⟩
theorem bQ.length {M:Nat->Prop} {kk:KK}:∀ {kv:List (DV×SV)} {es:List MapEntry} {F:List Nat},bQ w M κ kk kv es F->es.length=kv.length
 |[],es,F,h=>by unfold bQ at h;simp[h]
 |(k,c)::kv,es,F,h=>by
  unfold bQ at h
  obtain⟨e,z,_,_,rfl,_,_,_,_,h5⟩:=h
  simp[bQ.length h5]
theorem Bb (D:dp c σ κ φ a w) {O:Array Field}:∀ {ps:List (Nat×Operand)} {qs:List (Nat×Nat×SX)},pE P c.N O ps qs=true->
  y8 (fun(p:Nat×Nat×SV) (q:Nat×Operand)=>(∃ f,O[q.1]?=some f/\f.offset=p.1/\P.cellsOf f.type=p.2.1)/\al w (own c φ) κ p.2.2 (a.eval q.2)) (qs.map fun p=>(p.1,p.2.1,ev σ.s p.2.2)) ps
 |[],[],_=> .nil
 |(i,x)::ps,(off,n,y)::qs,h=>by
  simp only[pE,Vj] at h
  obtain⟨⟨h1,h2⟩,E⟩:=h
  refine .cons ⟨?_,aq D h2⟩ (Bb D E)
  split at h1
  ·rename_i f C
   simp at h1
   exact⟨f,C,h1.1.1,h1.2⟩
  ·cases h1
 |[],_::_,h=>by simp[pE] at h
 |_::_,[],h=>by simp[pE] at h
theorem y9 (D:dp c σ κ φ a w) {sz:Nat}:∀ {ps:List (Nat×Operand)} {qs:List (Nat×Nat×SX)},nL c.N sz ps qs=true->
  y8 (fun(p:Nat×Nat×SV) (q:Nat×Operand)=>(p.1=q.1 * sz/\p.2.1=sz)/\al w (own c φ) κ p.2.2 (a.eval q.2)) (qs.map fun p=>(p.1,p.2.1,ev σ.s p.2.2)) ps
 |[],[],_=> .nil
 |(i,x)::ps,(off,n,y)::qs,h=>by
  simp only[nL,Vj,Vz] at h
  obtain⟨⟨⟨h0,h1⟩,h2⟩,E⟩:=h
  exact .cons ⟨⟨h0,h1⟩,aq D h2⟩ (y9 D E)
 |[],_::_,h=>by simp[nL] at h
 |_::_,[],h=>by simp[nL] at h
theorem yl {M:Nat->Prop}:∀ {cs:List SV} {l:List UInt8} {vs:List Value},mH cs=some l->av w M κ cs vs->cs.length=l.length/\vs.length=l.length/\∀ (j:Nat) (c:UInt8),l[j]?=some c->vs[j]?=some (.int .u8 c.toNat)
 |[],l,vs,h,D=>by
  simp only[mH,Vi] at h;subst h
  simp only[av] at D;subst D
  simp
 |x::cs,l,vs,h,D=>by
  unfold mH at h
  split at h
  ·rename_i B;cases B
  ·rename_i n r B
   simp only[V9] at B
   obtain⟨rfl,rfl⟩:=B
   split at h
   ·rename_i hn
    split at h
    ·rename_i l' f
     simp only[Vi] at h;subst h
     simp only[av] at D
     obtain⟨u,X,rfl,h1,h2⟩:=D
     obtain⟨k1,k2,k3⟩:=yl f h2
     simp only[al,bf] at h1
     subst h1
     refine⟨by simp[k1],by simp[k2],fun j c hj=> ?_⟩
     cases j with
     |zero=>
      simp at hj;subst hj
      have:(UInt8.ofNat n.toNat).toNat=n.toNat:=WP (by show n.toNat<256;omega)
      simp only[VZ,this]
      congr 2;omega
     |succ j=>simpa using k3 j c (by simpa using hj)
    ·cases h
   ·cases h
  ·cases h
theorem y_:∀ {cs:List SV} {l:List UInt8},mH cs=some l->SV.noOwns cs=true
 |[],_,_=>rfl
 |x::cs,l,h=>by
  unfold mH at h
  split at h
  ·rename_i B;cases B
  ·rename_i n r B
   simp only[V9] at B
   obtain⟨rfl,rfl⟩:=B
   split at h
   ·split at h
    ·rename_i l' f
     simp only[SV.noOwns,SV.noOwn,y_ f,W7]
    ·cases h
   ·cases h
  ·cases h
theorem Bc {M:Nat->Prop}:∀ {rows:List (List DV)} {l:List UInt8} {b o sz:Nat},rM rows=some l->bd w M rows b o sz->rows.length=l.length/\∀ (j:Nat) (c:UInt8),l[j]?=some c->w.cell? ⟨b,o+j,none⟩=some (.int .u8 c.toNat)
 |[],l,b,o,sz,h,D=>by
  simp only[rM,Vi] at h;subst h
  simp
 |r::rows,l,b,o,sz,h,D=>by
  unfold rM at h
  split at h
  ·rename_i B;cases B
  ·rename_i n J B
   simp only[V9] at B
   obtain⟨rfl,rfl⟩:=B
   split at h
   ·rename_i hn
    split at h
    ·rename_i l' f
     simp only[Vi] at h;subst h
     simp only[bd] at D
     obtain⟨h0,h1,h2⟩:=D
     simp at h0;subst h0
     obtain⟨k1,k2⟩:=Bc f h2
     simp only[b4] at h1
     obtain⟨⟨v,hv,_,h8⟩,_⟩:=h1
     simp only[bf] at h8
     subst h8
     refine⟨by simp[k1],fun j c hj=> ?_⟩
     cases j with
     |zero=>
      simp at hj;subst hj
      have:(UInt8.ofNat n.toNat).toNat=n.toNat:=WP (by show n.toNat<256;omega)
      rw[WO,hv,this]
      congr 2;omega
     |succ j=>
      have:=k2 j c (by simpa using hj)
      rwa[show o+1+j=o+(j+1) by omega] at this
    ·cases h
   ·cases h
  ·cases h
theorem CW:∀ {rows:List (List DV)} {l:List UInt8},rM rows=some l->rows.length=l.length
 |[],l,h=>by simp only[rM,Vi] at h;subst h;rfl
 |r::rows,l,h=>by
  unfold rM at h
  split at h
  ·rename_i B;cases B
  ·rename_i n J B
   simp only[V9] at B
   obtain⟨rfl,rfl⟩:=B
   split at h
   ·split at h
    ·rename_i l' f
     simp only[Vi] at h;subst h
     simp[CW f]
    ·cases h
   ·cases h
  ·cases h
theorem ym (D:dp c σ κ φ a w):∀ {k:Nat} {ps:List (Nat×Operand)} {qs:List SX},pF c.N k ps qs=true->
  av w (own c φ) κ (qs.map (ev σ.s)) (ps.map fun q=>a.eval q.2)/\∀ (j:Nat) q,ps[j]?=some q->q.1=k+j
 |_,[],[],_=>by simp[av]
 |k,(i,x)::ps,y::qs,h=>by
  simp only[pF,Vj,Vz] at h
  obtain⟨⟨h1,h2⟩,E⟩:=h
  obtain⟨h4,h5⟩:=ym D E
  refine⟨by simp only[VF,av];exact⟨_,_,rfl,aq D h2,h4⟩,fun j q hj=> ?_⟩
  cases j with
  |zero=>simp at hj;subst hj;simp[h1]
  |succ j=>have:=h5 j q (by simpa using hj);omega
 |_,[],_::_,h=>by simp[pF] at h
 |_,_::_,[],h=>by simp[pF] at h
theorem HK (h:Jb P t=true):P.underlying t=some .bool:=by
 unfold Jb at h;split at h
 ·assumption
 ·cases h
theorem Jp (h:MV P t=true):∃ e,P.underlying t=some (.pointer e):=by
 unfold MV at h;split at h
 ·exact⟨_,by assumption⟩
 ·cases h
theorem Gq (h:Gg P t=true):∃ ms,P.underlying t=some (.interface ms):=by
 unfold Gg at h;split at h
 ·exact⟨_,by assumption⟩
 ·cases h
theorem CX {y:SX} (h:HE P t y=true):∃ v i z,y= .c v/\P.info? t=some i/\i.zero=some z/\ur z v=true:=by
 cases y with
 |c v=>
  simp only[HE] at h
  split at h
  ·rename_i i hi
   split at h
   ·rename_i z hz;exact⟨v,i,z,rfl,hi,hz,h⟩
   ·cases h
  ·cases h
 |_=>simp[HE] at h
theorem HL (D:dp c σ κ φ a w) {o:Oper} {op:sA} (Z:c7 P c.N o.op op=true) {p:Prop} {x:SV} (A:rd σ.h σ.s op=some (p,x)) (Y:p):f3 P a o w (own c φ) κ x:=by
 obtain⟨dst,v8,ty,pos,S,gd⟩:=o
 simp only at Z
 cases op with
 |mv y=>
  simp only[rd,Vi,Vm] at A
  obtain⟨_,rfl⟩:=A
  simp only[c7] at Z
  split at Z
  ·exact MW (aq D Z)
  ·exact Gi (aq D Z)
  ·cases Z
 |pick c b d=>
  simp only[c7] at Z
  split at Z
  ·simp only[Vj] at Z
   obtain⟨⟨h1,h2⟩,E⟩:=Z
   have hc:=aq D h1
   simp only[rd] at A
   split at A
   ·rename_i B
    rw[B] at hc
    simp only[Vi,Vm] at A
    obtain⟨_,rfl⟩:=A
    exact CP hc (by simpa using aq D h2)
   ·rename_i B
    rw[B] at hc
    simp only[Vi,Vm] at A
    obtain⟨_,rfl⟩:=A
    exact CP hc (by simpa using aq D E)
   ·cases A
  ·cases Z
 |boxI y=>
  simp only[c7] at Z
  split at Z
  ·have hy:=aq D Z
   simp only[rd] at A
   split at A
   ·rename_i cs B
    simp only[Vi,Vm] at A
    obtain⟨_,rfl⟩:=A
    unfold Km at B
    cases hd:(ev σ.s y).toDV with
    |none=>simp[hd] at B
    |some dd=>
     simp only[hd] at B
     obtain⟨vs,h1,h2,E⟩:=(al.toDV _ _ dd hy hd).cells B
     exact Lo (fun b hb=>D.own_lt hb) h1 h2 E
   ·cases A
  ·obtain⟨v,i,z,rfl,hi,hz,u7⟩:=CX Z
   have hy:al w (own c φ) κ v z:=sL u7
   simp only[rd,ev] at A
   split at A
   ·rename_i cs B
    simp only[Vi,Vm] at A
    obtain⟨_,rfl⟩:=A
    unfold Km at B
    cases hd:v.toDV with
    |none=>simp[hd] at B
    |some dd=>
     simp only[hd] at B
     obtain⟨vs,h1,h2,E⟩:=(al.toDV _ _ dd hy hd).cells B
     exact HF hi hz (fun b hb=>D.own_lt hb) h1 h2 E
   ·cases A
  ·cases Z
 |ld1 y=>
  simp only[c7] at Z
  split at Z
  ·simp only[Vj] at Z
   obtain⟨h1,h2⟩:=Z
   have hy:=aq D h1
   split at h2
   ·rename_i d hd
    simp only[Wb] at h2
    simp only[rd] at A
    split at A
    ·rename_i c cs B
     simp only[Vi,Vm] at A
     obtain⟨_,rfl⟩:=A
     rw[B] at hy
     simp only[al,bf,b4] at hy
     obtain⟨b,o,hv,r6,h9,⟨v,r7,_,V⟩,_⟩:=hy
     exact z7 hd h2 hv r7 (by simpa only[al] using V)
    ·rename_i id off B
     rw[B] at hy
     simp only[al] at hy
     obtain⟨b,r8,hv⟩:=hy
     split at A
     ·rename_i cs s
      split at A
      ·rename_i c hc
       split at A
       ·rename_i r2
        simp only[Vi,Vm] at A
        obtain⟨_,rfl⟩:=A
        obtain⟨b',vs,G,r5,hl,u8,r0⟩:=Fg D s
        rw[r8] at r5;simp at r5;subst r5
        obtain⟨v,G',s5,s6⟩:=hl.get hc
        exact z7 hd h2 hv (by rw[r0];exact s5) (aT.to_S _ _ _ r2 s6).1
       ·cases A
      ·cases A
     ·cases A
    ·rename_i id sz i off B
     rw[B] at hy
     simp only[al] at hy
     obtain⟨b,len,N,r8,hv⟩:=hy
     split at A
     ·rename_i e R rows s
      split at A
      ·rename_i r r9
       split at A
       ·rename_i c hc
        split at A
        ·rename_i r2
         simp only[Vi,Vm] at A
         obtain⟨rfl,rfl⟩:=A
         subst Y
         obtain⟨I,vs,G,hl,_,r0⟩:=Fh D s r9 r8
         obtain⟨v,G',s5,s6⟩:=hl.get hc
         exact z7 hd h2 hv (r0 off v s5) (aT.to_S _ _ _ r2 s6).1
        ·cases A
       ·cases A
      ·cases A
     ·cases A
    ·cases A
   ·cases h2
  ·cases Z
 |ldA n y=>
  simp only[c7] at Z
  split at Z
  ·simp only[Vj,Vz] at Z
   obtain⟨⟨⟨h1,h2⟩,E⟩,h4⟩:=Z
   have hy:=aq D h1
   split at h2
   ·rename_i d hd
    simp only[rd] at A
    split at A
    ·rename_i cs B
     simp only[Vi,Vm] at A
     obtain⟨rfl,rfl⟩:=A
     rw[B] at hy
     simp only[al,bf] at hy
     obtain⟨b,o,hv,r6,h9,v1⟩:=hy
     obtain⟨vs,hl,r1,r0⟩:=v1.values
     have I:=hl.length
     refine z8 (vs:=vs.take n) hd h2 E oT hv (fun j v hj=>r0 j v ?_) ?_
     ·rw[WE] at hj;split at hj
      ·exact hj
      ·cases hj
     ·simp only[al,bf]
      exact⟨_,rfl,fun z hz=>r1 z (VU hz),hl.take n⟩
    ·rename_i id off B
     rw[B] at hy
     simp only[al] at hy
     obtain⟨b,r8,hv⟩:=hy
     split at A
     ·rename_i cs s
      split at A
      ·rename_i r2
       simp only[Vi,Vm] at A
       obtain⟨rfl,rfl⟩:=A
       obtain⟨b',vs,G,r5,hl,u8,r0⟩:=Fg D s
       rw[r8] at r5;simp at r5;subst r5
       have I:=hl.length
       refine z8 (vs:=(vs.drop off).take n) hd h2 E oT hv (fun j v hj=> ?_) ?_
       ·rw[WE] at hj;split at hj
        ·rw[Wp] at hj;rw[r0];exact hj
        ·cases hj
       ·simp only[al]
        obtain⟨G1,_,k1⟩:=hl.drop off
        obtain⟨G2,_,k2⟩:=k1.take n
        exact⟨_,rfl,fun z hz=>u8 z (WD (VU hz)),(az.to_S _ _ _ r2 k2).1⟩
      ·cases A
     ·cases A
    ·rename_i id sz i off B
     rw[B] at hy
     simp only[al] at hy
     obtain⟨b,len,N,r8,hv⟩:=hy
     split at A
     ·rename_i e R rows s
      split at A
      ·rename_i r r9
       split at A
       ·rename_i r2
        simp only[Vi,Vm] at A
        obtain⟨rfl,rfl⟩:=A
        obtain⟨rfl,s0⟩:=Y
        obtain⟨I,vs,G,hl,r1,r0⟩:=Fh D s r9 r8
        have I:=hl.length
        refine z8 (vs:=(vs.drop off).take n) hd h2 E oT hv (fun j v hj=> ?_) ?_
        ·rw[WE] at hj;split at hj
         ·rw[Wp] at hj
          have:=r0 _ _ hj
          rwa[<-Xc] at this
         ·cases hj
        ·simp only[al]
         obtain⟨G1,_,k1⟩:=hl.drop off
         obtain⟨G2,_,k2⟩:=k1.take n
         exact⟨_,rfl,fun z hz=>r1 z (WD (VU hz)),(az.to_S _ _ _ r2 k2).1⟩
       ·cases A
      ·cases A
     ·cases A
    ·cases A
   ·cases h2
  ·cases Z
 |fld off y=>
  simp only[c7] at Z
  split at Z
  ·simp only[Vj] at Z
   obtain⟨h1,h2⟩:=Z
   have hy:=aq D h1
   split at h2
   ·rename_i O s7
    split at h2
    ·rename_i f C
     simp only[Vj,Vz,bne_iff_ne] at h2
     obtain⟨⟨rfl,E⟩,h4⟩:=h2
     simp only[rd] at A
     split at A
     ·rename_i cs B
      simp only[Vi,Vm] at A
      obtain⟨_,rfl⟩:=A
      rw[B] at hy
      simp only[al,bf] at hy
      obtain⟨b,o,hv,r6,h9,v1⟩:=hy
      exact Aa s7 C E h4 hv (by simp only[al,bf];exact⟨b,_,rfl,r6,h9,v1.drop _⟩)
     ·rename_i id o B
      simp only[Vi,Vm] at A
      obtain⟨_,rfl⟩:=A
      rw[B] at hy
      simp only[al] at hy
      obtain⟨b,r8,hv⟩:=hy
      exact Aa s7 C E h4 hv (by simp only[al];exact⟨b,r8,rfl⟩)
     ·rename_i id sz i o B
      simp only[Vi,Vm] at A
      obtain⟨_,rfl⟩:=A
      rw[B] at hy
      simp only[al] at hy
      obtain⟨b,len,N,r8,hv⟩:=hy
      exact Aa s7 C E h4 hv (by simp only[al];exact⟨b,len,N,r8,by rw[Xc]⟩)
     ·cases A
    ·cases h2
   ·cases h2
  ·cases Z
 |prt1 off y=>
  simp only[c7] at Z
  split at Z
  ·simp only[Vj] at Z
   obtain⟨h1,h2⟩:=Z
   have hy:=aq D h1
   split at h2
   ·rename_i O s7
    split at h2
    ·rename_i f C
     simp only[Vj,Vz] at h2
     obtain⟨rfl,E⟩:=h2
     split at E
     ·rename_i d hd
      simp only[Wb] at E
      simp only[rd] at A
      split at A
      ·rename_i cs B
       split at A
       ·rename_i c hc
        simp only[Vi,Vm] at A
        obtain⟨_,rfl⟩:=A
        rw[B] at hy
        simp only[al,bf] at hy
        obtain⟨vs,hv,_,hl⟩:=hy
        obtain⟨v,s5,s6⟩:=hl.get hc
        exact CQ s7 C hd E hv s5 (by simpa only[al] using s6)
       ·cases A
      ·rename_i cs B
       split at A
       ·rename_i c hc
        simp only[Vi,Vm] at A
        obtain⟨_,rfl⟩:=A
        rw[B] at hy
        simp only[al] at hy
        obtain⟨vs,hv,_,hl⟩:=hy
        obtain⟨v,s5,s6⟩:=hl.get hc
        exact CQ s7 C hd E hv s5 s6
       ·cases A
      ·cases A
     ·cases E
    ·cases h2
   ·cases h2
  ·cases Z
 |prtA off n y=>
  simp only[c7] at Z
  split at Z
  ·simp only[Vj] at Z
   obtain⟨h1,h2⟩:=Z
   have hy:=aq D h1
   split at h2
   ·rename_i O s7
    split at h2
    ·rename_i f C
     simp only[Vj,Vz] at h2
     obtain⟨⟨⟨rfl,E⟩,h4⟩,rfl⟩:=h2
     split at E
     ·rename_i d hd
      simp only[rd] at A
      split at A
      ·rename_i cs B
       simp only[Vi,Vm] at A
       obtain⟨_,rfl⟩:=A
       rw[B] at hy
       simp only[al,bf] at hy
       obtain⟨vs,hv,r1,hl⟩:=hy
       exact CR s7 C hd E h4 hv (by simp only[al,bf];exact⟨_,rfl,fun z hz=>r1 z (WD (VU hz)),(hl.drop _).take _⟩)
      ·rename_i cs B
       simp only[Vi,Vm] at A
       obtain⟨_,rfl⟩:=A
       rw[B] at hy
       simp only[al] at hy
       obtain⟨vs,hv,r1,hl⟩:=hy
       exact CR s7 C hd E h4 hv (by simp only[al];exact⟨_,rfl,fun z hz=>r1 z (WD (VU hz)),(hl.drop _).take _⟩)
      ·cases A
     ·cases E
    ·cases h2
   ·cases h2
  ·cases Z
 |idx sz y j=>
  simp only[c7] at Z
  split at Z
  ·simp only[Vj] at Z
   obtain⟨⟨h1,h2⟩,E⟩:=Z
   have hy:=aq D h1
   have hj:=aq D h2
   split at E
   ·rename_i e he
    simp only[Vj,Vz] at E
    obtain⟨h4,rfl⟩:=E
    simp only[rd] at A
    split at A
    ·rename_i k n u0
     rw[u0] at hj
     simp only[al,bf] at hj
     split at A
     ·rename_i rows B
      rw[B] at hy
      simp only[al,bf] at hy
      obtain⟨ad,N,hv,hc,hn,h8⟩:=hy
      split at A
      ·rename_i r r9
       simp only[Vi,Vm] at A
       obtain⟨rfl,rfl⟩:=A
       obtain⟨h0,I⟩:=Y
       have h9:n.toNat<rows.length:=(Vr.1 r9).1
       rcases h8 with h8|⟨b,o,R,rfl,r6,hb,Q⟩
       ·subst h8;simp at r9
       ·have F:R=P.cellsOf e:=by
         rw[bd.iff] at Q
         rw[<-I];exact(Q.1 r (Vq r9)).symm
        subst F
        refine Ab he h4 hv hj h0 oM ?_
        simp only[al,bf]
        refine⟨b,_,rfl,r6,hb, ?_⟩
        have:=Q.drop n.toNat
        rw[WC h9] at this
        unfold bd at this
        have e:rows[n.toNat]=r:=(Vr.1 r9).2
        rw[e] at this
        exact this.2.1
      ·cases A
     ·rename_i v4 k cs B
      rw[B] at hy
      split at A
      ·rename_i J L
       have s4:=al.toDV _ _ (.slice (f_ v4 k J)) hy (by simp only[SV.toDV,L])
       generalize f_ v4 k J=rows at A s4
       simp only[bf] at s4
       obtain⟨ad,N,hv,hc,hn,h8⟩:=s4
       split at A
       ·rename_i r r9
        simp only[Vi,Vm] at A
        obtain⟨rfl,rfl⟩:=A
        obtain⟨h0,I⟩:=Y
        have h9:n.toNat<rows.length:=(Vr.1 r9).1
        rcases h8 with h8|⟨b,o,R,rfl,r6,hb,Q⟩
        ·subst h8;simp at r9
        ·have F:R=P.cellsOf e:=by
          rw[bd.iff] at Q
          rw[<-I];exact(Q.1 r (Vq r9)).symm
         subst F
         refine Ab he h4 hv hj h0 oM ?_
         simp only[al,bf]
         refine⟨b,_,rfl,r6,hb, ?_⟩
         have:=Q.drop n.toNat
         rw[WC h9] at this
         unfold bd at this
         have e:rows[n.toNat]=r:=(Vr.1 r9).2
         rw[e] at this
         exact this.2.1
       ·cases A
      ·cases A
     ·rename_i id B
      rw[B] at hy
      simp only[al] at hy
      split at A
      ·rename_i e' R rows s
       simp only[Vi,Vm] at A
       obtain⟨rfl,rfl⟩:=A
       obtain⟨h0,h5,rfl⟩:=Y
       rcases Gn D s with⟨_,rfl⟩|⟨b,N,r8⟩
       ·simp at h5;omega
       ·refine Ab he h4 (hy.trans r8) hj h0 h5 ?_
        simp only[al]
        exact⟨b,_,N,r8,by simp⟩
      ·cases A
     ·cases A
    ·cases A
   ·cases E
  ·cases Z
 |sidx y j=>
  simp only[c7] at Z
  split at Z
  ·simp only[Vj] at Z
   obtain⟨⟨h1,h2⟩,E⟩:=Z
   have hy:=aq D h1
   have hj:=aq D h2
   split at E
   ·rename_i he
    simp only[rd] at A
    split at A
    ·rename_i l k n B u0
     rw[u0] at hj
     rw[B] at hy
     simp only[al,bf] at hj hy
     split at A
     ·rename_i c hc
      simp only[Vi,Vm] at A
      obtain⟨rfl,rfl⟩:=A
      exact Jc he hy hj Y hc
     ·cases A
    ·cases A
   ·cases E
  ·cases Z
 |bin b y z=>
  simp only[c7] at Z
  split at Z
  ·simp only[Vj,Vz] at Z
   obtain⟨⟨rfl,h1⟩,h2⟩:=Z
   have hy:=aq D h1
   have hz:=aq D h2
   simp only[rd] at A
   split at A
   ·rename_i B u2
    rw[B] at hy;rw[u2] at hz
    split at A
    ·rename_i hb
     simp only[Vi,Vm] at A
     obtain⟨rfl,rfl⟩:=A
     exact tM (by trivial) hy.d hz.d hb Y
    ·cases A
   ·rename_i B u2
    rw[B] at hy;rw[u2] at hz
    split at A
    ·rename_i hb
     simp only[Vi,Vm] at A
     obtain⟨rfl,rfl⟩:=A
     exact tM (by trivial) hy.d hz.d hb Y
    ·cases A
   ·cases A
  ·cases Z
 |binB b y z=>
  simp only[c7] at Z
  split at Z
  ·simp only[Vj,Vz] at Z
   obtain⟨⟨⟨rfl,h1⟩,h2⟩,E⟩:=Z
   have hy:=aq D h1
   have hz:=aq D h2
   have ht:=HK E
   simp only[rd] at A
   split at A
   ·rename_i B u2
    rw[B] at hy;rw[u2] at hz
    split at A
    ·rename_i hb
     simp only[Vi,Vm] at A
     obtain⟨rfl,rfl⟩:=A
     (refine tM ?_ hy.d hz.d hb Y;exact ht)
    ·cases A
   ·cases A
  ·cases Z
 |binI b y z=>
  simp only[c7] at Z
  split at Z
  ·simp only[Vj,Vz,V8] at Z
   obtain⟨⟨⟨⟨rfl,h1⟩,h2⟩,E⟩,h4⟩:=Z
   have hy:=aq D h1
   have hz:=aq D h2
   have ht:=Gq E
   simp only[rd] at A
   split at A
   ·rename_i B u2
    rw[B] at hy;rw[u2] at hz
    split at A
    ·rename_i hb
     simp only[Vi,Vm] at A
     obtain⟨rfl,rfl⟩:=A
     (refine tM ?_ hy.d hz.d hb Y;exact⟨h4,ht⟩)
    ·cases A
   ·rename_i B u2
    rw[B] at hy;rw[u2] at hz
    split at A
    ·rename_i hb
     simp only[Vi,Vm] at A
     obtain⟨rfl,rfl⟩:=A
     (refine tM ?_ hy.d hz.d hb Y;exact⟨h4,ht⟩)
    ·cases A
   ·cases A
  ·cases Z
 |gd _ _ _=>simp[c7] at Z
 |binP b y z=>
  simp only[c7] at Z
  split at Z
  ·simp only[Vj,Vz] at Z
   obtain⟨⟨⟨rfl,h1⟩,h2⟩,E⟩:=Z
   have hy:=aq D h1
   have hz:=aq D h2
   obtain⟨e,he⟩:=Jp E
   simp only[rd] at A
   split at A
   ·rename_i B
    rw[B] at hz
    simp only[al,bf] at hz
    split at A
    ·split at A
     ·rename_i u4
      rw[u4] at hy
      simp only[al] at hy
      obtain⟨bb,_,hv⟩:=hy
      simp only[Vi,Vm] at A
      obtain⟨_,rfl⟩:=A
      exact aQ (v:= .bool false) (by simp[execOp,hv,hz,eqGuard,binOp,yj _ he]) (by simp[al,bf])
     ·rename_i u4
      rw[u4] at hy
      simp only[al] at hy
      obtain⟨bb,_,_,_,hv⟩:=hy
      simp only[Vi,Vm] at A
      obtain⟨_,rfl⟩:=A
      exact aQ (v:= .bool false) (by simp[execOp,hv,hz,eqGuard,binOp,yj _ he]) (by simp[al,bf])
     ·rename_i u4
      rw[u4] at hy
      simp only[al,bf] at hy
      simp only[Vi,Vm] at A
      obtain⟨_,rfl⟩:=A
      exact aQ (v:= .bool true) (by simp[execOp,hy,hz,eqGuard,binOp,yj _ he]) (by simp[al,bf])
     ·cases A
    ·cases A
   ·cases A
  ·cases Z
 |not y=>
  simp only[c7] at Z
  split at Z
  ·have hy:=aq D Z
   simp only[rd] at A
   split at A
   ·rename_i B
    rw[B] at hy
    simp only[al,bf] at hy
    simp only[Vi,Vm] at A
    obtain⟨_,rfl⟩:=A
    exact Lp hy
   ·cases A
  ·cases Z
 |neg y=>
  simp only[c7] at Z
  split at Z
  ·have hy:=aq D Z
   simp only[rd] at A
   split at A
   ·rename_i B
    rw[B] at hy
    simp only[al,bf] at hy
    simp only[Vi,Vm] at A
    obtain⟨_,rfl⟩:=A
    exact Lq hy
   ·cases A
  ·cases Z
 |cvi k y=>
  simp only[c7] at Z
  split at Z
  ·simp only[Vj] at Z
   obtain⟨⟨h1,h2⟩,E⟩:=Z
   have hy:=aq D h1
   split at E
   ·rename_i ht
    simp only[Vz] at E
    subst E
    simp only[rd] at A
    split at A
    ·rename_i B
     rw[B] at hy
     simp only[al,bf] at hy
     simp only[Vi,Vm] at A
     obtain⟨_,rfl⟩:=A
     exact Lr h2 ht hy
    ·cases A
   ·cases E
  ·cases Z
 |ext y i=>
  simp only[c7] at Z
  split at Z
  ·simp only[Vj,Vz] at Z
   obtain⟨h1,rfl⟩:=Z
   have hy:=aq D h1
   simp only[rd] at A
   split at A
   ·rename_i cs B
    rw[B] at hy
    simp only[al,bf] at hy
    obtain⟨vs,hv,hl⟩:=hy
    split at A
    ·rename_i c hc
     simp only[Vi,Vm] at A
     obtain⟨_,rfl⟩:=A
     obtain⟨v,s5,s6⟩:=hl.get hc
     exact Fb hv s5 (by simpa only[al] using s6)
    ·cases A
   ·rename_i cs B
    rw[B] at hy
    simp only[al] at hy
    obtain⟨vs,hv,hl⟩:=hy
    split at A
    ·rename_i c hc
     simp only[Vi,Vm] at A
     obtain⟨_,rfl⟩:=A
     obtain⟨v,s5,s6⟩:=hl.get hc
     exact Fb hv s5 s6
    ·cases A
   ·cases A
  ·cases Z
 |len y=>
  simp only[c7] at Z
  split at Z
  ·split at Z
   ·rename_i x' t' r3 M
    simp only[Vj] at Z
    obtain⟨h1,h2⟩:=Z
    have hy:=aq D h1
    split at h2
    ·rename_i e he
     simp only[rd] at A
     split at A
     ·rename_i rows B
      rw[B] at hy
      simp only[al,bf] at hy
      obtain⟨ad,N,hv,_⟩:=hy
      simp only[Vi,Vm] at A
      obtain⟨_,rfl⟩:=A
      exact li r3 M he hv
     ·rename_i B
      rw[B] at hy
      simp only[al] at hy
      simp only[Vi,Vm] at A
      obtain⟨_,rfl⟩:=A
      exact li r3 M he hy
     ·rename_i n' B
      rw[B] at hy
      simp only[al] at hy
      obtain⟨b,vs,hv,_⟩:=hy
      simp only[Vi,Vm] at A
      obtain⟨_,rfl⟩:=A
      exact li r3 M he hv
     ·rename_i id B
      rw[B] at hy
      simp only[al] at hy
      split at A
      ·rename_i e' R rows s
       simp only[Vi,Vm] at A
       obtain⟨_,rfl⟩:=A
       rcases Gn D s with⟨v0,rfl⟩|⟨b,N,r8⟩
       ·exact li r3 M he (hy.trans v0)
       ·exact li r3 M he (hy.trans r8)
      ·cases A
     ·cases A
    ·cases h2
   ·cases Z
  ·cases Z
 |lenT y=>
  simp only[c7] at Z
  split at Z
  ·split at Z
   ·rename_i x' t' r3 M
    simp only[Vj] at Z
    obtain⟨h1,h2⟩:=Z
    have hy:=aq D h1
    split at h2
    ·rename_i he
     simp only[rd] at A
     split at A
     ·rename_i l B
      rw[B] at hy
      simp only[al,bf] at hy
      simp only[Vi,Vm] at A
      obtain⟨_,rfl⟩:=A
      exact EE r3 M he hy
     ·cases A
    ·cases h2
   ·cases Z
  ·cases Z
 |lenM y=>
  simp only[c7] at Z
  split at Z
  ·split at Z
   ·rename_i x' t' r3 M
    simp only[Vj] at Z
    obtain⟨h1,h2⟩:=Z
    have hy:=aq D h1
    split at h2
    ·rename_i he
     simp only[rd] at A
     split at A
     ·rename_i id B
      rw[B] at hy
      simp only[al] at hy
      split at A
      ·rename_i kv s
       simp only[Vi,Vm] at A
       obtain⟨_,rfl⟩:=A
       have H:=D.chunks id
       rw[s] at H
       obtain⟨r,es,K,G,hk,hh,_,s3,_⟩:=H
       rw[<-s3.length]
       exact EF r3 M he (hy.trans hk) hh
      ·cases A
     ·cases A
    ·cases h2
   ·cases Z
  ·cases Z
 |mins y ys=>
  simp only[c7] at Z
  split at Z
  ·rename_i args ts
   have T:=kL D Z
   simp only[rd] at A
   split at A
   ·rename_i m l B u5
    cases r4:args.toList with
    |nil=>rw[r4] at Z;simp[mh] at Z
    |cons x' U=>
     rw[r4] at T
     simp only[VF,av,V9] at T
     obtain⟨u,X,⟨rfl,rfl⟩,s8,u3⟩:=T
     rw[B] at s8
     simp only[al,bf] at s8
     split at A
     ·rename_i r v5
      simp only[Vi,Vm] at A
      obtain⟨_,rfl⟩:=A
      exact Jf r4 s8 (av.toDVs _ _ _ u3 u5) v5
     ·cases A
   ·cases A
  ·cases Z
 |maxs y ys=>
  simp only[c7] at Z
  split at Z
  ·rename_i args ts
   have T:=kL D Z
   simp only[rd] at A
   split at A
   ·rename_i m l B u5
    cases r4:args.toList with
    |nil=>rw[r4] at Z;simp[mh] at Z
    |cons x' U=>
     rw[r4] at T
     simp only[VF,av,V9] at T
     obtain⟨u,X,⟨rfl,rfl⟩,s8,u3⟩:=T
     rw[B] at s8
     simp only[al,bf] at s8
     split at A
     ·rename_i r v5
      simp only[Vi,Vm] at A
      obtain⟨_,rfl⟩:=A
      exact Jg r4 s8 (av.toDVs _ _ _ u3 u5) v5
     ·cases A
   ·cases A
  ·cases Z
 |mkfn f ys=>
  simp only[c7] at Z
  split at Z
  ·simp only[Vj,Vz] at Z
   obtain⟨⟨rfl,h2⟩,E⟩:=Z
   have T:=kL D E
   simp only[rd] at A
   split at A
   ·rename_i l u5
    simp only[Vi,Vm] at A
    obtain⟨_,rfl⟩:=A
    exact Jh h2 (av.toDVs _ _ _ T u5)
   ·cases A
  ·cases Z
 |build zs ps=>
  simp only[c7] at Z
  split at Z
  ·split at Z
   ·rename_i O i hu hi
    simp only[Vj] at Z
    obtain⟨⟨h1,h2⟩,E⟩:=Z
    split at h1
    ·rename_i z hz
     simp only[rd] at A
     split at A
     ·rename_i cs s2
      simp only[Vi,Vm] at A
      obtain⟨_,rfl⟩:=A
      exact HI D.kok hu hi hz h1 h2 (Bb D E) s2
     ·cases A
    ·cases h1
   ·rename_i len e i hu hi
    split at Z
    ·rename_i ie v7
     simp only[Vj] at Z
     obtain⟨h1,E⟩:=Z
     split at h1
     ·rename_i z hz
      simp only[rd] at A
      split at A
      ·rename_i cs s2
       simp only[Vi,Vm] at A
       obtain⟨_,rfl⟩:=A
       exact Gl D.kok hu hi v7 hz h1 (y9 D E) s2
      ·cases A
     ·cases h1
    ·cases Z
   ·cases Z
  ·cases Z
 |bslice sz xs=>
  simp only[c7] at Z
  split at Z
  ·simp only[Vj,Vz] at Z
   obtain⟨⟨h1,h2⟩,E⟩:=Z
   obtain⟨V,s1⟩:=ym D h2
   split at E
   ·rename_i e he
    split at E
    ·rename_i i hi
     simp only[Vj,Vz,Vv] at E
     obtain⟨⟨⟨h4,h5⟩,h6⟩,h7⟩:=E
     split at h7
     ·rename_i z hz
      simp only[Vz] at h7
      simp only[rd] at A
      split at A
      ·rename_i rows Q
       simp only[Vi,Vm] at A
       obtain⟨_,rfl⟩:=A
       have:=Gm (dst:=dst) (ty:=ty) (pos:=pos) (S:=S) (gd:=gd) D.kok (fun b hb=>D.own_lt hb) he hi h4 h5 h6 hz h7 h1 V (fun j q hj=>by simpa using s1 j q hj) Q
       simpa using this
      ·cases A
     ·cases h7
    ·cases E
   ·cases E
  ·cases Z
 |slc sz y l h=>
  simp only[c7] at Z
  split at Z
  ·rename_i t x' lo hi
   simp only[Vj] at Z
   obtain⟨⟨⟨h1,h2⟩,E⟩,h4⟩:=Z
   have hy:=aq D h1
   split at h4
   ·rename_i e he
    simp only[Vj,Vz,Vv] at h4
    obtain⟨⟨h5,rfl⟩,h7⟩:=h4
    have u1:∀ (lo:Option Operand) (l:Option SX),mi c.N lo l=true->∀ x y,lo=some x->l=some y->al w (own c φ) κ (ev σ.s y) (a.eval x):=fun lo l s9 x y e1 e2=>by
     subst e1 e2;simp only[mi] at s9;exact aq D s9
    simp only[rd] at A
    split at A
    ·rename_i rows l' h' B hl hh
     simp only[Vi,Vm] at A
     obtain⟨rfl,rfl⟩:=A
     rw[B] at hy
     exact Ff he h5 rfl h7 hy.d (re (u1 lo l h2) h2 hl) (re (u1 hi h E) E hh) Y.1 Y.2.1 Y.2.2.1 Y.2.2.2
    ·rename_i v4 k cs l' h' B hl hh
     split at A
     ·rename_i J L
      simp only[Vi,Vm] at A
      obtain⟨rfl,rfl⟩:=A
      rw[B] at hy
      obtain⟨rfl,Y⟩:=Y
      have s4:=al.toDV _ _ (.slice (f_ (P.cellsOf e) k J)) hy (by simp only[SV.toDV,L])
      have I:=gF (P.cellsOf e) k J
      have W:∀ r∈f_ (P.cellsOf e) k J,r.length=P.cellsOf e:=by
       simp only[al] at hy
       obtain⟨b,vs,_,_,_,v6,_,_,u6⟩:=hy
       exact uq _ k J (by rw[<-(av.toDVs _ _ _ u6 L).length,v6])
      have:=Ff (dst:=dst) (ty:=ty) (pos:=pos) (S:=S) (gd:=gd) (κ:=κ) he h5 rfl h7 s4 (re (u1 lo l h2) h2 hl) (re (u1 hi h E) E hh) W Y.1 (by rw[I];exact Y.2.1) (by rw[I];exact Y.2.2)
      rw[I] at this
      exact this
     ·cases A
    ·rename_i l' h' B hl hh
     simp only[Vi,Vm] at A
     obtain⟨rfl,rfl⟩:=A
     rw[B] at hy
     simp only[al] at hy
     exact EH he h5 hy (re (u1 lo l h2) h2 hl) (re (u1 hi h E) E hh) Y.1 Y.2
    ·cases A
   ·cases h4
  ·cases Z
 |sslc y l h=>
  simp only[c7] at Z
  split at Z
  ·rename_i t x' lo hi
   simp only[Vj] at Z
   obtain⟨⟨⟨h1,h2⟩,E⟩,h4⟩:=Z
   have hy:=aq D h1
   split at h4
   ·rename_i he
    have u1:∀ (lo:Option Operand) (l:Option SX),mi c.N lo l=true->∀ x y,lo=some x->l=some y->al w (own c φ) κ (ev σ.s y) (a.eval x):=fun lo l s9 x y e1 e2=>by
     subst e1 e2;simp only[mi] at s9;exact aq D s9
    simp only[rd] at A
    split at A
    ·rename_i b l' h' B hl hh
     simp only[Vi,Vm] at A
     obtain⟨rfl,rfl⟩:=A
     rw[B] at hy
     simp only[al,bf] at hy
     exact Jn he hy (re (u1 lo l h2) h2 hl) (re (u1 hi h E) E hh) Y.1 Y.2.1 Y.2.2
    ·cases A
   ·cases h4
  ·cases Z
 |nilc y=>
  simp only[c7] at Z
  split at Z
  ·have hy:=aq D Z
   simp only[rd] at A
   split at A
   ·rename_i B
    rw[B] at hy
    simp only[Vi,Vm] at A
    obtain⟨_,rfl⟩:=A
    have s4:=hy
    simp only[al] at s4
    obtain⟨b,_,hv⟩:=s4
    exact aQ (by simp[execOp,hv]) (hv▸hy)
   ·rename_i B
    rw[B] at hy
    simp only[Vi,Vm] at A
    obtain⟨_,rfl⟩:=A
    have s4:=hy
    simp only[al] at s4
    obtain⟨b,_,_,_,hv⟩:=s4
    exact aQ (by simp[execOp,hv]) (hv▸hy)
   ·rename_i B
    rw[B] at hy
    simp only[Vi,Vm] at A
    obtain⟨_,rfl⟩:=A
    have s4:=hy
    simp only[al,bf] at s4
    obtain⟨b,o,hv,_⟩:=s4
    exact aQ (by simp[execOp,hv]) (hv▸hy)
   ·cases A
  ·cases Z
 |aidx sz n y j=>
  simp only[c7] at Z
  split at Z
  ·simp only[Vj] at Z
   obtain⟨⟨h1,h2⟩,E⟩:=Z
   have hy:=aq D h1
   have hj:=aq D h2
   split at E
   ·rename_i len e he
    simp only[Vj,Vz] at E
    obtain⟨⟨rfl,h4⟩,rfl⟩:=E
    simp only[rd] at A
    split at A
    ·rename_i id off k i B u0
     rw[B] at hy;rw[u0] at hj
     simp only[al,bf] at hy hj
     obtain⟨b,r8,hv⟩:=hy
     simp only[Vi,Vm] at A
     obtain⟨rfl,rfl⟩:=A
     refine aQ (v:= .pointer (some ⟨b,off+i.toNat * P.cellsOf e,none⟩)) ?_ (by simp only[al];exact⟨b,r8,rfl⟩)
     simp[execOp,Instr.indexAt,hj,hv,asIntOf,run_underlying he,Instr.sureAddr,Y,f5 h4,iC]
    ·cases A
   ·cases E
  ·cases Z
 |slcP n y l=>
  simp only[c7] at Z
  split at Z
  ·simp only[Vj] at Z
   obtain⟨⟨h1,h2⟩,E⟩:=Z
   have hy:=aq D h1
   have hj:=aq D h2
   split at E
   ·rename_i len e he
    simp only[Vj,Vz] at E
    obtain⟨⟨rfl,h4⟩,h5⟩:=E
    simp only[rd] at A
    split at A
    ·rename_i cs k i B u0
     rw[B] at hy;rw[u0] at hj
     simp only[al] at hy hj
     unfold bf at hj
     simp only[Vi,Vm] at A
     obtain⟨rfl,rfl⟩:=A
     exact Jl he h4 h5 hy hj Y.1 Y.2.1 Y.2.2
    ·cases A
   ·cases E
  ·cases Z
 |slc3 sz y l h m=>
  simp only[c7] at Z
  split at Z
  ·rename_i t x' lo hi mx
   simp only[Vj] at Z
   obtain⟨⟨⟨⟨h1,h2⟩,E⟩,h4⟩,h5⟩:=Z
   have hy:=aq D h1
   have hh:=aq D E
   have v9:=aq D h4
   split at h5
   ·rename_i e he
    simp only[Vj,Vz,Vv] at h5
    obtain⟨⟨h6,rfl⟩,h7⟩:=h5
    have u1:∀ x y,lo=some x->l=some y->al w (own c φ) κ (ev σ.s y) (a.eval x):=fun x y e1 e2=>by
     subst e1 e2;simp only[mi] at h2;exact aq D h2
    simp only[rd] at A
    split at A
    ·rename_i rows l' k h' k' m' B hl w0 w1
     rw[B] at hy;rw[w0] at hh;rw[w1] at v9
     simp only[al,bf] at hh v9
     simp only[Vi,Vm] at A
     obtain⟨rfl,rfl⟩:=A
     exact Jm he h6 rfl hy.d (re u1 h2 hl) hh v9 Y.1 Y.2.1 Y.2.2.1 Y.2.2.2.1 Y.2.2.2.2
    ·cases A
   ·cases h5
  ·cases Z
 |cvis y=>
  simp only[c7] at Z
  split at Z
  ·simp only[Vj] at Z
   obtain⟨⟨h1,h2⟩,E⟩:=Z
   have hy:=aq D h1
   split at h2
   ·rename_i k hs
    split at E
    ·rename_i ht
     simp only[rd] at A
     split at A
     ·rename_i B
      rw[B] at hy
      simp only[al,bf] at hy
      simp only[Vi,Vm] at A
      obtain⟨_,rfl⟩:=A
      exact Jd hs ht hy
     ·cases A
    ·cases E
   ·cases h2
  ·cases Z
 |cl t ts=>simp[c7] at Z
 |cvsb y=>
  simp only[c7] at Z
  split at Z
  ·simp only[Vj] at Z
   obtain⟨⟨h1,h2⟩,E⟩:=Z
   have hy:=aq D h1
   split at h2
   ·rename_i e ht
    split at h2
    ·rename_i he
     split at E
     ·rename_i hs
      simp only[rd] at A
      split at A
      ·rename_i B
       rw[B] at hy
       simp only[al,bf] at hy
       simp only[Vi,Vm] at A
       obtain⟨_,rfl⟩:=A
       exact Je (fun b hb=>D.own_lt hb) hs ht he hy
      ·cases A
     ·cases E
    ·cases h2
   ·cases h2
  ·cases Z
 |cvbs y=>
  simp only[c7] at Z
  split at Z
  ·simp only[Vj] at Z
   obtain⟨⟨h1,h2⟩,E⟩:=Z
   have hy:=aq D h1
   split at h2
   ·rename_i e hs
    split at h2
    ·rename_i he
     split at E
     ·rename_i ht
      simp only[rd] at A
      split at A
      ·rename_i rows B
       rw[B] at hy
       split at A
       ·rename_i l hl
        simp only[Vi,Vm] at A
        obtain⟨_,rfl⟩:=A
        simp only[al,bf] at hy
        obtain⟨ad,N,hv,_,_,hc⟩:=hy
        refine rN hs he ht ⟨ad,N,by rw[hv,CW hl], ?_⟩
        rcases hc with rfl|⟨b,o,sz,rfl,_,_,Q⟩
        ·simp only[rM,Vi] at hl;exact .inl hl.symm
        ·exact .inr ⟨b,o,rfl,(Bc hl Q).2⟩
       ·cases A
      ·rename_i B
       rw[B] at hy
       simp only[al] at hy
       simp only[Vi,Vm] at A
       obtain⟨_,rfl⟩:=A
       exact rN hs he ht ⟨none,0,hy,.inl rfl⟩
      ·rename_i sz n cs B
       rw[B] at hy
       split at A
       ·rename_i l hl
        simp only[Vi,Vm] at A
        obtain⟨rfl,rfl⟩:=A
        simp only[al] at hy
        obtain⟨b,vs,hv,_,_,I,_,r0,V⟩:=hy
        obtain⟨k1,k2,k3⟩:=yl hl V
        have u9:sz=1:=Y
        subst u9
        refine rN hs he ht ⟨some ⟨b,0,none⟩,n,by rw[hv,<-k2,I,Nat.mul_one],.inr ⟨b,0,rfl,fun j c hj=> ?_⟩⟩
        rw[VD];exact r0 j _ (k3 j c hj)
       ·cases A
      ·rename_i id B
       rw[B] at hy
       simp only[al] at hy
       split at A
       ·rename_i e' sz rows s
        split at A
        ·rename_i l hl
         simp only[Vi,Vm] at A
         obtain⟨rfl,rfl⟩:=A
         have u9:sz=1:=Y
         subst u9
         have H:=D.chunks id
         rw[s] at H
         obtain⟨xs,G,g1,g2,g3,g4,_⟩:=H
         have v2:rows.flatten.length=rows.length:=by
          have:=lZ g3;simpa using this
         have V:=yl hl (az.to_S _ _ _ (y_ hl) g4).1
         obtain⟨k1,k2,k3⟩:=V
         rcases Gn D s with⟨v0,rfl⟩|⟨b,N,r8⟩
         ·simp only[List.flatten_nil,mH,Vi] at hl
          subst hl
          exact rN hs he ht ⟨none,0,hy.trans v0,.inl rfl⟩
         ·refine rN hs he ht ⟨some ⟨b,0,none⟩,N,by rw[hy,r8,<-v2,k1],.inr ⟨b,0,rfl,fun j c hj=> ?_⟩⟩
          have r0:=g1.cells (g:=b) (by rw[r8];rfl) j _ (k3 j c hj)
          rw[iC] at r0
          exact r0
        ·cases A
       ·cases A
      ·cases A
     ·cases E
    ·cases h2
   ·cases h2
  ·cases Z
 |look kk z ok m k=>
  simp only[c7] at Z
  split at Z
  ·simp only[Vj,Vz] at Z
   obtain⟨⟨⟨h1,h2⟩,rfl⟩,E⟩:=Z
   have hx:=aq D h1
   have hi:=aq D h2
   split at E
   ·rename_i kt e ht
    simp only[Vj,Vz] at E
    simp only[rd] at A
    split at A
    ·rename_i id d B u0
     rw[B] at hx
     rw[u0] at hi
     simp only[al] at hx
     split at A
     ·rename_i v3 kv s
      simp only[Vi,Vm] at A
      obtain⟨rfl,rfl⟩:=A
      obtain⟨rfl,C,r2⟩:=Y
      have H:=D.chunks id
      rw[s] at H
      obtain⟨r,es,K,G,hk,hh,_,s3,_⟩:=H
      exact Ji ht E.1 E.2 (hx.trans hk) hh s3 C r2 hi.d
     ·cases A
    ·cases A
   ·cases E
  ·cases Z
 |eqs b kks y z=>
  simp only[c7] at Z
  split at Z
  ·simp only[Vj,Vz,Wb] at Z
   obtain⟨⟨⟨⟨⟨rfl,h1⟩,h2⟩,E⟩,h4⟩,h5⟩:=Z
   split at E
   ·rename_i O ht
    simp only[rd] at A
    split at A
    ·rename_i cs J hy hz
     have hx:=al.toDV _ _ _ (aq D h1) hy
     have r3:=al.toDV _ _ _ (aq D h2) hz
     split at A
     ·rename_i q hq
      split at A
      ·simp only[Vi,Vm] at A
       obtain⟨_,rfl⟩:=A
       exact Fe ht h4 h5 E hx r3 hq (.inl rfl)
      ·simp only[Vi,Vm] at A
       obtain⟨_,rfl⟩:=A
       exact Fe ht h4 h5 E hx r3 hq (.inr rfl)
      ·cases A
     ·cases A
    ·cases A
   ·cases E
  ·cases Z
end
