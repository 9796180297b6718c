/-
  My text.
-/
import Derived.Test.YtgmnipfafmphaaaGreatDoorSYEngF
namespace Go.Proofs.YtgmnipfafmphaaaGreatDoor
set_option linter.unusedSimpArgs false
set_option linter.unusedVariables false
open Go.RowKit
variable {M:Nat->Prop} {e i id:Nat} {r:List SV} {rows:List (List SV)} {sz:Nat} {t:TypeId}
section
variable {P:Program} {c:Cx} {σ:St} {κ:Nat->Value} {φ:Nat->List Nat} {a:Act} {w:World}
theorem ai.d {x:DV} {v:Value} (h:ai w M κ (.d x) v):aW w M x v:=by simpa only[ai] using h
theorem CO (D:cW c σ κ φ a w) {cs:List SV} (hb:σ.h id= .box cs):∃ b vs G,κ id= .pointer (some ⟨b,0,none⟩)/\ap w (own c φ) κ cs vs G/\(∀ x∈vs,x.oneCell'=true)/\∀ j:Nat,w.cell? ⟨b,j,none⟩=vs[j]?:=by
 have h:=D.chunks id
 rw[hb] at h
 obtain⟨b,T,vs,G,h1,E,h4,h5,_⟩:=h
 exact⟨b,vs,G,h1,h5,h4,fun j=>by rw[cell_of_row w b j _ T _ E];simp⟩
theorem iY {α:Type} {sz:Nat}:∀ {rows:List (List α)},(∀ r∈rows,r.length=sz)->rows.flatten.length=rows.length * sz
 |[],_=>by simp
 |r::rows,h=>by
  have:=iY (rows:=rows) (fun r D=>h r (by simp[D]))
  simp only[TF,SS,ST,this,h r oS,T8];omega
theorem G3 {α:Type} {rows:List (List α)} {r:List α} (hi:rows[i]?=some r):rows.flatten=(rows.take i).flatten++(r++(rows.drop (i+1)).flatten):=by
 have X:=(SY.1 hi).1
 conv=>lhs;rw[<-Tl i rows,T_ X,(SY.1 hi).2]
 simp
theorem Jl {xs:List Value} {G:List Nat} (W:∀ r∈rows,r.length=sz) (h:ap w M κ rows.flatten xs G) (hi:rows[i]?=some r):
  ∃ G1 G2 d,G=G1++(G2++d)/\ap w M κ (rows.take i).flatten (xs.take (i * sz)) G1/\ap w M κ r ((xs.drop (i * sz)).take sz) G2/\ap w M κ (rows.drop (i+1)).flatten (xs.drop (i * sz+sz)) d:=by
 have X:=(SY.1 hi).1
 have k:=W r (SW hi)
 rw[G3 hi] at h
 obtain⟨G1,G',rfl,h1,h2⟩:=h.split
 obtain⟨G2,d,rfl,E,h4⟩:=h2.split
 have hl:(rows.take i).flatten.length=i * sz:=by
  rw[iY (sz:=sz) (fun r D=>W r (Tv D)),Th,show min i rows.length=i by omega]
 rw[hl] at h1 E h4
 rw[k] at E h4
 rw[T4] at h4
 exact⟨G1,G2,d,rfl,h1,E,h4⟩
theorem CP (D:cW c σ κ φ a w) (hb:σ.h id= .vec e sz rows) (hi:rows[i]?=some r) {b len N:Nat} (hk:κ id= .slice (some ⟨b,0,none⟩) len N):
  r.length=sz/\∃ vs G,ap w (own c φ) κ r vs G/\(∀ x∈vs,x.oneCell'=true)/\∀ j v,vs[j]?=some v->w.cell? ⟨b,i * sz+j,none⟩=some v:=by
 have h:=D.chunks id
 rw[hb] at h
 obtain⟨xs,G,h1,h2,E,h4,_⟩:=h
 have k:=E r (SW hi)
 obtain⟨G1,G2,d,_,_,h5,_⟩:=Jl E h4 hi
 refine⟨k,_,G2,h5,fun x hx=>h2 x (Ua (Tv hx)),fun j v hj=> ?_⟩
 rw[Ub] at hj
 split at hj
 ·rw[T2] at hj
  have L:=h1.cells (g:=b) (by rw[hk];rfl) (i * sz+j) v hj
  rw[gi] at L
  simpa using L
 ·cases hj
theorem DX (D:cW c σ κ φ a w) (hb:σ.h id= .vec e sz rows):(κ id= .slice none 0 0/\rows=[])\/∃ b N,κ id= .slice (some ⟨b,0,none⟩) rows.length N:=by
 have h:=D.chunks id
 rw[hb] at h
 obtain⟨xs,G,h1,_⟩:=h
 rcases h1.2 with⟨hv,hn⟩|⟨g,N,I,hv,_⟩
 ·exact .inl ⟨hv,Ta.1 hn⟩
 ·exact .inr ⟨g,N,hv⟩
theorem bJ.length {M:Nat->Prop} {kk:KK}:∀ {kv:List (DV×SV)} {es:List MapEntry} {F:List Nat},bJ w M κ kk kv es F->es.length=kv.length
 |[],es,F,h=>by unfold bJ at h;simp[h]
 |(k,c)::kv,es,F,h=>by
  unfold bJ at h
  obtain⟨e,z,_,_,rfl,_,_,_,_,h5⟩:=h
  simp[bJ.length h5]
theorem yq (D:cW c σ κ φ a w) {O:Array Field}:∀ {ps:List (Nat×Operand)} {qs:List (Nat×Nat×SX)},mC P c.N O ps qs=true->
  wb (fun(p:Nat×Nat×SV) (q:Nat×Operand)=>(∃ f,O[q.1]?=some f/\f.offset=p.1/\P.cellsOf f.type=p.2.1)/\ai w (own c φ) κ p.2.2 (a.eval q.2)) (qs.map fun p=>(p.1,p.2.1,ev σ.s p.2.2)) ps
 |[],[],_=> .nil
 |(i,x)::ps,(off,n,y)::qs,h=>by
  simp only[mC,SR] at h
  obtain⟨⟨h1,h2⟩,E⟩:=h
  refine .cons ⟨?_,ak D h2⟩ (yq D E)
  split at h1
  ·rename_i f C
   simp at h1
   exact⟨f,C,h1.1.1,h1.2⟩
  ·cases h1
 |[],_::_,h=>by simp[mC] at h
 |_::_,[],h=>by simp[mC] at h
theorem wc (D:cW c σ κ φ a w) {sz:Nat}:∀ {ps:List (Nat×Operand)} {qs:List (Nat×Nat×SX)},kN c.N sz ps qs=true->
  wb (fun(p:Nat×Nat×SV) (q:Nat×Operand)=>(p.1=q.1 * sz/\p.2.1=sz)/\ai w (own c φ) κ p.2.2 (a.eval q.2)) (qs.map fun p=>(p.1,p.2.1,ev σ.s p.2.2)) ps
 |[],[],_=> .nil
 |(i,x)::ps,(off,n,y)::qs,h=>by
  simp only[kN,SR,S_] at h
  obtain⟨⟨⟨h0,h1⟩,h2⟩,E⟩:=h
  exact .cons ⟨⟨h0,h1⟩,ak D h2⟩ (wc D E)
 |[],_::_,h=>by simp[kN] at h
 |_::_,[],h=>by simp[kN] at h
theorem vd {M:Nat->Prop}:∀ {cs:List SV} {l:List UInt8} {vs:List Value},jF cs=some l->an w M κ cs vs->cs.length=l.length/\vs.length=l.length/\∀ (j:Nat) (c:UInt8),l[j]?=some c->vs[j]?=some (.int .u8 c.toNat)
 |[],l,vs,h,D=>by
  simp only[jF,SN] at h;subst h
  simp only[an] at D;subst D
  simp
 |x::cs,l,vs,h,D=>by
  unfold jF at h
  split at h
  ·rename_i B;cases B
  ·rename_i n r B
   simp only[TG] at B
   obtain⟨rfl,rfl⟩:=B
   split at h
   ·rename_i hn
    split at h
    ·rename_i l' f
     simp only[SN] at h;subst h
     simp only[an] at D
     obtain⟨u,R,rfl,h1,h2⟩:=D
     obtain⟨k1,k2,k3⟩:=vd f h2
     simp only[ai,aW] at h1
     subst h1
     refine⟨by simp[k1],by simp[k2],fun j c hj=> ?_⟩
     cases j with
     |zero=>
      simp at hj;subst hj
      have:(UInt8.ofNat n.toNat).toNat=n.toNat:=Ud (by show n.toNat<256;omega)
      simp only[Tz,this]
      congr 2;omega
     |succ j=>simpa using k3 j c (by simpa using hj)
    ·cases h
   ·cases h
  ·cases h
theorem wd:∀ {cs:List SV} {l:List UInt8},jF cs=some l->SV.noOwns cs=true
 |[],_,_=>rfl
 |x::cs,l,h=>by
  unfold jF at h
  split at h
  ·rename_i B;cases B
  ·rename_i n r B
   simp only[TG] at B
   obtain⟨rfl,rfl⟩:=B
   split at h
   ·split at h
    ·rename_i l' f
     simp only[SV.noOwns,SV.noOwn,wd f,UX]
    ·cases h
   ·cases h
  ·cases h
theorem yr {M:Nat->Prop}:∀ {rows:List (List DV)} {l:List UInt8} {b o sz:Nat},oa rows=some l->aQ w M rows b o sz->rows.length=l.length/\∀ (j:Nat) (c:UInt8),l[j]?=some c->w.cell? ⟨b,o+j,none⟩=some (.int .u8 c.toNat)
 |[],l,b,o,sz,h,D=>by
  simp only[oa,SN] at h;subst h
  simp
 |r::rows,l,b,o,sz,h,D=>by
  unfold oa at h
  split at h
  ·rename_i B;cases B
  ·rename_i n r' B
   simp only[TG] at B
   obtain⟨rfl,rfl⟩:=B
   split at h
   ·rename_i hn
    split at h
    ·rename_i l' f
     simp only[SN] at h;subst h
     simp only[aQ] at D
     obtain⟨h0,h1,h2⟩:=D
     simp at h0;subst h0
     obtain⟨k1,k2⟩:=yr f h2
     simp only[bw] at h1
     obtain⟨⟨v,hv,_,h8⟩,_⟩:=h1
     simp only[aW] at h8
     subst h8
     refine⟨by simp[k1],fun j c hj=> ?_⟩
     cases j with
     |zero=>
      simp at hj;subst hj
      have:(UInt8.ofNat n.toNat).toNat=n.toNat:=Ud (by show n.toNat<256;omega)
      rw[Ul,hv,this]
      congr 2;omega
     |succ j=>
      have:=k2 j c (by simpa using hj)
      rwa[show o+1+j=o+(j+1) by omega] at this
    ·cases h
   ·cases h
  ·cases h
theorem Ac:∀ {rows:List (List DV)} {l:List UInt8},oa rows=some l->rows.length=l.length
 |[],l,h=>by simp only[oa,SN] at h;subst h;rfl
 |r::rows,l,h=>by
  unfold oa at h
  split at h
  ·rename_i B;cases B
  ·rename_i n r' B
   simp only[TG] at B
   obtain⟨rfl,rfl⟩:=B
   split at h
   ·split at h
    ·rename_i l' f
     simp only[SN] at h;subst h
     simp[Ac f]
    ·cases h
   ·cases h
  ·cases h
theorem ve (D:cW c σ κ φ a w):∀ {k:Nat} {ps:List (Nat×Operand)} {qs:List SX},mD c.N k ps qs=true->
  an w (own c φ) κ (qs.map (ev σ.s)) (ps.map fun q=>a.eval q.2)/\∀ (j:Nat) q,ps[j]?=some q->q.1=k+j
 |_,[],[],_=>by simp[an]
 |k,(i,x)::ps,y::qs,h=>by
  simp only[mD,SR,S_] at h
  obtain⟨⟨h1,h2⟩,E⟩:=h
  obtain⟨h4,h5⟩:=ve D E
  refine⟨by simp only[Tc,an];exact⟨_,_,rfl,ak D h2,h4⟩,fun j q hj=> ?_⟩
  cases j with
  |zero=>simp at hj;subst hj;simp[h1]
  |succ j=>have:=h5 j q (by simpa using hj);omega
 |_,[],_::_,h=>by simp[mD] at h
 |_,_::_,[],h=>by simp[mD] at h
theorem Fn (h:GN P t=true):P.underlying t=some .bool:=by
 unfold GN at h;split at h
 ·assumption
 ·cases h
theorem G4 (h:KY P t=true):∃ e,P.underlying t=some (.pointer e):=by
 unfold KY at h;split at h
 ·exact⟨_,by assumption⟩
 ·cases h
theorem DY (h:DP P t=true):∃ ms,P.underlying t=some (.interface ms):=by
 unfold DP at h;split at h
 ·exact⟨_,by assumption⟩
 ·cases h
theorem Ad {y:SX} (h:Fh P t y=true):∃ v i z,y= .c v/\P.info? t=some i/\i.zero=some z/\q7 z v=true:=by
 cases y with
 |c v=>
  simp only[Fh] at h
  split at h
  ·rename_i i hi
   split at h
   ·rename_i z hz;exact⟨v,i,z,rfl,hi,hz,h⟩
   ·cases h
  ·cases h
 |_=>simp[Fh] at h
theorem Fo (D:cW c σ κ φ a w) {o:Oper} {op:oX} (Z:ck P c.N o.op op=true) {p:Prop} {x:SV} (A:rd σ.h σ.s op=some (p,x)) (Y:p):eJ P a o w (own c φ) κ x:=by
 obtain⟨dst,w0,ty,pos,S,gd⟩:=o
 simp only at Z
 cases op with
 |mv y=>
  simp only[rd,SN,SU] at A
  obtain⟨_,rfl⟩:=A
  simp only[ck] at Z
  split at Z
  ·exact KZ (ak D Z)
  ·exact DR (ak D Z)
  ·cases Z
 |pick c b d=>
  simp only[ck] at Z
  split at Z
  ·simp only[SR] at Z
   obtain⟨⟨h1,h2⟩,E⟩:=Z
   have hc:=ak D h1
   simp only[rd] at A
   split at A
   ·rename_i B
    rw[B] at hc
    simp only[SN,SU] at A
    obtain⟨_,rfl⟩:=A
    exact z1 hc (by simpa using ak D h2)
   ·rename_i B
    rw[B] at hc
    simp only[SN,SU] at A
    obtain⟨_,rfl⟩:=A
    exact z1 hc (by simpa using ak D E)
   ·cases A
  ·cases Z
 |boxI y=>
  simp only[ck] at Z
  split at Z
  ·have hy:=ak D Z
   simp only[rd] at A
   split at A
   ·rename_i cs B
    simp only[SN,SU] at A
    obtain⟨_,rfl⟩:=A
    unfold H0 at B
    cases hd:(ev σ.s y).toDV with
    |none=>simp[hd] at B
    |some dd=>
     simp only[hd] at B
     obtain⟨vs,h1,h2,E⟩:=(ai.toDV _ _ dd hy hd).cells B
     exact Jg (fun b hb=>D.own_lt hb) h1 h2 E
   ·cases A
  ·obtain⟨v,i,z,rfl,hi,hz,u8⟩:=Ad Z
   have hy:ai w (own c φ) κ v z:=oW u8
   simp only[rd,ev] at A
   split at A
   ·rename_i cs B
    simp only[SN,SU] at A
    obtain⟨_,rfl⟩:=A
    unfold H0 at B
    cases hd:v.toDV with
    |none=>simp[hd] at B
    |some dd=>
     simp only[hd] at B
     obtain⟨vs,h1,h2,E⟩:=(ai.toDV _ _ dd hy hd).cells B
     exact Fi hi hz (fun b hb=>D.own_lt hb) h1 h2 E
   ·cases A
  ·cases Z
 |ld1 y=>
  simp only[ck] at Z
  split at Z
  ·simp only[SR] at Z
   obtain⟨h1,h2⟩:=Z
   have hy:=ak D h1
   split at h2
   ·rename_i d hd
    simp only[TI] at h2
    simp only[rd] at A
    split at A
    ·rename_i c cs B
     simp only[SN,SU] at A
     obtain⟨_,rfl⟩:=A
     rw[B] at hy
     simp only[ai,aW,bw] at hy
     obtain⟨b,o,hv,r7,X,⟨v,r9,_,V⟩,_⟩:=hy
     exact xk hd h2 hv r9 (by simpa only[ai] using V)
    ·rename_i id off B
     rw[B] at hy
     simp only[ai] at hy
     obtain⟨b,r5,hv⟩:=hy
     split at A
     ·rename_i cs M
      split at A
      ·rename_i c hc
       split at A
       ·rename_i r1
        simp only[SN,SU] at A
        obtain⟨_,rfl⟩:=A
        obtain⟨b',vs,G,r2,hl,u6,L⟩:=CO D M
        rw[r5] at r2;simp at r2;subst r2
        obtain⟨v,G',s6,s7⟩:=hl.get hc
        exact xk hd h2 hv (by rw[L];exact s6) (aO.to_S _ _ _ r1 s7).1
       ·cases A
      ·cases A
     ·cases A
    ·rename_i id sz i off B
     rw[B] at hy
     simp only[ai] at hy
     obtain⟨b,len,N,r5,hv⟩:=hy
     split at A
     ·rename_i e Q rows M
      split at A
      ·rename_i r r3
       split at A
       ·rename_i c hc
        split at A
        ·rename_i r1
         simp only[SN,SU] at A
         obtain⟨rfl,rfl⟩:=A
         subst Y
         obtain⟨I,vs,G,hl,_,L⟩:=CP D M r3 r5
         obtain⟨v,G',s6,s7⟩:=hl.get hc
         exact xk hd h2 hv (L off v s6) (aO.to_S _ _ _ r1 s7).1
        ·cases A
       ·cases A
      ·cases A
     ·cases A
    ·cases A
   ·cases h2
  ·cases Z
 |ldA n y=>
  simp only[ck] at Z
  split at Z
  ·simp only[SR,S_] at Z
   obtain⟨⟨⟨h1,h2⟩,E⟩,h4⟩:=Z
   have hy:=ak D h1
   split at h2
   ·rename_i d hd
    simp only[rd] at A
    split at A
    ·rename_i cs B
     simp only[SN,SU] at A
     obtain⟨rfl,rfl⟩:=A
     rw[B] at hy
     simp only[ai,aW] at hy
     obtain⟨b,o,hv,r7,X,u9⟩:=hy
     obtain⟨vs,hl,h9,L⟩:=u9.values
     have I:=hl.length
     refine xl (vs:=vs.take n) hd h2 E oT hv (fun j v hj=>L j v ?_) ?_
     ·rw[Ub] at hj;split at hj
      ·exact hj
      ·cases hj
     ·simp only[ai,aW]
      exact⟨_,rfl,fun z hz=>h9 z (Tv hz),hl.take n⟩
    ·rename_i id off B
     rw[B] at hy
     simp only[ai] at hy
     obtain⟨b,r5,hv⟩:=hy
     split at A
     ·rename_i cs M
      split at A
      ·rename_i r1
       simp only[SN,SU] at A
       obtain⟨rfl,rfl⟩:=A
       obtain⟨b',vs,G,r2,hl,u6,L⟩:=CO D M
       rw[r5] at r2;simp at r2;subst r2
       have I:=hl.length
       refine xl (vs:=(vs.drop off).take n) hd h2 E oT hv (fun j v hj=> ?_) ?_
       ·rw[Ub] at hj;split at hj
        ·rw[T2] at hj;rw[L];exact hj
        ·cases hj
       ·simp only[ai]
        obtain⟨G1,_,k1⟩:=hl.drop off
        obtain⟨G2,_,k2⟩:=k1.take n
        exact⟨_,rfl,fun z hz=>u6 z (Ua (Tv hz)),(ap.to_S _ _ _ r1 k2).1⟩
      ·cases A
     ·cases A
    ·rename_i id sz i off B
     rw[B] at hy
     simp only[ai] at hy
     obtain⟨b,len,N,r5,hv⟩:=hy
     split at A
     ·rename_i e Q rows M
      split at A
      ·rename_i r r3
       split at A
       ·rename_i r1
        simp only[SN,SU] at A
        obtain⟨rfl,rfl⟩:=A
        obtain⟨rfl,s0⟩:=Y
        obtain⟨I,vs,G,hl,h9,L⟩:=CP D M r3 r5
        have I:=hl.length
        refine xl (vs:=(vs.drop off).take n) hd h2 E oT hv (fun j v hj=> ?_) ?_
        ·rw[Ub] at hj;split at hj
         ·rw[T2] at hj
          have:=L _ _ hj
          rwa[<-U7] at this
         ·cases hj
        ·simp only[ai]
         obtain⟨G1,_,k1⟩:=hl.drop off
         obtain⟨G2,_,k2⟩:=k1.take n
         exact⟨_,rfl,fun z hz=>h9 z (Ua (Tv hz)),(ap.to_S _ _ _ r1 k2).1⟩
       ·cases A
      ·cases A
     ·cases A
    ·cases A
   ·cases h2
  ·cases Z
 |fld off y=>
  simp only[ck] at Z
  split at Z
  ·simp only[SR] at Z
   obtain⟨h1,h2⟩:=Z
   have hy:=ak D h1
   split at h2
   ·rename_i O s8
    split at h2
    ·rename_i f C
     simp only[SR,S_,bne_iff_ne] at h2
     obtain⟨⟨rfl,E⟩,h4⟩:=h2
     simp only[rd] at A
     split at A
     ·rename_i cs B
      simp only[SN,SU] at A
      obtain⟨_,rfl⟩:=A
      rw[B] at hy
      simp only[ai,aW] at hy
      obtain⟨b,o,hv,r7,X,u9⟩:=hy
      exact xn s8 C E h4 hv (by simp only[ai,aW];exact⟨b,_,rfl,r7,X,u9.drop _⟩)
     ·rename_i id o B
      simp only[SN,SU] at A
      obtain⟨_,rfl⟩:=A
      rw[B] at hy
      simp only[ai] at hy
      obtain⟨b,r5,hv⟩:=hy
      exact xn s8 C E h4 hv (by simp only[ai];exact⟨b,r5,rfl⟩)
     ·rename_i id sz i o B
      simp only[SN,SU] at A
      obtain⟨_,rfl⟩:=A
      rw[B] at hy
      simp only[ai] at hy
      obtain⟨b,len,N,r5,hv⟩:=hy
      exact xn s8 C E h4 hv (by simp only[ai];exact⟨b,len,N,r5,by rw[U7]⟩)
     ·cases A
    ·cases h2
   ·cases h2
  ·cases Z
 |prt1 off y=>
  simp only[ck] at Z
  split at Z
  ·simp only[SR] at Z
   obtain⟨h1,h2⟩:=Z
   have hy:=ak D h1
   split at h2
   ·rename_i O s8
    split at h2
    ·rename_i f C
     simp only[SR,S_] at h2
     obtain⟨rfl,E⟩:=h2
     split at E
     ·rename_i d hd
      simp only[TI] at E
      simp only[rd] at A
      split at A
      ·rename_i cs B
       split at A
       ·rename_i c hc
        simp only[SN,SU] at A
        obtain⟨_,rfl⟩:=A
        rw[B] at hy
        simp only[ai,aW] at hy
        obtain⟨vs,hv,_,hl⟩:=hy
        obtain⟨v,s6,s7⟩:=hl.get hc
        exact z6 s8 C hd E hv s6 (by simpa only[ai] using s7)
       ·cases A
      ·rename_i cs B
       split at A
       ·rename_i c hc
        simp only[SN,SU] at A
        obtain⟨_,rfl⟩:=A
        rw[B] at hy
        simp only[ai] at hy
        obtain⟨vs,hv,_,hl⟩:=hy
        obtain⟨v,s6,s7⟩:=hl.get hc
        exact z6 s8 C hd E hv s6 s7
       ·cases A
      ·cases A
     ·cases E
    ·cases h2
   ·cases h2
  ·cases Z
 |prtA off n y=>
  simp only[ck] at Z
  split at Z
  ·simp only[SR] at Z
   obtain⟨h1,h2⟩:=Z
   have hy:=ak D h1
   split at h2
   ·rename_i O s8
    split at h2
    ·rename_i f C
     simp only[SR,S_] at h2
     obtain⟨⟨⟨rfl,E⟩,h4⟩,rfl⟩:=h2
     split at E
     ·rename_i d hd
      simp only[rd] at A
      split at A
      ·rename_i cs B
       simp only[SN,SU] at A
       obtain⟨_,rfl⟩:=A
       rw[B] at hy
       simp only[ai,aW] at hy
       obtain⟨vs,hv,h9,hl⟩:=hy
       exact z7 s8 C hd E h4 hv (by simp only[ai,aW];exact⟨_,rfl,fun z hz=>h9 z (Ua (Tv hz)),(hl.drop _).take _⟩)
      ·rename_i cs B
       simp only[SN,SU] at A
       obtain⟨_,rfl⟩:=A
       rw[B] at hy
       simp only[ai] at hy
       obtain⟨vs,hv,h9,hl⟩:=hy
       exact z7 s8 C hd E h4 hv (by simp only[ai];exact⟨_,rfl,fun z hz=>h9 z (Ua (Tv hz)),(hl.drop _).take _⟩)
      ·cases A
     ·cases E
    ·cases h2
   ·cases h2
  ·cases Z
 |idx sz y j=>
  simp only[ck] at Z
  split at Z
  ·simp only[SR] at Z
   obtain⟨⟨h1,h2⟩,E⟩:=Z
   have hy:=ak D h1
   have hj:=ak D h2
   split at E
   ·rename_i e he
    simp only[SR,S_] at E
    obtain⟨h4,rfl⟩:=E
    simp only[rd] at A
    split at A
    ·rename_i k n u1
     rw[u1] at hj
     simp only[ai,aW] at hj
     split at A
     ·rename_i rows B
      rw[B] at hy
      simp only[ai,aW] at hy
      obtain⟨ad,N,hv,hc,hn,U⟩:=hy
      split at A
      ·rename_i r r3
       simp only[SN,SU] at A
       obtain⟨rfl,rfl⟩:=A
       obtain⟨h0,I⟩:=Y
       have X:n.toNat<rows.length:=(SY.1 r3).1
       rcases U with U|⟨b,o,Q,rfl,r7,hb,K⟩
       ·subst U;simp at r3
       ·have F:Q=P.cellsOf e:=by
         rw[aQ.iff] at K
         rw[<-I];exact(K.1 r (SW r3)).symm
        subst F
        refine xo he h4 hv hj h0 oM ?_
        simp only[ai,aW]
        refine⟨b,_,rfl,r7,hb, ?_⟩
        have:=K.drop n.toNat
        rw[T_ X] at this
        unfold aQ at this
        have e:rows[n.toNat]=r:=(SY.1 r3).2
        rw[e] at this
        exact this.2.1
      ·cases A
     ·rename_i v3 k cs B
      rw[B] at hy
      split at A
      ·rename_i J r6
       have s2:=ai.toDV _ _ (.slice (eQ v3 k J)) hy (by simp only[SV.toDV,r6])
       generalize eQ v3 k J=rows at A s2
       simp only[aW] at s2
       obtain⟨ad,N,hv,hc,hn,U⟩:=s2
       split at A
       ·rename_i r r3
        simp only[SN,SU] at A
        obtain⟨rfl,rfl⟩:=A
        obtain⟨h0,I⟩:=Y
        have X:n.toNat<rows.length:=(SY.1 r3).1
        rcases U with U|⟨b,o,Q,rfl,r7,hb,K⟩
        ·subst U;simp at r3
        ·have F:Q=P.cellsOf e:=by
          rw[aQ.iff] at K
          rw[<-I];exact(K.1 r (SW r3)).symm
         subst F
         refine xo he h4 hv hj h0 oM ?_
         simp only[ai,aW]
         refine⟨b,_,rfl,r7,hb, ?_⟩
         have:=K.drop n.toNat
         rw[T_ X] at this
         unfold aQ at this
         have e:rows[n.toNat]=r:=(SY.1 r3).2
         rw[e] at this
         exact this.2.1
       ·cases A
      ·cases A
     ·rename_i id B
      rw[B] at hy
      simp only[ai] at hy
      split at A
      ·rename_i e' Q rows M
       simp only[SN,SU] at A
       obtain⟨rfl,rfl⟩:=A
       obtain⟨h0,h5,rfl⟩:=Y
       rcases DX D M with⟨_,rfl⟩|⟨b,N,r5⟩
       ·simp at h5;omega
       ·refine xo he h4 (hy.trans r5) hj h0 h5 ?_
        simp only[ai]
        exact⟨b,_,N,r5,by simp⟩
      ·cases A
     ·cases A
    ·cases A
   ·cases E
  ·cases Z
 |sidx y j=>
  simp only[ck] at Z
  split at Z
  ·simp only[SR] at Z
   obtain⟨⟨h1,h2⟩,E⟩:=Z
   have hy:=ak D h1
   have hj:=ak D h2
   split at E
   ·rename_i he
    simp only[rd] at A
    split at A
    ·rename_i l k n B u1
     rw[u1] at hj
     rw[B] at hy
     simp only[ai,aW] at hj hy
     split at A
     ·rename_i c hc
      simp only[SN,SU] at A
      obtain⟨rfl,rfl⟩:=A
      exact GO he hy hj Y hc
     ·cases A
    ·cases A
   ·cases E
  ·cases Z
 |bin b y z=>
  simp only[ck] at Z
  split at Z
  ·simp only[SR,S_] at Z
   obtain⟨⟨rfl,h1⟩,h2⟩:=Z
   have hy:=ak D h1
   have hz:=ak D h2
   simp only[rd] at A
   split at A
   ·rename_i B u2
    rw[B] at hy;rw[u2] at hz
    split at A
    ·rename_i hb
     simp only[SN,SU] at A
     obtain⟨rfl,rfl⟩:=A
     exact pI (by trivial) hy.d hz.d hb Y
    ·cases A
   ·rename_i B u2
    rw[B] at hy;rw[u2] at hz
    split at A
    ·rename_i hb
     simp only[SN,SU] at A
     obtain⟨rfl,rfl⟩:=A
     exact pI (by trivial) hy.d hz.d hb Y
    ·cases A
   ·cases A
  ·cases Z
 |binB b y z=>
  simp only[ck] at Z
  split at Z
  ·simp only[SR,S_] at Z
   obtain⟨⟨⟨rfl,h1⟩,h2⟩,E⟩:=Z
   have hy:=ak D h1
   have hz:=ak D h2
   have ht:=Fn E
   simp only[rd] at A
   split at A
   ·rename_i B u2
    rw[B] at hy;rw[u2] at hz
    split at A
    ·rename_i hb
     simp only[SN,SU] at A
     obtain⟨rfl,rfl⟩:=A
     (refine pI ?_ hy.d hz.d hb Y;exact ht)
    ·cases A
   ·cases A
  ·cases Z
 |binI b y z=>
  simp only[ck] at Z
  split at Z
  ·simp only[SR,S_,TE] at Z
   obtain⟨⟨⟨⟨rfl,h1⟩,h2⟩,E⟩,h4⟩:=Z
   have hy:=ak D h1
   have hz:=ak D h2
   have ht:=DY E
   simp only[rd] at A
   split at A
   ·rename_i B u2
    rw[B] at hy;rw[u2] at hz
    split at A
    ·rename_i hb
     simp only[SN,SU] at A
     obtain⟨rfl,rfl⟩:=A
     (refine pI ?_ hy.d hz.d hb Y;exact⟨h4,ht⟩)
    ·cases A
   ·rename_i B u2
    rw[B] at hy;rw[u2] at hz
    split at A
    ·rename_i hb
     simp only[SN,SU] at A
     obtain⟨rfl,rfl⟩:=A
     (refine pI ?_ hy.d hz.d hb Y;exact⟨h4,ht⟩)
    ·cases A
   ·cases A
  ·cases Z
 |gd _ _ _=>simp[ck] at Z
 |binP b y z=>
  simp only[ck] at Z
  split at Z
  ·simp only[SR,S_] at Z
   obtain⟨⟨⟨rfl,h1⟩,h2⟩,E⟩:=Z
   have hy:=ak D h1
   have hz:=ak D h2
   obtain⟨e,he⟩:=G4 E
   simp only[rd] at A
   split at A
   ·rename_i B
    rw[B] at hz
    simp only[ai,aW] at hz
    split at A
    ·split at A
     ·rename_i u4
      rw[u4] at hy
      simp only[ai] at hy
      obtain⟨bb,_,hv⟩:=hy
      simp only[SN,SU] at A
      obtain⟨_,rfl⟩:=A
      exact aI (v:= .bool false) (by simp[execOp,hv,hz,eqGuard,binOp,vb _ he]) (by simp[ai,aW])
     ·rename_i u4
      rw[u4] at hy
      simp only[ai] at hy
      obtain⟨bb,_,_,_,hv⟩:=hy
      simp only[SN,SU] at A
      obtain⟨_,rfl⟩:=A
      exact aI (v:= .bool false) (by simp[execOp,hv,hz,eqGuard,binOp,vb _ he]) (by simp[ai,aW])
     ·rename_i u4
      rw[u4] at hy
      simp only[ai,aW] at hy
      simp only[SN,SU] at A
      obtain⟨_,rfl⟩:=A
      exact aI (v:= .bool true) (by simp[execOp,hy,hz,eqGuard,binOp,vb _ he]) (by simp[ai,aW])
     ·cases A
    ·cases A
   ·cases A
  ·cases Z
 |not y=>
  simp only[ck] at Z
  split at Z
  ·have hy:=ak D Z
   simp only[rd] at A
   split at A
   ·rename_i B
    rw[B] at hy
    simp only[ai,aW] at hy
    simp only[SN,SU] at A
    obtain⟨_,rfl⟩:=A
    exact Jh hy
   ·cases A
  ·cases Z
 |neg y=>
  simp only[ck] at Z
  split at Z
  ·have hy:=ak D Z
   simp only[rd] at A
   split at A
   ·rename_i B
    rw[B] at hy
    simp only[ai,aW] at hy
    simp only[SN,SU] at A
    obtain⟨_,rfl⟩:=A
    exact Ji hy
   ·cases A
  ·cases Z
 |cvi k y=>
  simp only[ck] at Z
  split at Z
  ·simp only[SR] at Z
   obtain⟨⟨h1,h2⟩,E⟩:=Z
   have hy:=ak D h1
   split at E
   ·rename_i ht
    simp only[S_] at E
    subst E
    simp only[rd] at A
    split at A
    ·rename_i B
     rw[B] at hy
     simp only[ai,aW] at hy
     simp only[SN,SU] at A
     obtain⟨_,rfl⟩:=A
     exact Jj h2 ht hy
    ·cases A
   ·cases E
  ·cases Z
 |ext y i=>
  simp only[ck] at Z
  split at Z
  ·simp only[SR,S_] at Z
   obtain⟨h1,rfl⟩:=Z
   have hy:=ak D h1
   simp only[rd] at A
   split at A
   ·rename_i cs B
    rw[B] at hy
    simp only[ai,aW] at hy
    obtain⟨vs,hv,hl⟩:=hy
    split at A
    ·rename_i c hc
     simp only[SN,SU] at A
     obtain⟨_,rfl⟩:=A
     obtain⟨v,s6,s7⟩:=hl.get hc
     exact CJ hv s6 (by simpa only[ai] using s7)
    ·cases A
   ·rename_i cs B
    rw[B] at hy
    simp only[ai] at hy
    obtain⟨vs,hv,hl⟩:=hy
    split at A
    ·rename_i c hc
     simp only[SN,SU] at A
     obtain⟨_,rfl⟩:=A
     obtain⟨v,s6,s7⟩:=hl.get hc
     exact CJ hv s6 s7
    ·cases A
   ·cases A
  ·cases Z
 |len y=>
  simp only[ck] at Z
  split at Z
  ·split at Z
   ·rename_i x' t' H r8
    simp only[SR] at Z
    obtain⟨h1,h2⟩:=Z
    have hy:=ak D h1
    split at h2
    ·rename_i e he
     simp only[rd] at A
     split at A
     ·rename_i rows B
      rw[B] at hy
      simp only[ai,aW] at hy
      obtain⟨ad,N,hv,_⟩:=hy
      simp only[SN,SU] at A
      obtain⟨_,rfl⟩:=A
      exact iB H r8 he hv
     ·rename_i B
      rw[B] at hy
      simp only[ai] at hy
      simp only[SN,SU] at A
      obtain⟨_,rfl⟩:=A
      exact iB H r8 he hy
     ·rename_i n' B
      rw[B] at hy
      simp only[ai] at hy
      obtain⟨b,vs,hv,_⟩:=hy
      simp only[SN,SU] at A
      obtain⟨_,rfl⟩:=A
      exact iB H r8 he hv
     ·rename_i id B
      rw[B] at hy
      simp only[ai] at hy
      split at A
      ·rename_i e' Q rows M
       simp only[SN,SU] at A
       obtain⟨_,rfl⟩:=A
       rcases DX D M with⟨v5,rfl⟩|⟨b,N,r5⟩
       ·exact iB H r8 he (hy.trans v5)
       ·exact iB H r8 he (hy.trans r5)
      ·cases A
     ·cases A
    ·cases h2
   ·cases Z
  ·cases Z
 |lenT y=>
  simp only[ck] at Z
  split at Z
  ·split at Z
   ·rename_i x' t' H r8
    simp only[SR] at Z
    obtain⟨h1,h2⟩:=Z
    have hy:=ak D h1
    split at h2
    ·rename_i he
     simp only[rd] at A
     split at A
     ·rename_i l B
      rw[B] at hy
      simp only[ai,aW] at hy
      simp only[SN,SU] at A
      obtain⟨_,rfl⟩:=A
      exact B_ H r8 he hy
     ·cases A
    ·cases h2
   ·cases Z
  ·cases Z
 |lenM y=>
  simp only[ck] at Z
  split at Z
  ·split at Z
   ·rename_i x' t' H r8
    simp only[SR] at Z
    obtain⟨h1,h2⟩:=Z
    have hy:=ak D h1
    split at h2
    ·rename_i he
     simp only[rd] at A
     split at A
     ·rename_i id B
      rw[B] at hy
      simp only[ai] at hy
      split at A
      ·rename_i kv M
       simp only[SN,SU] at A
       obtain⟨_,rfl⟩:=A
       have r0:=D.chunks id
       rw[M] at r0
       obtain⟨r,es,s,G,hk,hh,_,s5,_⟩:=r0
       rw[<-s5.length]
       exact Ca H r8 he (hy.trans hk) hh
      ·cases A
     ·cases A
    ·cases h2
   ·cases Z
  ·cases Z
 |mins y ys=>
  simp only[ck] at Z
  split at Z
  ·rename_i args ts
   have T:=iW D Z
   simp only[rd] at A
   split at A
   ·rename_i m l B u5
    cases r4:args.toList with
    |nil=>rw[r4] at Z;simp[jp] at Z
    |cons x' h8=>
     rw[r4] at T
     simp only[Tc,an,TG] at T
     obtain⟨u,R,⟨rfl,rfl⟩,s9,u3⟩:=T
     rw[B] at s9
     simp only[ai,aW] at s9
     split at A
     ·rename_i r v4
      simp only[SN,SU] at A
      obtain⟨_,rfl⟩:=A
      exact GR r4 s9 (an.toDVs _ _ _ u3 u5) v4
     ·cases A
   ·cases A
  ·cases Z
 |maxs y ys=>
  simp only[ck] at Z
  split at Z
  ·rename_i args ts
   have T:=iW D Z
   simp only[rd] at A
   split at A
   ·rename_i m l B u5
    cases r4:args.toList with
    |nil=>rw[r4] at Z;simp[jp] at Z
    |cons x' h8=>
     rw[r4] at T
     simp only[Tc,an,TG] at T
     obtain⟨u,R,⟨rfl,rfl⟩,s9,u3⟩:=T
     rw[B] at s9
     simp only[ai,aW] at s9
     split at A
     ·rename_i r v4
      simp only[SN,SU] at A
      obtain⟨_,rfl⟩:=A
      exact GS r4 s9 (an.toDVs _ _ _ u3 u5) v4
     ·cases A
   ·cases A
  ·cases Z
 |mkfn f ys=>
  simp only[ck] at Z
  split at Z
  ·simp only[SR,S_] at Z
   obtain⟨⟨rfl,h2⟩,E⟩:=Z
   have T:=iW D E
   simp only[rd] at A
   split at A
   ·rename_i l u5
    simp only[SN,SU] at A
    obtain⟨_,rfl⟩:=A
    exact GU h2 (an.toDVs _ _ _ T u5)
   ·cases A
  ·cases Z
 |build zs ps=>
  simp only[ck] at Z
  split at Z
  ·split at Z
   ·rename_i O i hu hi
    simp only[SR] at Z
    obtain⟨⟨h1,h2⟩,E⟩:=Z
    split at h1
    ·rename_i z hz
     simp only[rd] at A
     split at A
     ·rename_i cs s4
      simp only[SN,SU] at A
      obtain⟨_,rfl⟩:=A
      exact Fl D.kok hu hi hz h1 h2 (yq D E) s4
     ·cases A
    ·cases h1
   ·rename_i len e i hu hi
    split at Z
    ·rename_i ie v8
     simp only[SR] at Z
     obtain⟨h1,E⟩:=Z
     split at h1
     ·rename_i z hz
      simp only[rd] at A
      split at A
      ·rename_i cs s4
       simp only[SN,SU] at A
       obtain⟨_,rfl⟩:=A
       exact DU D.kok hu hi v8 hz h1 (wc D E) s4
      ·cases A
     ·cases h1
    ·cases Z
   ·cases Z
  ·cases Z
 |bslice sz xs=>
  simp only[ck] at Z
  split at Z
  ·simp only[SR,S_] at Z
   obtain⟨⟨h1,h2⟩,E⟩:=Z
   obtain⟨V,s1⟩:=ve D h2
   split at E
   ·rename_i e he
    split at E
    ·rename_i i hi
     simp only[SR,S_,S5] at E
     obtain⟨⟨⟨h4,h5⟩,h6⟩,h7⟩:=E
     split at h7
     ·rename_i z hz
      simp only[S_] at h7
      simp only[rd] at A
      split at A
      ·rename_i rows K
       simp only[SN,SU] at A
       obtain⟨_,rfl⟩:=A
       have:=DW (dst:=dst) (ty:=ty) (pos:=pos) (S:=S) (gd:=gd) D.kok (fun b hb=>D.own_lt hb) he hi h4 h5 h6 hz h7 h1 V (fun j q hj=>by simpa using s1 j q hj) K
       simpa using this
      ·cases A
     ·cases h7
    ·cases E
   ·cases E
  ·cases Z
 |slc sz y l h=>
  simp only[ck] at Z
  split at Z
  ·rename_i t x' lo hi
   simp only[SR] at Z
   obtain⟨⟨⟨h1,h2⟩,E⟩,h4⟩:=Z
   have hy:=ak D h1
   split at h4
   ·rename_i e he
    simp only[SR,S_,S5] at h4
    obtain⟨⟨h5,rfl⟩,h7⟩:=h4
    have u0:∀ (lo:Option Operand) (l:Option SX),jq c.N lo l=true->∀ x y,lo=some x->l=some y->ai w (own c φ) κ (ev σ.s y) (a.eval x):=fun lo l s3 x y e1 e2=>by
     subst e1 e2;simp only[jq] at s3;exact ak D s3
    simp only[rd] at A
    split at A
    ·rename_i rows l' h' B hl hh
     simp only[SN,SU] at A
     obtain⟨rfl,rfl⟩:=A
     rw[B] at hy
     exact CN he h5 rfl h7 hy.d (nH (u0 lo l h2) h2 hl) (nH (u0 hi h E) E hh) Y.1 Y.2.1 Y.2.2.1 Y.2.2.2
    ·rename_i v3 k cs l' h' B hl hh
     split at A
     ·rename_i J r6
      simp only[SN,SU] at A
      obtain⟨rfl,rfl⟩:=A
      rw[B] at hy
      obtain⟨rfl,Y⟩:=Y
      have s2:=ai.toDV _ _ (.slice (eQ (P.cellsOf e) k J)) hy (by simp only[SV.toDV,r6])
      have I:=ff (P.cellsOf e) k J
      have W:∀ r∈eQ (P.cellsOf e) k J,r.length=P.cellsOf e:=by
       simp only[ai] at hy
       obtain⟨b,vs,_,_,_,v6,_,_,v0⟩:=hy
       exact q6 _ k J (by rw[<-(an.toDVs _ _ _ v0 r6).length,v6])
      have:=CN (dst:=dst) (ty:=ty) (pos:=pos) (S:=S) (gd:=gd) (κ:=κ) he h5 rfl h7 s2 (nH (u0 lo l h2) h2 hl) (nH (u0 hi h E) E hh) W Y.1 (by rw[I];exact Y.2.1) (by rw[I];exact Y.2.2)
      rw[I] at this
      exact this
     ·cases A
    ·rename_i l' h' B hl hh
     simp only[SN,SU] at A
     obtain⟨rfl,rfl⟩:=A
     rw[B] at hy
     simp only[ai] at hy
     exact Cc he h5 hy (nH (u0 lo l h2) h2 hl) (nH (u0 hi h E) E hh) Y.1 Y.2
    ·cases A
   ·cases h4
  ·cases Z
 |sslc y l h=>
  simp only[ck] at Z
  split at Z
  ·rename_i t x' lo hi
   simp only[SR] at Z
   obtain⟨⟨⟨h1,h2⟩,E⟩,h4⟩:=Z
   have hy:=ak D h1
   split at h4
   ·rename_i he
    have u0:∀ (lo:Option Operand) (l:Option SX),jq c.N lo l=true->∀ x y,lo=some x->l=some y->ai w (own c φ) κ (ev σ.s y) (a.eval x):=fun lo l s3 x y e1 e2=>by
     subst e1 e2;simp only[jq] at s3;exact ak D s3
    simp only[rd] at A
    split at A
    ·rename_i b l' h' B hl hh
     simp only[SN,SU] at A
     obtain⟨rfl,rfl⟩:=A
     rw[B] at hy
     simp only[ai,aW] at hy
     exact G0 he hy (nH (u0 lo l h2) h2 hl) (nH (u0 hi h E) E hh) Y.1 Y.2.1 Y.2.2
    ·cases A
   ·cases h4
  ·cases Z
 |nilc y=>
  simp only[ck] at Z
  split at Z
  ·have hy:=ak D Z
   simp only[rd] at A
   split at A
   ·rename_i B
    rw[B] at hy
    simp only[SN,SU] at A
    obtain⟨_,rfl⟩:=A
    have s2:=hy
    simp only[ai] at s2
    obtain⟨b,_,hv⟩:=s2
    exact aI (by simp[execOp,hv]) (hv▸hy)
   ·rename_i B
    rw[B] at hy
    simp only[SN,SU] at A
    obtain⟨_,rfl⟩:=A
    have s2:=hy
    simp only[ai] at s2
    obtain⟨b,_,_,_,hv⟩:=s2
    exact aI (by simp[execOp,hv]) (hv▸hy)
   ·rename_i B
    rw[B] at hy
    simp only[SN,SU] at A
    obtain⟨_,rfl⟩:=A
    have s2:=hy
    simp only[ai,aW] at s2
    obtain⟨b,o,hv,_⟩:=s2
    exact aI (by simp[execOp,hv]) (hv▸hy)
   ·cases A
  ·cases Z
 |aidx sz n y j=>
  simp only[ck] at Z
  split at Z
  ·simp only[SR] at Z
   obtain⟨⟨h1,h2⟩,E⟩:=Z
   have hy:=ak D h1
   have hj:=ak D h2
   split at E
   ·rename_i len e he
    simp only[SR,S_] at E
    obtain⟨⟨rfl,h4⟩,rfl⟩:=E
    simp only[rd] at A
    split at A
    ·rename_i id off k i B u1
     rw[B] at hy;rw[u1] at hj
     simp only[ai,aW] at hy hj
     obtain⟨b,r5,hv⟩:=hy
     simp only[SN,SU] at A
     obtain⟨rfl,rfl⟩:=A
     refine aI (v:= .pointer (some ⟨b,off+i.toNat * P.cellsOf e,none⟩)) ?_ (by simp only[ai];exact⟨b,r5,rfl⟩)
     simp[execOp,Instr.indexAt,hj,hv,asIntOf,run_underlying he,Instr.sureAddr,Y,eK h4,gi]
    ·cases A
   ·cases E
  ·cases Z
 |slcP n y l=>
  simp only[ck] at Z
  split at Z
  ·simp only[SR] at Z
   obtain⟨⟨h1,h2⟩,E⟩:=Z
   have hy:=ak D h1
   have hj:=ak D h2
   split at E
   ·rename_i len e he
    simp only[SR,S_] at E
    obtain⟨⟨rfl,h4⟩,h5⟩:=E
    simp only[rd] at A
    split at A
    ·rename_i cs k i B u1
     rw[B] at hy;rw[u1] at hj
     simp only[ai] at hy hj
     unfold aW at hj
     simp only[SN,SU] at A
     obtain⟨rfl,rfl⟩:=A
     exact GY he h4 h5 hy hj Y.1 Y.2.1 Y.2.2
    ·cases A
   ·cases E
  ·cases Z
 |slc3 sz y l h m=>
  simp only[ck] at Z
  split at Z
  ·rename_i t x' lo hi mx
   simp only[SR] at Z
   obtain⟨⟨⟨⟨h1,h2⟩,E⟩,h4⟩,h5⟩:=Z
   have hy:=ak D h1
   have hh:=ak D E
   have u7:=ak D h4
   split at h5
   ·rename_i e he
    simp only[SR,S_,S5] at h5
    obtain⟨⟨h6,rfl⟩,h7⟩:=h5
    have u0:∀ x y,lo=some x->l=some y->ai w (own c φ) κ (ev σ.s y) (a.eval x):=fun x y e1 e2=>by
     subst e1 e2;simp only[jq] at h2;exact ak D h2
    simp only[rd] at A
    split at A
    ·rename_i rows l' k h' k' m' B hl v9 w1
     rw[B] at hy;rw[v9] at hh;rw[w1] at u7
     simp only[ai,aW] at hh u7
     simp only[SN,SU] at A
     obtain⟨rfl,rfl⟩:=A
     exact GZ he h6 rfl hy.d (nH u0 h2 hl) hh u7 Y.1 Y.2.1 Y.2.2.1 Y.2.2.2.1 Y.2.2.2.2
    ·cases A
   ·cases h5
  ·cases Z
 |cvis y=>
  simp only[ck] at Z
  split at Z
  ·simp only[SR] at Z
   obtain⟨⟨h1,h2⟩,E⟩:=Z
   have hy:=ak D h1
   split at h2
   ·rename_i k hs
    split at E
    ·rename_i ht
     simp only[rd] at A
     split at A
     ·rename_i B
      rw[B] at hy
      simp only[ai,aW] at hy
      simp only[SN,SU] at A
      obtain⟨_,rfl⟩:=A
      exact GP hs ht hy
     ·cases A
    ·cases E
   ·cases h2
  ·cases Z
 |cl t ts=>simp[ck] at Z
 |cvsb y=>
  simp only[ck] at Z
  split at Z
  ·simp only[SR] at Z
   obtain⟨⟨h1,h2⟩,E⟩:=Z
   have hy:=ak D h1
   split at h2
   ·rename_i e ht
    split at h2
    ·rename_i he
     split at E
     ·rename_i hs
      simp only[rd] at A
      split at A
      ·rename_i B
       rw[B] at hy
       simp only[ai,aW] at hy
       simp only[SN,SU] at A
       obtain⟨_,rfl⟩:=A
       exact GQ (fun b hb=>D.own_lt hb) hs ht he hy
      ·cases A
     ·cases E
    ·cases h2
   ·cases h2
  ·cases Z
 |cvbs y=>
  simp only[ck] at Z
  split at Z
  ·simp only[SR] at Z
   obtain⟨⟨h1,h2⟩,E⟩:=Z
   have hy:=ak D h1
   split at h2
   ·rename_i e hs
    split at h2
    ·rename_i he
     split at E
     ·rename_i ht
      simp only[rd] at A
      split at A
      ·rename_i rows B
       rw[B] at hy
       split at A
       ·rename_i l hl
        simp only[SN,SU] at A
        obtain⟨_,rfl⟩:=A
        simp only[ai,aW] at hy
        obtain⟨ad,N,hv,_,_,hc⟩:=hy
        refine ob hs he ht ⟨ad,N,by rw[hv,Ac hl], ?_⟩
        rcases hc with rfl|⟨b,o,sz,rfl,_,_,K⟩
        ·simp only[oa,SN] at hl;exact .inl hl.symm
        ·exact .inr ⟨b,o,rfl,(yr hl K).2⟩
       ·cases A
      ·rename_i B
       rw[B] at hy
       simp only[ai] at hy
       simp only[SN,SU] at A
       obtain⟨_,rfl⟩:=A
       exact ob hs he ht ⟨none,0,hy,.inl rfl⟩
      ·rename_i sz n cs B
       rw[B] at hy
       split at A
       ·rename_i l hl
        simp only[SN,SU] at A
        obtain⟨rfl,rfl⟩:=A
        simp only[ai] at hy
        obtain⟨b,vs,hv,_,_,I,_,L,V⟩:=hy
        obtain⟨k1,k2,k3⟩:=vd hl V
        have v7:sz=1:=Y
        subst v7
        refine ob hs he ht ⟨some ⟨b,0,none⟩,n,by rw[hv,<-k2,I,Nat.mul_one],.inr ⟨b,0,rfl,fun j c hj=> ?_⟩⟩
        rw[Tx];exact L j _ (k3 j c hj)
       ·cases A
      ·rename_i id B
       rw[B] at hy
       simp only[ai] at hy
       split at A
       ·rename_i e' sz rows M
        split at A
        ·rename_i l hl
         simp only[SN,SU] at A
         obtain⟨rfl,rfl⟩:=A
         have v7:sz=1:=Y
         subst v7
         have r0:=D.chunks id
         rw[M] at r0
         obtain⟨xs,G,g1,g2,g3,g4,_⟩:=r0
         have v1:rows.flatten.length=rows.length:=by
          have:=iY g3;simpa using this
         have V:=vd hl (ap.to_S _ _ _ (wd hl) g4).1
         obtain⟨k1,k2,k3⟩:=V
         rcases DX D M with⟨v5,rfl⟩|⟨b,N,r5⟩
         ·simp only[List.flatten_nil,jF,SN] at hl
          subst hl
          exact ob hs he ht ⟨none,0,hy.trans v5,.inl rfl⟩
         ·refine ob hs he ht ⟨some ⟨b,0,none⟩,N,by rw[hy,r5,<-v1,k1],.inr ⟨b,0,rfl,fun j c hj=> ?_⟩⟩
          have L:=g1.cells (g:=b) (by rw[r5];rfl) j _ (k3 j c hj)
          rw[gi] at L
          exact L
        ·cases A
       ·cases A
      ·cases A
     ·cases E
    ·cases h2
   ·cases h2
  ·cases Z
 |look kk z ok m k=>
  simp only[ck] at Z
  split at Z
  ·simp only[SR,S_] at Z
   obtain⟨⟨⟨h1,h2⟩,rfl⟩,E⟩:=Z
   have hx:=ak D h1
   have hi:=ak D h2
   split at E
   ·rename_i kt e ht
    simp only[SR,S_] at E
    simp only[rd] at A
    split at A
    ·rename_i id d B u1
     rw[B] at hx
     rw[u1] at hi
     simp only[ai] at hx
     split at A
     ·rename_i v2 kv M
      simp only[SN,SU] at A
      obtain⟨rfl,rfl⟩:=A
      obtain⟨rfl,C,r1⟩:=Y
      have r0:=D.chunks id
      rw[M] at r0
      obtain⟨r,es,s,G,hk,hh,_,s5,_⟩:=r0
      exact GV ht E.1 E.2 (hx.trans hk) hh s5 C r1 hi.d
     ·cases A
    ·cases A
   ·cases E
  ·cases Z
 |eqs b kks y z=>
  simp only[ck] at Z
  split at Z
  ·simp only[SR,S_,TI] at Z
   obtain⟨⟨⟨⟨⟨rfl,h1⟩,h2⟩,E⟩,h4⟩,h5⟩:=Z
   split at E
   ·rename_i O ht
    simp only[rd] at A
    split at A
    ·rename_i cs J hy hz
     have hx:=ai.toDV _ _ _ (ak D h1) hy
     have H:=ai.toDV _ _ _ (ak D h2) hz
     split at A
     ·rename_i q hq
      split at A
      ·simp only[SN,SU] at A
       obtain⟨_,rfl⟩:=A
       exact CM ht h4 h5 E hx H hq (.inl rfl)
      ·simp only[SN,SU] at A
       obtain⟨_,rfl⟩:=A
       exact CM ht h4 h5 E hx H hq (.inr rfl)
      ·cases A
     ·cases A
    ·cases A
   ·cases E
  ·cases Z
end
end Go.Proofs.YtgmnipfafmphaaaGreatDoor

