/-
  My text.
-/
import Derived.Test.YtgmnipfafmphaaaGreatDoorSXEngI
namespace Go.Proofs.YtgmnipfafmphaaaGreatDoor
set_option linter.unusedVariables false
open Go.RowKit
variable {F:List Nat} {ch:Ch} {d:DV} {g id:Nat} {m:bH} {mk:Nat->SV} {u:Value} {x:SV}
def vY (m:bH) (d:DV):SV:=
 match m with
 | .sh=> .d d
 | .sl e ms=> .own (.sl e ms) d
 | .pt ms=> .own (.pt ms) d
 | .mp kk m=> .own (.mp kk m) d
 | .bld T e=> .own (.bld T e) d
def bA (ms:List bH) (J:List DV):List SV:=List.zipWith vY ms J
def cP:bH->DV->Option (Ch×(Nat->SV))
 | .sl e ms,.slice rows=>some (.vec e ms.length (rows.map (bA ms)),.vec)
 | .pt ms,.ptr cs=>some (.box (bA ms cs),fun id=> .ref id 0)
 | .mp kk m,.map ks vs=>some (.map kk (ks.zip (vs.map (vY m))),.mp)
 | .bld T e,.str bs=>some (.bld T e bs,fun id=> .ref id 0)
 |_,_=>none
section
variable {w:World} {M:Nat->Prop} {κ:Nat->Value}
theorem zg:aT w M κ (vY m d) u F↔f8 w M m d u F:=by
 cases m with
 |sh=>simp only[vY,aT,al,f8]
 |_=>simp only[vY,aT]
theorem rQ:∀ {ms:List bH} {J:List DV} {X:List Value} {F:List Nat},J.length=ms.length->(az w M κ (bA ms J) X F↔f2 w M ms J X F)
 |[],J,X,F,h=>by
  have:J=[]:=Vx.1 h
  subst this
  simp[bA,az,f2]
 |m::ms,[],X,F,h=>by simp at h
 |m::ms,d::J,X,F,h=>by
  have ih:=fun X F=>rQ (ms:=ms) (J:=J) (X:=X) (F:=F) (by simpa using h)
  unfold bA at *
  simp only[Xf,az,f2]
  constructor
  ·rintro⟨u,g,N,R,rfl,rfl,h1,h2⟩
   exact⟨d,J,u,g,N,R,rfl,rfl,rfl,zg.1 h1,(ih g R).1 h2⟩
  ·rintro⟨d',i,u,g,N,R,h0,rfl,rfl,h1,h2⟩
   simp only[V9] at h0
   obtain⟨rfl,rfl⟩:=h0
   exact⟨u,g,N,R,rfl,rfl,zg.2 h1,(ih g R).2 h2⟩
theorem HZ {ms:List bH} {J:List DV} (h:J.length=ms.length):(bA ms J).length=ms.length:=by simp[bA,h]
theorem p5 {ms:List bH}:∀ {rows:List (List DV)} {xs:List Value} {G:List Nat},(∀ r∈rows,r.length=ms.length)->(az w M κ (rows.map (bA ms)).flatten xs G↔gW (fun r ys G'=>f2 w M ms r ys G') rows xs G)
 |[],xs,G,_=>by simp[az,gW]
 |r::rows,xs,G,h=>by
  have D:=h r oS
  have ih:=fun xs G=>p5 (rows:=rows) (xs:=xs) (G:=G) (fun r D=>h r (by simp[D]))
  simp only[VF,V4,gW]
  constructor
  ·intro L
   obtain⟨G1,G2,rfl,h1,h2⟩:=L.split
   exact⟨_,_,G1,G2,(VH _ _).symm,rfl,(rQ D).1 h1,(ih _ _).1 h2⟩
  ·rintro⟨ys,zs,G1,G2,rfl,rfl,h1,h2⟩
   exact((rQ D).2 h1).append ((ih _ _).2 h2)
theorem yr {kk:KK} {m:bH}:∀ {ks vs:List DV} {es:List MapEntry} {G:List Nat},vs.length=ks.length->(bQ w M κ kk (ks.zip (vs.map (vY m))) es G↔rK (fun d v G'=>f8 w M m d v G') kk ks vs es G)
 |[],vs,es,G,h=>by
  have:vs=[]:=Vx.1 h
  subst this
  simp[bQ,rK]
 |k::ks,[],es,G,h=>by simp at h
 |k::ks,d::vs,es,G,h=>by
  have ih:=fun es G=>yr (kk:=kk) (m:=m) (ks:=ks) (vs:=vs) (es:=es) (G:=G) (by simpa using h)
  simp only[VF,List.zip_cons_cons,bQ,rK]
  constructor
  ·rintro⟨e,z,N,R,rfl,rfl,h1,h2,E,h4⟩
   exact⟨d,vs,e,z,N,R,rfl,rfl,rfl,h1,h2,zg.1 E,(ih _ _).1 h4⟩
  ·rintro⟨d',A,e,z,N,R,h0,rfl,rfl,h1,h2,E,h4⟩
   simp only[V9] at h0
   obtain⟨rfl,rfl⟩:=h0
   exact⟨e,z,N,R,rfl,rfl,h1,h2,zg.2 E,(ih _ _).2 h4⟩
theorem rK.len {R:DV->Value->List Nat->Prop} {kk:KK}:∀ {ks vs:List DV} {es:List MapEntry} {G:List Nat},rK R kk ks vs es G->vs.length=ks.length
 |[],vs,es,G,h=>by simp[rK] at h;simp[h]
 |k::ks,vs,es,G,h=>by
  simp only[rK] at h
  obtain⟨d,i,e,g,G1,G2,rfl,_,_,_,_,_,h6⟩:=h
  simp[rK.len h6]
theorem f2.len:∀ {ms:List bH} {J:List DV} {vs:List Value} {F:List Nat},f2 w M ms J vs F->J.length=ms.length
 |[],J,vs,F,h=>by simp[f2] at h;simp[h]
 |m::ms,J,vs,F,h=>by
  simp only[f2] at h
  obtain⟨d,i,v,A,N,R,rfl,_,_,_,h4⟩:=h
  simp[f2.len h4]
def gm:bH->DV->Prop
 | .sl _ ms,.slice rows=>∀ r∈rows,r.length=ms.length
 | .pt ms,.ptr cs=>cs.length=ms.length
 | .mp _ _,.map ks vs=>vs.length=ks.length
 |_,_=>True
theorem rR (hs:gm m d) (h:cP m d=some (ch,mk)) (hk:κ id=u):lV w M κ id ch F↔f8 w M m d u F:=by
 subst hk
 unfold cP at h
 split at h
 ·rename_i e ms rows
  simp only[Vi,Vm] at h
  obtain⟨rfl,rfl⟩:=h
  simp only[gm] at hs
  simp only[lV,f8]
  constructor
  ·rintro⟨xs,G,h1,h2,E,h4,rfl⟩
   exact⟨rows,xs,G,rfl,by simpa using h1,h2,hs,(p5 hs).1 h4,rfl⟩
  ·rintro⟨f,xs,G,h0,h1,h2,E,h4,rfl⟩
   simp only[DV.slice.injEq] at h0;subst h0
   exact⟨xs,G,by simpa using h1,h2,fun r D=>by
    obtain⟨q,hq,rfl⟩:=VT.1 D
    exact HZ (hs q hq),(p5 hs).2 h4,rfl⟩
 ·rename_i ms cs
  simp only[Vi,Vm] at h
  obtain⟨rfl,rfl⟩:=h
  simp only[gm] at hs
  simp only[lV,f8]
  constructor
  ·rintro⟨b,T,vs,G,h1,h2,E,h4,rfl⟩
   exact⟨cs,b,T,vs,G,rfl,h1,h2,E,(rQ hs).1 h4,rfl⟩
  ·rintro⟨C,b,T,vs,G,h0,h1,h2,E,h4,rfl⟩
   simp only[DV.ptr.injEq] at h0;subst h0
   exact⟨b,T,vs,G,h1,h2,E,(rQ hs).2 h4,rfl⟩
 ·rename_i kk m ks vs
  simp only[Vi,Vm] at h
  obtain⟨rfl,rfl⟩:=h
  simp only[gm] at hs
  simp only[lV,f8]
  constructor
  ·rintro⟨r,es,K,G,h1,h2,hB,E,rfl⟩
   exact⟨ks,vs,r,es,K,G,rfl,h1,h2,hB,(yr hs).1 E,rfl⟩
  ·rintro⟨i,A,r,es,K,G,h0,h1,h2,hB,E,rfl⟩
   simp only[DV.map.injEq] at h0;obtain⟨rfl,rfl⟩:=h0
   exact⟨r,es,K,G,h1,h2,hB,(yr hs).2 E,rfl⟩
 ·rename_i T e bs
  simp only[Vi,Vm] at h
  obtain⟨rfl,rfl⟩:=h
  simp only[lV,f8]
  constructor
  ·exact fun h=>⟨bs,rfl,h⟩
  ·rintro⟨j,h0,h1⟩
   simp only[DV.str.injEq] at h0;subst h0
   exact h1
 ·cases h
theorem f8.shape (h:f8 w M m d u F):gm m d:=by
 cases m with
 |sh=>simp[gm]
 |sl e ms=>
  simp only[f8] at h
  obtain⟨rows,xs,G,rfl,_,_,E,_⟩:=h
  exact E
 |pt ms=>
  simp only[f8] at h
  obtain⟨cs,b,T,vs,G,rfl,_,_,_,h4,_⟩:=h
  exact h4.len
 |mp kk m=>
  simp only[f8] at h
  obtain⟨ks,J,r,es,K,G,rfl,_,_,_,h4,_⟩:=h
  exact h4.len
 |bld T e=>simp[gm]
theorem Db (h:f8 w M m d u F) (ho:cP m d=some (ch,mk)):u.oneCell'=true/\∀ (κ:Nat->Value) (id:Nat),κ id=u->al w M κ (mk id) u:=by
 unfold cP at ho
 split at ho
 ·simp only[Vi,Vm] at ho
  obtain⟨rfl,rfl⟩:=ho
  simp only[f8] at h
  obtain⟨f,xs,G,_,h1,_⟩:=h
  refine⟨?_,fun κ id hk=>by simp only[al];exact hk.symm⟩
  rcases h1.2 with⟨rfl,_⟩|⟨g,N,I,rfl,_⟩<;>rfl
 ·simp only[Vi,Vm] at ho
  obtain⟨rfl,rfl⟩:=ho
  simp only[f8] at h
  obtain⟨C,b,T,vs,G,_,rfl,_⟩:=h
  exact⟨rfl,fun κ id hk=>by simp only[al];exact⟨b,hk,rfl⟩⟩
 ·simp only[Vi,Vm] at ho
  obtain⟨rfl,rfl⟩:=ho
  simp only[f8] at h
  obtain⟨i,A,r,es,K,G,_,rfl,_⟩:=h
  exact⟨rfl,fun κ id hk=>by simp only[al];exact hk.symm⟩
 ·simp only[Vi,Vm] at ho
  obtain⟨rfl,rfl⟩:=ho
  simp only[f8] at h
  obtain⟨j,_,b,p,n,rfl,_⟩:=h
  exact⟨rfl,fun κ id hk=>by simp only[al];exact⟨b,hk,rfl⟩⟩
 ·cases ho
end
inductive Pt where
 |b (off:Nat)
 |v (i off:Nat)
 |m (k:DV)
variable {p:Pt}
def mm:Ch->Pt->Option SV
 | .box cs,.b off=>cs[off]?
 | .vec _ _ rows,.v i off=>match rows[i]? with|some r=>r[off]?|none=>none
 | .map _ kv,.m k=>po kv k
 |_,_=>none
def ux (x:SV):Ch->Pt->Ch
 | .box cs,.b off=> .box (cs.set off x)
 | .vec e sz rows,.v i off=>match rows[i]? with|some r=> .vec e sz (rows.set i (r.set off x))|none=> .vec e sz rows
 | .map kk kv,.m k=> .map kk (pq kv k x)
 |c,_=>c
theorem H0 (id:Nat) (o:DV):∀ (xs:List (List SV)) (i:Nat),(dz id o xs)[i]?=(xs[i]?).map (ck id o)
 |[],i=>by simp[dz]
 |x::xs,0=>by simp[dz]
 |x::xs,i+1=>by simp[dz,H0 id o xs i]
theorem Dc (id:Nat) (o:DV) (y:SV):∀ (xs:List SV) (i:Nat),(ck id o xs).set i (d6 id o y)=ck id o (xs.set i y)
 |[],i=>by simp[ck]
 |x::xs,0=>by simp[ck]
 |x::xs,i+1=>by simp[ck,Dc id o y xs i]
section
variable {w:World} {M:Nat->Prop} {κ:Nat->Value}
theorem az.focus {cs:List SV} {vs:List Value} {i:Nat} (h:az w M κ cs vs F) (hx:cs[i]?=some x):
  ∃ u N j R,F=N++(j++R)/\aT w M κ x u j/\∀ (M':Nat->Prop) (W:Nat->Value) (g:Nat) (o:DV) (v:Value),mG w M w M'->W=ap κ g v->bf w M' o (κ g)->∀ x' F',aT w M' W x' u F'->az w M' W ((ck g o cs).set i x') vs (N++(F'++R)):=by
 have h9:=(Vr.1 hx).1
 have hc:cs=cs.take i++(x::cs.drop (i+1)):=by
  conv=>lhs;rw[<-VH i cs,WC h9,(Vr.1 hx).2]
 have hl:=h.length
 rw[hc] at h
 obtain⟨N,F',rfl,h1,h2⟩:=h.split
 unfold az at h2
 obtain⟨u,X,j,R,hv,rfl,E,h4⟩:=h2
 refine⟨u,N,j,R,rfl,E,fun M' W g o v Q l hd x' F' r3=> ?_⟩
 subst l
 have e1:(ck g o cs).set i x'=ck g o (cs.take i)++(x'::ck g o (cs.drop (i+1))):=by
  have I:(ck g o (cs.take i)).length=i:=by rw[nM,VA];omega
  conv=>lhs;rw[hc]
  rw[vU,ck,We _ _ oM]
  simp[I]
 rw[e1]
 have e2:vs=vs.take (cs.take i).length++(u::X):=by rw[<-hv,VH]
 rw[e2]
 refine(za Q hd _ _ _ (fun _ _=>rfl) h1).append ?_
 unfold az
 exact⟨u,X,F',R,rfl,rfl,r3,za Q hd _ _ _ (fun _ _=>rfl) h4⟩
theorem bQ.focus {kk:KK} {k:DV} {x:SV}:∀ {kv:List (DV×SV)} {es:List MapEntry} {F:List Nat},bQ w M κ kk kv es F->po kv k=some x->
  ∃ u N j R,F=N++(j++R)/\aT w M κ x u j/\∀ (M':Nat->Prop) (W:Nat->Value) (g:Nat) (o:DV) (v:Value),mG w M w M'->W=ap κ g v->bf w M' o (κ g)->∀ x' F',aT w M' W x' u F'->bQ w M' W kk (pq (vT g o kv) k x') es (N++(F'++R))
 |[],es,F,h,L=>by simp[po] at L
 |(k',y)::kv,es,F,h,L=>by
  unfold bQ at h
  obtain⟨e,z,p,q,rfl,rfl,h1,h2,E,h4⟩:=h
  simp only[po] at L
  split at L
  ·rename_i B
   simp only[Vi] at L;subst L
   have f:k_ k=k_ k'/\kk.fits k=kk.fits k':=by
    cases k<;>cases k'<;>simp_all [y3,k_]
   refine⟨e.val,[],p,q,rfl,E,fun M' W g o v Q l hd x' F' r3=> ?_⟩
   subst l
   simp only[vT,pq,B,VW,VC]
   unfold bQ
   exact⟨e,z,F',q,rfl,rfl,by rw[f.2];exact h1,by rw[f.1];exact h2,r3,CY Q hd _ _ _ (fun _ _=>rfl) h4⟩
  ·rename_i U
   simp only[WK] at U
   obtain⟨u,N,j,R,rfl,k1,k2⟩:=bQ.focus h4 L
   refine⟨u,p++N,j,R,by simp,k1,fun M' W g o v Q l hd x' F' r3=> ?_⟩
   have:=k2 M' W g o v Q l hd x' F' r3
   subst l
   simp only[vT,pq,U,Vw,VQ]
   unfold bQ
   exact⟨e,z,p,N++(F'++R),rfl,by simp,h1,h2,M1 Q hd _ _ _ (fun _ _=>rfl) E,this⟩
theorem Bm {α:Type} {sz:Nat} {x:α}:∀ {rows:List (List α)} {i off:Nat} {r:List α},(∀ q∈rows,q.length=sz)->rows[i]?=some r->off<r.length->(rows.set i (r.set off x)).flatten=rows.flatten.set (i * sz+off) x
 |[],i,off,r,_,h,_=>by simp at h
 |q::rows,0,off,r,W,h,h9=>by
  simp at h;subst h
  simp only[Xi,V4,XL,VD]
  rw[List.set_append_left _ _ h9]
 |q::rows,i+1,off,r,W,h,h9=>by
  have hq:=W q oS
  simp only[List.set_cons_succ,V4]
  rw[Bm (fun q hq=>W q (by simp[hq])) (by simpa using h) h9,We _ _ (by rw[WA];omega)]
  congr 2
  rw[WA];omega
theorem Bn {α:Type} {sz:Nat}:∀ {rows:List (List α)} {i off:Nat} {r:List α} {x:α},(∀ q∈rows,q.length=sz)->rows[i]?=some r->r[off]?=some x->rows.flatten[i * sz+off]?=some x
 |[],i,off,r,x,_,h,_=>by simp at h
 |q::rows,0,off,r,x,W,h,hx=>by
  simp at h;subst h
  rw[V4,XL,VD,V7 (Vr.1 hx).1];exact hx
 |q::rows,i+1,off,r,x,W,h,hx=>by
  have hq:=W q oS
  rw[V4,VP (by rw[WA];omega)]
  rw[show(i+1) * sz+off - q.length=i * sz+off by rw[WA];omega]
  exact Bn (fun q hq=>W q (by simp[hq])) (by simpa using h) hx
theorem lV.focus (h:lV w M κ id ch F) (hx:mm ch p=some x):
  ∃ u N j R,F=N++(j++R)/\aT w M κ x u j/\∀ (M':Nat->Prop) (W:Nat->Value) (g:Nat) (o:DV) (v:Value),id≠g->mG w M w M'->W=ap κ g v->bf w M' o (κ g)->∀ x' F',aT w M' W x' u F'->lV w M' W id (ux x' (mj g o ch) p) (N++(F'++R)):=by
 cases ch with
 |dead=>simp[mm] at hx
 |box cs=>
  cases p with
  |b off=>
   simp only[mm] at hx
   obtain⟨b,T,vs,G,h1,h2,E,h4,rfl⟩:=h
   obtain⟨u,N,j,R,rfl,k1,k2⟩:=h4.focus hx
   refine⟨u,b::N,j,R,rfl,k1,fun M' W g o v U Q l hd x' F' r3=> ?_⟩
   have:=k2 M' W g o v Q l hd x' F' r3
   exact⟨b,T,vs,_,by rw[l,bh _ _ _ _ U];exact h1,h2,E,this,rfl⟩
  |v i off=>simp[mm] at hx
  |m k=>simp[mm] at hx
 |vec e sz rows=>
  cases p with
  |v i off=>
   simp only[mm] at hx
   split at hx
   ·rename_i r D
    obtain⟨xs,G,h1,h2,E,h4,rfl⟩:=h
    obtain⟨u,N,j,R,rfl,k1,k2⟩:=h4.focus (Bn E D hx)
    refine⟨u,gT (κ id)++N,j,R,by simp,k1,fun M' W g o v U Q l hd x' F' r3=> ?_⟩
    have:=k2 M' W g o v Q l hd x' F' r3
    have S:W id=κ id:=by rw[l,bh _ _ _ _ U]
    have h8:(dz g o rows)[i]?=some (ck g o r):=by rw[H0,D];rfl
    have d:=tN g o sz rows E
    simp only[mj,ux,h8]
    refine⟨xs,N++(F'++R),by rw[S,XI,kM];exact h1,h2,fun q hq=> ?_, ?_,by rw[S];simp⟩
    ·rcases List.mem_or_eq_of_mem_set hq with h|h
     ·exact d q h
     ·subst h;rw[XI,nM];exact E r (Vq D)
    ·rw[Bm d h8 (by rw[nM];exact(Vr.1 hx).1),ml]
     exact this
   ·cases hx
  |b off=>simp[mm] at hx
  |m k=>simp[mm] at hx
 |map kk kv=>
  cases p with
  |m k=>
   simp only[mm] at hx
   obtain⟨r,es,K,G,h1,h2,hB,E,rfl⟩:=h
   obtain⟨u,N,j,R,rfl,k1,k2⟩:=E.focus hx
   refine⟨u,r::N,j,R,rfl,k1,fun M' W g o v U Q l hd x' F' r3=> ?_⟩
   have:=k2 M' W g o v Q l hd x' F' r3
   exact⟨r,es,K,_,by rw[l,bh _ _ _ _ U];exact h1,h2,hB,this,rfl⟩
  |b off=>simp[mm] at hx
  |v i off=>simp[mm] at hx
 |bld T e bs=>cases p<;>simp[mm] at hx
end
def uy (σ:St) (id:Nat) (p:Pt) (g:Nat):Option St:=
 match mm (σ.h id) p with
 |some (.own m d)=>match cP m d with
  |some (ch,mk)=>some ⟨bG g .any σ.s,ap (ap (bK g .any σ.h) id (ux (mk g) (mj g .any (σ.h id)) p)) g ch⟩
  |none=>none
 |_=>none
def hR (σ:St) (id:Nat) (p:Pt) (g:Nat) (m:bH) (d:DV):St:=
 ⟨bG g .any σ.s,ap (ap (bK g .any σ.h) id (ux (.own m d) (mj g .any (σ.h id)) p)) g .dead⟩
section
variable {c:Cx} {σ:St} {κ:Nat->Value} {φ:Nat->List Nat} {a:Act} {w:World}
theorem dp.openAt (D:dp c σ κ φ a w) {O:St} (U:id≠g) (h:uy σ id p g=some O):∃ W h7,dp c O W h7 a w:=by
 unfold uy at h
 split at h
 ·rename_i m d L
  split at h
  ·rename_i ch mk ho
   simp only[Vi] at h;subst h
   obtain⟨u,N,j,R,r4,hx,I⟩:=(D.chunks id).focus L
   simp only[aT] at hx
   obtain⟨r1,r9⟩:=Db hx ho
   have r3:=D.nod id
   rw[r4] at r3
   obtain⟨o,V,t⟩:=V6.1 r3
   obtain⟨e,C,f⟩:=V6.1 V
   refine⟨ap κ g u,_,D.two (G:=N++([]++R)) (G':=j) U r1 ?_ ?_ ?_ e ?_ (by unfold bf;trivial) (fun Q=> ?_) (fun Q=> ?_)⟩
   ·intro b hb;left;rw[r4];simp at hb⊢;rcases hb with h|h<;>simp[h]
   ·intro b hb;left;rw[r4];simp[hb]
   ·simp only[VC]
    exact V6.2 ⟨o,C,fun x hx y hy=>t x hx y (by simp[hy])⟩
   ·intro b hb z
    simp at hb
    rcases hb with h|h
    ·exact t b h b (by simp[z]) rfl
    ·exact f b z b h rfl
   ·exact I _ _ g .any u U Q rfl (by unfold bf;trivial) (mk g) [] (aT.of_S _ _ ((r9 (ap κ g u) g (by rw[aC])).ext Q))
   ·exact(rR hx.shape ho (by rw[aC])).2 (f8.ext Q _ _ _ _ (fun _ _=>rfl) hx)
  ·cases h
 ·cases h
theorem GG {M:Nat->Prop} (ho:cP m d=some (ch,mk)) (hs:aT w M κ (mk id) u F) (hc:lV w M κ id ch (φ id)):κ id=u/\F=[]:=by
 unfold cP at ho
 split at ho
 ·simp only[Vi,Vm] at ho
  obtain⟨rfl,rfl⟩:=ho
  simp only[aT,al] at hs
  exact⟨hs.2.symm,hs.1⟩
 ·simp only[Vi,Vm] at ho
  obtain⟨rfl,rfl⟩:=ho
  simp only[aT,al] at hs
  obtain⟨rfl,b,h1,h2⟩:=hs
  exact⟨h1.trans h2.symm,rfl⟩
 ·simp only[Vi,Vm] at ho
  obtain⟨rfl,rfl⟩:=ho
  simp only[aT,al] at hs
  exact⟨hs.2.symm,hs.1⟩
 ·simp only[Vi,Vm] at ho
  obtain⟨rfl,rfl⟩:=ho
  simp only[aT,al] at hs
  obtain⟨rfl,b,h1,h2⟩:=hs
  exact⟨h1.trans h2.symm,rfl⟩
 ·cases ho
theorem dp.closeAt (D:dp c σ κ φ a w) (U:id≠g) (ho:cP m d=some (ch,mk)) (i:gm m d) (L:mm (σ.h id) p=some (mk g)) (hh:σ.h g=ch):∃ W h7,dp c (hR σ id p g m d) W h7 a w:=by
 obtain⟨u,N,j,R,r4,hx,I⟩:=(D.chunks id).focus L
 have H:=D.chunks g
 rw[hh] at H
 obtain⟨k,rfl⟩:=GG (φ:=φ) ho hx H
 have hO:=(rR i ho k).1 H
 have r3:=D.nod id
 rw[r4] at r3
 simp only[VC] at r4 r3
 obtain⟨o,V,t⟩:=V6.1 r3
 have f:∀ b,b∈φ g->b∉N/\b∉R:=fun b hb=>⟨fun h=>D.sep id g b U (by rw[r4];simp[h]) hb,fun h=>D.sep id g b U (by rw[r4];simp[h]) hb⟩
 unfold hR
 refine⟨ap κ g (.pointer none),_,D.two (G:=N++(φ g++R)) (G':=[]) U rfl ?_ oS ?_ oS oS (by unfold bf;trivial) (fun Q=> ?_) (fun Q=>rfl)⟩
 ·intro b hb
  simp at hb
  rcases hb with h|h|h
  ·left;rw[r4];simp[h]
  ·exact .inr h
  ·left;rw[r4];simp[h]
 ·refine V6.2 ⟨o,V6.2 ⟨D.nod g,V,fun x hx y hy e=>(f x hx).2 (e▸hy)⟩,fun x hx y hy e=> ?_⟩
  subst e
  rcases VM.1 hy with h|h
  ·exact(f x h).1 hx
  ·exact t x hx x h rfl
 ·refine I _ _ g .any (.pointer none) U Q rfl (by unfold bf;trivial) (.own m d) (φ g) ?_
  simp only[aT]
  exact f8.ext Q _ _ _ _ (fun _ _=>rfl) hO
end
