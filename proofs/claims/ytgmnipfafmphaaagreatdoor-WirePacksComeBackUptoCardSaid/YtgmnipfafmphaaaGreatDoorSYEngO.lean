/-
  My text.
-/
import Derived.Test.YtgmnipfafmphaaaGreatDoorSYEngI
namespace Go.Proofs.YtgmnipfafmphaaaGreatDoor
set_option linter.unusedSimpArgs false
set_option linter.unusedVariables false
open Go.RowKit
variable {F:List Nat} {ch:Ch} {d:DV} {g id:Nat} {m:bj} {mk:Nat->SV} {u:Value} {x:SV}
def sJ (m:bj) (d:DV):SV:=
 match m with
 | .sh=> .d d
 | .sl e ms=> .own (.sl e ms) d
 | .pt ms=> .own (.pt ms) d
 | .mp kk m=> .own (.mp kk m) d
 | .bld T e=> .own (.bld T e) d
def bi (ms:List bj) (J:List DV):List SV:=List.zipWith sJ ms J
def cf:bj->DV->Option (Ch×(Nat->SV))
 | .sl e ms,.slice rows=>some (.vec e ms.length (rows.map (bi ms)),.vec)
 | .pt ms,.ptr cs=>some (.box (bi ms cs),fun id=> .ref id 0)
 | .mp kk m,.map ks vs=>some (.map kk (ks.zip (vs.map (sJ m))),.mp)
 | .bld T e,.str bs=>some (.bld T e bs,fun id=> .ref id 0)
 |_,_=>none
section
variable {w:World} {M:Nat->Prop} {κ:Nat->Value}
theorem wl:aO w M κ (sJ m d) u F↔eO w M m d u F:=by
 cases m with
 |sh=>simp only[sJ,aO,ai,eO]
 |_=>simp only[sJ,aO]
theorem oe:∀ {ms:List bj} {J:List DV} {R:List Value} {F:List Nat},J.length=ms.length->(ap w M κ (bi ms J) R F↔eI w M ms J R F)
 |[],J,R,F,h=>by
  have:J=[]:=Ta.1 h
  subst this
  simp[bi,ap,eI]
 |m::ms,[],R,F,h=>by simp at h
 |m::ms,d::J,R,F,h=>by
  have ih:=fun R F=>oe (ms:=ms) (J:=J) (R:=R) (F:=F) (by simpa using h)
  unfold bi at *
  simp only[UN,ap,eI]
  constructor
  ·rintro⟨u,g,W,F2,rfl,rfl,h1,h2⟩
   exact⟨d,J,u,g,W,F2,rfl,rfl,rfl,wl.1 h1,(ih g F2).1 h2⟩
  ·rintro⟨d',i,u,g,W,F2,h0,rfl,rfl,h1,h2⟩
   simp only[TG] at h0
   obtain⟨rfl,rfl⟩:=h0
   exact⟨u,g,W,F2,rfl,rfl,wl.2 h1,(ih g F2).2 h2⟩
theorem Fz {ms:List bj} {J:List DV} (h:J.length=ms.length):(bi ms J).length=ms.length:=by simp[bi,h]
theorem mZ {ms:List bj}:∀ {rows:List (List DV)} {xs:List Value} {G:List Nat},(∀ r∈rows,r.length=ms.length)->(ap w M κ (rows.map (bi ms)).flatten xs G↔fE (fun r ys G'=>eI w M ms r ys G') rows xs G)
 |[],xs,G,_=>by simp[ap,fE]
 |r::rows,xs,G,h=>by
  have D:=h r oS
  have ih:=fun xs G=>mZ (rows:=rows) (xs:=xs) (G:=G) (fun r D=>h r (by simp[D]))
  simp only[Tc,TF,fE]
  constructor
  ·intro hg
   obtain⟨G1,G2,rfl,h1,h2⟩:=hg.split
   exact⟨_,_,G1,G2,(Tl _ _).symm,rfl,(oe D).1 h1,(ih _ _).1 h2⟩
  ·rintro⟨ys,zs,G1,G2,rfl,rfl,h1,h2⟩
   exact((oe D).2 h1).append ((ih _ _).2 h2)
theorem vl {kk:KK} {m:bj}:∀ {ks vs:List DV} {es:List MapEntry} {G:List Nat},vs.length=ks.length->(bJ w M κ kk (ks.zip (vs.map (sJ m))) es G↔n9 (fun d v G'=>eO w M m d v G') kk ks vs es G)
 |[],vs,es,G,h=>by
  have:vs=[]:=Ta.1 h
  subst this
  simp[bJ,n9]
 |k::ks,[],es,G,h=>by simp at h
 |k::ks,d::vs,es,G,h=>by
  have ih:=fun es G=>vl (kk:=kk) (m:=m) (ks:=ks) (vs:=vs) (es:=es) (G:=G) (by simpa using h)
  simp only[Tc,List.zip_cons_cons,bJ,n9]
  constructor
  ·rintro⟨e,z,W,F2,rfl,rfl,h1,h2,E,h4⟩
   exact⟨d,vs,e,z,W,F2,rfl,rfl,rfl,h1,h2,wl.1 E,(ih _ _).1 h4⟩
  ·rintro⟨d',A,e,z,W,F2,h0,rfl,rfl,h1,h2,E,h4⟩
   simp only[TG] at h0
   obtain⟨rfl,rfl⟩:=h0
   exact⟨e,z,W,F2,rfl,rfl,h1,h2,wl.2 E,(ih _ _).2 h4⟩
theorem n9.len {R:DV->Value->List Nat->Prop} {kk:KK}:∀ {ks vs:List DV} {es:List MapEntry} {G:List Nat},n9 R kk ks vs es G->vs.length=ks.length
 |[],vs,es,G,h=>by simp[n9] at h;simp[h]
 |k::ks,vs,es,G,h=>by
  simp only[n9] at h
  obtain⟨d,i,e,g,G1,G2,rfl,_,_,_,_,_,h6⟩:=h
  simp[n9.len h6]
theorem eI.len:∀ {ms:List bj} {J:List DV} {vs:List Value} {F:List Nat},eI w M ms J vs F->J.length=ms.length
 |[],J,vs,F,h=>by simp[eI] at h;simp[h]
 |m::ms,J,vs,F,h=>by
  simp only[eI] at h
  obtain⟨d,i,v,A,W,F2,rfl,_,_,_,h4⟩:=h
  simp[eI.len h4]
def eZ:bj->DV->Prop
 | .sl _ ms,.slice rows=>∀ r∈rows,r.length=ms.length
 | .pt ms,.ptr cs=>cs.length=ms.length
 | .mp _ _,.map ks vs=>vs.length=ks.length
 |_,_=>True
theorem og (hs:eZ m d) (h:cf m d=some (ch,mk)) (hk:κ id=u):jo w M κ id ch F↔eO w M m d u F:=by
 subst hk
 unfold cf at h
 split at h
 ·rename_i e ms rows
  simp only[SN,SU] at h
  obtain⟨rfl,rfl⟩:=h
  simp only[eZ] at hs
  simp only[jo,eO]
  constructor
  ·rintro⟨xs,G,h1,h2,E,h4,rfl⟩
   exact⟨rows,xs,G,rfl,by simpa using h1,h2,hs,(mZ hs).1 h4,rfl⟩
  ·rintro⟨f,xs,G,h0,h1,h2,E,h4,rfl⟩
   simp only[DV.slice.injEq] at h0;subst h0
   exact⟨xs,G,by simpa using h1,h2,fun r D=>by
    obtain⟨q,hq,rfl⟩:=Tp.1 D
    exact Fz (hs q hq),(mZ hs).2 h4,rfl⟩
 ·rename_i ms cs
  simp only[SN,SU] at h
  obtain⟨rfl,rfl⟩:=h
  simp only[eZ] at hs
  simp only[jo,eO]
  constructor
  ·rintro⟨b,T,vs,G,h1,h2,E,h4,rfl⟩
   exact⟨cs,b,T,vs,G,rfl,h1,h2,E,(oe hs).1 h4,rfl⟩
  ·rintro⟨C,b,T,vs,G,h0,h1,h2,E,h4,rfl⟩
   simp only[DV.ptr.injEq] at h0;subst h0
   exact⟨b,T,vs,G,h1,h2,E,(oe hs).2 h4,rfl⟩
 ·rename_i kk m ks vs
  simp only[SN,SU] at h
  obtain⟨rfl,rfl⟩:=h
  simp only[eZ] at hs
  simp only[jo,eO]
  constructor
  ·rintro⟨r,es,s,G,h1,h2,hB,E,rfl⟩
   exact⟨ks,vs,r,es,s,G,rfl,h1,h2,hB,(vl hs).1 E,rfl⟩
  ·rintro⟨i,A,r,es,s,G,h0,h1,h2,hB,E,rfl⟩
   simp only[DV.map.injEq] at h0;obtain⟨rfl,rfl⟩:=h0
   exact⟨r,es,s,G,h1,h2,hB,(vl hs).2 E,rfl⟩
 ·rename_i T e bs
  simp only[SN,SU] at h
  obtain⟨rfl,rfl⟩:=h
  simp only[jo,eO]
  constructor
  ·exact fun h=>⟨bs,rfl,h⟩
  ·rintro⟨j,h0,h1⟩
   simp only[DV.str.injEq] at h0;subst h0
   exact h1
 ·cases h
theorem eO.shape (h:eO w M m d u F):eZ m d:=by
 cases m with
 |sh=>simp[eZ]
 |sl e ms=>
  simp only[eO] at h
  obtain⟨rows,xs,G,rfl,_,_,E,_⟩:=h
  exact E
 |pt ms=>
  simp only[eO] at h
  obtain⟨cs,b,T,vs,G,rfl,_,_,_,h4,_⟩:=h
  exact h4.len
 |mp kk m=>
  simp only[eO] at h
  obtain⟨ks,J,r,es,s,G,rfl,_,_,_,h4,_⟩:=h
  exact h4.len
 |bld T e=>simp[eZ]
theorem At (h:eO w M m d u F) (ho:cf m d=some (ch,mk)):u.oneCell'=true/\∀ (κ:Nat->Value) (id:Nat),κ id=u->ai w M κ (mk id) u:=by
 unfold cf at ho
 split at ho
 ·simp only[SN,SU] at ho
  obtain⟨rfl,rfl⟩:=ho
  simp only[eO] at h
  obtain⟨f,xs,G,_,h1,_⟩:=h
  refine⟨?_,fun κ id hk=>by simp only[ai];exact hk.symm⟩
  rcases h1.2 with⟨rfl,_⟩|⟨g,N,I,rfl,_⟩<;>rfl
 ·simp only[SN,SU] at ho
  obtain⟨rfl,rfl⟩:=ho
  simp only[eO] at h
  obtain⟨C,b,T,vs,G,_,rfl,_⟩:=h
  exact⟨rfl,fun κ id hk=>by simp only[ai];exact⟨b,hk,rfl⟩⟩
 ·simp only[SN,SU] at ho
  obtain⟨rfl,rfl⟩:=ho
  simp only[eO] at h
  obtain⟨i,A,r,es,s,G,_,rfl,_⟩:=h
  exact⟨rfl,fun κ id hk=>by simp only[ai];exact hk.symm⟩
 ·simp only[SN,SU] at ho
  obtain⟨rfl,rfl⟩:=ho
  simp only[eO] at h
  obtain⟨j,_,b,p,q,rfl,_⟩:=h
  exact⟨rfl,fun κ id hk=>by simp only[ai];exact⟨b,hk,rfl⟩⟩
 ·cases ho
end
inductive Pt where
 |b (off:Nat)
 |v (i off:Nat)
 |m (k:DV)
variable {p:Pt}
def jZ:Ch->Pt->Option SV
 | .box cs,.b off=>cs[off]?
 | .vec _ _ rows,.v i off=>match rows[i]? with|some r=>r[off]?|none=>none
 | .map _ kv,.m k=>mf kv k
 |_,_=>none
def sK (x:SV):Ch->Pt->Ch
 | .box cs,.b off=> .box (cs.set off x)
 | .vec e sz rows,.v i off=>match rows[i]? with|some r=> .vec e sz (rows.set i (r.set off x))|none=> .vec e sz rows
 | .map kk kv,.m k=> .map kk (mg kv k x)
 |c,_=>c
theorem FA (id:Nat) (o:DV):∀ (xs:List (List SV)) (i:Nat),(c0 id o xs)[i]?=(xs[i]?).map (cm id o)
 |[],i=>by simp[c0]
 |x::xs,0=>by simp[c0]
 |x::xs,i+1=>by simp[c0,FA id o xs i]
theorem Au (id:Nat) (o:DV) (y:SV):∀ (xs:List SV) (i:Nat),(cm id o xs).set i (c8 id o y)=cm id o (xs.set i y)
 |[],i=>by simp[cm]
 |x::xs,0=>by simp[cm]
 |x::xs,i+1=>by simp[cm,Au id o y xs i]
section
variable {w:World} {M:Nat->Prop} {κ:Nat->Value}
theorem ap.focus {cs:List SV} {vs:List Value} {i:Nat} (h:ap w M κ cs vs F) (hx:cs[i]?=some x):
  ∃ u W j F2,F=W++(j++F2)/\aO w M κ x u j/\∀ (M':Nat->Prop) (N:Nat->Value) (g:Nat) (o:DV) (v:Value),jE w M w M'->N=am κ g v->aW w M' o (κ g)->∀ x' L,aO w M' N x' u L->ap w M' N ((cm g o cs).set i x') vs (W++(L++F2)):=by
 have X:=(SY.1 hx).1
 have hc:cs=cs.take i++(x::cs.drop (i+1)):=by
  conv=>lhs;rw[<-Tl i cs,T_ X,(SY.1 hx).2]
 have hl:=h.length
 rw[hc] at h
 obtain⟨W,L,rfl,h1,h2⟩:=h.split
 unfold ap at h2
 obtain⟨u,R,j,F2,hv,rfl,E,h4⟩:=h2
 refine⟨u,W,j,F2,rfl,E,fun M' N g o v Q n hd x' L H=> ?_⟩
 subst n
 have e1:(cm g o cs).set i x'=cm g o (cs.take i)++(x'::cm g o (cs.drop (i+1))):=by
  have I:(cm g o (cs.take i)).length=i:=by rw[kO,Th];omega
  conv=>lhs;rw[hc]
  rw[sE,cm,T3 _ _ oM]
  simp[I]
 rw[e1]
 have e2:vs=vs.take (cs.take i).length++(u::R):=by rw[<-hv,Tl]
 rw[e2]
 refine(we Q hd _ _ _ (fun _ _=>rfl) h1).append ?_
 unfold ap
 exact⟨u,R,L,F2,rfl,rfl,H,we Q hd _ _ _ (fun _ _=>rfl) h4⟩
theorem bJ.focus {kk:KK} {k:DV} {x:SV}:∀ {kv:List (DV×SV)} {es:List MapEntry} {F:List Nat},bJ w M κ kk kv es F->mf kv k=some x->
  ∃ u W j F2,F=W++(j++F2)/\aO w M κ x u j/\∀ (M':Nat->Prop) (N:Nat->Value) (g:Nat) (o:DV) (v:Value),jE w M w M'->N=am κ g v->aW w M' o (κ g)->∀ x' L,aO w M' N x' u L->bJ w M' N kk (mg (sD g o kv) k x') es (W++(L++F2))
 |[],es,F,h,hg=>by simp[mf] at hg
 |(k',y)::kv,es,F,h,hg=>by
  unfold bJ at h
  obtain⟨e,z,p,q,rfl,rfl,h1,h2,E,h4⟩:=h
  simp only[mf] at hg
  split at hg
  ·rename_i B
   simp only[SN] at hg;subst hg
   have f:ir k=ir k'/\kk.fits k=kk.fits k':=by
    cases k<;>cases k'<;>simp_all [vX,ir]
   refine⟨e.val,[],p,q,rfl,E,fun M' N g o v Q n hd x' L H=> ?_⟩
   subst n
   simp only[sD,mg,B,TB,S8]
   unfold bJ
   exact⟨e,z,L,q,rfl,rfl,by rw[f.2];exact h1,by rw[f.1];exact h2,H,Ae Q hd _ _ _ (fun _ _=>rfl) h4⟩
  ·rename_i U
   simp only[Uh] at U
   obtain⟨u,W,j,F2,rfl,k1,k2⟩:=bJ.focus h4 hg
   refine⟨u,p++W,j,F2,by simp,k1,fun M' N g o v Q n hd x' L H=> ?_⟩
   have:=k2 M' N g o v Q n hd x' L H
   subst n
   simp only[sD,mg,U,Tb,Tq]
   unfold bJ
   exact⟨e,z,p,W++(L++F2),rfl,by simp,h1,h2,K2 Q hd _ _ _ (fun _ _=>rfl) E,this⟩
theorem yA {α:Type} {sz:Nat} {x:α}:∀ {rows:List (List α)} {i off:Nat} {r:List α},(∀ q∈rows,q.length=sz)->rows[i]?=some r->off<r.length->(rows.set i (r.set off x)).flatten=rows.flatten.set (i * sz+off) x
 |[],i,off,r,_,h,_=>by simp at h
 |q::rows,0,off,r,W,h,X=>by
  simp at h;subst h
  simp only[U1,TF,Ve,Tx]
  rw[List.set_append_left _ _ X]
 |q::rows,i+1,off,r,W,h,X=>by
  have hq:=W q oS
  simp only[List.set_cons_succ,TF]
  rw[yA (fun q hq=>W q (by simp[hq])) (by simpa using h) X,T3 _ _ (by rw[T8];omega)]
  congr 2
  rw[T8];omega
theorem yB {α:Type} {sz:Nat}:∀ {rows:List (List α)} {i off:Nat} {r:List α} {x:α},(∀ q∈rows,q.length=sz)->rows[i]?=some r->r[off]?=some x->rows.flatten[i * sz+off]?=some x
 |[],i,off,r,x,_,h,_=>by simp at h
 |q::rows,0,off,r,x,W,h,hx=>by
  simp at h;subst h
  rw[TF,Ve,Tx,TP (SY.1 hx).1];exact hx
 |q::rows,i+1,off,r,x,W,h,hx=>by
  have hq:=W q oS
  rw[TF,Tr (by rw[T8];omega)]
  rw[show(i+1) * sz+off - q.length=i * sz+off by rw[T8];omega]
  exact yB (fun q hq=>W q (by simp[hq])) (by simpa using h) hx
theorem jo.focus (h:jo w M κ id ch F) (hx:jZ ch p=some x):
  ∃ u W j F2,F=W++(j++F2)/\aO w M κ x u j/\∀ (M':Nat->Prop) (N:Nat->Value) (g:Nat) (o:DV) (v:Value),id≠g->jE w M w M'->N=am κ g v->aW w M' o (κ g)->∀ x' L,aO w M' N x' u L->jo w M' N id (sK x' (jY g o ch) p) (W++(L++F2)):=by
 cases ch with
 |dead=>simp[jZ] at hx
 |box cs=>
  cases p with
  |b off=>
   simp only[jZ] at hx
   obtain⟨b,T,vs,G,h1,h2,E,h4,rfl⟩:=h
   obtain⟨u,W,j,F2,rfl,k1,k2⟩:=h4.focus hx
   refine⟨u,b::W,j,F2,rfl,k1,fun M' N g o v U Q n hd x' L H=> ?_⟩
   have:=k2 M' N g o v Q n hd x' L H
   exact⟨b,T,vs,_,by rw[n,aY _ _ _ _ U];exact h1,h2,E,this,rfl⟩
  |v i off=>simp[jZ] at hx
  |m k=>simp[jZ] at hx
 |vec e sz rows=>
  cases p with
  |v i off=>
   simp only[jZ] at hx
   split at hx
   ·rename_i r D
    obtain⟨xs,G,h1,h2,E,h4,rfl⟩:=h
    obtain⟨u,W,j,F2,rfl,k1,k2⟩:=h4.focus (yB E D hx)
    refine⟨u,fz (κ id)++W,j,F2,by simp,k1,fun M' N g o v U Q n hd x' L H=> ?_⟩
    have:=k2 M' N g o v Q n hd x' L H
    have S:N id=κ id:=by rw[n,aY _ _ _ _ U]
    have h8:(c0 g o rows)[i]?=some (cm g o r):=by rw[FA,D];rfl
    have d:=pJ g o sz rows E
    simp only[jY,sK,h8]
    refine⟨xs,W++(L++F2),by rw[S,Vd,iZ];exact h1,h2,fun q hq=> ?_, ?_,by rw[S];simp⟩
    ·rcases List.mem_or_eq_of_mem_set hq with h|h
     ·exact d q h
     ·subst h;rw[Vd,kO];exact E r (SW D)
    ·rw[yA d h8 (by rw[kO];exact(SY.1 hx).1),jr]
     exact this
   ·cases hx
  |b off=>simp[jZ] at hx
  |m k=>simp[jZ] at hx
 |map kk kv=>
  cases p with
  |m k=>
   simp only[jZ] at hx
   obtain⟨r,es,s,G,h1,h2,hB,E,rfl⟩:=h
   obtain⟨u,W,j,F2,rfl,k1,k2⟩:=E.focus hx
   refine⟨u,r::W,j,F2,rfl,k1,fun M' N g o v U Q n hd x' L H=> ?_⟩
   have:=k2 M' N g o v Q n hd x' L H
   exact⟨r,es,s,_,by rw[n,aY _ _ _ _ U];exact h1,h2,hB,this,rfl⟩
  |b off=>simp[jZ] at hx
  |v i off=>simp[jZ] at hx
 |bld T e bs=>cases p<;>simp[jZ] at hx
end
def rb (σ:St) (id:Nat) (p:Pt) (g:Nat):Option St:=
 match jZ (σ.h id) p with
 |some (.own m d)=>match cf m d with
  |some (ch,mk)=>some ⟨bl g .any σ.s,am (am (bG g .any σ.h) id (sK (mk g) (jY g .any (σ.h id)) p)) g ch⟩
  |none=>none
 |_=>none
def iu (σ:St) (id:Nat) (p:Pt) (g:Nat) (m:bj) (d:DV):St:=
 ⟨bl g .any σ.s,am (am (bG g .any σ.h) id (sK (.own m d) (jY g .any (σ.h id)) p)) g .dead⟩
section
variable {c:Cx} {σ:St} {κ:Nat->Value} {φ:Nat->List Nat} {a:Act} {w:World}
theorem cW.openAt (D:cW c σ κ φ a w) {O:St} (U:id≠g) (h:rb σ id p g=some O):∃ N h7,cW c O N h7 a w:=by
 unfold rb at h
 split at h
 ·rename_i m d hg
  split at h
  ·rename_i ch mk ho
   simp only[SN] at h;subst h
   obtain⟨u,W,j,F2,K,hx,I⟩:=(D.chunks id).focus hg
   simp only[aO] at hx
   obtain⟨h9,r2⟩:=At hx ho
   have z:=D.nod id
   rw[K] at z
   obtain⟨S,V,t⟩:=TD.1 z
   obtain⟨e,C,f⟩:=TD.1 V
   refine⟨am κ g u,_,D.two (G:=W++([]++F2)) (G':=j) U h9 ?_ ?_ ?_ e ?_ (by unfold aW;trivial) (fun Q=> ?_) (fun Q=> ?_)⟩
   ·intro b hb;left;rw[K];simp at hb⊢;rcases hb with h|h<;>simp[h]
   ·intro b hb;left;rw[K];simp[hb]
   ·simp only[S8]
    exact TD.2 ⟨S,C,fun x hx y hy=>t x hx y (by simp[hy])⟩
   ·intro b hb A
    simp at hb
    rcases hb with h|h
    ·exact t b h b (by simp[A]) rfl
    ·exact f b A b h rfl
   ·exact I _ _ g .any u U Q rfl (by unfold aW;trivial) (mk g) [] (aO.of_S _ _ ((r2 (am κ g u) g (by rw[ar])).ext Q))
   ·exact(og hx.shape ho (by rw[ar])).2 (eO.ext Q _ _ _ _ (fun _ _=>rfl) hx)
  ·cases h
 ·cases h
theorem Ed {M:Nat->Prop} (ho:cf m d=some (ch,mk)) (hs:aO w M κ (mk id) u F) (hc:jo w M κ id ch (φ id)):κ id=u/\F=[]:=by
 unfold cf at ho
 split at ho
 ·simp only[SN,SU] at ho
  obtain⟨rfl,rfl⟩:=ho
  simp only[aO,ai] at hs
  exact⟨hs.2.symm,hs.1⟩
 ·simp only[SN,SU] at ho
  obtain⟨rfl,rfl⟩:=ho
  simp only[aO,ai] at hs
  obtain⟨rfl,b,h1,h2⟩:=hs
  exact⟨h1.trans h2.symm,rfl⟩
 ·simp only[SN,SU] at ho
  obtain⟨rfl,rfl⟩:=ho
  simp only[aO,ai] at hs
  exact⟨hs.2.symm,hs.1⟩
 ·simp only[SN,SU] at ho
  obtain⟨rfl,rfl⟩:=ho
  simp only[aO,ai] at hs
  obtain⟨rfl,b,h1,h2⟩:=hs
  exact⟨h1.trans h2.symm,rfl⟩
 ·cases ho
theorem cW.closeAt (D:cW c σ κ φ a w) (U:id≠g) (ho:cf m d=some (ch,mk)) (i:eZ m d) (hg:jZ (σ.h id) p=some (mk g)) (hh:σ.h g=ch):∃ N h7,cW c (iu σ id p g m d) N h7 a w:=by
 obtain⟨u,W,j,F2,K,hx,I⟩:=(D.chunks id).focus hg
 have r0:=D.chunks g
 rw[hh] at r0
 obtain⟨k,rfl⟩:=Ed (φ:=φ) ho hx r0
 have hO:=(og i ho k).1 r0
 have z:=D.nod id
 rw[K] at z
 simp only[S8] at K z
 obtain⟨S,V,t⟩:=TD.1 z
 have f:∀ b,b∈φ g->b∉W/\b∉F2:=fun b hb=>⟨fun h=>D.sep id g b U (by rw[K];simp[h]) hb,fun h=>D.sep id g b U (by rw[K];simp[h]) hb⟩
 unfold iu
 refine⟨am κ g (.pointer none),_,D.two (G:=W++(φ g++F2)) (G':=[]) U rfl ?_ oS ?_ oS oS (by unfold aW;trivial) (fun Q=> ?_) (fun Q=>rfl)⟩
 ·intro b hb
  simp at hb
  rcases hb with h|h|h
  ·left;rw[K];simp[h]
  ·exact .inr h
  ·left;rw[K];simp[h]
 ·refine TD.2 ⟨S,TD.2 ⟨D.nod g,V,fun x hx y hy e=>(f x hx).2 (e▸hy)⟩,fun x hx y hy e=> ?_⟩
  subst e
  rcases Te.1 hy with h|h
  ·exact(f x h).1 hx
  ·exact t x hx x h rfl
 ·refine I _ _ g .any (.pointer none) U Q rfl (by unfold aW;trivial) (.own m d) (φ g) ?_
  simp only[aO]
  exact eO.ext Q _ _ _ _ (fun _ _=>rfl) hO
end
end Go.Proofs.YtgmnipfafmphaaaGreatDoor

