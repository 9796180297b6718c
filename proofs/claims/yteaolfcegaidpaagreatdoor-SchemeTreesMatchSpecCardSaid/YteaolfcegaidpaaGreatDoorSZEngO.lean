/-
  My text.
-/
import Derived.Test.YteaolfcegaidpaaGreatDoorSZEngI
namespace Go.Proofs.YteaolfcegaidpaaGreatDoor
set_option linter.unusedSimpArgs false
set_option linter.unusedVariables false
open Go.RowKit
variable {F:List Nat} {ch:Ch} {d:DV} {g id:Nat} {m:cO} {mk:Nat->SV} {u:Value} {x:SV}
def Cm (m:cO) (d:DV):SV:=
 match m with
 | .sh=> .d d
 | .sl e ms=> .own (.sl e ms) d
 | .pt ms=> .own (.pt ms) d
 | .mp kk m=> .own (.mp kk m) d
 | .bld T e=> .own (.bld T e) d
def d7 (ms:List cO) (O:List DV):List SV:=List.zipWith Cm ms O
def cL:cO->DV->Option (Ch×(Nat->SV))
 | .sl e ms,.slice rows=>some (.vec e ms.length (rows.map (d7 ms)),.vec)
 | .pt ms,.ptr cs=>some (.box (d7 ms cs),fun id=> .ref id 0)
 | .mp kk m,.map ks vs=>some (.map kk (ks.zip (vs.map (Cm m))),.mp)
 | .bld T e,.str bs=>some (.bld T e bs,fun id=> .ref id 0)
 |_,_=>none
section
variable {w:World} {M:Nat->Prop} {κ:Nat->Value}
theorem zZ:aQ w M κ (Cm m d) u F↔eR w M m d u F:=by
 cases m with
 |sh=>simp only[Cm,aQ,ah,eR]
 |_=>simp only[Cm,aQ]
theorem sc:∀ {ms:List cO} {O:List DV} {us:List Value} {F:List Nat},O.length=ms.length->(ar w M κ (d7 ms O) us F↔ex w M ms O us F)
 |[],O,us,F,h=>by
  have:O=[]:=Te.1 h
  subst this
  simp[d7,ar,ex]
 |m::ms,[],us,F,h=>by simp at h
 |m::ms,d::O,us,F,h=>by
  have ih:=fun us F=>sc (ms:=ms) (O:=O) (us:=us) (F:=F) (by simpa using h)
  unfold d7 at *
  simp only[UU,ar,ex]
  constructor
  ·rintro⟨u,g,z,I,rfl,rfl,h1,h2⟩
   exact⟨d,O,u,g,z,I,rfl,rfl,rfl,zZ.1 h1,(ih g I).1 h2⟩
  ·rintro⟨d',i,u,g,z,I,h0,rfl,rfl,h1,h2⟩
   simp only[TA] at h0
   obtain⟨rfl,rfl⟩:=h0
   exact⟨u,g,z,I,rfl,rfl,zZ.2 h1,(ih g I).2 h2⟩
theorem HJ {ms:List cO} {O:List DV} (h:O.length=ms.length):(d7 ms O).length=ms.length:=by simp[d7,h]
theorem tA {ms:List cO}:∀ {rows:List (List DV)} {xs:List Value} {G:List Nat},(∀ r∈rows,r.length=ms.length)->(ar w M κ (rows.map (d7 ms)).flatten xs G↔fz (fun r ys G'=>ex w M ms r ys G') rows xs G)
 |[],xs,G,_=>by simp[ar,fz]
 |r::rows,xs,G,h=>by
  have hr:=h r oS
  have ih:=fun xs G=>tA (rows:=rows) (xs:=xs) (G:=G) (fun r hr=>h r (by simp[hr]))
  simp only[S5,TB,fz]
  constructor
  ·intro hg
   obtain⟨G1,G2,rfl,h1,h2⟩:=hg.split
   exact⟨_,_,G1,G2,(Tf _ _).symm,rfl,(sc hr).1 h1,(ih _ _).1 h2⟩
  ·rintro⟨ys,zs,G1,G2,rfl,rfl,h1,h2⟩
   exact((sc hr).2 h1).append ((ih _ _).2 h2)
theorem y8 {kk:KK} {m:cO}:∀ {ks vs:List DV} {es:List MapEntry} {G:List Nat},vs.length=ks.length->(bH w M κ kk (ks.zip (vs.map (Cm m))) es G↔rW (fun d v G'=>eR w M m d v G') kk ks vs es G)
 |[],vs,es,G,h=>by
  have:vs=[]:=Te.1 h
  subst this
  simp[bH,rW]
 |k::ks,[],es,G,h=>by simp at h
 |k::ks,d::vs,es,G,h=>by
  have ih:=fun es G=>y8 (kk:=kk) (m:=m) (ks:=ks) (vs:=vs) (es:=es) (G:=G) (by simpa using h)
  simp only[S5,UO,bH,rW]
  constructor
  ·rintro⟨e,T,z,I,rfl,rfl,h1,h2,E,h4⟩
   exact⟨d,vs,e,T,z,I,rfl,rfl,rfl,h1,h2,zZ.1 E,(ih _ _).1 h4⟩
  ·rintro⟨d',A,e,T,z,I,h0,rfl,rfl,h1,h2,E,h4⟩
   simp only[TA] at h0
   obtain⟨rfl,rfl⟩:=h0
   exact⟨e,T,z,I,rfl,rfl,h1,h2,zZ.2 E,(ih _ _).2 h4⟩
theorem rW.len {R:DV->Value->List Nat->Prop} {kk:KK}:∀ {ks vs:List DV} {es:List MapEntry} {G:List Nat},rW R kk ks vs es G->vs.length=ks.length
 |[],vs,es,G,h=>by simp[rW] at h;simp[h]
 |k::ks,vs,es,G,h=>by
  simp only[rW] at h
  obtain⟨d,i,e,n,G1,G2,rfl,_,_,_,_,_,h6⟩:=h
  simp[rW.len h6]
theorem ex.len:∀ {ms:List cO} {O:List DV} {vs:List Value} {F:List Nat},ex w M ms O vs F->O.length=ms.length
 |[],O,vs,F,h=>by simp[ex] at h;simp[h]
 |m::ms,O,vs,F,h=>by
  simp only[ex] at h
  obtain⟨d,i,v,A,z,I,rfl,_,_,_,h4⟩:=h
  simp[ex.len h4]
def eQ:cO->DV->Prop
 | .sl _ ms,.slice rows=>∀ r∈rows,r.length=ms.length
 | .pt ms,.ptr cs=>cs.length=ms.length
 | .mp _ _,.map ks vs=>vs.length=ks.length
 |_,_=>True
theorem sd (hs:eQ m d) (h:cL m d=some (ch,mk)) (hk:κ id=u):kK w M κ id ch F↔eR w M m d u F:=by
 subst hk
 unfold cL at h
 split at h
 ·rename_i e ms rows
  simp only[SN,SS] at h
  obtain⟨rfl,rfl⟩:=h
  simp only[eQ] at hs
  simp only[kK,eR]
  constructor
  ·rintro⟨xs,G,h1,h2,E,h4,rfl⟩
   exact⟨rows,xs,G,rfl,by simpa using h1,h2,hs,(tA hs).1 h4,rfl⟩
  ·rintro⟨f,xs,G,h0,h1,h2,E,h4,rfl⟩
   simp only[DV.slice.injEq] at h0;subst h0
   exact⟨xs,G,by simpa using h1,h2,fun r hr=>by
    obtain⟨q,hq,rfl⟩:=Tu.1 hr
    exact HJ (hs q hq),(tA hs).2 h4,rfl⟩
 ·rename_i ms cs
  simp only[SN,SS] at h
  obtain⟨rfl,rfl⟩:=h
  simp only[eQ] at hs
  simp only[kK,eR]
  constructor
  ·rintro⟨b,T,vs,G,h1,h2,E,h4,rfl⟩
   exact⟨cs,b,T,vs,G,rfl,h1,h2,E,(sc hs).1 h4,rfl⟩
  ·rintro⟨V,b,T,vs,G,h0,h1,h2,E,h4,rfl⟩
   simp only[DV.ptr.injEq] at h0;subst h0
   exact⟨b,T,vs,G,h1,h2,E,(sc hs).2 h4,rfl⟩
 ·rename_i kk m ks vs
  simp only[SN,SS] at h
  obtain⟨rfl,rfl⟩:=h
  simp only[eQ] at hs
  simp only[kK,eR]
  constructor
  ·rintro⟨r,es,C,G,h1,h2,hB,E,rfl⟩
   exact⟨ks,vs,r,es,C,G,rfl,h1,h2,hB,(y8 hs).1 E,rfl⟩
  ·rintro⟨j,A,r,es,C,G,h0,h1,h2,hB,E,rfl⟩
   simp only[DV.map.injEq] at h0;obtain⟨rfl,rfl⟩:=h0
   exact⟨r,es,C,G,h1,h2,hB,(y8 hs).2 E,rfl⟩
 ·rename_i T e bs
  simp only[SN,SS] at h
  obtain⟨rfl,rfl⟩:=h
  simp only[kK,eR]
  constructor
  ·exact fun h=>⟨bs,rfl,h⟩
  ·rintro⟨k,h0,h1⟩
   simp only[DV.str.injEq] at h0;subst h0
   exact h1
 ·cases h
theorem eR.shape (h:eR w M m d u F):eQ m d:=by
 cases m with
 |sh=>simp[eQ]
 |sl e ms=>
  simp only[eR] at h
  obtain⟨rows,xs,G,rfl,_,_,E,_⟩:=h
  exact E
 |pt ms=>
  simp only[eR] at h
  obtain⟨cs,b,T,vs,G,rfl,_,_,_,h4,_⟩:=h
  exact h4.len
 |mp kk m=>
  simp only[eR] at h
  obtain⟨ks,O,r,es,C,G,rfl,_,_,_,h4,_⟩:=h
  exact h4.len
 |bld T e=>simp[eQ]
theorem Dw (h:eR w M m d u F) (ho:cL m d=some (ch,mk)):u.oneCell'=true/\∀ (κ:Nat->Value) (id:Nat),κ id=u->ah w M κ (mk id) u:=by
 unfold cL at ho
 split at ho
 ·simp only[SN,SS] at ho
  obtain⟨rfl,rfl⟩:=ho
  simp only[eR] at h
  obtain⟨f,xs,G,_,h1,_⟩:=h
  refine⟨?_,fun κ id hk=>by simp only[ah];exact hk.symm⟩
  rcases h1.2 with⟨rfl,_⟩|⟨g,D,B,rfl,_⟩<;>rfl
 ·simp only[SN,SS] at ho
  obtain⟨rfl,rfl⟩:=ho
  simp only[eR] at h
  obtain⟨V,b,T,vs,G,_,rfl,_⟩:=h
  exact⟨rfl,fun κ id hk=>by simp only[ah];exact⟨b,hk,rfl⟩⟩
 ·simp only[SN,SS] at ho
  obtain⟨rfl,rfl⟩:=ho
  simp only[eR] at h
  obtain⟨j,A,r,es,C,G,_,rfl,_⟩:=h
  exact⟨rfl,fun κ id hk=>by simp only[ah];exact hk.symm⟩
 ·simp only[SN,SS] at ho
  obtain⟨rfl,rfl⟩:=ho
  simp only[eR] at h
  obtain⟨k,_,b,p,i,rfl,_⟩:=h
  exact⟨rfl,fun κ id hk=>by simp only[ah];exact⟨b,hk,rfl⟩⟩
 ·cases ho
end
inductive Pt where
 |b (off:Nat)
 |v (i off:Nat)
 |m (k:DV)
variable {p:Pt}
def uJ:Ch->Pt->Option SV
 | .box cs,.b off=>cs[off]?
 | .vec _ _ rows,.v i off=>match rows[i]? with|some r=>r[off]?|none=>none
 | .map _ kv,.m k=>oR kv k
 |_,_=>none
def GE (x:SV):Ch->Pt->Ch
 | .box cs,.b off=> .box (cs.set off x)
 | .vec e sz rows,.v i off=>match rows[i]? with|some r=> .vec e sz (rows.set i (r.set off x))|none=> .vec e sz rows
 | .map kk kv,.m k=> .map kk (nR kv k x)
 |c,_=>c
theorem HK (id:Nat) (o:DV):∀ (xs:List (List SV)) (i:Nat),(jG id o xs)[i]?=(xs[i]?).map (ee id o)
 |[],i=>by simp[jG]
 |x::xs,0=>by simp[jG]
 |x::xs,i+1=>by simp[jG,HK id o xs i]
theorem HL (id:Nat) (o:DV) (y:SV):∀ (xs:List SV) (i:Nat),(ee id o xs).set i (fS id o y)=ee id o (xs.set i y)
 |[],i=>by simp[ee]
 |x::xs,0=>by simp[ee]
 |x::xs,i+1=>by simp[ee,HL id o y xs i]
section
variable {w:World} {M:Nat->Prop} {κ:Nat->Value}
theorem ar.focus {cs:List SV} {vs:List Value} {i:Nat} (h:ar w M κ cs vs F) (hx:cs[i]?=some x):
  ∃ u z j I,F=z++(j++I)/\aQ w M κ x u j/\∀ (M':Nat->Prop) (W:Nat->Value) (g:Nat) (o:DV) (v:Value),lA w M w M'->W=aD κ g v->ba w M' o (κ g)->∀ L J,aQ w M' W L u J->ar w M' W ((ee g o cs).set i L) vs (z++(J++I)):=by
 have h9:=(SY.1 hx).1
 have hc:cs=cs.take i++(x::cs.drop (i+1)):=by
  conv=>lhs;rw[<-Tf i cs,Uf h9,(SY.1 hx).2]
 have hl:=h.length
 rw[hc] at h
 obtain⟨z,J,rfl,h1,h2⟩:=h.split
 unfold ar at h2
 obtain⟨u,us,j,I,hv,rfl,E,h4⟩:=h2
 refine⟨u,z,j,I,rfl,E,fun M' W g o v N l hd L J Q=> ?_⟩
 subst l
 have e1:(ee g o cs).set i L=ee g o (cs.take i)++(L::ee g o (cs.drop (i+1))):=by
  have h8:(ee g o (cs.take i)).length=i:=by rw[pO,Tc];omega
  conv=>lhs;rw[hc]
  rw[wQ,ee,List.set_append_right _ _ oM]
  simp[h8]
 rw[e1]
 have e2:vs=vs.take (cs.take i).length++(u::us):=by rw[<-hv,Tf]
 rw[e2]
 refine(zV N hd _ _ _ (fun _ _=>rfl) h1).append ?_
 unfold ar
 exact⟨u,us,J,I,rfl,rfl,Q,zV N hd _ _ _ (fun _ _=>rfl) h4⟩
theorem bH.focus {kk:KK} {k:DV} {x:SV}:∀ {kv:List (DV×SV)} {es:List MapEntry} {F:List Nat},bH w M κ kk kv es F->oR kv k=some x->
  ∃ u z j I,F=z++(j++I)/\aQ w M κ x u j/\∀ (M':Nat->Prop) (W:Nat->Value) (g:Nat) (o:DV) (v:Value),lA w M w M'->W=aD κ g v->ba w M' o (κ g)->∀ L J,aQ w M' W L u J->bH w M' W kk (nR (Ck g o kv) k L) es (z++(J++I))
 |[],es,F,h,hg=>by simp[oR] at hg
 |(k',y)::kv,es,F,h,hg=>by
  unfold bH at h
  obtain⟨e,T,q,s,rfl,rfl,h1,h2,E,h4⟩:=h
  simp only[oR] at hg
  split at hg
  ·rename_i B
   simp only[SN] at hg;subst hg
   have f:dq k=dq k'/\kk.fits k=kk.fits k':=by
    cases k<;>cases k'<;>simp_all [zO,dq]
   refine⟨e.val,[],q,s,rfl,E,fun M' W g o v N l hd L J Q=> ?_⟩
   subst l
   simp only[Ck,nR,B,T6,Tb]
   unfold bH
   exact⟨e,T,J,s,rfl,rfl,by rw[f.2];exact h1,by rw[f.1];exact h2,Q,Di N hd _ _ _ (fun _ _=>rfl) h4⟩
  ·rename_i A
   simp only[Uk] at A
   obtain⟨u,z,j,I,rfl,k1,k2⟩:=bH.focus h4 hg
   refine⟨u,q++z,j,I,by simp,k1,fun M' W g o v N l hd L J Q=> ?_⟩
   have:=k2 M' W g o v N l hd L J Q
   subst l
   simp only[Ck,nR,A,Tj,Tv]
   unfold bH
   exact⟨e,T,q,z++(J++I),rfl,by simp,h1,h2,L9 N hd _ _ _ (fun _ _=>rfl) E,this⟩
theorem B3 {α:Type} {sz:Nat} {x:α}:∀ {rows:List (List α)} {i off:Nat} {r:List α},(∀ q∈rows,q.length=sz)->rows[i]?=some r->off<r.length->(rows.set i (r.set off x)).flatten=rows.flatten.set (i * sz+off) x
 |[],i,off,r,_,h,_=>by simp at h
 |q::rows,0,off,r,R,h,h9=>by
  simp at h;subst h
  simp only[List.set_cons_zero,TB,Nat.zero_mul,TJ]
  rw[List.set_append_left _ _ h9]
 |q::rows,i+1,off,r,R,h,h9=>by
  have hq:=R q oS
  simp only[List.set_cons_succ,TB]
  rw[B3 (fun q hq=>R q (by simp[hq])) (by simpa using h) h9,List.set_append_right _ _ (by rw[T2];omega)]
  congr 2
  rw[T2];omega
theorem B4 {α:Type} {sz:Nat}:∀ {rows:List (List α)} {i off:Nat} {r:List α} {x:α},(∀ q∈rows,q.length=sz)->rows[i]?=some r->r[off]?=some x->rows.flatten[i * sz+off]?=some x
 |[],i,off,r,x,_,h,_=>by simp at h
 |q::rows,0,off,r,x,R,h,hx=>by
  simp at h;subst h
  rw[TB,Nat.zero_mul,TJ,TZ (SY.1 hx).1];exact hx
 |q::rows,i+1,off,r,x,R,h,hx=>by
  have hq:=R q oS
  rw[TB,TK (by rw[T2];omega)]
  rw[show(i+1) * sz+off - q.length=i * sz+off by rw[T2];omega]
  exact B4 (fun q hq=>R q (by simp[hq])) (by simpa using h) hx
theorem kK.focus (h:kK w M κ id ch F) (hx:uJ ch p=some x):
  ∃ u z j I,F=z++(j++I)/\aQ w M κ x u j/\∀ (M':Nat->Prop) (W:Nat->Value) (g:Nat) (o:DV) (v:Value),id≠g->lA w M w M'->W=aD κ g v->ba w M' o (κ g)->∀ L J,aQ w M' W L u J->kK w M' W id (GE L (A3 g o ch) p) (z++(J++I)):=by
 cases ch with
 |dead=>simp[uJ] at hx
 |box cs=>
  cases p with
  |b off=>
   simp only[uJ] at hx
   obtain⟨b,T,vs,G,h1,h2,E,h4,rfl⟩:=h
   obtain⟨u,z,j,I,rfl,k1,k2⟩:=h4.focus hx
   refine⟨u,b::z,j,I,rfl,k1,fun M' W g o v A N l hd L J Q=> ?_⟩
   have:=k2 M' W g o v N l hd L J Q
   exact⟨b,T,vs,_,by rw[l,bv _ _ _ _ A];exact h1,h2,E,this,rfl⟩
  |v i off=>simp[uJ] at hx
  |m k=>simp[uJ] at hx
 |vec e sz rows=>
  cases p with
  |v i off=>
   simp only[uJ] at hx
   split at hx
   ·rename_i r hr
    obtain⟨xs,G,h1,h2,E,h4,rfl⟩:=h
    obtain⟨u,z,j,I,rfl,k1,k2⟩:=h4.focus (B4 E hr hx)
    refine⟨u,hP (κ id)++z,j,I,by simp,k1,fun M' W g o v A N l hd L J Q=> ?_⟩
    have:=k2 M' W g o v N l hd L J Q
    have d:W id=κ id:=by rw[l,bv _ _ _ _ A]
    have r1:(jG g o rows)[i]?=some (ee g o r):=by rw[HK,hr];rfl
    have f:=uF g o sz rows E
    simp only[A3,GE,r1]
    refine⟨xs,z++(J++I),by rw[d,List.length_set,kS];exact h1,h2,fun q hq=> ?_, ?_,by rw[d];simp⟩
    ·rcases List.mem_or_eq_of_mem_set hq with h|h
     ·exact f q h
     ·subst h;rw[List.length_set,pO];exact E r (ST hr)
    ·rw[B3 f r1 (by rw[pO];exact(SY.1 hx).1),lE]
     exact this
   ·cases hx
  |b off=>simp[uJ] at hx
  |m k=>simp[uJ] at hx
 |map kk kv=>
  cases p with
  |m k=>
   simp only[uJ] at hx
   obtain⟨r,es,C,G,h1,h2,hB,E,rfl⟩:=h
   obtain⟨u,z,j,I,rfl,k1,k2⟩:=E.focus hx
   refine⟨u,r::z,j,I,rfl,k1,fun M' W g o v A N l hd L J Q=> ?_⟩
   have:=k2 M' W g o v N l hd L J Q
   exact⟨r,es,C,_,by rw[l,bv _ _ _ _ A];exact h1,h2,hB,this,rfl⟩
  |b off=>simp[uJ] at hx
  |v i off=>simp[uJ] at hx
 |bld T e bs=>cases p<;>simp[uJ] at hx
end
def Dx (σ:St) (id:Nat) (p:Pt) (g:Nat):Option St:=
 match uJ (σ.h id) p with
 |some (.own m d)=>match cL m d with
  |some (ch,mk)=>some ⟨eC g .any σ.s,aD (aD (hT g .any σ.h) id (GE (mk g) (A3 g .any (σ.h id)) p)) g ch⟩
  |none=>none
 |_=>none
def vn (σ:St) (id:Nat) (p:Pt) (g:Nat) (m:cO) (d:DV):St:=
 ⟨eC g .any σ.s,aD (aD (hT g .any σ.h) id (GE (.own m d) (A3 g .any (σ.h id)) p)) g .dead⟩
section
variable {c:Cx} {σ:St} {κ:Nat->Value} {φ:Nat->List Nat} {a:Act} {w:World}
theorem cH.openAt (hr:cH c σ κ φ a w) {X:St} (A:id≠g) (h:Dx σ id p g=some X):∃ W h6,cH c X W h6 a w:=by
 unfold Dx at h
 split at h
 ·rename_i m d hg
  split at h
  ·rename_i ch mk ho
   simp only[SN] at h;subst h
   obtain⟨u,z,j,I,K,hx,o⟩:=(hr.chunks id).focus hg
   simp only[aQ] at hx
   obtain⟨s,r8⟩:=Dw hx ho
   have r4:=hr.nod id
   rw[K] at r4
   obtain⟨U,n2,C⟩:=TC.1 r4
   obtain⟨e,f,i⟩:=TC.1 n2
   refine⟨aD κ g u,_,hr.two (G:=z++([]++I)) (G':=j) A s ?_ ?_ ?_ e ?_ (by unfold ba;trivial) (fun N=> ?_) (fun N=> ?_)⟩
   ·intro b hb;left;rw[K];simp at hb⊢;rcases hb with h|h<;>simp[h]
   ·intro b hb;left;rw[K];simp[hb]
   ·simp only[Tb]
    exact TC.2 ⟨U,f,fun x hx y hy=>C x hx y (by simp[hy])⟩
   ·intro b hb h7
    simp at hb
    rcases hb with h|h
    ·exact C b h b (by simp[h7]) rfl
    ·exact i b h7 b h rfl
   ·exact o _ _ g .any u A N rfl (by unfold ba;trivial) (mk g) [] (aQ.of_S _ _ ((r8 (aD κ g u) g (by rw[au])).ext N))
   ·exact(sd hx.shape ho (by rw[au])).2 (eR.ext N _ _ _ _ (fun _ _=>rfl) hx)
  ·cases h
 ·cases h
theorem GF {M:Nat->Prop} (ho:cL m d=some (ch,mk)) (hs:aQ w M κ (mk id) u F) (hc:kK w M κ id ch (φ id)):κ id=u/\F=[]:=by
 unfold cL at ho
 split at ho
 ·simp only[SN,SS] at ho
  obtain⟨rfl,rfl⟩:=ho
  simp only[aQ,ah] at hs
  exact⟨hs.2.symm,hs.1⟩
 ·simp only[SN,SS] at ho
  obtain⟨rfl,rfl⟩:=ho
  simp only[aQ,ah] at hs
  obtain⟨rfl,b,h1,h2⟩:=hs
  exact⟨h1.trans h2.symm,rfl⟩
 ·simp only[SN,SS] at ho
  obtain⟨rfl,rfl⟩:=ho
  simp only[aQ,ah] at hs
  exact⟨hs.2.symm,hs.1⟩
 ·simp only[SN,SS] at ho
  obtain⟨rfl,rfl⟩:=ho
  simp only[aQ,ah] at hs
  obtain⟨rfl,b,h1,h2⟩:=hs
  exact⟨h1.trans h2.symm,rfl⟩
 ·cases ho
theorem cH.closeAt (hr:cH c σ κ φ a w) (A:id≠g) (ho:cL m d=some (ch,mk)) (l:eQ m d) (hg:uJ (σ.h id) p=some (mk g)) (hh:σ.h g=ch):∃ W h6,cH c (vn σ id p g m d) W h6 a w:=by
 obtain⟨u,z,j,I,K,hx,o⟩:=(hr.chunks id).focus hg
 have r2:=hr.chunks g
 rw[hh] at r2
 obtain⟨i,rfl⟩:=GF (φ:=φ) ho hx r2
 have hO:=(sd l ho i).1 r2
 have r4:=hr.nod id
 rw[K] at r4
 simp only[Tb] at K r4
 obtain⟨U,n2,C⟩:=TC.1 r4
 have f:∀ b,b∈φ g->b∉z/\b∉I:=fun b hb=>⟨fun h=>hr.sep id g b A (by rw[K];simp[h]) hb,fun h=>hr.sep id g b A (by rw[K];simp[h]) hb⟩
 unfold vn
 refine⟨aD κ g (.pointer none),_,hr.two (G:=z++(φ g++I)) (G':=[]) A rfl ?_ oS ?_ oS oS (by unfold ba;trivial) (fun N=> ?_) (fun N=>rfl)⟩
 ·intro b hb
  simp at hb
  rcases hb with h|h|h
  ·left;rw[K];simp[h]
  ·exact .inr h
  ·left;rw[K];simp[h]
 ·refine TC.2 ⟨U,TC.2 ⟨hr.nod g,n2,fun x hx y hy e=>(f x hx).2 (e▸hy)⟩,fun x hx y hy e=> ?_⟩
  subst e
  rcases Ta.1 hy with h|h
  ·exact(f x h).1 hx
  ·exact C x hx x h rfl
 ·refine o _ _ g .any (.pointer none) A N rfl (by unfold ba;trivial) (.own m d) (φ g) ?_
  simp only[aQ]
  exact eR.ext N _ _ _ _ (fun _ _=>rfl) hO
end
