/-
  My text.
-/
import Derived.Test.YtgmnipfafmphaaaGreatDoorSZEngI
namespace Go.Proofs.YtgmnipfafmphaaaGreatDoor
set_option linter.unusedSimpArgs false
set_option linter.unusedVariables false
open Go.RowKit
def oO (m:aL) (d:DV):SV:=
 match m with
 | .sh=> .d d
 | .sl e ms=> .own (.sl e ms) d
 | .pt ms=> .own (.pt ms) d
 | .mp kk m=> .own (.mp kk m) d
 | .bld T e=> .own (.bld T e) d
def bW (ms:List aL) (ds:List DV):List SV:=List.zipWith oO ms ds
def bX:aL->DV->Option (Ch×(Nat->SV))
 | .sl e ms,.slice rows=>some (.vec e ms.length (rows.map (bW ms)),.vec)
 | .pt ms,.ptr cs=>some (.box (bW ms cs),fun id=> .ref id 0)
 | .mp kk m,.map ks vs=>some (.map kk (ks.zip (vs.map (oO m))),.mp)
 | .bld T e,.str bs=>some (.bld T e bs,fun id=> .ref id 0)
 |_,_=>none
section
variable {w:World} {M:Nat->Prop} {κ:Nat->Value}
theorem rR {m:aL} {d:DV} {u:Value} {F:List Nat}:ao w M κ (oO m d) u F↔dz w M m d u F:=by
 cases m with
 |sh=>simp only[oO,ao,ag,dz]
 |_=>simp only[oO,ao]
theorem lI:∀ {ms:List aL} {ds:List DV} {us:List Value} {F:List Nat},ds.length=ms.length->(aj w M κ (bW ms ds) us F↔dy w M ms ds us F)
 |[],ds,us,F,h=>by
  have:ds=[]:=Ld.1 h
  subst this
  simp[bW,aj,dy]
 |m::ms,[],us,F,h=>by simp at h
 |m::ms,d::ds,us,F,h=>by
  have ih:=fun us F=>lI (ms:=ms) (ds:=ds) (us:=us) (F:=F) (by simpa using h)
  unfold bW at *
  simp only[MC,aj,dy]
  constructor
  ·rintro⟨u,us',F1,F2,rfl,rfl,h1,h2⟩
   exact⟨d,ds,u,us',F1,F2,rfl,rfl,rfl,rR.1 h1,(ih us' F2).1 h2⟩
  ·rintro⟨d',ds',u,us',F1,F2,h0,rfl,rfl,h1,h2⟩
   simp only[LK] at h0
   obtain⟨rfl,rfl⟩:=h0
   exact⟨u,us',F1,F2,rfl,rfl,rR.2 h1,(ih us' F2).2 h2⟩
theorem AB {ms:List aL} {ds:List DV} (h:ds.length=ms.length):(bW ms ds).length=ms.length:=by simp[bW,h]
theorem gP {ms:List aL}:∀ {rows:List (List DV)} {xs:List Value} {G:List Nat},(∀ r∈rows,r.length=ms.length)->(aj w M κ (rows.map (bW ms)).flatten xs G↔dX (fun r ys G'=>dy w M ms r ys G') rows xs G)
 |[],xs,G,_=>by simp[aj,dX]
 |r::rows,xs,G,h=>by
  have hr:=h r oS
  have ih:=fun xs G=>gP (rows:=rows) (xs:=xs) (G:=G) (fun r hr=>h r (by simp[hr]))
  simp only[Lh,LC,dX]
  constructor
  ·intro hg
   obtain⟨G1,G2,rfl,h1,h2⟩:=hg.split
   exact⟨_,_,G1,G2,(Lg _ _).symm,rfl,(lI hr).1 h1,(ih _ _).1 h2⟩
  ·rintro⟨ys,zs,G1,G2,rfl,rfl,h1,h2⟩
   exact((lI hr).2 h1).append ((ih _ _).2 h2)
theorem qT {kk:KK} {m:aL}:∀ {ks vs:List DV} {es:List MapEntry} {G:List Nat},vs.length=ks.length->(bo w M κ kk (ks.zip (vs.map (oO m))) es G↔lE (fun d v G'=>dz w M m d v G') kk ks vs es G)
 |[],vs,es,G,h=>by
  have:vs=[]:=Ld.1 h
  subst this
  simp[bo,lE]
 |k::ks,[],es,G,h=>by simp at h
 |k::ks,d::vs,es,G,h=>by
  have ih:=fun es G=>qT (kk:=kk) (m:=m) (ks:=ks) (vs:=vs) (es:=es) (G:=G) (by simpa using h)
  simp only[Lh,List.zip_cons_cons,bo,lE]
  constructor
  ·rintro⟨e,rest,F1,F2,rfl,rfl,h1,h2,h3,h4⟩
   exact⟨d,vs,e,rest,F1,F2,rfl,rfl,rfl,h1,h2,rR.1 h3,(ih _ _).1 h4⟩
  ·rintro⟨d',vs',e,rest,F1,F2,h0,rfl,rfl,h1,h2,h3,h4⟩
   simp only[LK] at h0
   obtain⟨rfl,rfl⟩:=h0
   exact⟨e,rest,F1,F2,rfl,rfl,h1,h2,rR.2 h3,(ih _ _).2 h4⟩
theorem lE.len {R:DV->Value->List Nat->Prop} {kk:KK}:∀ {ks vs:List DV} {es:List MapEntry} {G:List Nat},lE R kk ks vs es G->vs.length=ks.length
 |[],vs,es,G,h=>by simp[lE] at h;simp[h]
 |k::ks,vs,es,G,h=>by
  simp only[lE] at h
  obtain⟨d,ds',e,es',G1,G2,rfl,_,_,_,_,_,h6⟩:=h
  simp[lE.len h6]
theorem dy.len:∀ {ms:List aL} {ds:List DV} {vs:List Value} {F:List Nat},dy w M ms ds vs F->ds.length=ms.length
 |[],ds,vs,F,h=>by simp[dy] at h;simp[h]
 |m::ms,ds,vs,F,h=>by
  simp only[dy] at h
  obtain⟨d,ds',v,vs',F1,F2,rfl,_,_,_,h4⟩:=h
  simp[dy.len h4]
def dY:aL->DV->Prop
 | .sl _ ms,.slice rows=>∀ r∈rows,r.length=ms.length
 | .pt ms,.ptr cs=>cs.length=ms.length
 | .mp _ _,.map ks vs=>vs.length=ks.length
 |_,_=>True
theorem lJ {m:aL} {d:DV} {u:Value} {F:List Nat} {id:Nat} {ch:Ch} {mk:Nat->SV} (hs:dY m d) (h:bX m d=some (ch,mk)) (hk:κ id=u):gY w M κ id ch F↔dz w M m d u F:=by
 subst hk
 unfold bX at h
 split at h
 ·rename_i e ms rows
  simp only[K0,K2] at h
  obtain⟨rfl,rfl⟩:=h
  simp only[dY] at hs
  simp only[gY,dz]
  constructor
  ·rintro⟨xs,G,h1,h2,h3,h4,rfl⟩
   exact⟨rows,xs,G,rfl,by simpa using h1,h2,hs,(gP hs).1 h4,rfl⟩
  ·rintro⟨rows',xs,G,h0,h1,h2,h3,h4,rfl⟩
   simp only[DV.slice.injEq] at h0;subst h0
   exact⟨xs,G,by simpa using h1,h2,fun r hr=>by
    obtain⟨q,hq,rfl⟩:=Lt.1 hr
    exact AB (hs q hq),(gP hs).2 h4,rfl⟩
 ·rename_i ms cs
  simp only[K0,K2] at h
  obtain⟨rfl,rfl⟩:=h
  simp only[dY] at hs
  simp only[gY,dz]
  constructor
  ·rintro⟨b,T,vs,G,h1,h2,h3,h4,rfl⟩
   exact⟨cs,b,T,vs,G,rfl,h1,h2,h3,(lI hs).1 h4,rfl⟩
  ·rintro⟨cs',b,T,vs,G,h0,h1,h2,h3,h4,rfl⟩
   simp only[DV.ptr.injEq] at h0;subst h0
   exact⟨b,T,vs,G,h1,h2,h3,(lI hs).2 h4,rfl⟩
 ·rename_i kk m ks vs
  simp only[K0,K2] at h
  obtain⟨rfl,rfl⟩:=h
  simp only[dY] at hs
  simp only[gY,dz]
  constructor
  ·rintro⟨r,es,clock,G,h1,h2,hB,h3,rfl⟩
   exact⟨ks,vs,r,es,clock,G,rfl,h1,h2,hB,(qT hs).1 h3,rfl⟩
  ·rintro⟨ks',vs',r,es,clock,G,h0,h1,h2,hB,h3,rfl⟩
   simp only[DV.map.injEq] at h0;obtain⟨rfl,rfl⟩:=h0
   exact⟨r,es,clock,G,h1,h2,hB,(qT hs).2 h3,rfl⟩
 ·rename_i T e bs
  simp only[K0,K2] at h
  obtain⟨rfl,rfl⟩:=h
  simp only[gY,dz]
  constructor
  ·exact fun h=>⟨bs,rfl,h⟩
  ·rintro⟨bs',h0,h1⟩
   simp only[DV.str.injEq] at h0;subst h0
   exact h1
 ·cases h
theorem dz.shape {m:aL} {d:DV} {u:Value} {F:List Nat} (h:dz w M m d u F):dY m d:=by
 cases m with
 |sh=>simp[dY]
 |sl e ms=>
  simp only[dz] at h
  obtain⟨rows,xs,G,rfl,_,_,h3,_⟩:=h
  exact h3
 |pt ms=>
  simp only[dz] at h
  obtain⟨cs,b,T,vs,G,rfl,_,_,_,h4,_⟩:=h
  exact h4.len
 |mp kk m=>
  simp only[dz] at h
  obtain⟨ks,ds,r,es,clock,G,rfl,_,_,_,h4,_⟩:=h
  exact h4.len
 |bld T e=>simp[dY]
theorem vP {m:aL} {d:DV} {u:Value} {F:List Nat} {ch:Ch} {mk:Nat->SV} (h:dz w M m d u F) (ho:bX m d=some (ch,mk)):u.oneCell'=true/\∀ (κ:Nat->Value) (id:Nat),κ id=u->ag w M κ (mk id) u:=by
 unfold bX at ho
 split at ho
 ·simp only[K0,K2] at ho
  obtain⟨rfl,rfl⟩:=ho
  simp only[dz] at h
  obtain⟨rows',xs,G,_,h1,_⟩:=h
  refine⟨?_,fun κ id hk=>by simp only[ag];exact hk.symm⟩
  rcases h1.2 with⟨rfl,_⟩|⟨g,cap,cur,rfl,_⟩<;>rfl
 ·simp only[K0,K2] at ho
  obtain⟨rfl,rfl⟩:=ho
  simp only[dz] at h
  obtain⟨cs',b,T,vs,G,_,rfl,_⟩:=h
  exact⟨rfl,fun κ id hk=>by simp only[ag];exact⟨b,hk,rfl⟩⟩
 ·simp only[K0,K2] at ho
  obtain⟨rfl,rfl⟩:=ho
  simp only[dz] at h
  obtain⟨ks',vs',r,es,clock,G,_,rfl,_⟩:=h
  exact⟨rfl,fun κ id hk=>by simp only[ag];exact hk.symm⟩
 ·simp only[K0,K2] at ho
  obtain⟨rfl,rfl⟩:=ho
  simp only[dz] at h
  obtain⟨bs',_,b,p,u',rfl,_⟩:=h
  exact⟨rfl,fun κ id hk=>by simp only[ag];exact⟨b,hk,rfl⟩⟩
 ·cases ho
end
inductive Pt where
 |b (off:Nat)
 |v (i off:Nat)
 |m (k:DV)
def jw:Ch->Pt->Option SV
 | .box cs,.b off=>cs[off]?
 | .vec _ _ rows,.v i off=>match rows[i]? with|some r=>r[off]?|none=>none
 | .map _ kv,.m k=>j0 kv k
 |_,_=>none
def qW (x:SV):Ch->Pt->Ch
 | .box cs,.b off=> .box (cs.set off x)
 | .vec e sz rows,.v i off=>match rows[i]? with|some r=> .vec e sz (rows.set i (r.set off x))|none=> .vec e sz rows
 | .map kk kv,.m k=> .map kk (fJ kv k x)
 |c,_=>c
theorem AC (id:Nat) (dv:DV):∀ (xs:List (List SV)) (i:Nat),(cF id dv xs)[i]?=(xs[i]?).map (b8 id dv)
 |[],i=>by simp[cF]
 |x::xs,0=>by simp[cF]
 |x::xs,i+1=>by simp[cF,AC id dv xs i]
theorem AD (id:Nat) (dv:DV) (y:SV):∀ (xs:List SV) (i:Nat),(b8 id dv xs).set i (cr id dv y)=b8 id dv (xs.set i y)
 |[],i=>by simp[b8]
 |x::xs,0=>by simp[b8]
 |x::xs,i+1=>by simp[b8,AD id dv y xs i]
section
variable {w:World} {M:Nat->Prop} {κ:Nat->Value}
theorem aj.focus {cs:List SV} {vs:List Value} {F:List Nat} {i:Nat} {x:SV} (h:aj w M κ cs vs F) (hx:cs[i]?=some x):
  ∃ u F1 Fx F2,F=F1++(Fx++F2)/\ao w M κ x u Fx/\∀ (M':Nat->Prop) (κ':Nat->Value) (id':Nat) (dv:DV) (v:Value),gh w M w M'->κ'=ak κ id' v->aJ w M' dv (κ id')->∀ x' F',ao w M' κ' x' u F'->aj w M' κ' ((b8 id' dv cs).set i x') vs (F1++(F'++F2)):=by
 have hlt:=(K5.1 hx).1
 have hc:cs=cs.take i++(x::cs.drop (i+1)):=by
  conv=>lhs;rw[<-Lg i cs,L6 hlt,(K5.1 hx).2]
 have hl:=h.length
 rw[hc] at h
 obtain⟨F1,F',rfl,h1,h2⟩:=h.split
 unfold aj at h2
 obtain⟨u,us,Fx,F2,hv,rfl,h3,h4⟩:=h2
 refine⟨u,F1,Fx,F2,rfl,h3,fun M' κ' id' dv v hext hκ hd x' F' hx'=> ?_⟩
 subst hκ
 have e1:(b8 id' dv cs).set i x'=b8 id' dv (cs.take i)++(x'::b8 id' dv (cs.drop (i+1))):=by
  have hlen:(b8 id' dv (cs.take i)).length=i:=by rw[kD,Lb];omega
  conv=>lhs;rw[hc]
  rw[oI,b8,MW _ _ oM]
  simp[hlen]
 rw[e1]
 have e2:vs=vs.take (cs.take i).length++(u::us):=by rw[<-hv,Lg]
 rw[e2]
 refine(rJ hext hd _ _ _ (fun _ _=>rfl) h1).append ?_
 unfold aj
 exact⟨u,us,F',F2,rfl,rfl,hx',rJ hext hd _ _ _ (fun _ _=>rfl) h4⟩
theorem bo.focus {kk:KK} {k:DV} {x:SV}:∀ {kv:List (DV×SV)} {es:List MapEntry} {F:List Nat},bo w M κ kk kv es F->j0 kv k=some x->
  ∃ u F1 Fx F2,F=F1++(Fx++F2)/\ao w M κ x u Fx/\∀ (M':Nat->Prop) (κ':Nat->Value) (id':Nat) (dv:DV) (v:Value),gh w M w M'->κ'=ak κ id' v->aJ w M' dv (κ id')->∀ x' F',ao w M' κ' x' u F'->bo w M' κ' kk (fJ (j9 id' dv kv) k x') es (F1++(F'++F2))
 |[],es,F,h,hg=>by simp[j0] at hg
 |(k',y)::kv,es,F,h,hg=>by
  unfold bo at h
  obtain⟨e,rest,Fa,Fb,rfl,rfl,h1,h2,h3,h4⟩:=h
  simp only[j0] at hg
  split at hg
  ·rename_i heq
   simp only[K0] at hg;subst hg
   have hkey:fy k=fy k'/\kk.fits k=kk.fits k':=by
    cases k<;>cases k'<;>simp_all [oG,fy]
   refine⟨e.val,[],Fa,Fb,rfl,h3,fun M' κ' id' dv v hext hκ hd x' F' hx'=> ?_⟩
   subst hκ
   simp only[j9,fJ,heq,LX,Lk]
   unfold bo
   exact⟨e,rest,F',Fb,rfl,rfl,by rw[hkey.2];exact h1,by rw[hkey.1];exact h2,hx',vC hext hd _ _ _ (fun _ _=>rfl) h4⟩
  ·rename_i hne
   simp only[Ml] at hne
   obtain⟨u,F1,Fx,F2,rfl,k1,k2⟩:=bo.focus h4 hg
   refine⟨u,Fa++F1,Fx,F2,by simp,k1,fun M' κ' id' dv v hext hκ hd x' F' hx'=> ?_⟩
   have:=k2 M' κ' id' dv v hext hκ hd x' F' hx'
   subst hκ
   simp only[j9,fJ,hne,Lm,LI]
   unfold bo
   exact⟨e,rest,Fa,F1++(F'++F2),rfl,by simp,h1,h2,EK hext hd _ _ _ (fun _ _=>rfl) h3,this⟩
theorem t_ {α:Type} {sz:Nat} {x:α}:∀ {rows:List (List α)} {i off:Nat} {r:List α},(∀ q∈rows,q.length=sz)->rows[i]?=some r->off<r.length->(rows.set i (r.set off x)).flatten=rows.flatten.set (i * sz+off) x
 |[],i,off,r,_,h,_=>by simp at h
 |q::rows,0,off,r,hall,h,hlt=>by
  simp at h;subst h
  simp only[List.set_cons_zero,LC,M_,LF]
  rw[List.set_append_left _ _ hlt]
 |q::rows,i+1,off,r,hall,h,hlt=>by
  have hq:=hall q oS
  simp only[List.set_cons_succ,LC]
  rw[t_ (fun q hq=>hall q (by simp[hq])) (by simpa using h) hlt,MW _ _ (by rw[LU];omega)]
  congr 2
  rw[LU];omega
theorem ua {α:Type} {sz:Nat}:∀ {rows:List (List α)} {i off:Nat} {r:List α} {x:α},(∀ q∈rows,q.length=sz)->rows[i]?=some r->r[off]?=some x->rows.flatten[i * sz+off]?=some x
 |[],i,off,r,x,_,h,_=>by simp at h
 |q::rows,0,off,r,x,hall,h,hx=>by
  simp at h;subst h
  rw[LC,M_,LF,LH (K5.1 hx).1];exact hx
 |q::rows,i+1,off,r,x,hall,h,hx=>by
  have hq:=hall q oS
  rw[LC,Lv (by rw[LU];omega)]
  rw[show(i+1) * sz+off - q.length=i * sz+off by rw[LU];omega]
  exact ua (fun q hq=>hall q (by simp[hq])) (by simpa using h) hx
theorem gY.focus {id:Nat} {ch:Ch} {F:List Nat} {p:Pt} {x:SV} (h:gY w M κ id ch F) (hx:jw ch p=some x):
  ∃ u F1 Fx F2,F=F1++(Fx++F2)/\ao w M κ x u Fx/\∀ (M':Nat->Prop) (κ':Nat->Value) (id':Nat) (dv:DV) (v:Value),id≠id'->gh w M w M'->κ'=ak κ id' v->aJ w M' dv (κ id')->∀ x' F',ao w M' κ' x' u F'->gY w M' κ' id (qW x' (jf id' dv ch) p) (F1++(F'++F2)):=by
 cases ch with
 |dead=>simp[jw] at hx
 |box cs=>
  cases p with
  |b off=>
   simp only[jw] at hx
   obtain⟨b,T,vs,G,h1,h2,h3,h4,rfl⟩:=h
   obtain⟨u,F1,Fx,F2,rfl,k1,k2⟩:=h4.focus hx
   refine⟨u,b::F1,Fx,F2,rfl,k1,fun M' κ' id' dv v hne hext hκ hd x' F' hx'=> ?_⟩
   have:=k2 M' κ' id' dv v hext hκ hd x' F' hx'
   exact⟨b,T,vs,_,by rw[hκ,aP _ _ _ _ hne];exact h1,h2,h3,this,rfl⟩
  |v i off=>simp[jw] at hx
  |m k=>simp[jw] at hx
 |vec e sz rows=>
  cases p with
  |v i off=>
   simp only[jw] at hx
   split at hx
   ·rename_i r hr
    obtain⟨xs,G,h1,h2,h3,h4,rfl⟩:=h
    obtain⟨u,F1,Fx,F2,rfl,k1,k2⟩:=h4.focus (ua h3 hr hx)
    refine⟨u,ed (κ id)++F1,Fx,F2,by simp,k1,fun M' κ' id' dv v hne hext hκ hd x' F' hx'=> ?_⟩
    have:=k2 M' κ' id' dv v hext hκ hd x' F' hx'
    have hkj:κ' id=κ id:=by rw[hκ,aP _ _ _ _ hne]
    have hr':(cF id' dv rows)[i]?=some (b8 id' dv r):=by rw[AC,hr];rfl
    have hall':=mW id' dv sz rows h3
    simp only[jf,qW,hr']
    refine⟨xs,F1++(F'++F2),by rw[hkj,M7,gM];exact h1,h2,fun q hq=> ?_, ?_,by rw[hkj];simp⟩
    ·rcases List.mem_or_eq_of_mem_set hq with h|h
     ·exact hall' q h
     ·subst h;rw[M7,kD];exact h3 r (K8 hr)
    ·rw[t_ hall' hr' (by rw[kD];exact(K5.1 hx).1),g9]
     exact this
   ·cases hx
  |b off=>simp[jw] at hx
  |m k=>simp[jw] at hx
 |map kk kv=>
  cases p with
  |m k=>
   simp only[jw] at hx
   obtain⟨r,es,clock,G,h1,h2,hB,h3,rfl⟩:=h
   obtain⟨u,F1,Fx,F2,rfl,k1,k2⟩:=h3.focus hx
   refine⟨u,r::F1,Fx,F2,rfl,k1,fun M' κ' id' dv v hne hext hκ hd x' F' hx'=> ?_⟩
   have:=k2 M' κ' id' dv v hext hκ hd x' F' hx'
   exact⟨r,es,clock,_,by rw[hκ,aP _ _ _ _ hne];exact h1,h2,hB,this,rfl⟩
  |b off=>simp[jw] at hx
  |v i off=>simp[jw] at hx
 |bld T e bs=>cases p<;>simp[jw] at hx
end
def oP (σ:St) (id:Nat) (p:Pt) (id':Nat):Option St:=
 match jw (σ.h id) p with
 |some (.own m d)=>match bX m d with
  |some (ch,mk)=>some ⟨ca id' .any σ.s,ak (ak (ct id' .any σ.h) id (qW (mk id') (jf id' .any (σ.h id)) p)) id' ch⟩
  |none=>none
 |_=>none
def g_ (σ:St) (id:Nat) (p:Pt) (id':Nat) (m:aL) (d:DV):St:=
 ⟨ca id' .any σ.s,ak (ak (ct id' .any σ.h) id (qW (.own m d) (jf id' .any (σ.h id)) p)) id' .dead⟩
section
variable {c:Cx} {σ:St} {κ:Nat->Value} {φ:Nat->List Nat} {a:Act} {w:World}
theorem b_.openAt (hr:b_ c σ κ φ a w) {id id':Nat} {p:Pt} {σ':St} (hne:id≠id') (h:oP σ id p id'=some σ'):∃ κ' φ',b_ c σ' κ' φ' a w:=by
 unfold oP at h
 split at h
 ·rename_i m d hg
  split at h
  ·rename_i ch mk ho
   simp only[K0] at h;subst h
   obtain⟨u,F1,Fx,F2,hφ,hx,hset⟩:=(hr.chunks id).focus hg
   simp only[ao] at hx
   obtain⟨hone,hmk⟩:=vP hx ho
   have hnod:=hr.nod id
   rw[hφ] at hnod
   obtain⟨n1,n2,n3⟩:=Ly.1 hnod
   obtain⟨n4,n5,n6⟩:=Ly.1 n2
   refine⟨ak κ id' u,_,hr.two (G:=F1++([]++F2)) (G':=Fx) hne hone ?_ ?_ ?_ n4 ?_ (by unfold aJ;trivial) (fun hext=> ?_) (fun hext=> ?_)⟩
   ·intro b hb;left;rw[hφ];simp at hb⊢;rcases hb with h|h<;>simp[h]
   ·intro b hb;left;rw[hφ];simp[hb]
   ·simp only[Lk]
    exact Ly.2 ⟨n1,n5,fun x hx y hy=>n3 x hx y (by simp[hy])⟩
   ·intro b hb hbx
    simp at hb
    rcases hb with h|h
    ·exact n3 b h b (by simp[hbx]) rfl
    ·exact n6 b hbx b h rfl
   ·exact hset _ _ id' .any u hne hext rfl (by unfold aJ;trivial) (mk id') [] (ao.of_S _ _ ((hmk (ak κ id' u) id' (by rw[al])).ext hext))
   ·exact(lJ hx.shape ho (by rw[al])).2 (dz.ext hext _ _ _ _ (fun _ _=>rfl) hx)
  ·cases h
 ·cases h
theorem zp {m:aL} {d:DV} {ch:Ch} {mk:Nat->SV} {M:Nat->Prop} {id:Nat} {u:Value} {F:List Nat} (ho:bX m d=some (ch,mk)) (hs:ao w M κ (mk id) u F) (hc:gY w M κ id ch (φ id)):κ id=u/\F=[]:=by
 unfold bX at ho
 split at ho
 ·simp only[K0,K2] at ho
  obtain⟨rfl,rfl⟩:=ho
  simp only[ao,ag] at hs
  exact⟨hs.2.symm,hs.1⟩
 ·simp only[K0,K2] at ho
  obtain⟨rfl,rfl⟩:=ho
  simp only[ao,ag] at hs
  obtain⟨rfl,b,h1,h2⟩:=hs
  exact⟨h1.trans h2.symm,rfl⟩
 ·simp only[K0,K2] at ho
  obtain⟨rfl,rfl⟩:=ho
  simp only[ao,ag] at hs
  exact⟨hs.2.symm,hs.1⟩
 ·simp only[K0,K2] at ho
  obtain⟨rfl,rfl⟩:=ho
  simp only[ao,ag] at hs
  obtain⟨rfl,b,h1,h2⟩:=hs
  exact⟨h1.trans h2.symm,rfl⟩
 ·cases ho
theorem b_.closeAt (hr:b_ c σ κ φ a w) {id id':Nat} {p:Pt} {m:aL} {d:DV} {ch:Ch} {mk:Nat->SV} (hne:id≠id') (ho:bX m d=some (ch,mk)) (hsh:dY m d) (hg:jw (σ.h id) p=some (mk id')) (hh:σ.h id'=ch):∃ κ' φ',b_ c (g_ σ id p id' m d) κ' φ' a w:=by
 obtain⟨u,F1,Fx,F2,hφ,hx,hset⟩:=(hr.chunks id).focus hg
 have hch:=hr.chunks id'
 rw[hh] at hch
 obtain⟨hku,rfl⟩:=zp (φ:=φ) ho hx hch
 have hO:=(lJ hsh ho hku).1 hch
 have hnod:=hr.nod id
 rw[hφ] at hnod
 simp only[Lk] at hφ hnod
 obtain⟨n1,n2,n3⟩:=Ly.1 hnod
 have hsep:∀ b,b∈φ id'->b∉F1/\b∉F2:=fun b hb=>⟨fun h=>hr.sep id id' b hne (by rw[hφ];simp[h]) hb,fun h=>hr.sep id id' b hne (by rw[hφ];simp[h]) hb⟩
 unfold g_
 refine⟨ak κ id' (.pointer none),_,hr.two (G:=F1++(φ id'++F2)) (G':=[]) hne rfl ?_ oS ?_ oS oS (by unfold aJ;trivial) (fun hext=> ?_) (fun hext=>rfl)⟩
 ·intro b hb
  simp at hb
  rcases hb with h|h|h
  ·left;rw[hφ];simp[h]
  ·exact .inr h
  ·left;rw[hφ];simp[h]
 ·refine Ly.2 ⟨n1,Ly.2 ⟨hr.nod id',n2,fun x hx y hy e=>(hsep x hx).2 (e▸hy)⟩,fun x hx y hy e=> ?_⟩
  subst e
  rcases Le.1 hy with h|h
  ·exact(hsep x h).1 hx
  ·exact n3 x hx x h rfl
 ·refine hset _ _ id' .any (.pointer none) hne hext rfl (by unfold aJ;trivial) (.own m d) (φ id') ?_
  simp only[ao]
  exact dz.ext hext _ _ _ _ (fun _ _=>rfl) hO
end
end Go.Proofs.YtgmnipfafmphaaaGreatDoor

