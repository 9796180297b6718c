/-
  My text.
-/
import Derived.Test.YteaolfcegaidpaaGreatDoorSXEngI
namespace Go.Proofs.YteaolfcegaidpaaGreatDoor
set_option linter.unusedSimpArgs false
set_option linter.unusedVariables false
open Go.RowKit
def AQ (m:b8) (d:DV):SV:=
 match m with
 | .sh=> .d d
 | .sl e ms=> .own (.sl e ms) d
 | .pt ms=> .own (.pt ms) d
 | .mp kk m=> .own (.mp kk m) d
 | .bld T e=> .own (.bld T e) d
def fB (ms:List b8) (ds:List DV):List SV:=List.zipWith AQ ms ds
def cz:b8->DV->Option (Ch×(Nat->SV))
 | .sl e ms,.slice rows=>some (.vec e ms.length (rows.map (fB ms)),.vec)
 | .pt ms,.ptr cs=>some (.box (fB ms cs),fun id=> .ref id 0)
 | .mp kk m,.map ks vs=>some (.map kk (ks.zip (vs.map (AQ m))),.mp)
 | .bld T e,.str bs=>some (.bld T e bs,fun id=> .ref id 0)
 |_,_=>none
section
variable {w:World} {M:Nat->Prop} {κ:Nat->Value}
theorem wD {m:b8} {d:DV} {u:Value} {F:List Nat}:aQ w M κ (AQ m d) u F↔fA w M m d u F:=by
 cases m with
 |sh=>simp only[AQ,aQ,af,fA]
 |_=>simp only[AQ,aQ]
theorem tk:∀ {ms:List b8} {ds:List DV} {us:List Value} {F:List Nat},ds.length=ms.length->(ao w M κ (fB ms ds) us F↔gW w M ms ds us F)
 |[],ds,us,F,h=>by
  have:ds=[]:=Ms.1 h
  subst this
  simp[fB,ao,gW]
 |m::ms,[],us,F,h=>by simp at h
 |m::ms,d::ds,us,F,h=>by
  have ih:=fun us F=>tk (ms:=ms) (ds:=ds) (us:=us) (F:=F) (by simpa using h)
  unfold fB at *
  simp only[List.zipWith_cons_cons,ao,gW]
  constructor
  ·rintro⟨u,us',F1,F2,rfl,rfl,h1,h2⟩
   exact⟨d,ds,u,us',F1,F2,rfl,rfl,rfl,wD.1 h1,(ih us' F2).1 h2⟩
  ·rintro⟨d',ds',u,us',F1,F2,h0,rfl,rfl,h1,h2⟩
   simp only[MG] at h0
   obtain⟨rfl,rfl⟩:=h0
   exact⟨u,us',F1,F2,rfl,rfl,wD.2 h1,(ih us' F2).2 h2⟩
theorem Dl {ms:List b8} {ds:List DV} (h:ds.length=ms.length):(fB ms ds).length=ms.length:=by simp[fB,h]
theorem tl {ms:List b8}:∀ {rows:List (List DV)} {xs:List Value} {G:List Nat},(∀ r∈rows,r.length=ms.length)->(ao w M κ (rows.map (fB ms)).flatten xs G↔iC (fun r ys G'=>gW w M ms r ys G') rows xs G)
 |[],xs,G,_=>by simp[ao,iC]
 |r::rows,xs,G,h=>by
  have hr:=h r oS
  have ih:=fun xs G=>tl (rows:=rows) (xs:=xs) (G:=G) (fun r hr=>h r (by simp[hr]))
  simp only[Mk,MJ,iC]
  constructor
  ·intro hg
   obtain⟨G1,G2,rfl,h1,h2⟩:=hg.split
   exact⟨_,_,G1,G2,(MM _ _).symm,rfl,(tk hr).1 h1,(ih _ _).1 h2⟩
  ·rintro⟨ys,zs,G1,G2,rfl,rfl,h1,h2⟩
   exact((tk hr).2 h1).append ((ih _ _).2 h2)
theorem vG {kk:KK} {m:b8}:∀ {ks vs:List DV} {es:List MapEntry} {G:List Nat},vs.length=ks.length->(bn w M κ kk (ks.zip (vs.map (AQ m))) es G↔pv (fun d v G'=>fA w M m d v G') kk ks vs es G)
 |[],vs,es,G,h=>by
  have:vs=[]:=Ms.1 h
  subst this
  simp[bn,pv]
 |k::ks,[],es,G,h=>by simp at h
 |k::ks,d::vs,es,G,h=>by
  have ih:=fun es G=>vG (kk:=kk) (m:=m) (ks:=ks) (vs:=vs) (es:=es) (G:=G) (by simpa using h)
  simp only[Mk,NM,bn,pv]
  constructor
  ·rintro⟨e,rest,F1,F2,rfl,rfl,h1,h2,h3,h4⟩
   exact⟨d,vs,e,rest,F1,F2,rfl,rfl,rfl,h1,h2,wD.1 h3,(ih _ _).1 h4⟩
  ·rintro⟨d',vs',e,rest,F1,F2,h0,rfl,rfl,h1,h2,h3,h4⟩
   simp only[MG] at h0
   obtain⟨rfl,rfl⟩:=h0
   exact⟨e,rest,F1,F2,rfl,rfl,h1,h2,wD.2 h3,(ih _ _).2 h4⟩
theorem pv.len {R:DV->Value->List Nat->Prop} {kk:KK}:∀ {ks vs:List DV} {es:List MapEntry} {G:List Nat},pv R kk ks vs es G->vs.length=ks.length
 |[],vs,es,G,h=>by simp[pv] at h;simp[h]
 |k::ks,vs,es,G,h=>by
  simp only[pv] at h
  obtain⟨d,ds',e,es',G1,G2,rfl,_,_,_,_,_,h6⟩:=h
  simp[pv.len h6]
theorem gW.len:∀ {ms:List b8} {ds:List DV} {vs:List Value} {F:List Nat},gW w M ms ds vs F->ds.length=ms.length
 |[],ds,vs,F,h=>by simp[gW] at h;simp[h]
 |m::ms,ds,vs,F,h=>by
  simp only[gW] at h
  obtain⟨d,ds',v,vs',F1,F2,rfl,_,_,_,h4⟩:=h
  simp[gW.len h4]
def ec:b8->DV->Prop
 | .sl _ ms,.slice rows=>∀ r∈rows,r.length=ms.length
 | .pt ms,.ptr cs=>cs.length=ms.length
 | .mp _ _,.map ks vs=>vs.length=ks.length
 |_,_=>True
theorem pC {m:b8} {d:DV} {u:Value} {F:List Nat} {id:Nat} {ch:Ch} {mk:Nat->SV} (hs:ec m d) (h:cz m d=some (ch,mk)) (hk:κ id=u):j7 w M κ id ch F↔fA w M m d u F:=by
 subst hk
 unfold cz at h
 split at h
 ·rename_i e ms rows
  simp only[L7,L_] at h
  obtain⟨rfl,rfl⟩:=h
  simp only[ec] at hs
  simp only[j7,fA]
  constructor
  ·rintro⟨xs,G,h1,h2,h3,h4,rfl⟩
   exact⟨rows,xs,G,rfl,by simpa using h1,h2,hs,(tl hs).1 h4,rfl⟩
  ·rintro⟨rows',xs,G,h0,h1,h2,h3,h4,rfl⟩
   simp only[DV.slice.injEq] at h0;subst h0
   exact⟨xs,G,by simpa using h1,h2,fun r hr=>by
    obtain⟨q,hq,rfl⟩:=MT.1 hr
    exact Dl (hs q hq),(tl hs).2 h4,rfl⟩
 ·rename_i ms cs
  simp only[L7,L_] at h
  obtain⟨rfl,rfl⟩:=h
  simp only[ec] at hs
  simp only[j7,fA]
  constructor
  ·rintro⟨b,T,vs,G,h1,h2,h3,h4,rfl⟩
   exact⟨cs,b,T,vs,G,rfl,h1,h2,h3,(tk hs).1 h4,rfl⟩
  ·rintro⟨cs',b,T,vs,G,h0,h1,h2,h3,h4,rfl⟩
   simp only[DV.ptr.injEq] at h0;subst h0
   exact⟨b,T,vs,G,h1,h2,h3,(tk hs).2 h4,rfl⟩
 ·rename_i kk m ks vs
  simp only[L7,L_] at h
  obtain⟨rfl,rfl⟩:=h
  simp only[ec] at hs
  simp only[j7,fA]
  constructor
  ·rintro⟨r,es,clock,G,h1,h2,hB,h3,rfl⟩
   exact⟨ks,vs,r,es,clock,G,rfl,h1,h2,hB,(vG hs).1 h3,rfl⟩
  ·rintro⟨ks',vs',r,es,clock,G,h0,h1,h2,hB,h3,rfl⟩
   simp only[DV.map.injEq] at h0;obtain⟨rfl,rfl⟩:=h0
   exact⟨r,es,clock,G,h1,h2,hB,(vG hs).2 h3,rfl⟩
 ·rename_i T e bs
  simp only[L7,L_] at h
  obtain⟨rfl,rfl⟩:=h
  simp only[j7,fA]
  constructor
  ·exact fun h=>⟨bs,rfl,h⟩
  ·rintro⟨bs',h0,h1⟩
   simp only[DV.str.injEq] at h0;subst h0
   exact h1
 ·cases h
theorem fA.shape {m:b8} {d:DV} {u:Value} {F:List Nat} (h:fA w M m d u F):ec m d:=by
 cases m with
 |sh=>simp[ec]
 |sl e ms=>
  simp only[fA] at h
  obtain⟨rows,xs,G,rfl,_,_,h3,_⟩:=h
  exact h3
 |pt ms=>
  simp only[fA] at h
  obtain⟨cs,b,T,vs,G,rfl,_,_,_,h4,_⟩:=h
  exact h4.len
 |mp kk m=>
  simp only[fA] at h
  obtain⟨ks,ds,r,es,clock,G,rfl,_,_,_,h4,_⟩:=h
  exact h4.len
 |bld T e=>simp[ec]
theorem zL {m:b8} {d:DV} {u:Value} {F:List Nat} {ch:Ch} {mk:Nat->SV} (h:fA w M m d u F) (ho:cz m d=some (ch,mk)):u.oneCell'=true/\∀ (κ:Nat->Value) (id:Nat),κ id=u->af w M κ (mk id) u:=by
 unfold cz at ho
 split at ho
 ·simp only[L7,L_] at ho
  obtain⟨rfl,rfl⟩:=ho
  simp only[fA] at h
  obtain⟨rows',xs,G,_,h1,_⟩:=h
  refine⟨?_,fun κ id hk=>by simp only[af];exact hk.symm⟩
  rcases h1.2 with⟨rfl,_⟩|⟨g,cap,cur,rfl,_⟩<;>rfl
 ·simp only[L7,L_] at ho
  obtain⟨rfl,rfl⟩:=ho
  simp only[fA] at h
  obtain⟨cs',b,T,vs,G,_,rfl,_⟩:=h
  exact⟨rfl,fun κ id hk=>by simp only[af];exact⟨b,hk,rfl⟩⟩
 ·simp only[L7,L_] at ho
  obtain⟨rfl,rfl⟩:=ho
  simp only[fA] at h
  obtain⟨ks',vs',r,es,clock,G,_,rfl,_⟩:=h
  exact⟨rfl,fun κ id hk=>by simp only[af];exact hk.symm⟩
 ·simp only[L7,L_] at ho
  obtain⟨rfl,rfl⟩:=ho
  simp only[fA] at h
  obtain⟨bs',_,b,p,u',rfl,_⟩:=h
  exact⟨rfl,fun κ id hk=>by simp only[af];exact⟨b,hk,rfl⟩⟩
 ·cases ho
end
inductive Pt where
 |b (off:Nat)
 |v (i off:Nat)
 |m (k:DV)
def rM:Ch->Pt->Option SV
 | .box cs,.b off=>cs[off]?
 | .vec _ _ rows,.v i off=>match rows[i]? with|some r=>r[off]?|none=>none
 | .map _ kv,.m k=>lM kv k
 |_,_=>none
def EA (x:SV):Ch->Pt->Ch
 | .box cs,.b off=> .box (cs.set off x)
 | .vec e sz rows,.v i off=>match rows[i]? with|some r=> .vec e sz (rows.set i (r.set off x))|none=> .vec e sz rows
 | .map kk kv,.m k=> .map kk (iO kv k x)
 |c,_=>c
theorem Dm (id:Nat) (dv:DV):∀ (xs:List (List SV)) (i:Nat),(qe id dv xs)[i]?=(xs[i]?).map (eE id dv)
 |[],i=>by simp[qe]
 |x::xs,0=>by simp[qe]
 |x::xs,i+1=>by simp[qe,Dm id dv xs i]
theorem Dn (id:Nat) (dv:DV) (y:SV):∀ (xs:List SV) (i:Nat),(eE id dv xs).set i (eS id dv y)=eE id dv (xs.set i y)
 |[],i=>by simp[eE]
 |x::xs,0=>by simp[eE]
 |x::xs,i+1=>by simp[eE,Dn id dv y xs i]
section
variable {w:World} {M:Nat->Prop} {κ:Nat->Value}
theorem ao.focus {cs:List SV} {vs:List Value} {F:List Nat} {i:Nat} {x:SV} (h:ao w M κ cs vs F) (hx:cs[i]?=some x):
  ∃ u F1 Fx F2,F=F1++(Fx++F2)/\aQ w M κ x u Fx/\∀ (M':Nat->Prop) (κ':Nat->Value) (id':Nat) (dv:DV) (v:Value),kN w M w M'->κ'=ay κ id' v->aK w M' dv (κ id')->∀ x' F',aQ w M' κ' x' u F'->ao w M' κ' ((eE id' dv cs).set i x') vs (F1++(F'++F2)):=by
 have hlt:=(Md.1 hx).1
 have hc:cs=cs.take i++(x::cs.drop (i+1)):=by
  conv=>lhs;rw[<-MM i cs,Np hlt,(Md.1 hx).2]
 have hl:=h.length
 rw[hc] at h
 obtain⟨F1,F',rfl,h1,h2⟩:=h.split
 unfold ao at h2
 obtain⟨u,us,Fx,F2,hv,rfl,h3,h4⟩:=h2
 refine⟨u,F1,Fx,F2,rfl,h3,fun M' κ' id' dv v hext hκ hd x' F' hx'=> ?_⟩
 subst hκ
 have e1:(eE id' dv cs).set i x'=eE id' dv (cs.take i)++(x'::eE id' dv (cs.drop (i+1))):=by
  have hlen:(eE id' dv (cs.take i)).length=i:=by rw[nV,MK];omega
  conv=>lhs;rw[hc]
  rw[th,eE,List.set_append_right _ _ oM]
  simp[hlen]
 rw[e1]
 have e2:vs=vs.take (cs.take i).length++(u::us):=by rw[<-hv,MM]
 rw[e2]
 refine(wy hext hd _ _ _ (fun _ _=>rfl) h1).append ?_
 unfold ao
 exact⟨u,us,F',F2,rfl,rfl,hx',wy hext hd _ _ _ (fun _ _=>rfl) h4⟩
theorem bn.focus {kk:KK} {k:DV} {x:SV}:∀ {kv:List (DV×SV)} {es:List MapEntry} {F:List Nat},bn w M κ kk kv es F->lM kv k=some x->
  ∃ u F1 Fx F2,F=F1++(Fx++F2)/\aQ w M κ x u Fx/\∀ (M':Nat->Prop) (κ':Nat->Value) (id':Nat) (dv:DV) (v:Value),kN w M w M'->κ'=ay κ id' v->aK w M' dv (κ id')->∀ x' F',aQ w M' κ' x' u F'->bn w M' κ' kk (iO (tg id' dv kv) k x') es (F1++(F'++F2))
 |[],es,F,h,hg=>by simp[lM] at hg
 |(k',y)::kv,es,F,h,hg=>by
  unfold bn at h
  obtain⟨e,rest,Fa,Fb,rfl,rfl,h1,h2,h3,h4⟩:=h
  simp only[lM] at hg
  split at hg
  ·rename_i heq
   simp only[L7] at hg;subst hg
   have hkey:cH k=cH k'/\kk.fits k=kk.fits k':=by
    cases k<;>cases k'<;>simp_all [ss,cH]
   refine⟨e.val,[],Fa,Fb,rfl,h3,fun M' κ' id' dv v hext hκ hd x' F' hx'=> ?_⟩
   subst hκ
   simp only[tg,iO,heq,Nr,Mq]
   unfold bn
   exact⟨e,rest,F',Fb,rfl,rfl,by rw[hkey.2];exact h1,by rw[hkey.1];exact h2,hx',zy hext hd _ _ _ (fun _ _=>rfl) h4⟩
  ·rename_i hne
   simp only[Nx] at hne
   obtain⟨u,F1,Fx,F2,rfl,k1,k2⟩:=bn.focus h4 hg
   refine⟨u,Fa++F1,Fx,F2,by simp,k1,fun M' κ' id' dv v hext hκ hd x' F' hx'=> ?_⟩
   have:=k2 M' κ' id' dv v hext hκ hd x' F' hx'
   subst hκ
   simp only[tg,iO,hne,My,MZ]
   unfold bn
   exact⟨e,rest,Fa,F1++(F'++F2),rfl,by simp,h1,h2,Hb hext hd _ _ _ (fun _ _=>rfl) h3,this⟩
theorem yy {α:Type} {sz:Nat} {x:α}:∀ {rows:List (List α)} {i off:Nat} {r:List α},(∀ q∈rows,q.length=sz)->rows[i]?=some r->off<r.length->(rows.set i (r.set off x)).flatten=rows.flatten.set (i * sz+off) x
 |[],i,off,r,_,h,_=>by simp at h
 |q::rows,0,off,r,hall,h,hlt=>by
  simp at h;subst h
  simp only[List.set_cons_zero,MJ,Nat.zero_mul,M7]
  rw[List.set_append_left _ _ hlt]
 |q::rows,i+1,off,r,hall,h,hlt=>by
  have hq:=hall q oS
  simp only[List.set_cons_succ,MJ]
  rw[yy (fun q hq=>hall q (by simp[hq])) (by simpa using h) hlt,List.set_append_right _ _ (by rw[M4];omega)]
  congr 2
  rw[M4];omega
theorem yz {α:Type} {sz:Nat}:∀ {rows:List (List α)} {i off:Nat} {r:List α} {x:α},(∀ q∈rows,q.length=sz)->rows[i]?=some r->r[off]?=some x->rows.flatten[i * sz+off]?=some x
 |[],i,off,r,x,_,h,_=>by simp at h
 |q::rows,0,off,r,x,hall,h,hx=>by
  simp at h;subst h
  rw[MJ,Nat.zero_mul,M7,ND (Md.1 hx).1];exact hx
 |q::rows,i+1,off,r,x,hall,h,hx=>by
  have hq:=hall q oS
  rw[MJ,Nm (by rw[M4];omega)]
  rw[show(i+1) * sz+off - q.length=i * sz+off by rw[M4];omega]
  exact yz (fun q hq=>hall q (by simp[hq])) (by simpa using h) hx
theorem j7.focus {id:Nat} {ch:Ch} {F:List Nat} {p:Pt} {x:SV} (h:j7 w M κ id ch F) (hx:rM ch p=some x):
  ∃ u F1 Fx F2,F=F1++(Fx++F2)/\aQ w M κ x u Fx/\∀ (M':Nat->Prop) (κ':Nat->Value) (id':Nat) (dv:DV) (v:Value),id≠id'->kN w M w M'->κ'=ay κ id' v->aK w M' dv (κ id')->∀ x' F',aQ w M' κ' x' u F'->j7 w M' κ' id (EA x' (zx id' dv ch) p) (F1++(F'++F2)):=by
 cases ch with
 |dead=>simp[rM] at hx
 |box cs=>
  cases p with
  |b off=>
   simp only[rM] at hx
   obtain⟨b,T,vs,G,h1,h2,h3,h4,rfl⟩:=h
   obtain⟨u,F1,Fx,F2,rfl,k1,k2⟩:=h4.focus hx
   refine⟨u,b::F1,Fx,F2,rfl,k1,fun M' κ' id' dv v hne hext hκ hd x' F' hx'=> ?_⟩
   have:=k2 M' κ' id' dv v hext hκ hd x' F' hx'
   exact⟨b,T,vs,_,by rw[hκ,aS _ _ _ _ hne];exact h1,h2,h3,this,rfl⟩
  |v i off=>simp[rM] at hx
  |m k=>simp[rM] at hx
 |vec e sz rows=>
  cases p with
  |v i off=>
   simp only[rM] at hx
   split at hx
   ·rename_i r hr
    obtain⟨xs,G,h1,h2,h3,h4,rfl⟩:=h
    obtain⟨u,F1,Fx,F2,rfl,k1,k2⟩:=h4.focus (yz h3 hr hx)
    refine⟨u,jy (κ id)++F1,Fx,F2,by simp,k1,fun M' κ' id' dv v hne hext hκ hd x' F' hx'=> ?_⟩
    have:=k2 M' κ' id' dv v hext hκ hd x' F' hx'
    have hkj:κ' id=κ id:=by rw[hκ,aS _ _ _ _ hne]
    have hr':(qe id' dv rows)[i]?=some (eE id' dv r):=by rw[Dm,hr];rfl
    have hall':=rc id' dv sz rows h3
    simp only[zx,EA,hr']
    refine⟨xs,F1++(F'++F2),by rw[hkj,List.length_set,lR];exact h1,h2,fun q hq=> ?_, ?_,by rw[hkj];simp⟩
    ·rcases List.mem_or_eq_of_mem_set hq with h|h
     ·exact hall' q h
     ·subst h;rw[List.length_set,nV];exact h3 r (Mb hr)
    ·rw[yy hall' hr' (by rw[nV];exact(Md.1 hx).1),j_]
     exact this
   ·cases hx
  |b off=>simp[rM] at hx
  |m k=>simp[rM] at hx
 |map kk kv=>
  cases p with
  |m k=>
   simp only[rM] at hx
   obtain⟨r,es,clock,G,h1,h2,hB,h3,rfl⟩:=h
   obtain⟨u,F1,Fx,F2,rfl,k1,k2⟩:=h3.focus hx
   refine⟨u,r::F1,Fx,F2,rfl,k1,fun M' κ' id' dv v hne hext hκ hd x' F' hx'=> ?_⟩
   have:=k2 M' κ' id' dv v hext hκ hd x' F' hx'
   exact⟨r,es,clock,_,by rw[hκ,aS _ _ _ _ hne];exact h1,h2,hB,this,rfl⟩
  |b off=>simp[rM] at hx
  |v i off=>simp[rM] at hx
 |bld T e bs=>cases p<;>simp[rM] at hx
end
def zM (σ:St) (id:Nat) (p:Pt) (id':Nat):Option St:=
 match rM (σ.h id) p with
 |some (.own m d)=>match cz m d with
  |some (ch,mk)=>some ⟨eF id' .any σ.s,ay (ay (jz id' .any σ.h) id (EA (mk id') (zx id' .any (σ.h id)) p)) id' ch⟩
  |none=>none
 |_=>none
def wE (σ:St) (id:Nat) (p:Pt) (id':Nat) (m:b8) (d:DV):St:=
 ⟨eF id' .any σ.s,ay (ay (jz id' .any σ.h) id (EA (.own m d) (zx id' .any (σ.h id)) p)) id' .dead⟩
section
variable {c:Cx} {σ:St} {κ:Nat->Value} {φ:Nat->List Nat} {a:Act} {w:World}
theorem ce.openAt (hr:ce c σ κ φ a w) {id id':Nat} {p:Pt} {σ':St} (hne:id≠id') (h:zM σ id p id'=some σ'):∃ κ' φ',ce c σ' κ' φ' a w:=by
 unfold zM at h
 split at h
 ·rename_i m d hg
  split at h
  ·rename_i ch mk ho
   simp only[L7] at h;subst h
   obtain⟨u,F1,Fx,F2,hφ,hx,hset⟩:=(hr.chunks id).focus hg
   simp only[aQ] at hx
   obtain⟨hone,hmk⟩:=zL hx ho
   have hnod:=hr.nod id
   rw[hφ] at hnod
   obtain⟨n1,n2,n3⟩:=MN.1 hnod
   obtain⟨n4,n5,n6⟩:=MN.1 n2
   refine⟨ay κ id' u,_,hr.two (G:=F1++([]++F2)) (G':=Fx) hne hone ?_ ?_ ?_ n4 ?_ (by unfold aK;trivial) (fun hext=> ?_) (fun hext=> ?_)⟩
   ·intro b hb;left;rw[hφ];simp at hb⊢;rcases hb with h|h<;>simp[h]
   ·intro b hb;left;rw[hφ];simp[hb]
   ·simp only[Mq]
    exact MN.2 ⟨n1,n5,fun x hx y hy=>n3 x hx y (by simp[hy])⟩
   ·intro b hb hbx
    simp at hb
    rcases hb with h|h
    ·exact n3 b h b (by simp[hbx]) rfl
    ·exact n6 b hbx b h rfl
   ·exact hset _ _ id' .any u hne hext rfl (by unfold aK;trivial) (mk id') [] (aQ.of_S _ _ ((hmk (ay κ id' u) id' (by rw[al])).ext hext))
   ·exact(pC hx.shape ho (by rw[al])).2 (fA.ext hext _ _ _ _ (fun _ _=>rfl) hx)
  ·cases h
 ·cases h
theorem Ck {m:b8} {d:DV} {ch:Ch} {mk:Nat->SV} {M:Nat->Prop} {id:Nat} {u:Value} {F:List Nat} (ho:cz m d=some (ch,mk)) (hs:aQ w M κ (mk id) u F) (hc:j7 w M κ id ch (φ id)):κ id=u/\F=[]:=by
 unfold cz at ho
 split at ho
 ·simp only[L7,L_] at ho
  obtain⟨rfl,rfl⟩:=ho
  simp only[aQ,af] at hs
  exact⟨hs.2.symm,hs.1⟩
 ·simp only[L7,L_] at ho
  obtain⟨rfl,rfl⟩:=ho
  simp only[aQ,af] at hs
  obtain⟨rfl,b,h1,h2⟩:=hs
  exact⟨h1.trans h2.symm,rfl⟩
 ·simp only[L7,L_] at ho
  obtain⟨rfl,rfl⟩:=ho
  simp only[aQ,af] at hs
  exact⟨hs.2.symm,hs.1⟩
 ·simp only[L7,L_] at ho
  obtain⟨rfl,rfl⟩:=ho
  simp only[aQ,af] at hs
  obtain⟨rfl,b,h1,h2⟩:=hs
  exact⟨h1.trans h2.symm,rfl⟩
 ·cases ho
theorem ce.closeAt (hr:ce c σ κ φ a w) {id id':Nat} {p:Pt} {m:b8} {d:DV} {ch:Ch} {mk:Nat->SV} (hne:id≠id') (ho:cz m d=some (ch,mk)) (hsh:ec m d) (hg:rM (σ.h id) p=some (mk id')) (hh:σ.h id'=ch):∃ κ' φ',ce c (wE σ id p id' m d) κ' φ' a w:=by
 obtain⟨u,F1,Fx,F2,hφ,hx,hset⟩:=(hr.chunks id).focus hg
 have hch:=hr.chunks id'
 rw[hh] at hch
 obtain⟨hku,rfl⟩:=Ck (φ:=φ) ho hx hch
 have hO:=(pC hsh ho hku).1 hch
 have hnod:=hr.nod id
 rw[hφ] at hnod
 simp only[Mq] at hφ hnod
 obtain⟨n1,n2,n3⟩:=MN.1 hnod
 have hsep:∀ b,b∈φ id'->b∉F1/\b∉F2:=fun b hb=>⟨fun h=>hr.sep id id' b hne (by rw[hφ];simp[h]) hb,fun h=>hr.sep id id' b hne (by rw[hφ];simp[h]) hb⟩
 unfold wE
 refine⟨ay κ id' (.pointer none),_,hr.two (G:=F1++(φ id'++F2)) (G':=[]) hne rfl ?_ oS ?_ oS oS (by unfold aK;trivial) (fun hext=> ?_) (fun hext=>rfl)⟩
 ·intro b hb
  simp at hb
  rcases hb with h|h|h
  ·left;rw[hφ];simp[h]
  ·exact .inr h
  ·left;rw[hφ];simp[h]
 ·refine MN.2 ⟨n1,MN.2 ⟨hr.nod id',n2,fun x hx y hy e=>(hsep x hx).2 (e▸hy)⟩,fun x hx y hy e=> ?_⟩
  subst e
  rcases Mt.1 hy with h|h
  ·exact(hsep x h).1 hx
  ·exact n3 x hx x h rfl
 ·refine hset _ _ id' .any (.pointer none) hne hext rfl (by unfold aK;trivial) (.own m d) (φ id') ?_
  simp only[aQ]
  exact fA.ext hext _ _ _ _ (fun _ _=>rfl) hO
end
