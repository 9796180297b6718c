/-
  My text.
-/
import Derived.Test.YteaolfcegaidpaaGreatDoorSYEngI
namespace Go.Proofs.YteaolfcegaidpaaGreatDoor
set_option linter.unusedSimpArgs false
set_option linter.unusedVariables false
open Go.RowKit
def Cz (m:cB) (d:DV):SV:=
 match m with
 | .sh=> .d d
 | .sl e ms=> .own (.sl e ms) d
 | .pt ms=> .own (.pt ms) d
 | .mp kk m=> .own (.mp kk m) d
 | .bld T e=> .own (.bld T e) d
def iP (ms:List cB) (ds:List DV):List SV:=List.zipWith Cz ms ds
def cY:cB->DV->Option (Ch×(Nat->SV))
 | .sl e ms,.slice rows=>some (.vec e ms.length (rows.map (iP ms)),.vec)
 | .pt ms,.ptr cs=>some (.box (iP ms cs),fun id=> .ref id 0)
 | .mp kk m,.map ks vs=>some (.map kk (ks.zip (vs.map (Cz m))),.mp)
 | .bld T e,.str bs=>some (.bld T e bs,fun id=> .ref id 0)
 |_,_=>none
section
variable {w:World} {M:Nat->Prop} {κ:Nat->Value}
theorem yf {m:cB} {d:DV} {u:Value} {F:List Nat}:aK w M κ (Cz m d) u F↔gl w M m d u F:=by
 cases m with
 |sh=>simp only[Cz,aK,ae,gl]
 |_=>simp only[Cz,aK]
theorem uF:∀ {ms:List cB} {ds:List DV} {us:List Value} {F:List Nat},ds.length=ms.length->(am w M κ (iP ms ds) us F↔iO w M ms ds us F)
 |[],ds,us,F,h=>by
  have:ds=[]:=OX.1 h
  subst this
  simp[iP,am,iO]
 |m::ms,[],us,F,h=>by simp at h
 |m::ms,d::ds,us,F,h=>by
  have ih:=fun us F=>uF (ms:=ms) (ds:=ds) (us:=us) (F:=F) (by simpa using h)
  unfold iP at *
  simp only[List.zipWith_cons_cons,am,iO]
  constructor
  ·rintro⟨u,us',F1,F2,rfl,rfl,h1,h2⟩
   exact⟨d,ds,u,us',F1,F2,rfl,rfl,rfl,yf.1 h1,(ih us' F2).1 h2⟩
  ·rintro⟨d',ds',u,us',F1,F2,h0,rfl,rfl,h1,h2⟩
   simp only[O7] at h0
   obtain⟨rfl,rfl⟩:=h0
   exact⟨u,us',F1,F2,rfl,rfl,yf.2 h1,(ih us' F2).2 h2⟩
theorem EZ {ms:List cB} {ds:List DV} (h:ds.length=ms.length):(iP ms ds).length=ms.length:=by simp[iP,h]
theorem uG {ms:List cB}:∀ {rows:List (List DV)} {xs:List Value} {G:List Nat},(∀ r∈rows,r.length=ms.length)->(am w M κ (rows.map (iP ms)).flatten xs G↔jo (fun r ys G'=>iO w M ms r ys G') rows xs G)
 |[],xs,G,_=>by simp[am,jo]
 |r::rows,xs,G,h=>by
  have hr:=h r oS
  have ih:=fun xs G=>uG (rows:=rows) (xs:=xs) (G:=G) (fun r hr=>h r (by simp[hr]))
  simp only[OQ,O_,jo]
  constructor
  ·intro hg
   obtain⟨G1,G2,rfl,h1,h2⟩:=hg.split
   exact⟨_,_,G1,G2,(OU _ _).symm,rfl,(uF hr).1 h1,(ih _ _).1 h2⟩
  ·rintro⟨ys,zs,G1,G2,rfl,rfl,h1,h2⟩
   exact((uF hr).2 h1).append ((ih _ _).2 h2)
theorem xh {kk:KK} {m:cB}:∀ {ks vs:List DV} {es:List MapEntry} {G:List Nat},vs.length=ks.length->(bk w M κ kk (ks.zip (vs.map (Cz m))) es G↔qt (fun d v G'=>gl w M m d v G') kk ks vs es G)
 |[],vs,es,G,h=>by
  have:vs=[]:=OX.1 h
  subst this
  simp[bk,qt]
 |k::ks,[],es,G,h=>by simp at h
 |k::ks,d::vs,es,G,h=>by
  have ih:=fun es G=>xh (kk:=kk) (m:=m) (ks:=ks) (vs:=vs) (es:=es) (G:=G) (by simpa using h)
  simp only[OQ,Qm,bk,qt]
  constructor
  ·rintro⟨e,rest,F1,F2,rfl,rfl,h1,h2,h3,h4⟩
   exact⟨d,vs,e,rest,F1,F2,rfl,rfl,rfl,h1,h2,yf.1 h3,(ih _ _).1 h4⟩
  ·rintro⟨d',vs',e,rest,F1,F2,h0,rfl,rfl,h1,h2,h3,h4⟩
   simp only[O7] at h0
   obtain⟨rfl,rfl⟩:=h0
   exact⟨e,rest,F1,F2,rfl,rfl,h1,h2,yf.2 h3,(ih _ _).2 h4⟩
theorem qt.len {R:DV->Value->List Nat->Prop} {kk:KK}:∀ {ks vs:List DV} {es:List MapEntry} {G:List Nat},qt R kk ks vs es G->vs.length=ks.length
 |[],vs,es,G,h=>by simp[qt] at h;simp[h]
 |k::ks,vs,es,G,h=>by
  simp only[qt] at h
  obtain⟨d,ds',e,es',G1,G2,rfl,_,_,_,_,_,h6⟩:=h
  simp[qt.len h6]
theorem iO.len:∀ {ms:List cB} {ds:List DV} {vs:List Value} {F:List Nat},iO w M ms ds vs F->ds.length=ms.length
 |[],ds,vs,F,h=>by simp[iO] at h;simp[h]
 |m::ms,ds,vs,F,h=>by
  simp only[iO] at h
  obtain⟨d,ds',v,vs',F1,F2,rfl,_,_,_,h4⟩:=h
  simp[iO.len h4]
def eP:cB->DV->Prop
 | .sl _ ms,.slice rows=>∀ r∈rows,r.length=ms.length
 | .pt ms,.ptr cs=>cs.length=ms.length
 | .mp _ _,.map ks vs=>vs.length=ks.length
 |_,_=>True
theorem qB {m:cB} {d:DV} {u:Value} {F:List Nat} {id:Nat} {ch:Ch} {mk:Nat->SV} (hs:eP m d) (h:cY m d=some (ch,mk)) (hk:κ id=u):kj w M κ id ch F↔gl w M m d u F:=by
 subst hk
 unfold cY at h
 split at h
 ·rename_i e ms rows
  simp only[Oy,OB] at h
  obtain⟨rfl,rfl⟩:=h
  simp only[eP] at hs
  simp only[kj,gl]
  constructor
  ·rintro⟨xs,G,h1,h2,h3,h4,rfl⟩
   exact⟨rows,xs,G,rfl,by simpa using h1,h2,hs,(uG hs).1 h4,rfl⟩
  ·rintro⟨rows',xs,G,h0,h1,h2,h3,h4,rfl⟩
   simp only[DV.slice.injEq] at h0;subst h0
   exact⟨xs,G,by simpa using h1,h2,fun r hr=>by
    obtain⟨q,hq,rfl⟩:=Pd.1 hr
    exact EZ (hs q hq),(uG hs).2 h4,rfl⟩
 ·rename_i ms cs
  simp only[Oy,OB] at h
  obtain⟨rfl,rfl⟩:=h
  simp only[eP] at hs
  simp only[kj,gl]
  constructor
  ·rintro⟨b,T,vs,G,h1,h2,h3,h4,rfl⟩
   exact⟨cs,b,T,vs,G,rfl,h1,h2,h3,(uF hs).1 h4,rfl⟩
  ·rintro⟨cs',b,T,vs,G,h0,h1,h2,h3,h4,rfl⟩
   simp only[DV.ptr.injEq] at h0;subst h0
   exact⟨b,T,vs,G,h1,h2,h3,(uF hs).2 h4,rfl⟩
 ·rename_i kk m ks vs
  simp only[Oy,OB] at h
  obtain⟨rfl,rfl⟩:=h
  simp only[eP] at hs
  simp only[kj,gl]
  constructor
  ·rintro⟨r,es,clock,G,h1,h2,hB,h3,rfl⟩
   exact⟨ks,vs,r,es,clock,G,rfl,h1,h2,hB,(xh hs).1 h3,rfl⟩
  ·rintro⟨ks',vs',r,es,clock,G,h0,h1,h2,hB,h3,rfl⟩
   simp only[DV.map.injEq] at h0;obtain⟨rfl,rfl⟩:=h0
   exact⟨r,es,clock,G,h1,h2,hB,(xh hs).2 h3,rfl⟩
 ·rename_i T e bs
  simp only[Oy,OB] at h
  obtain⟨rfl,rfl⟩:=h
  simp only[kj,gl]
  constructor
  ·exact fun h=>⟨bs,rfl,h⟩
  ·rintro⟨bs',h0,h1⟩
   simp only[DV.str.injEq] at h0;subst h0
   exact h1
 ·cases h
theorem gl.shape {m:cB} {d:DV} {u:Value} {F:List Nat} (h:gl w M m d u F):eP m d:=by
 cases m with
 |sh=>simp[eP]
 |sl e ms=>
  simp only[gl] at h
  obtain⟨rows,xs,G,rfl,_,_,h3,_⟩:=h
  exact h3
 |pt ms=>
  simp only[gl] at h
  obtain⟨cs,b,T,vs,G,rfl,_,_,_,h4,_⟩:=h
  exact h4.len
 |mp kk m=>
  simp only[gl] at h
  obtain⟨ks,ds,r,es,clock,G,rfl,_,_,_,h4,_⟩:=h
  exact h4.len
 |bld T e=>simp[eP]
theorem Bv {m:cB} {d:DV} {u:Value} {F:List Nat} {ch:Ch} {mk:Nat->SV} (h:gl w M m d u F) (ho:cY m d=some (ch,mk)):u.oneCell'=true/\∀ (κ:Nat->Value) (id:Nat),κ id=u->ae w M κ (mk id) u:=by
 unfold cY at ho
 split at ho
 ·simp only[Oy,OB] at ho
  obtain⟨rfl,rfl⟩:=ho
  simp only[gl] at h
  obtain⟨rows',xs,G,_,h1,_⟩:=h
  refine⟨?_,fun κ id hk=>by simp only[ae];exact hk.symm⟩
  rcases h1.2 with⟨rfl,_⟩|⟨g,cap,cur,rfl,_⟩<;>rfl
 ·simp only[Oy,OB] at ho
  obtain⟨rfl,rfl⟩:=ho
  simp only[gl] at h
  obtain⟨cs',b,T,vs,G,_,rfl,_⟩:=h
  exact⟨rfl,fun κ id hk=>by simp only[ae];exact⟨b,hk,rfl⟩⟩
 ·simp only[Oy,OB] at ho
  obtain⟨rfl,rfl⟩:=ho
  simp only[gl] at h
  obtain⟨ks',vs',r,es,clock,G,_,rfl,_⟩:=h
  exact⟨rfl,fun κ id hk=>by simp only[ae];exact hk.symm⟩
 ·simp only[Oy,OB] at ho
  obtain⟨rfl,rfl⟩:=ho
  simp only[gl] at h
  obtain⟨bs',_,b,p,u',rfl,_⟩:=h
  exact⟨rfl,fun κ id hk=>by simp only[ae];exact⟨b,hk,rfl⟩⟩
 ·cases ho
end
inductive Pt where
 |b (off:Nat)
 |v (i off:Nat)
 |m (k:DV)
def tm:Ch->Pt->Option SV
 | .box cs,.b off=>cs[off]?
 | .vec _ _ rows,.v i off=>match rows[i]? with|some r=>r[off]?|none=>none
 | .map _ kv,.m k=>n_ kv k
 |_,_=>none
def Gj (x:SV):Ch->Pt->Ch
 | .box cs,.b off=> .box (cs.set off x)
 | .vec e sz rows,.v i off=>match rows[i]? with|some r=> .vec e sz (rows.set i (r.set off x))|none=> .vec e sz rows
 | .map kk kv,.m k=> .map kk (no kv k x)
 |c,_=>c
theorem E0 (id:Nat) (dv:DV):∀ (xs:List (List SV)) (i:Nat),(rx id dv xs)[i]?=(xs[i]?).map (fk id dv)
 |[],i=>by simp[rx]
 |x::xs,0=>by simp[rx]
 |x::xs,i+1=>by simp[rx,E0 id dv xs i]
theorem E1 (id:Nat) (dv:DV) (y:SV):∀ (xs:List SV) (i:Nat),(fk id dv xs).set i (fQ id dv y)=fk id dv (xs.set i y)
 |[],i=>by simp[fk]
 |x::xs,0=>by simp[fk]
 |x::xs,i+1=>by simp[fk,E1 id dv y xs i]
section
variable {w:World} {M:Nat->Prop} {κ:Nat->Value}
theorem am.focus {cs:List SV} {vs:List Value} {F:List Nat} {i:Nat} {x:SV} (h:am w M κ cs vs F) (hx:cs[i]?=some x):
  ∃ u F1 Fx F2,F=F1++(Fx++F2)/\aK w M κ x u Fx/\∀ (M':Nat->Prop) (κ':Nat->Value) (id':Nat) (dv:DV) (v:Value),lL w M w M'->κ'=aH κ id' v->aQ w M' dv (κ id')->∀ x' F',aK w M' κ' x' u F'->am w M' κ' ((fk id' dv cs).set i x') vs (F1++(F'++F2)):=by
 have hlt:=(OG.1 hx).1
 have hc:cs=cs.take i++(x::cs.drop (i+1)):=by
  conv=>lhs;rw[<-OU i cs,PT hlt,(OG.1 hx).2]
 have hl:=h.length
 rw[hc] at h
 obtain⟨F1,F',rfl,h1,h2⟩:=h.split
 unfold am at h2
 obtain⟨u,us,Fx,F2,hv,rfl,h3,h4⟩:=h2
 refine⟨u,F1,Fx,F2,rfl,h3,fun M' κ' id' dv v hext hκ hd x' F' hx'=> ?_⟩
 subst hκ
 have e1:(fk id' dv cs).set i x'=fk id' dv (cs.take i)++(x'::fk id' dv (cs.drop (i+1))):=by
  have hlen:(fk id' dv (cs.take i)).length=i:=by rw[pc,OT];omega
  conv=>lhs;rw[hc]
  rw[uB,fk,List.set_append_right _ _ oM]
  simp[hlen]
 rw[e1]
 have e2:vs=vs.take (cs.take i).length++(u::us):=by rw[<-hv,OU]
 rw[e2]
 refine(x7 hext hd _ _ _ (fun _ _=>rfl) h1).append ?_
 unfold am
 exact⟨u,us,F',F2,rfl,rfl,hx',x7 hext hd _ _ _ (fun _ _=>rfl) h4⟩
theorem bk.focus {kk:KK} {k:DV} {x:SV}:∀ {kv:List (DV×SV)} {es:List MapEntry} {F:List Nat},bk w M κ kk kv es F->n_ kv k=some x->
  ∃ u F1 Fx F2,F=F1++(Fx++F2)/\aK w M κ x u Fx/\∀ (M':Nat->Prop) (κ':Nat->Value) (id':Nat) (dv:DV) (v:Value),lL w M w M'->κ'=aH κ id' v->aQ w M' dv (κ id')->∀ x' F',aK w M' κ' x' u F'->bk w M' κ' kk (no (Ap id' dv kv) k x') es (F1++(F'++F2))
 |[],es,F,h,hg=>by simp[n_] at hg
 |(k',y)::kv,es,F,h,hg=>by
  unfold bk at h
  obtain⟨e,rest,Fa,Fb,rfl,rfl,h1,h2,h3,h4⟩:=h
  simp only[n_] at hg
  split at hg
  ·rename_i heq
   simp only[Oy] at hg;subst hg
   have hkey:dD k=dD k'/\kk.fits k=kk.fits k':=by
    cases k<;>cases k'<;>simp_all [xV,dD]
   refine⟨e.val,[],Fa,Fb,rfl,h3,fun M' κ' id' dv v hext hκ hd x' F' hx'=> ?_⟩
   subst hκ
   simp only[Ap,no,heq,PR,OR]
   unfold bk
   exact⟨e,rest,F',Fb,rfl,rfl,by rw[hkey.2];exact h1,by rw[hkey.1];exact h2,hx',Bh hext hd _ _ _ (fun _ _=>rfl) h4⟩
  ·rename_i hne
   simp only[P0] at hne
   obtain⟨u,F1,Fx,F2,rfl,k1,k2⟩:=bk.focus h4 hg
   refine⟨u,Fa++F1,Fx,F2,by simp,k1,fun M' κ' id' dv v hext hκ hd x' F' hx'=> ?_⟩
   have:=k2 M' κ' id' dv v hext hκ hd x' F' hx'
   subst hκ
   simp only[Ap,no,hne,O5,Pp]
   unfold bk
   exact⟨e,rest,Fa,F1++(F'++F2),rfl,by simp,h1,h2,Ja hext hd _ _ _ (fun _ _=>rfl) h3,this⟩
theorem z7 {α:Type} {sz:Nat} {x:α}:∀ {rows:List (List α)} {i off:Nat} {r:List α},(∀ q∈rows,q.length=sz)->rows[i]?=some r->off<r.length->(rows.set i (r.set off x)).flatten=rows.flatten.set (i * sz+off) x
 |[],i,off,r,_,h,_=>by simp at h
 |q::rows,0,off,r,hall,h,hlt=>by
  simp at h;subst h
  simp only[List.set_cons_zero,O_,Nat.zero_mul,Ps]
  rw[List.set_append_left _ _ hlt]
 |q::rows,i+1,off,r,hall,h,hlt=>by
  have hq:=hall q oS
  simp only[List.set_cons_succ,O_]
  rw[z7 (fun q hq=>hall q (by simp[hq])) (by simpa using h) hlt,List.set_append_right _ _ (by rw[PD];omega)]
  congr 2
  rw[PD];omega
theorem z8 {α:Type} {sz:Nat}:∀ {rows:List (List α)} {i off:Nat} {r:List α} {x:α},(∀ q∈rows,q.length=sz)->rows[i]?=some r->r[off]?=some x->rows.flatten[i * sz+off]?=some x
 |[],i,off,r,x,_,h,_=>by simp at h
 |q::rows,0,off,r,x,hall,h,hx=>by
  simp at h;subst h
  rw[O_,Nat.zero_mul,Ps,Py (OG.1 hx).1];exact hx
 |q::rows,i+1,off,r,x,hall,h,hx=>by
  have hq:=hall q oS
  rw[O_,Pe (by rw[PD];omega)]
  rw[show(i+1) * sz+off - q.length=i * sz+off by rw[PD];omega]
  exact z8 (fun q hq=>hall q (by simp[hq])) (by simpa using h) hx
theorem kj.focus {id:Nat} {ch:Ch} {F:List Nat} {p:Pt} {x:SV} (h:kj w M κ id ch F) (hx:tm ch p=some x):
  ∃ u F1 Fx F2,F=F1++(Fx++F2)/\aK w M κ x u Fx/\∀ (M':Nat->Prop) (κ':Nat->Value) (id':Nat) (dv:DV) (v:Value),id≠id'->lL w M w M'->κ'=aH κ id' v->aQ w M' dv (κ id')->∀ x' F',aK w M' κ' x' u F'->kj w M' κ' id (Gj x' (Bg id' dv ch) p) (F1++(F'++F2)):=by
 cases ch with
 |dead=>simp[tm] at hx
 |box cs=>
  cases p with
  |b off=>
   simp only[tm] at hx
   obtain⟨b,T,vs,G,h1,h2,h3,h4,rfl⟩:=h
   obtain⟨u,F1,Fx,F2,rfl,k1,k2⟩:=h4.focus hx
   refine⟨u,b::F1,Fx,F2,rfl,k1,fun M' κ' id' dv v hne hext hκ hd x' F' hx'=> ?_⟩
   have:=k2 M' κ' id' dv v hext hκ hd x' F' hx'
   exact⟨b,T,vs,_,by rw[hκ,bf _ _ _ _ hne];exact h1,h2,h3,this,rfl⟩
  |v i off=>simp[tm] at hx
  |m k=>simp[tm] at hx
 |vec e sz rows=>
  cases p with
  |v i off=>
   simp only[tm] at hx
   split at hx
   ·rename_i r hr
    obtain⟨xs,G,h1,h2,h3,h4,rfl⟩:=h
    obtain⟨u,F1,Fx,F2,rfl,k1,k2⟩:=h4.focus (z8 h3 hr hx)
    refine⟨u,kh (κ id)++F1,Fx,F2,by simp,k1,fun M' κ' id' dv v hne hext hκ hd x' F' hx'=> ?_⟩
    have:=k2 M' κ' id' dv v hext hκ hd x' F' hx'
    have hkj:κ' id=κ id:=by rw[hκ,bf _ _ _ _ hne]
    have hr':(rx id' dv rows)[i]?=some (fk id' dv r):=by rw[E0,hr];rfl
    have hall':=sE id' dv sz rows h3
    simp only[Bg,Gj,hr']
    refine⟨xs,F1++(F'++F2),by rw[hkj,List.length_set,mO];exact h1,h2,fun q hq=> ?_, ?_,by rw[hkj];simp⟩
    ·rcases List.mem_or_eq_of_mem_set hq with h|h
     ·exact hall' q h
     ·subst h;rw[List.length_set,pc];exact h3 r (OE hr)
    ·rw[z7 hall' hr' (by rw[pc];exact(OG.1 hx).1),kV]
     exact this
   ·cases hx
  |b off=>simp[tm] at hx
  |m k=>simp[tm] at hx
 |map kk kv=>
  cases p with
  |m k=>
   simp only[tm] at hx
   obtain⟨r,es,clock,G,h1,h2,hB,h3,rfl⟩:=h
   obtain⟨u,F1,Fx,F2,rfl,k1,k2⟩:=h3.focus hx
   refine⟨u,r::F1,Fx,F2,rfl,k1,fun M' κ' id' dv v hne hext hκ hd x' F' hx'=> ?_⟩
   have:=k2 M' κ' id' dv v hext hκ hd x' F' hx'
   exact⟨r,es,clock,_,by rw[hκ,bf _ _ _ _ hne];exact h1,h2,hB,this,rfl⟩
  |b off=>simp[tm] at hx
  |v i off=>simp[tm] at hx
 |bld T e bs=>cases p<;>simp[tm] at hx
end
def Bw (σ:St) (id:Nat) (p:Pt) (id':Nat):Option St:=
 match tm (σ.h id) p with
 |some (.own m d)=>match cY m d with
  |some (ch,mk)=>some ⟨gn id' .any σ.s,aH (aH (lv id' .any σ.h) id (Gj (mk id') (Bg id' .any (σ.h id)) p)) id' ch⟩
  |none=>none
 |_=>none
def yg (σ:St) (id:Nat) (p:Pt) (id':Nat) (m:cB) (d:DV):St:=
 ⟨gn id' .any σ.s,aH (aH (lv id' .any σ.h) id (Gj (.own m d) (Bg id' .any (σ.h id)) p)) id' .dead⟩
section
variable {c:Cx} {σ:St} {κ:Nat->Value} {φ:Nat->List Nat} {a:Act} {w:World}
theorem cE.openAt (hr:cE c σ κ φ a w) {id id':Nat} {p:Pt} {σ':St} (hne:id≠id') (h:Bw σ id p id'=some σ'):∃ κ' φ',cE c σ' κ' φ' a w:=by
 unfold Bw at h
 split at h
 ·rename_i m d hg
  split at h
  ·rename_i ch mk ho
   simp only[Oy] at h;subst h
   obtain⟨u,F1,Fx,F2,hφ,hx,hset⟩:=(hr.chunks id).focus hg
   simp only[aK] at hx
   obtain⟨hone,hmk⟩:=Bv hx ho
   have hnod:=hr.nod id
   rw[hφ] at hnod
   obtain⟨n1,n2,n3⟩:=Pc.1 hnod
   obtain⟨n4,n5,n6⟩:=Pc.1 n2
   refine⟨aH κ id' u,_,hr.two (G:=F1++([]++F2)) (G':=Fx) hne hone ?_ ?_ ?_ n4 ?_ (by unfold aQ;trivial) (fun hext=> ?_) (fun hext=> ?_)⟩
   ·intro b hb;left;rw[hφ];simp at hb⊢;rcases hb with h|h<;>simp[h]
   ·intro b hb;left;rw[hφ];simp[hb]
   ·simp only[OR]
    exact Pc.2 ⟨n1,n5,fun x hx y hy=>n3 x hx y (by simp[hy])⟩
   ·intro b hb hbx
    simp at hb
    rcases hb with h|h
    ·exact n3 b h b (by simp[hbx]) rfl
    ·exact n6 b hbx b h rfl
   ·exact hset _ _ id' .any u hne hext rfl (by unfold aQ;trivial) (mk id') [] (aK.of_S _ _ ((hmk (aH κ id' u) id' (by rw[an])).ext hext))
   ·exact(qB hx.shape ho (by rw[an])).2 (gl.ext hext _ _ _ _ (fun _ _=>rfl) hx)
  ·cases h
 ·cases h
theorem D1 {m:cB} {d:DV} {ch:Ch} {mk:Nat->SV} {M:Nat->Prop} {id:Nat} {u:Value} {F:List Nat} (ho:cY m d=some (ch,mk)) (hs:aK w M κ (mk id) u F) (hc:kj w M κ id ch (φ id)):κ id=u/\F=[]:=by
 unfold cY at ho
 split at ho
 ·simp only[Oy,OB] at ho
  obtain⟨rfl,rfl⟩:=ho
  simp only[aK,ae] at hs
  exact⟨hs.2.symm,hs.1⟩
 ·simp only[Oy,OB] at ho
  obtain⟨rfl,rfl⟩:=ho
  simp only[aK,ae] at hs
  obtain⟨rfl,b,h1,h2⟩:=hs
  exact⟨h1.trans h2.symm,rfl⟩
 ·simp only[Oy,OB] at ho
  obtain⟨rfl,rfl⟩:=ho
  simp only[aK,ae] at hs
  exact⟨hs.2.symm,hs.1⟩
 ·simp only[Oy,OB] at ho
  obtain⟨rfl,rfl⟩:=ho
  simp only[aK,ae] at hs
  obtain⟨rfl,b,h1,h2⟩:=hs
  exact⟨h1.trans h2.symm,rfl⟩
 ·cases ho
theorem cE.closeAt (hr:cE c σ κ φ a w) {id id':Nat} {p:Pt} {m:cB} {d:DV} {ch:Ch} {mk:Nat->SV} (hne:id≠id') (ho:cY m d=some (ch,mk)) (hsh:eP m d) (hg:tm (σ.h id) p=some (mk id')) (hh:σ.h id'=ch):∃ κ' φ',cE c (yg σ id p id' m d) κ' φ' a w:=by
 obtain⟨u,F1,Fx,F2,hφ,hx,hset⟩:=(hr.chunks id).focus hg
 have hch:=hr.chunks id'
 rw[hh] at hch
 obtain⟨hku,rfl⟩:=D1 (φ:=φ) ho hx hch
 have hO:=(qB hsh ho hku).1 hch
 have hnod:=hr.nod id
 rw[hφ] at hnod
 simp only[OR] at hφ hnod
 obtain⟨n1,n2,n3⟩:=Pc.1 hnod
 have hsep:∀ b,b∈φ id'->b∉F1/\b∉F2:=fun b hb=>⟨fun h=>hr.sep id id' b hne (by rw[hφ];simp[h]) hb,fun h=>hr.sep id id' b hne (by rw[hφ];simp[h]) hb⟩
 unfold yg
 refine⟨aH κ id' (.pointer none),_,hr.two (G:=F1++(φ id'++F2)) (G':=[]) hne rfl ?_ oS ?_ oS oS (by unfold aQ;trivial) (fun hext=> ?_) (fun hext=>rfl)⟩
 ·intro b hb
  simp at hb
  rcases hb with h|h|h
  ·left;rw[hφ];simp[h]
  ·exact .inr h
  ·left;rw[hφ];simp[h]
 ·refine Pc.2 ⟨n1,Pc.2 ⟨hr.nod id',n2,fun x hx y hy e=>(hsep x hx).2 (e▸hy)⟩,fun x hx y hy e=> ?_⟩
  subst e
  rcases OV.1 hy with h|h
  ·exact(hsep x h).1 hx
  ·exact n3 x hx x h rfl
 ·refine hset _ _ id' .any (.pointer none) hne hext rfl (by unfold aQ;trivial) (.own m d) (φ id') ?_
  simp only[aK]
  exact gl.ext hext _ _ _ _ (fun _ _=>rfl) hO
end
