/-
  My text.
-/
import Derived.Test.YtgmnipfafmphaaaGreatDoorSZEngRo
namespace Go.Proofs.YtgmnipfafmphaaaGreatDoor
set_option linter.unusedSimpArgs false
set_option linter.unusedVariables false
open Go.RowKit
def Ff (N:Nat) (l:List SV):Nat->SV:=fun j=>if j<N then(match l[j]? with|some x=>x|none=> .d .any) else match l[j - N]? with|some x=>x|none=> .d .any
theorem vV {pre post:List DV} {x:SV} (j:Nat):(pre.map SV.d++x::post.map SV.d)[j]?=if j=pre.length then some x else if j<pre.length then(pre[j]?).map SV.d else(post[j - pre.length - 1]?).map SV.d:=by
 by_cases h:j=pre.length
 ·subst h
  rw[if_pos rfl,Lv oS]
  simp
 ·rw[if_neg h]
  by_cases h2:j<pre.length
  ·rw[if_pos h2,LH (by simpa using h2),LD]
  ·rw[if_neg h2,Lv oT]
   obtain⟨i,hi⟩:∃ i,j - (pre.map SV.d).length=i+1:=⟨j - pre.length - 1,by simp;omega⟩
   rw[hi,Mb,LD]
   have:j - pre.length - 1=i:=by simp at hi;omega
   rw[this]
theorem AN {P:Program} {f N k:Nat} {fn:Func} {x:SC} {qs:List RV} {m:aL} {d:DV} {ch:Ch} {mk:Nat->SV} {pre post:List DV} {res:SV} {outs:List SV} (hf:P.funcs[f]?=some fn) (hfit:fits P f fn x qs k=true) (hN:fn.ntmps=N) (hk:pre.length+post.length+1=k) (ho:bX m d=some (ch,mk)) (hol:outs.length=k)
  (h:AW P x (vY N k qs res outs) ⟨Ff N (pre.map .d++mk pre.length::post.map .d),ak (fun _=> .dead) pre.length ch⟩):bI P f (pre.map .d++ .own m d::post.map .d) res outs:=by
 subst hN hk
 have hlen:(pre.map SV.d++SV.own m d::post.map SV.d).length=pre.length+post.length+1:=by simp;omega
 refine qZ (x:=x) (qs:=qs) hf (by rw[hlen];exact hfit) ?_ (by rw[hlen];exact hol) ?_
 ·rw[Lj]
  intro y hy
  rcases Le.1 hy with hy|hy
  ·obtain⟨d,_,rfl⟩:=Lt.1 hy;rfl
  ·rcases Li.1 hy with rfl|hy
   ·simp only[AQ,ho,Option.isSome_some]
   ·obtain⟨d,_,rfl⟩:=Lt.1 hy;rfl
 ·rw[hlen]
  have hv:∀ i,qh i (.own m d)=mk i:=fun i=>by simp only[qh,ho]
  have hx:∀ j,(match(pre.map SV.d++SV.own m d::post.map SV.d)[j]? with|some x=>qh j x|none=>SV.d .any)=(match(pre.map SV.d++mk pre.length::post.map SV.d)[j]? with|some x=>x|none=>SV.d .any):=fun j=>by
   rw[vV,vV]
   by_cases h1:j=pre.length
   ·subst h1;simp only[LX,hv]
   ·rw[if_neg h1,if_neg h1]
    by_cases h2:j<pre.length
    ·rw[if_pos h2];cases pre[j]?<;>rfl
    ·rw[if_neg h2];cases post[j - pre.length - 1]?<;>rfl
  have e1:vX fn.ntmps (pre.map SV.d++SV.own m d::post.map SV.d)=Ff fn.ntmps (pre.map .d++mk pre.length::post.map .d):=by
   funext j
   unfold vX Ff
   by_cases hlt:j<fn.ntmps
   ·simp only[hlt,LX];exact hx j
   ·simp only[hlt,LI];exact hx (j - fn.ntmps)
  have e2:xB (pre.map SV.d++SV.own m d::post.map SV.d)=ak (fun _=> .dead) pre.length ch:=by
   funext j
   unfold xB ak
   rw[vV]
   by_cases h1:j=pre.length
   ·rw[if_pos h1,if_pos h1]
    simp only[xA,ho]
   ·rw[if_neg h1,if_neg h1]
    by_cases h2:j<pre.length
    ·rw[if_pos h2];cases pre[j]?<;>rfl
    ·rw[if_neg h2];cases post[j - pre.length - 1]?<;>rfl
  rw[e1,e2];exact h
def CK (N:Nat) (c:SV) (as:List DV):Nat->SV:=fun j=>if j=0 then c else if j<N then(match as[j - 1]? with|some d=> .d d|none=> .d .any) else if j=N then c else match as[j - N - 1]? with|some d=> .d d|none=> .d .any
def JQ (N:Nat) (a:DV) (c:SV) (as:List DV):Nat->SV:=fun j=>if j=0 then .d a else if j=1 then c else if j<N then(match as[j - 2]? with|some d=> .d d|none=> .d .any) else if j=N then .d a else if j=N+1 then c else match as[j - N - 2]? with|some d=> .d d|none=> .d .any
theorem IQ {N:Nat} {c:SV} {as:List DV} (hN:0<N):Ff N (c::as.map .d)=CK N c as:=by
 funext j
 unfold Ff CK
 by_cases h0:j=0
 ·subst h0;simp[hN]
 ·obtain⟨i,rfl⟩:∃ i,j=i+1:=⟨j - 1,by omega⟩
  by_cases hlt:i+1<N
  ·simp only[hlt,LX,Mb,LD,Nat.add_sub_cancel]
   rw[if_neg oM]
   cases as[i]?<;>rfl
  ·simp only[hlt,LI]
   rw[if_neg oM]
   by_cases he:i+1=N
   ·simp only[he,LX,MZ,Ma]
   ·obtain⟨q,hq⟩:∃ q,i+1 - N=q+1:=⟨i+1 - N - 1,by omega⟩
    simp only[he,LI,hq,Mb,LD,Nat.add_sub_cancel]
    cases as[q]?<;>rfl
theorem hD {P:Program} {f N k:Nat} {fn:Func} {x:SC} {qs:List RV} {m:aL} {d:DV} {ch:Ch} {mk:Nat->SV} {post:List DV} {res:SV} {outs:List SV} (hf:P.funcs[f]?=some fn) (hfit:fits P f fn x qs k=true) (hN:fn.ntmps=N) (hk:post.length+1=k) (ho:bX m d=some (ch,mk)) (hol:outs.length=k) (hpos:0<N)
  (h:AW P x (vY N k qs res outs) ⟨CK N (mk 0) post,ak (fun _=> .dead) 0 ch⟩):bI P f (.own m d::post.map .d) res outs:=by
 rw[<-IQ hpos] at h
 exact AN (pre:=[]) hf hfit hN (by simpa using hk) ho hol h
section
variable {α K V:Type} {row:α->List DV} {n e:Nat} {ke:K->DV} {f:V->DV} {kk:KK}
theorem jx (hsz:∀ a,(row a).length=n) (l:List α):bX (.sl e (List.replicate n .sh)) (.slice (l.map row))=some (.vec e n (bH row l),.vec):=by
 simp only[bX,Ll,lg hsz]
theorem rW (hsz:∀ a,(row a).length=n) (l:List α):dY (.sl e (List.replicate n .sh)) (.slice (l.map row)):=by
 intro r hr
 obtain⟨a,_,rfl⟩:=Lt.1 hr
 rw[Ll];exact hsz a
def Dw (ke:K->DV) (f:V->DV) (W:List (K×V)):DV:= .map (W.map fun p=>ke p.1) (W.map fun p=>f p.2)
theorem CL (W:List (K×V)):bX (.mp kk .sh) (Dw ke f W)=some (.map kk (ik ke (fun v=> .d (f v)) W),.mp):=by
 have:∀ W:List (K×V),(W.map fun p=>ke p.1).zip ((W.map fun p=>f p.2).map (oO .sh))=ik ke (fun v=> .d (f v)) W:=fun W=>by
  induction W with
  |nil=>rfl
  |cons p W ih=>
   simp only[Lh,List.zip_cons_cons,ih]
   rfl
 unfold Dw
 simp only[bX,this]
theorem Fg (W:List (K×V)):dY (.mp kk .sh) (Dw ke f W):=by
 unfold Dw dY
 simp
end
section
variable {P:Program} {s:Nat->SV} {h:Nat->Ch} {Kk:St->Prop} {sos:List SO} {α K V Y R:Type} {row:α->List DV} {ke:K->DV} {fv:V->DV} {kk:KK} {σ:St} {g0:SV} {d0:DV}
theorem Fh {h:Nat->Ch} {g1 g2:List SV} {a1 a2:List DV} {id:Nat} {m:aL} {d d':DV} {ch ch':Ch} {mk mk':Nat->SV} (h1:SV.toDVs g1=some a1) (h2:SV.toDVs g2=some a2) (ho:bX m d=some (ch,mk)) (hs:dY m d) (ho':bX m d'=some (ch',mk')) (hh:h id=ch):
  HandL h (g1++mk id::g2) (a1.map .d++ .own m d::a2.map .d) (a1.map .d++ .own m d'::a2.map .d) [(id,ch')]:=by
 induction g1 generalizing a1 with
 |nil=>
  simp only[SV.toDVs,K0] at h1;subst h1
  exact .ptr ho hs ho' hh oS (ls h2)
 |cons g g1 ih=>
  unfold SV.toDVs at h1
  split at h1
  ·rename_i d0 ds' h3 h4
   simp only[K0] at h1;subst h1
   exact .data h3 (ih h4)
  ·cases h1
theorem Ku {r:R} {a:Option Y} {k:Y->Option R} {dst:Option Nat} {f id:Nat} {args:List SX} {g1 g2:List SV} {a1 a2:List DV} {m:aL} {d:DV} {D:Y->DV} {ch:Ch} {C:Y->Ch} {mk:Nat->SV} {E:Y->SV} {ins outs:Y->List SV} {s':Y->Nat->SV}
  (hm:a.bind k=some r) (hx:args.map (ev s)=g1++mk id::g2) (h1:SV.toDVs g1=some a1) (h2:SV.toDVs g2=some a2) (hh:h id=ch) (ho:bX m d=some (ch,mk)) (hsh:dY m d) (ho':∀ y,bX m (D y)=some (C y,mk))
  (hs:∀ y,a=some y->bI P f (ins y) (E y) (outs y)) (hi:∀ y,ins y=a1.map .d++ .own m d::a2.map .d) (hou:∀ y,outs y=a1.map .d++ .own m (D y)::a2.map .d) (henc:∀ y,(E y).closed=true/\(E y).nOwn=0)
  (hd:∀ y,s' y=match dst with|some t=>ak s t (E y)|none=>s) (hk:∀ y,k y=some r->aA P Kk sos ⟨s' y,ak h id (C y)⟩):aA P Kk (.p dst (.f f) args::sos) ⟨s,h⟩:=by
 cases hy:a with
 |none=>rw[hy] at hm;cases hm
 |some y=>
  rw[hy] at hm
  obtain⟨c1,c2⟩:=henc y
  refine JL (σ1:=⟨s,h⟩) (L:=[(id,C y)]) (ce.refl _) (hs y hy) c1 ?_ (s':=s' y) (h':=ak h id (C y)) ?_ (hk y hm)
  ·have e1:args.map (ev (St.s ⟨s,h⟩))=g1++mk id::g2:=hx
   rw[e1,hi y,hou y]
   exact Fh h1 h2 ho hsh (ho' y) hh
  ·rw[hd y]
   cases dst<;>simp only[takes,c2,LX,gG]
theorem qY {r:R} {a:Option Y} {k:Y->Option R} {dst f id e n:Nat} {args:List SX} {gs:List SV} {as0 as:List DV} {l:List α} {l':Y->List α} {E:Y->SV} (hm:a.bind k=some r) (hx:args.map (ev s)= .vec id::gs) (hgs:SV.toDVs gs=some as0) (hh:h id= .vec e n (bH row l)) (hsz:∀ a,(row a).length=n)
  (hs:∀ y,a=some y->bI P f (.own (.sl e (List.replicate n .sh)) (.slice (l.map row))::as.map .d) (E y) (.own (.sl e (List.replicate n .sh)) (.slice ((l' y).map row))::as.map .d)) (he:as0=as) (henc:∀ y,(E y).closed=true/\(E y).nOwn=0)
  (hk:∀ y,k y=some r->aA P Kk sos ⟨ak s dst (E y),ak h id (.vec e n (bH row (l' y)))⟩):aA P Kk (.p (some dst) (.f f) args::sos) ⟨s,h⟩:=by
 subst he
 exact Ku (mk:= .vec) (g1:=[]) (a1:=[]) (m:= .sl e (List.replicate n .sh)) (C:=fun y=> .vec e n (bH row (l' y))) (D:=fun y=> .slice ((l' y).map row)) (ins:=fun _=>_) (outs:=fun y=>_) (s':=fun y=>ak s dst (E y)) hm hx (rfl) hgs hh (jx hsz l) (rW hsz l) (fun y=>jx hsz (l' y)) hs (fun _=>rfl) (fun _=>rfl) henc (fun _=>rfl) hk
theorem Fi {h:Nat->Ch} {g1 g2 xs:List SV} {a1 a2 ds:List DV} {id:Nat} {m:aL} {d:DV} {ch:Ch} {mk:Nat->SV} (h1:SV.toDVs g1=some a1) (h2:SV.toDVs g2=some a2) (h3:SV.toDVs xs=some ds) (ho:bX m d=some (ch,mk)) (hs:dY m d) (hh:h id=ch):
  jh h ((g1++mk id::g2)++xs) ((a1.map .d++ .own m d::a2.map .d)++ds.map .d) [id]:=by
 induction g1 generalizing a1 with
 |nil=>
  simp only[SV.toDVs,K0] at h1;subst h1
  exact .own ho hs hh oS (zI (sa h3) h2)
 |cons g g1 ih=>
  unfold SV.toDVs at h1
  split at h1
  ·rename_i d0 ds' h4 h5
   simp only[K0] at h1;subst h1
   exact .data h4 (ih h5)
  ·cases h1
theorem vW {N:Nat} {s1:Nat->SV} {h1 h2:Nat->Ch}:∀ n,fA N ⟨s1,h1⟩ n=fA N ⟨s1,h2⟩ n
 |0=>rfl
 |n+1=>by
  show fA N ⟨s1,h1⟩ n++[s1 (N+n)]=fA N ⟨s1,h2⟩ n++[s1 (N+n)]
  rw[vW (h1:=h1) (h2:=h2) n]
theorem ta:∀ {xs:List SV} {ds:List DV},SV.toDVs xs=some ds->ds.length=xs.length
 |[],ds,hd=>by simp only[SV.toDVs,K0] at hd;subst hd;rfl
 |x::xs,ds,hd=>by
  unfold SV.toDVs at hd
  split at hd
  ·rename_i d ds' h1 h2
   simp only[K0] at hd;subst hd
   simp[ta h2]
  ·cases hd
theorem Fj {A:Type} {r:A×List α} {a:A} {l:List α} {N k n e:Nat} {qs:List RV} {E:A×List α->SV} {as ds:List DV} {gs xs:List SV} {rows:List (List SV)} {s1:Nat->SV} {h1:Nat->Ch} (hm:some (a,l)=some r) (hcl:ce σ ⟨s1,h1⟩) (hh:h1 0= .vec e n rows) (hr:cH rows (bH row l)) (hsz:∀ a,(row a).length=n)
  (hg:fA N ⟨s1,h1⟩ k= .vec 0::gs) (hgs:SV.toDVs gs=some as) (hq:DB ⟨s1,ak h1 0 (.vec e n (bH row l))⟩ qs=some xs) (hxs:SV.toDVs xs=some ds) (he:E (a,l)=oQ (ds.map .d)):vY N k qs (E r) (.own (.sl e (List.replicate n .sh)) (.slice (r.2.map row))::as.map .d) .ret σ:=by
 cases hm
 have h2:ce ⟨s1,h1⟩ ⟨s1,ak h1 0 (.vec e n (bH row l))⟩:=lL (fun _=> .inl rfl) fun j=>by
  by_cases hj:j=0
  ·subst hj;simp only[ak,LX,hh];exact gU hr
  ·simp only[ak,hj,LI];exact bk rfl
 refine⟨_,ce.trans hcl h2,xs,ds.map .d,[0],hq,he,by rw[LN,ta hxs], ?_⟩
 rw[vW (h2:=h1),hg]
 exact Fi (g1:=[]) (a1:=[]) (mk:= .vec) (rfl) hgs hxs (jx hsz l) (rW hsz l) (by simp only[ak,LX])
theorem lp {A:Type} {r:A×List α} {a:A} {l:List α} {N k n e:Nat} {qs:List RV} {E:A×List α->SV} {as ds:List DV} {gs xs:List SV} {rows:List (List SV)} {s1:Nat->SV} {h1:Nat->Ch} (hm:some (a,l)=some r) (hcl:ce σ ⟨s1,h1⟩) (hh:h1 0= .vec e n rows) (hr:cH rows (bH row l)) (hsz:∀ a,(row a).length=n)
  (hg:fA N ⟨s1,h1⟩ k= .vec 0::gs) (hgs:SV.toDVs gs=some as) (hq:DB ⟨s1,ak h1 0 (.vec e n (bH row l))⟩ qs=some xs) (hxs:SV.toDVs xs=some ds) (he:E (a,l)=oQ (ds.map .d)):vY N k qs (E r) (.own (.sl e (List.replicate n .sh)) (.slice (r.2.map row))::as.map .d) .normal σ:=by
 cases hm
 have h2:ce ⟨s1,h1⟩ ⟨s1,ak h1 0 (.vec e n (bH row l))⟩:=lL (fun _=> .inl rfl) fun j=>by
  by_cases hj:j=0
  ·subst hj;simp only[ak,LX,hh];exact gU hr
  ·simp only[ak,hj,LI];exact bk rfl
 refine⟨_,ce.trans hcl h2,xs,ds.map .d,[0],hq,he,by rw[LN,ta hxs], ?_⟩
 rw[vW (h2:=h1),hg]
 exact Fi (g1:=[]) (a1:=[]) (mk:= .vec) (rfl) hgs hxs (jx hsz l) (rW hsz l) (by simp only[ak,LX])
end
attribute [push_cast] CK JQ
end Go.Proofs.YtgmnipfafmphaaaGreatDoor

