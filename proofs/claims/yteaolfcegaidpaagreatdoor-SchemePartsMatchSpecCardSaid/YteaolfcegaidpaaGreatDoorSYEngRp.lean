/-
  My text.
-/
import Derived.Test.YteaolfcegaidpaaGreatDoorSYEngRo
namespace Go.Proofs.YteaolfcegaidpaaGreatDoor
set_option linter.unusedSimpArgs false
set_option linter.unusedVariables false
open Go.RowKit
def Gt (N:Nat) (l:List SV):Nat->SV:=fun j=>if j<N then(match l[j]? with|some x=>x|none=> .d .any) else match l[j - N]? with|some x=>x|none=> .d .any
theorem BE {pre post:List DV} {x:SV} (j:Nat):(pre.map SV.d++x::post.map SV.d)[j]?=if j=pre.length then some x else if j<pre.length then(pre[j]?).map SV.d else(post[j - pre.length - 1]?).map SV.d:=by
 by_cases h:j=pre.length
 ·subst h
  rw[Qa rfl,Pe oS]
  simp
 ·rw[P7 h]
  by_cases h2:j<pre.length
  ·rw[Qa h2,Py (by simpa using h2),O6]
  ·rw[P7 h2,Pe oT]
   obtain⟨i,hi⟩:∃ i,j - (pre.map SV.d).length=i+1:=⟨j - pre.length - 1,by simp;omega⟩
   rw[hi,Pn,O6]
   have:j - pre.length - 1=i:=by simp at hi;omega
   rw[this]
theorem Ae {P:Program} {f N k:Nat} {fn:Func} {x:SC} {qs:List RV} {m:cB} {d:DV} {ch:Ch} {mk:Nat->SV} {pre post:List DV} {res:SV} {outs:List SV} (hf:P.funcs[f]?=some fn) (hfit:fits P f fn x qs k=true) (hN:fn.ntmps=N) (hk:pre.length+post.length+1=k) (ho:cY m d=some (ch,mk)) (hol:outs.length=k)
  (h:AW P x (BK N k qs res outs) ⟨Gt N (pre.map .d++mk pre.length::post.map .d),aH (fun _=> .dead) pre.length ch⟩):cF P f (pre.map .d++ .own m d::post.map .d) res outs:=by
 subst hN hk
 have hlen:(pre.map SV.d++SV.own m d::post.map SV.d).length=pre.length+post.length+1:=by simp;omega
 refine BN (x:=x) (qs:=qs) hf (by rw[hlen];exact hfit) ?_ (by rw[hlen];exact hol) ?_
 ·rw[Pa]
  intro y hy
  rcases OV.1 hy with hy|hy
  ·obtain⟨d,_,rfl⟩:=Pd.1 hy;rfl
  ·rcases ON.1 hy with rfl|hy
   ·simp only[Fh,ho,Option.isSome_some]
   ·obtain⟨d,_,rfl⟩:=Pd.1 hy;rfl
 ·rw[hlen]
  have hv:∀ i,ym i (.own m d)=mk i:=fun i=>by simp only[ym,ho]
  have hx:∀ j,(match(pre.map SV.d++SV.own m d::post.map SV.d)[j]? with|some x=>ym j x|none=>SV.d .any)=(match(pre.map SV.d++mk pre.length::post.map SV.d)[j]? with|some x=>x|none=>SV.d .any):=fun j=>by
   rw[BE,BE]
   by_cases h1:j=pre.length
   ·subst h1;simp only[PR,hv]
   ·rw[P7 h1,P7 h1]
    by_cases h2:j<pre.length
    ·rw[Qa h2];cases pre[j]?<;>rfl
    ·rw[P7 h2];cases post[j - pre.length - 1]?<;>rfl
  have e1:Ea fn.ntmps (pre.map SV.d++SV.own m d::post.map SV.d)=Gt fn.ntmps (pre.map .d++mk pre.length::post.map .d):=by
   funext j
   unfold Ea Gt
   by_cases hlt:j<fn.ntmps
   ·simp only[hlt,PR];exact hx j
   ·simp only[hlt,Pp];exact hx (j - fn.ntmps)
  have e2:Fg (pre.map SV.d++SV.own m d::post.map SV.d)=aH (fun _=> .dead) pre.length ch:=by
   funext j
   unfold Fg aH
   rw[BE]
   by_cases h1:j=pre.length
   ·rw[Qa h1,Qa h1]
    simp only[D_,ho]
   ·rw[P7 h1,P7 h1]
    by_cases h2:j<pre.length
    ·rw[Qa h2];cases pre[j]?<;>rfl
    ·rw[P7 h2];cases post[j - pre.length - 1]?<;>rfl
  rw[e1,e2];exact h
def G7 (N:Nat) (c:SV) (as:List DV):Nat->SV:=fun j=>if j=0 then c else if j<N then(match as[j - 1]? with|some d=> .d d|none=> .d .any) else if j=N then c else match as[j - N - 1]? with|some d=> .d d|none=> .d .any
def G8 (N:Nat) (a:DV) (c:SV) (as:List DV):Nat->SV:=fun j=>if j=0 then .d a else if j=1 then c else if j<N then(match as[j - 2]? with|some d=> .d d|none=> .d .any) else if j=N then .d a else if j=N+1 then c else match as[j - N - 2]? with|some d=> .d d|none=> .d .any
theorem MJ {N:Nat} {c:SV} {as:List DV} (hN:0<N):Gt N (c::as.map .d)=G7 N c as:=by
 funext j
 unfold Gt G7
 by_cases h0:j=0
 ·subst h0;simp[hN]
 ·obtain⟨i,rfl⟩:∃ i,j=i+1:=⟨j - 1,by omega⟩
  by_cases hlt:i+1<N
  ·simp only[hlt,PR,Pn,O6,Qd]
   rw[P7 oM]
   cases as[i]?<;>rfl
  ·simp only[hlt,Pp]
   rw[P7 oM]
   by_cases he:i+1=N
   ·simp only[he,PR,QG,PY]
   ·obtain⟨q,hq⟩:∃ q,i+1 - N=q+1:=⟨i+1 - N - 1,by omega⟩
    simp only[he,Pp,hq,Pn,O6,Qd]
    cases as[q]?<;>rfl
theorem MK {N:Nat} {a:DV} {c:SV} {as:List DV} (hN:1<N):Gt N (.d a::c::as.map .d)=G8 N a c as:=by
 funext j
 unfold Gt G8
 by_cases h0:j=0
 ·subst h0;rw[Qa oM];rfl
 by_cases h1:j=1
 ·subst h1;rw[Qa hN];rfl
 rw[P7 h0,P7 h1]
 by_cases hlt:j<N
 ·rw[Qa hlt,Qa hlt]
  obtain⟨i,rfl⟩:∃ i,j=i+2:=⟨j - 2,by omega⟩
  simp only[Pn,O6,Qd]
  cases as[i]?<;>rfl
 ·rw[P7 hlt,P7 hlt]
  by_cases he:j=N
  ·rw[Qa he,he,QG];rfl
  rw[P7 he]
  by_cases he1:j=N+1
  ·rw[Qa he1,he1,Nat.add_sub_cancel_left];rfl
  rw[P7 he1]
  obtain⟨i,hi⟩:∃ i,j - N=i+2:=⟨j - N - 2,by omega⟩
  rw[hi]
  simp only[Pn,O6,Qd]
  cases as[i]?<;>rfl
theorem kX {P:Program} {f N k:Nat} {fn:Func} {x:SC} {qs:List RV} {m:cB} {d:DV} {ch:Ch} {mk:Nat->SV} {post:List DV} {res:SV} {outs:List SV} (hf:P.funcs[f]?=some fn) (hfit:fits P f fn x qs k=true) (hN:fn.ntmps=N) (hk:post.length+1=k) (ho:cY m d=some (ch,mk)) (hol:outs.length=k) (hpos:0<N)
  (h:AW P x (BK N k qs res outs) ⟨G7 N (mk 0) post,aH (fun _=> .dead) 0 ch⟩):cF P f (.own m d::post.map .d) res outs:=by
 rw[<-MJ hpos] at h
 exact Ae (pre:=[]) hf hfit hN (by simpa using hk) ho hol h
theorem D9 {P:Program} {f N k:Nat} {fn:Func} {x:SC} {qs:List RV} {m:cB} {d a:DV} {ch:Ch} {mk:Nat->SV} {post:List DV} {res:SV} {outs:List SV} (hf:P.funcs[f]?=some fn) (hfit:fits P f fn x qs k=true) (hN:fn.ntmps=N) (hk:post.length+2=k) (ho:cY m d=some (ch,mk)) (hol:outs.length=k) (hpos:1<N)
  (h:AW P x (BK N k qs res outs) ⟨G8 N a (mk 1) post,aH (fun _=> .dead) 1 ch⟩):cF P f (.d a:: .own m d::post.map .d) res outs:=by
 rw[<-MK hpos] at h
 exact Ae (pre:=[a]) hf hfit hN oT ho hol h
section
variable {α K V:Type} {row:α->List DV} {n e:Nat} {ke:K->DV} {f:V->DV} {kk:KK}
theorem oZ (hsz:∀ a,(row a).length=n) (l:List α):cY (.sl e (List.replicate n .sh)) (.slice (l.map row))=some (.vec e n (bF row l),.vec):=by
 simp only[cY,Qe,Eh hsz]
theorem BF (hsz:∀ a,(row a).length=n) (l:List α):eP (.sl e (List.replicate n .sh)) (.slice (l.map row)):=by
 intro r hr
 obtain⟨a,_,rfl⟩:=Pd.1 hr
 rw[Qe];exact hsz a
def wy (ke:K->DV) (f:V->DV) (W:List (K×V)):DV:= .map (W.map fun p=>ke p.1) (W.map fun p=>f p.2)
theorem AJ (W:List (K×V)):cY (.mp kk .sh) (wy ke f W)=some (.map kk (iL ke (fun v=> .d (f v)) W),.mp):=by
 have:∀ W:List (K×V),(W.map fun p=>ke p.1).zip ((W.map fun p=>f p.2).map (Cz .sh))=iL ke (fun v=> .d (f v)) W:=fun W=>by
  induction W with
  |nil=>rfl
  |cons p W ih=>
   simp only[OQ,Qm,ih]
   rfl
 unfold wy
 simp only[cY,this]
theorem Fc (W:List (K×V)):eP (.mp kk .sh) (wy ke f W):=by
 unfold wy eP
 simp
end
section
variable {P:Program} {s:Nat->SV} {h:Nat->Ch} {Kk:St->Prop} {sos:List SO} {α K V Y R:Type} {row:α->List DV} {ke:K->DV} {fv:V->DV} {kk:KK} {σ:St} {g0:SV} {d0:DV}
theorem JG {h:Nat->Ch} {g1 g2:List SV} {a1 a2:List DV} {id:Nat} {m:cB} {d d':DV} {ch ch':Ch} {mk mk':Nat->SV} (h1:SV.toDVs g1=some a1) (h2:SV.toDVs g2=some a2) (ho:cY m d=some (ch,mk)) (hs:eP m d) (ho':cY m d'=some (ch',mk')) (hh:h id=ch):
  HandL h (g1++mk id::g2) (a1.map .d++ .own m d::a2.map .d) (a1.map .d++ .own m d'::a2.map .d) [(id,ch')]:=by
 induction g1 generalizing a1 with
 |nil=>
  simp only[SV.toDVs,Oy] at h1;subst h1
  exact .ptr ho hs ho' hh oS (zm h2)
 |cons g g1 ih=>
  unfold SV.toDVs at h1
  split at h1
  ·rename_i d0 ds' h3 h4
   simp only[Oy] at h1;subst h1
   exact .data h3 (ih h4)
  ·cases h1
theorem Nz {r:R} {a:Option Y} {k:Y->Option R} {dst:Option Nat} {f id:Nat} {args:List SX} {g1 g2:List SV} {a1 a2:List DV} {m:cB} {d:DV} {D:Y->DV} {ch:Ch} {C:Y->Ch} {mk:Nat->SV} {E:Y->SV} {ins outs:Y->List SV} {s':Y->Nat->SV}
  (hm:a.bind k=some r) (hx:args.map (ev s)=g1++mk id::g2) (h1:SV.toDVs g1=some a1) (h2:SV.toDVs g2=some a2) (hh:h id=ch) (ho:cY m d=some (ch,mk)) (hsh:eP m d) (ho':∀ y,cY m (D y)=some (C y,mk))
  (hs:∀ y,a=some y->cF P f (ins y) (E y) (outs y)) (hi:∀ y,ins y=a1.map .d++ .own m d::a2.map .d) (hou:∀ y,outs y=a1.map .d++ .own m (D y)::a2.map .d) (henc:∀ y,(E y).closed=true/\(E y).nOwn=0)
  (hd:∀ y,s' y=match dst with|some t=>aH s t (E y)|none=>s) (hk:∀ y,k y=some r->bh P Kk sos ⟨s' y,aH h id (C y)⟩):bh P Kk (.p dst (.f f) args::sos) ⟨s,h⟩:=by
 cases hy:a with
 |none=>rw[hy] at hm;cases hm
 |some y=>
  rw[hy] at hm
  obtain⟨c1,c2⟩:=henc y
  refine Oq (σ1:=⟨s,h⟩) (L:=[(id,C y)]) (dB.refl _) (hs y hy) c1 ?_ (s':=s' y) (h':=aH h id (C y)) ?_ (hk y hm)
  ·have e1:args.map (ev (St.s ⟨s,h⟩))=g1++mk id::g2:=hx
   rw[e1,hi y,hou y]
   exact JG h1 h2 ho hsh (ho' y) hh
  ·rw[hd y]
   cases dst<;>simp only[takes,c2,PR,kW]
theorem xj {r:R} {a:Option Y} {k:Y->Option R} {dst f id e n:Nat} {args:List SX} {gs:List SV} {as0 as:List DV} {l:List α} {l':Y->List α} {E:Y->SV} (hm:a.bind k=some r) (hx:args.map (ev s)= .vec id::gs) (hgs:SV.toDVs gs=some as0) (hh:h id= .vec e n (bF row l)) (hsz:∀ a,(row a).length=n)
  (hs:∀ y,a=some y->cF P f (.own (.sl e (List.replicate n .sh)) (.slice (l.map row))::as.map .d) (E y) (.own (.sl e (List.replicate n .sh)) (.slice ((l' y).map row))::as.map .d)) (he:as0=as) (henc:∀ y,(E y).closed=true/\(E y).nOwn=0)
  (hk:∀ y,k y=some r->bh P Kk sos ⟨aH s dst (E y),aH h id (.vec e n (bF row (l' y)))⟩):bh P Kk (.p (some dst) (.f f) args::sos) ⟨s,h⟩:=by
 subst he
 exact Nz (mk:= .vec) (g1:=[]) (a1:=[]) (m:= .sl e (List.replicate n .sh)) (C:=fun y=> .vec e n (bF row (l' y))) (D:=fun y=> .slice ((l' y).map row)) (ins:=fun _=>_) (outs:=fun y=>_) (s':=fun y=>aH s dst (E y)) hm hx (rfl) hgs hh (oZ hsz l) (BF hsz l) (fun y=>oZ hsz (l' y)) hs (fun _=>rfl) (fun _=>rfl) henc (fun _=>rfl) hk
theorem JH {r:R} {a:Option Y} {k:Y->Option R} {dst f id:Nat} {args:List SX} {gs:List SV} {as0 as:List DV} {W:List (K×V)} {W':Y->List (K×V)} {ve:V->SV} {E:Y->SV} (hm:a.bind k=some r) (hx:args.map (ev s)=g0:: .mp id::gs) (hd0:g0.toDV=some d0) (hgs:SV.toDVs gs=some as0) (hh:h id= .map kk (iL ke ve W)) (hve:ve=fun v=> .d (fv v))
  (hs:∀ y,a=some y->cF P f (.d d0:: .own (.mp kk .sh) (wy ke fv W)::as.map .d) (E y) (.d d0:: .own (.mp kk .sh) (wy ke fv (W' y))::as.map .d)) (he:as0=as) (henc:∀ y,(E y).closed=true/\(E y).nOwn=0)
  (hk:∀ y,k y=some r->bh P Kk sos ⟨aH s dst (E y),aH h id (.map kk (iL ke (fun v=> .d (fv v)) (W' y)))⟩):bh P Kk (.p (some dst) (.f f) args::sos) ⟨s,h⟩:=by
 subst he hve
 exact Nz (mk:= .mp) (g1:=[g0]) (a1:=[d0]) (m:= .mp kk .sh) (C:=fun y=> .map kk (iL ke (fun v=> .d (fv v)) (W' y))) (D:=fun y=>wy ke fv (W' y)) (ins:=fun _=>_) (outs:=fun y=>_) (s':=fun y=>aH s dst (E y)) hm hx (by simp only[SV.toDVs,hd0]) hgs hh (AJ W) (Fc W) (fun y=>AJ (W' y)) hs (fun _=>rfl) (fun _=>rfl) henc (fun _=>rfl) hk
theorem Gu {h:Nat->Ch} {g1 g2 xs:List SV} {a1 a2 ds:List DV} {id:Nat} {m:cB} {d:DV} {ch:Ch} {mk:Nat->SV} (h1:SV.toDVs g1=some a1) (h2:SV.toDVs g2=some a2) (h3:SV.toDVs xs=some ds) (ho:cY m d=some (ch,mk)) (hs:eP m d) (hh:h id=ch):
  tp h ((g1++mk id::g2)++xs) ((a1.map .d++ .own m d::a2.map .d)++ds.map .d) [id]:=by
 induction g1 generalizing a1 with
 |nil=>
  simp only[SV.toDVs,Oy] at h1;subst h1
  exact .own ho hs hh oS (Hh (yt h3) h2)
 |cons g g1 ih=>
  unfold SV.toDVs at h1
  split at h1
  ·rename_i d0 ds' h4 h5
   simp only[Oy] at h1;subst h1
   exact .data h4 (ih h5)
  ·cases h1
theorem BG {N:Nat} {s1:Nat->SV} {h1 h2:Nat->Ch}:∀ n,io N ⟨s1,h1⟩ n=io N ⟨s1,h2⟩ n
 |0=>rfl
 |n+1=>by
  show io N ⟨s1,h1⟩ n++[s1 (N+n)]=io N ⟨s1,h2⟩ n++[s1 (N+n)]
  rw[BG (h1:=h1) (h2:=h2) n]
theorem wl:∀ {xs:List SV} {ds:List DV},SV.toDVs xs=some ds->ds.length=xs.length
 |[],ds,hd=>by simp only[SV.toDVs,Oy] at hd;subst hd;rfl
 |x::xs,ds,hd=>by
  unfold SV.toDVs at hd
  split at hd
  ·rename_i d ds' h1 h2
   simp only[Oy] at hd;subst hd
   simp[wl h2]
  ·cases hd
theorem JI {A:Type} {r:A×List α} {a:A} {l:List α} {N k n e:Nat} {qs:List RV} {E:A×List α->SV} {as ds:List DV} {gs xs:List SV} {rows:List (List SV)} {s1:Nat->SV} {h1:Nat->Ch} (hm:some (a,l)=some r) (hcl:dB σ ⟨s1,h1⟩) (hh:h1 0= .vec e n rows) (hr:kA rows (bF row l)) (hsz:∀ a,(row a).length=n)
  (hg:io N ⟨s1,h1⟩ k= .vec 0::gs) (hgs:SV.toDVs gs=some as) (hq:FQ ⟨s1,aH h1 0 (.vec e n (bF row l))⟩ qs=some xs) (hxs:SV.toDVs xs=some ds) (he:E (a,l)=lN (ds.map .d)):BK N k qs (E r) (.own (.sl e (List.replicate n .sh)) (.slice (r.2.map row))::as.map .d) .ret σ:=by
 cases hm
 have h2:dB ⟨s1,h1⟩ ⟨s1,aH h1 0 (.vec e n (bF row l))⟩:=zj (fun _=> .inl rfl) fun j=>by
  by_cases hj:j=0
  ·subst hj;simp only[aH,PR,hh];exact qD hr
  ·simp only[aH,hj,Pp];exact bj rfl
 refine⟨_,dB.trans hcl h2,xs,ds.map .d,[0],hq,he,by rw[Px,wl hxs], ?_⟩
 rw[BG (h2:=h1),hg]
 exact Gu (g1:=[]) (a1:=[]) (mk:= .vec) (rfl) hgs hxs (oZ hsz l) (BF hsz l) (by simp only[aH,PR])
theorem JJ {A:Type} {r:A×List (K×V)} {a:A} {W:List (K×V)} {N k:Nat} {qs:List RV} {E:A×List (K×V)->SV} {as ds:List DV} {gs xs:List SV} {s1:Nat->SV} {h1:Nat->Ch} {ve:V->SV} (hm:some (a,W)=some r) (hcl:dB σ ⟨s1,h1⟩) (hh:h1 1= .map kk (iL ke ve W)) (hve:ve=fun v=> .d (fv v))
  (hg:io N ⟨s1,h1⟩ k=g0:: .mp 1::gs) (hd0:g0.toDV=some d0) (hgs:SV.toDVs gs=some as) (hq:FQ ⟨s1,h1⟩ qs=some xs) (hxs:SV.toDVs xs=some ds) (he:E (a,W)=lN (ds.map .d)):BK N k qs (E r) (.d d0:: .own (.mp kk .sh) (wy ke fv r.2)::as.map .d) .ret σ:=by
 cases hm
 subst hve
 refine⟨_,hcl,xs,ds.map .d,[1],hq,he,by rw[Px,wl hxs], ?_⟩
 rw[hg]
 exact Gu (g1:=[g0]) (a1:=[d0]) (mk:= .mp) (by simp only[SV.toDVs,hd0]) hgs hxs (AJ W) (Fc W) hh
theorem qr {A:Type} {r:A×List α} {a:A} {l:List α} {N k n e:Nat} {qs:List RV} {E:A×List α->SV} {as ds:List DV} {gs xs:List SV} {rows:List (List SV)} {s1:Nat->SV} {h1:Nat->Ch} (hm:some (a,l)=some r) (hcl:dB σ ⟨s1,h1⟩) (hh:h1 0= .vec e n rows) (hr:kA rows (bF row l)) (hsz:∀ a,(row a).length=n)
  (hg:io N ⟨s1,h1⟩ k= .vec 0::gs) (hgs:SV.toDVs gs=some as) (hq:FQ ⟨s1,aH h1 0 (.vec e n (bF row l))⟩ qs=some xs) (hxs:SV.toDVs xs=some ds) (he:E (a,l)=lN (ds.map .d)):BK N k qs (E r) (.own (.sl e (List.replicate n .sh)) (.slice (r.2.map row))::as.map .d) .normal σ:=by
 cases hm
 have h2:dB ⟨s1,h1⟩ ⟨s1,aH h1 0 (.vec e n (bF row l))⟩:=zj (fun _=> .inl rfl) fun j=>by
  by_cases hj:j=0
  ·subst hj;simp only[aH,PR,hh];exact qD hr
  ·simp only[aH,hj,Pp];exact bj rfl
 refine⟨_,dB.trans hcl h2,xs,ds.map .d,[0],hq,he,by rw[Px,wl hxs], ?_⟩
 rw[BG (h2:=h1),hg]
 exact Gu (g1:=[]) (a1:=[]) (mk:= .vec) (rfl) hgs hxs (oZ hsz l) (BF hsz l) (by simp only[aH,PR])
end
attribute [push_cast] G7 G8
