/-
  My text.
-/
import Derived.Test.YteaolfcegaidpaaGreatDoorSXEngRo
namespace Go.Proofs.YteaolfcegaidpaaGreatDoor
set_option linter.unusedSimpArgs false
set_option linter.unusedVariables false
open Go.RowKit
def HG (N:Nat) (l:List SV):Nat->SV:=fun j=>if j<N then(match l[j]? with|some x=>x|none=> .d .any) else match l[j - N]? with|some x=>x|none=> .d .any
theorem zR {pre post:List DV} {x:SV} (j:Nat):(pre.map SV.d++x::post.map SV.d)[j]?=if j=pre.length then some x else if j<pre.length then(pre[j]?).map SV.d else(post[j - pre.length - 1]?).map SV.d:=by
 by_cases h:j=pre.length
 ·subst h
  rw[NH rfl,Nm oS]
  simp
 ·rw[NY h]
  by_cases h2:j<pre.length
  ·rw[NH h2,ND (by simpa using h2),MH]
  ·rw[NY h2,Nm oT]
   obtain⟨i,hi⟩:∃ i,j - (pre.map SV.d).length=i+1:=⟨j - pre.length - 1,by simp;omega⟩
   rw[hi,M1,MH]
   have:j - pre.length - 1=i:=by simp at hi;omega
   rw[this]
theorem Dx {P:Program} {f N k:Nat} {fn:Func} {x:SC} {qs:List RV} {m:b8} {d:DV} {ch:Ch} {mk:Nat->SV} {pre post:List DV} {res:SV} {outs:List SV} (hf:P.funcs[f]?=some fn) (hfit:fits P f fn x qs k=true) (hN:fn.ntmps=N) (hk:pre.length+post.length+1=k) (ho:cz m d=some (ch,mk)) (hol:outs.length=k)
  (h:AW P x (DE N k qs res outs) ⟨HG N (pre.map .d++mk pre.length::post.map .d),ay (fun _=> .dead) pre.length ch⟩):cQ P f (pre.map .d++ .own m d::post.map .d) res outs:=by
 subst hN hk
 have hlen:(pre.map SV.d++SV.own m d::post.map SV.d).length=pre.length+post.length+1:=by simp;omega
 refine zW (x:=x) (qs:=qs) hf (by rw[hlen];exact hfit) ?_ (by rw[hlen];exact hol) ?_
 ·rw[MD]
  intro y hy
  rcases Mt.1 hy with hy|hy
  ·obtain⟨d,_,rfl⟩:=MT.1 hy;rfl
  ·rcases Ml.1 hy with rfl|hy
   ·simp only[DD,ho,Option.isSome_some]
   ·obtain⟨d,_,rfl⟩:=MT.1 hy;rfl
 ·rw[hlen]
  have hv:∀ i,wJ i (.own m d)=mk i:=fun i=>by simp only[wJ,ho]
  have hx:∀ j,(match(pre.map SV.d++SV.own m d::post.map SV.d)[j]? with|some x=>wJ j x|none=>SV.d .any)=(match(pre.map SV.d++mk pre.length::post.map SV.d)[j]? with|some x=>x|none=>SV.d .any):=fun j=>by
   rw[zR,zR]
   by_cases h1:j=pre.length
   ·subst h1;simp only[Nr,hv]
   ·rw[NY h1,NY h1]
    by_cases h2:j<pre.length
    ·rw[NH h2];cases pre[j]?<;>rfl
    ·rw[NY h2];cases post[j - pre.length - 1]?<;>rfl
  have e1:Ct fn.ntmps (pre.map SV.d++SV.own m d::post.map SV.d)=HG fn.ntmps (pre.map .d++mk pre.length::post.map .d):=by
   funext j
   unfold Ct HG
   by_cases hlt:j<fn.ntmps
   ·simp only[hlt,Nr];exact hx j
   ·simp only[hlt,MZ];exact hx (j - fn.ntmps)
  have e2:DC (pre.map SV.d++SV.own m d::post.map SV.d)=ay (fun _=> .dead) pre.length ch:=by
   funext j
   unfold DC ay
   rw[zR]
   by_cases h1:j=pre.length
   ·rw[NH h1,NH h1]
    simp only[Cs,ho]
   ·rw[NY h1,NY h1]
    by_cases h2:j<pre.length
    ·rw[NH h2];cases pre[j]?<;>rfl
    ·rw[NY h2];cases post[j - pre.length - 1]?<;>rfl
  rw[e1,e2];exact h
def Lc (N:Nat) (c:SV) (as:List DV):Nat->SV:=fun j=>if j=0 then c else if j<N then(match as[j - 1]? with|some d=> .d d|none=> .d .any) else if j=N then c else match as[j - N - 1]? with|some d=> .d d|none=> .d .any
def Fm (N:Nat) (a:DV) (c:SV) (as:List DV):Nat->SV:=fun j=>if j=0 then .d a else if j=1 then c else if j<N then(match as[j - 2]? with|some d=> .d d|none=> .d .any) else if j=N then .d a else if j=N+1 then c else match as[j - N - 2]? with|some d=> .d d|none=> .d .any
theorem Kn {N:Nat} {a:DV} {c:SV} {as:List DV} (hN:1<N):HG N (.d a::c::as.map .d)=Fm N a c as:=by
 funext j
 unfold HG Fm
 by_cases h0:j=0
 ·subst h0;rw[NH oM];rfl
 by_cases h1:j=1
 ·subst h1;rw[NH hN];rfl
 rw[NY h0,NY h1]
 by_cases hlt:j<N
 ·rw[NH hlt,NH hlt]
  obtain⟨i,rfl⟩:∃ i,j=i+2:=⟨j - 2,by omega⟩
  simp only[M1,MH,Nat.add_sub_cancel]
  cases as[i]?<;>rfl
 ·rw[NY hlt,NY hlt]
  by_cases he:j=N
  ·rw[NH he,he,Nat.sub_self];rfl
  rw[NY he]
  by_cases he1:j=N+1
  ·rw[NH he1,he1,Nat.add_sub_cancel_left];rfl
  rw[NY he1]
  obtain⟨i,hi⟩:∃ i,j - N=i+2:=⟨j - N - 2,by omega⟩
  rw[hi]
  simp only[M1,MH,Nat.add_sub_cancel]
  cases as[i]?<;>rfl
theorem Cr {P:Program} {f N k:Nat} {fn:Func} {x:SC} {qs:List RV} {m:b8} {d a:DV} {ch:Ch} {mk:Nat->SV} {post:List DV} {res:SV} {outs:List SV} (hf:P.funcs[f]?=some fn) (hfit:fits P f fn x qs k=true) (hN:fn.ntmps=N) (hk:post.length+2=k) (ho:cz m d=some (ch,mk)) (hol:outs.length=k) (hpos:1<N)
  (h:AW P x (DE N k qs res outs) ⟨Fm N a (mk 1) post,ay (fun _=> .dead) 1 ch⟩):cQ P f (.d a:: .own m d::post.map .d) res outs:=by
 rw[<-Kn hpos] at h
 exact Dx (pre:=[a]) hf hfit hN oT ho hol h
section
variable {α K V:Type} {row:α->List DV} {n e:Nat} {ke:K->DV} {f:V->DV} {kk:KK}
def uV (ke:K->DV) (f:V->DV) (W:List (K×V)):DV:= .map (W.map fun p=>ke p.1) (W.map fun p=>f p.2)
theorem yZ (W:List (K×V)):cz (.mp kk .sh) (uV ke f W)=some (.map kk (ex ke (fun v=> .d (f v)) W),.mp):=by
 have:∀ W:List (K×V),(W.map fun p=>ke p.1).zip ((W.map fun p=>f p.2).map (AQ .sh))=ex ke (fun v=> .d (f v)) W:=fun W=>by
  induction W with
  |nil=>rfl
  |cons p W ih=>
   simp only[Mk,NM,ih]
   rfl
 unfold uV
 simp only[cz,this]
theorem Dy (W:List (K×V)):ec (.mp kk .sh) (uV ke f W):=by
 unfold uV ec
 simp
end
section
variable {P:Program} {s:Nat->SV} {h:Nat->Ch} {Kk:St->Prop} {sos:List SO} {α K V Y R:Type} {row:α->List DV} {ke:K->DV} {fv:V->DV} {kk:KK} {σ:St} {g0:SV} {d0:DV}
theorem HH {h:Nat->Ch} {g1 g2:List SV} {a1 a2:List DV} {id:Nat} {m:b8} {d d':DV} {ch ch':Ch} {mk mk':Nat->SV} (h1:SV.toDVs g1=some a1) (h2:SV.toDVs g2=some a2) (ho:cz m d=some (ch,mk)) (hs:ec m d) (ho':cz m d'=some (ch',mk')) (hh:h id=ch):
  HandL h (g1++mk id::g2) (a1.map .d++ .own m d::a2.map .d) (a1.map .d++ .own m d'::a2.map .d) [(id,ch')]:=by
 induction g1 generalizing a1 with
 |nil=>
  simp only[SV.toDVs,L7] at h1;subst h1
  exact .ptr ho hs ho' hh oS (uN h2)
 |cons g g1 ih=>
  unfold SV.toDVs at h1
  split at h1
  ·rename_i d0 ds' h3 h4
   simp only[L7] at h1;subst h1
   exact .data h3 (ih h4)
  ·cases h1
theorem LQ {r:R} {a:Option Y} {k:Y->Option R} {dst:Option Nat} {f id:Nat} {args:List SX} {g1 g2:List SV} {a1 a2:List DV} {m:b8} {d:DV} {D:Y->DV} {ch:Ch} {C:Y->Ch} {mk:Nat->SV} {E:Y->SV} {ins outs:Y->List SV} {s':Y->Nat->SV}
  (hm:a.bind k=some r) (hx:args.map (ev s)=g1++mk id::g2) (h1:SV.toDVs g1=some a1) (h2:SV.toDVs g2=some a2) (hh:h id=ch) (ho:cz m d=some (ch,mk)) (hsh:ec m d) (ho':∀ y,cz m (D y)=some (C y,mk))
  (hs:∀ y,a=some y->cQ P f (ins y) (E y) (outs y)) (hi:∀ y,ins y=a1.map .d++ .own m d::a2.map .d) (hou:∀ y,outs y=a1.map .d++ .own m (D y)::a2.map .d) (henc:∀ y,(E y).closed=true/\(E y).nOwn=0)
  (hd:∀ y,s' y=match dst with|some t=>ay s t (E y)|none=>s) (hk:∀ y,k y=some r->ba P Kk sos ⟨s' y,ay h id (C y)⟩):ba P Kk (.p dst (.f f) args::sos) ⟨s,h⟩:=by
 cases hy:a with
 |none=>rw[hy] at hm;cases hm
 |some y=>
  rw[hy] at hm
  obtain⟨c1,c2⟩:=henc y
  refine L1 (σ1:=⟨s,h⟩) (L:=[(id,C y)]) (f0.refl _) (hs y hy) c1 ?_ (s':=s' y) (h':=ay h id (C y)) ?_ (hk y hm)
  ·have e1:args.map (ev (St.s ⟨s,h⟩))=g1++mk id::g2:=hx
   rw[e1,hi y,hou y]
   exact HH h1 h2 ho hsh (ho' y) hh
  ·rw[hd y]
   cases dst<;>simp only[takes,c2,Nr,jH]
theorem HI {r:R} {a:Option Y} {k:Y->Option R} {dst f id:Nat} {args:List SX} {gs:List SV} {as0 as:List DV} {W:List (K×V)} {W':Y->List (K×V)} {ve:V->SV} {E:Y->SV} (hm:a.bind k=some r) (hx:args.map (ev s)=g0:: .mp id::gs) (hd0:g0.toDV=some d0) (hgs:SV.toDVs gs=some as0) (hh:h id= .map kk (ex ke ve W)) (hve:ve=fun v=> .d (fv v))
  (hs:∀ y,a=some y->cQ P f (.d d0:: .own (.mp kk .sh) (uV ke fv W)::as.map .d) (E y) (.d d0:: .own (.mp kk .sh) (uV ke fv (W' y))::as.map .d)) (he:as0=as) (henc:∀ y,(E y).closed=true/\(E y).nOwn=0)
  (hk:∀ y,k y=some r->ba P Kk sos ⟨ay s dst (E y),ay h id (.map kk (ex ke (fun v=> .d (fv v)) (W' y)))⟩):ba P Kk (.p (some dst) (.f f) args::sos) ⟨s,h⟩:=by
 subst he hve
 exact LQ (mk:= .mp) (g1:=[g0]) (a1:=[d0]) (m:= .mp kk .sh) (C:=fun y=> .map kk (ex ke (fun v=> .d (fv v)) (W' y))) (D:=fun y=>uV ke fv (W' y)) (ins:=fun _=>_) (outs:=fun y=>_) (s':=fun y=>ay s dst (E y)) hm hx (by simp only[SV.toDVs,hd0]) hgs hh (yZ W) (Dy W) (fun y=>yZ (W' y)) hs (fun _=>rfl) (fun _=>rfl) henc (fun _=>rfl) hk
theorem Ko {h:Nat->Ch} {g1 g2 xs:List SV} {a1 a2 ds:List DV} {id:Nat} {m:b8} {d:DV} {ch:Ch} {mk:Nat->SV} (h1:SV.toDVs g1=some a1) (h2:SV.toDVs g2=some a2) (h3:SV.toDVs xs=some ds) (ho:cz m d=some (ch,mk)) (hs:ec m d) (hh:h id=ch):
  rP h ((g1++mk id::g2)++xs) ((a1.map .d++ .own m d::a2.map .d)++ds.map .d) [id]:=by
 induction g1 generalizing a1 with
 |nil=>
  simp only[SV.toDVs,L7] at h1;subst h1
  exact .own ho hs hh oS (FA (wL h3) h2)
 |cons g g1 ih=>
  unfold SV.toDVs at h1
  split at h1
  ·rename_i d0 ds' h4 h5
   simp only[L7] at h1;subst h1
   exact .data h4 (ih h5)
  ·cases h1
theorem Bu:∀ {xs:List SV} {ds:List DV},SV.toDVs xs=some ds->ds.length=xs.length
 |[],ds,hd=>by simp only[SV.toDVs,L7] at hd;subst hd;rfl
 |x::xs,ds,hd=>by
  unfold SV.toDVs at hd
  split at hd
  ·rename_i d ds' h1 h2
   simp only[L7] at hd;subst hd
   simp[Bu h2]
  ·cases hd
theorem HJ {A:Type} {r:A×List (K×V)} {a:A} {W:List (K×V)} {N k:Nat} {qs:List RV} {E:A×List (K×V)->SV} {as ds:List DV} {gs xs:List SV} {s1:Nat->SV} {h1:Nat->Ch} {ve:V->SV} (hm:some (a,W)=some r) (hcl:f0 σ ⟨s1,h1⟩) (hh:h1 1= .map kk (ex ke ve W)) (hve:ve=fun v=> .d (fv v))
  (hg:lp N ⟨s1,h1⟩ k=g0:: .mp 1::gs) (hd0:g0.toDV=some d0) (hgs:SV.toDVs gs=some as) (hq:HQ ⟨s1,h1⟩ qs=some xs) (hxs:SV.toDVs xs=some ds) (he:E (a,W)=tp (ds.map .d)):DE N k qs (E r) (.d d0:: .own (.mp kk .sh) (uV ke fv r.2)::as.map .d) .ret σ:=by
 cases hm
 subst hve
 refine⟨_,hcl,xs,ds.map .d,[1],hq,he,by rw[M6,Bu hxs], ?_⟩
 rw[hg]
 exact Ko (g1:=[g0]) (a1:=[d0]) (mk:= .mp) (by simp only[SV.toDVs,hd0]) hgs hxs (yZ W) (Dy W) hh
end
attribute [push_cast] Lc Fm
